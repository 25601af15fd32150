/- Lemmas on the way to the law TopMirrored: Mw Mx My Mz Sa Tm Tn Tg To -/
import Derived.Test.YtijajkfmlghgkaaGreatDoorTopMirroredP13
set_option linter.unusedVariables false
set_option linter.unusedSimpArgs false
set_option maxRecDepth 100000
set_option maxHeartbeats 4000000
namespace Go.Proofs.YtijajkfmlghgkaaGreatDoor.Nu
open Go Go.Proofs Go.RowKit Go.Proofs.YtijajkfmlghgkaaGreatDoor
theorem beqL (a b:List UInt8):(a==b)=decide (a=b):=by by_cases h:a=b <;> simp [h]
theorem Zgv {l:List UInt8} {K:Nat} (hd: ∀c∈l,Zcb c) (hl:l.length<=K):Nd K ((dval l:Nat):Int):=⟨by
  rw [Int.natAbs_natCast];refine Nat.lt_of_lt_of_le (Zc0 hd) (Nat.le_trans (Nat.pow_le_pow_right (by decide) hl) ?_);exact Nat.pow_le_pow_left (by decide) K⟩
theorem DlR.one_of {w:World} {a:Option Addr} {n c:Nat} {l:List Nat} (h:DlR w (.slice a n c) l 1):l.length=1:=by
  have e1:l.length<=1:=Ze7 (B:=1000000000) (by decide) h.tr (by rw [h.eq];decide);have e2:l.length≠0:=fun e=>by have:=h.zero e;omega
  omega
theorem Zl5 (w:World) (l:List UInt8) (hl:l.length<=2000):Calls Tryz.prog 29 #[.string (tx l)] w (Ret (.int .i64 (ckR l)) w):=by
  by_cases hnil:l=[]
  ·subst hnil;have HSL:=Zh (fun (w1:World)=>(Zid w1 [] (by simp):Calls Tryz.prog 79 #[.string (tx [])] w1 fun e w'=>e= .returned (.int .i64 0)/\w1=w'));have HA:=Zh (fun (w1:World)=>(Zgu w1 [] (by simp):Calls Tryz.prog 80 #[.string (tx [])] w1 fun e w'=>e= .returned (.bool false)/\w1=w'));rw [show ckR []=1 from rfl];rw [show tx []=⟨#[]⟩ from rfl] at *;have hx:(⟨#[]⟩:ByteArray).extract 0 0=⟨#[]⟩:=rfl;clear hl;go_enter Tryz.func29,Tryz.ntmps29;go_wp2_with fail;refine (HSL.out _).mono ?_;rintro e4 w4 ⟨rfl,rfl⟩;go_wp2_with fail;refine (HA.out _).mono ?_;rintro e5 w5 ⟨rfl,rfl⟩;go_wp2_with fail;go_ret;exact ⟨rfl,Below.refl _ _⟩
  have hl0:0<l.length:=List.length_pos_iff.2 hnil;have hck:ckR l=ckR l:=rfl
  conv at hck=>rhs;unfold ckR
  have hsg:((l.head?==some 45)=true/\tx l=tx (45::Za6 l)/\(Za6 l).length+1=l.length)∨((l.head?==some 45)=false/\tx l=tx (Za6 l)/\(Za6 l).length=l.length/\Za6 l=l):=by
    have h:=Zhl l
    by_cases hh:l.head?=some 45
    ·rw [if_pos hh] at h;exact .inl ⟨by rw [hh];rfl,by (conv=>lhs;rw [h]);rfl,by (conv=>rhs;rw [h]);simp⟩
    ·rw [if_neg hh] at h;exact .inr ⟨by simpa using hh,by (conv=>lhs;rw [h]);rfl,by (conv=>rhs;rw [h]);rfl,h.symm⟩
  have hhead: ∀h0:0<l.length,(l.head?==some 45)=false->((l[0].toNat:Int)==45)=false:=fun h0 hh=>beq_eq_false_iff_ne.2 fun e=>by
    rw [List.head?_eq_getElem?,List.getElem?_eq_getElem h0] at hh;exact (beq_eq_false_iff_ne.1 hh) (congrArg some (UInt8.toNat_inj.1 (by rw [show (45:UInt8).toNat=45 from rfl];omega)))
  have hi0: ∀ (t:TypeId) (ht:Tryz.prog.underlying t=some .string) (w:World),(Instr.index t (.string (tx l)) (.int .i64 0)).run Tryz.prog w= .ok (.int .u8 (l[0].toNat:Int)) w:=fun t ht w=>Zcu (P:=Tryz.prog) (t:=t) ht _ 0 hl0 w;have hi1: ∀ (t:TypeId) (ht:Tryz.prog.underlying t=some .string) (w:World),(Instr.index t (.string (tx (45::Za6 l))) (.int .i64 0)).run Tryz.prog w= .ok (.int .u8 45) w:=fun t ht w=>Zcu (P:=Tryz.prog) (t:=t) ht (45::Za6 l) 0 (by simp) w;have hi09:=hi0 9 Tryz.underlying9;have hi032:=hi0 32 Tryz.underlying32;have hi19:=hi1 9 Tryz.underlying9;have hi132:=hi1 32 Tryz.underlying32;have hx0:(tx (45::Za6 l)).extract 1 ((Za6 l).length+1)=tx (Za6 l):=by rw [Za7];simp
  have hs1:(tx (45::Za6 l)).size=(Za6 l).length+1:=Zan _;have hcc:=hhead hl0;clear hi0 hi1 hhead;obtain ⟨c,hc⟩: ∃c:Int,(l[0].toNat:Int)=c:=⟨_,rfl⟩;rw [hc] at hi09 hi032 hcc;clear hc;obtain ⟨b45,hb45⟩: ∃b,(l.head?==some 45)=b:=⟨_,rfl⟩;rw [hb45] at hsg hck hcc;clear hb45;obtain ⟨s,hs⟩: ∃s,Za6 l=s:=⟨_,rfl⟩;rw [hs] at hsg hck hx0 hs1 hi19 hi132;have hsl:s.length<=2000:=by rcases hsg with ⟨_,_,h⟩|⟨_,_,h,_⟩ <;> omega
  obtain ⟨R,hR⟩: ∃R,ckR l=R:=⟨_,rfl⟩;rw [hR] at hck ⊢;clear hR hs;have hkn:=Zi1 s;have hat:= @Zi2 s;have hB:(tx s).size=s.length:=Zan s;have HSL:=Zh (fun (w1:World)=>Zid w1 s (by omega));obtain ⟨k,hk⟩: ∃k,Za2 s=k:=⟨_,rfl⟩;rw [hk] at hck hkn hat HSL;clear hk;have HA:=Zh (fun (w1:World)=>Zgu w1 (s.take k) (by rw [List.length_take];omega));have HD:=Zh (fun (w1:World)=>Zgu w1 (s.drop (k+1)) (by rw [List.length_drop];omega));have hx1:(tx s).extract 0 k=tx (s.take k):=by rw [Za7];rfl
  have hx2:(tx s).extract (k+1) s.length=tx (s.drop (k+1)):=by rw [Za7,List.take_length]
  have hA0:=Zd5 (s.take k) [48];have hD0:=Zd5 (s.drop (k+1)) [48];have hD1:=Zd5 (s.drop (k+1)) [49];rw [beqL (s.take k),beqL (s.drop (k+1)) [48],beqL (s.drop (k+1)) [49]] at hck;have HPP:=Zh (show dfB (s.take k)=true->dfB (s.drop (k+1))=true->k<s.length->∀u:World,Calls Tryz.prog 60 #[.string (tx s)] u (Zr8 u ((dval (s.take k):Nat):Int) ((dval (s.drop (k+1)):Nat):Int)) from fun f1 f2 hlt u=>by
    have e1:=Zgn f1;have e2:=Zgn f2;have e:=hat hlt;have h:=Zj6 u ((dval (s.take k):Nat):Int) (dval (s.drop (k+1))) 2000 (Zgv (Zdv f1) (by rw [List.length_take];omega)) (Zgv (Zdv f2) (by rw [List.length_drop];omega)) (by decide);rw [Zav (by omega),Int.toNat_natCast,<-e1,<-e2,<-e] at h;exact h)
  have HND:=Zh (show dfB (s.take k)=true->dfB (s.drop (k+1))=true->Nd 2000 ((dval (s.take k):Nat):Int)/\Nd 2000 ((dval (s.drop (k+1)):Nat):Int) from fun f1 f2=>⟨Zgv (Zdv f1) (by rw [List.length_take];omega),Zgv (Zdv f2) (by rw [List.length_drop];omega)⟩);obtain ⟨fA,hfA⟩: ∃f,dfB (s.take k)=f:=⟨_,rfl⟩;obtain ⟨fD,hfD⟩: ∃f,dfB (s.drop (k+1))=f:=⟨_,rfl⟩;rw [hfA,hfD] at HPP HND;rw [hfA] at HA hck;rw [hfD] at HD hck;clear hfA hfD hat;generalize decide (s.take k=[48])=a0 at *;generalize decide (s.drop (k+1)=[48])=d0 at *;generalize decide (s.drop (k+1)=[49])=d1 at *;generalize dval (s.take k)=za at *;generalize dval (s.drop (k+1))=zd at *;generalize tx (s.take k)=TA at *;generalize tx (s.drop (k+1))=TD at *;obtain ⟨X,hX⟩: ∃X,tx l=X:=⟨_,rfl⟩;rw [hX] at hsg hi09 hi032 ⊢;clear hX;have hsg2:(b45=true/\X=tx (45::s))∨(b45=false/\X=tx s/\0<s.length):=by
    rcases hsg with ⟨h1,h2,_⟩|⟨h1,h2,h3,_⟩
    ·exact .inl ⟨h1,h2⟩
    ·exact .inr ⟨h1,h2,by omega⟩
  clear hsg hl hl0 hnil;generalize tx (45::s)=X1 at *;generalize tx s=B at *;generalize s.length=n at *;obtain ⟨n1,hn1⟩: ∃m,n+1=m:=⟨_,rfl⟩;rw [hn1] at hs1 hx0;obtain ⟨k1,hk1⟩: ∃m,k+1=m:=⟨_,rfl⟩;rw [hk1] at hx2;have kk:(k:Int)+1=(k1:Int):=by omega
  have hk1b:k1<=2001:=by omega
  have w1:IntKind.i64.wrap ((n:Int)-(k:Int))=(n:Int)-(k:Int):=IntWalk.i64_in _ (by omega);have w2:IntKind.i64.wrap ((n:Int)-(k:Int)-1)=(n:Int)-(k:Int)-1:=IntWalk.i64_in _ (by omega);have z1:decide (0<n1)=true:=Zt (by omega);have z2:decide ((0:Int)<(n1:Int))=true:=Zt (by omega);have z3:1<=n1:=by omega
  have HC:=Zh hcc;clear hcc;have hway:(fA=false/\R=1)∨(fA=true/\b45=true/\a0=true/\R=1)∨(fA=true/\(b45=true->a0=false)/\((k<n/\fD=false/\R=1)∨(k<n/\fD=true/\d0=true/\R=1)∨(k<n/\fD=true/\d0=false/\d1=true/\R=1)
   ∨(((k<n/\fD=true/\d0=false/\d1=false)∨k=n)/\((600<k/\R=4)∨(k<=600/\600<(n:Int)-k-1/\R=4)∨(k<=600/\(n:Int)-k-1<=600/\((k=n/\R=0)∨(k<n/\R=(if Nat.gcd za zd=1 then 0 else 1)))))))):=by
   cases fA with
   | false=>exact .inl ⟨rfl,by rw [hck];simp⟩
   | true=>
     right
     by_cases hb:b45=true/\a0=true
     ·exact .inl ⟨rfl,hb.1,hb.2,by rw [hck,hb.1,hb.2];simp⟩
     right
     have hb0:(b45 && a0)=false:=by cases b45 <;> cases a0 <;> simp_all
     rw [hb0] at hck;simp only [Bool.not_true,Bool.or_false,Bool.false_eq_true,if_false] at hck;refine ⟨rfl,fun h=>by cases a0 with|false=>rfl|true=>exact absurd ⟨h,rfl⟩ hb,?_⟩
     rcases (show k<n∨k=n by omega) with hlt|he
     ·rw [Zt hlt] at hck;simp only [Bool.true_and] at hck;cases fD with
      | false=>exact .inl ⟨hlt,rfl,by rw [hck];simp⟩
      | true=>
        cases d0 with
        | true=>exact .inr (.inl ⟨hlt,rfl,rfl,by rw [hck];simp⟩)
        | false=>
          cases d1 with
          | true=>exact .inr (.inr (.inl ⟨hlt,rfl,rfl,rfl,by rw [hck];simp⟩))
          | false=>
            simp only [Bool.not_true,Bool.or_false,Bool.false_eq_true,if_false] at hck;refine .inr (.inr (.inr ⟨.inl ⟨hlt,rfl,rfl,rfl⟩,?_⟩))
            by_cases h6:600<k
            ·exact .inl ⟨h6,by rw [hck,if_pos (.inl h6)]⟩
            by_cases h7:600<(n:Int)-k-1
            ·exact .inr (.inl ⟨by omega,h7,by rw [hck,if_pos (.inr h7)]⟩)
            refine .inr (.inr ⟨by omega,by omega,.inr ⟨hlt,?_⟩⟩);rw [hck,if_neg (by omega)]
            by_cases hg:Nat.gcd za zd=1 <;> simp [hg]
     ·rw [Zf (by omega)] at hck;simp only [Bool.false_and,Bool.false_eq_true,if_false] at hck;refine .inr (.inr (.inr ⟨.inr he,?_⟩))
      by_cases h6:600<k
      ·exact .inl ⟨h6,by rw [hck,if_pos (.inl h6)]⟩
      refine .inr (.inr ⟨by omega,by omega,.inl ⟨he,?_⟩⟩);rw [hck,if_neg (by omega)]
  clear hck hn1 hk1
  rcases hsg2 with ⟨rfl,rfl⟩|⟨rfl,rfl,hpos⟩
  ·clear hi09 hi032 HC
   rcases hway with ⟨rfl,rfl⟩|⟨rfl,hb,rfl,rfl⟩|⟨rfl,ha,hway⟩
   ·clear HD HPP HND;go_enter Tryz.func29,Tryz.ntmps29;go_wp2_with fail;refine (HSL.out _).mono ?_;rintro e4 w4 ⟨rfl,rfl⟩;go_wp2_with fail;refine (HA.out _).mono ?_;rintro e5 w5 ⟨rfl,rfl⟩;go_wp2_with fail;go_ret;exact ⟨rfl,Below.refl _ _⟩
   ·clear HD HPP HND hb;go_enter Tryz.func29,Tryz.ntmps29;go_wp2_with fail;refine (HSL.out _).mono ?_;rintro e4 w4 ⟨rfl,rfl⟩;go_wp2_with fail;refine (HA.out _).mono ?_;rintro e5 w5 ⟨rfl,rfl⟩;go_wp2_with fail;go_ret;exact ⟨rfl,Below.refl _ _⟩
   ·have ha1:=ha rfl;subst ha1;clear ha
    rcases hway with ⟨hlt,rfl,rfl⟩|⟨hlt,rfl,rfl,rfl⟩|⟨hlt,rfl,rfl,rfl,rfl⟩|⟨hdd,hway⟩
    ·clear HPP HND;have l1:decide (k<n)=true:=Zt hlt;have l2:decide ((k:Int)<(n:Int))=true:=Zt (by omega);have l3:k1<=n:=by omega
     go_enter Tryz.func29,Tryz.ntmps29;go_wp2_with fail;refine (HSL.out _).mono ?_;rintro e4 w4 ⟨rfl,rfl⟩;go_wp2_with fail;refine (HA.out _).mono ?_;rintro e5 w5 ⟨rfl,rfl⟩;go_wp2_with fail;refine (HD.out _).mono ?_;rintro e6 w6 ⟨rfl,rfl⟩;go_wp2_with fail;go_ret;exact ⟨rfl,Below.refl _ _⟩
    ·clear HPP HND;have l1:decide (k<n)=true:=Zt hlt;have l2:decide ((k:Int)<(n:Int))=true:=Zt (by omega);have l3:k1<=n:=by omega
     go_enter Tryz.func29,Tryz.ntmps29;go_wp2_with fail;refine (HSL.out _).mono ?_;rintro e4 w4 ⟨rfl,rfl⟩;go_wp2_with fail;refine (HA.out _).mono ?_;rintro e5 w5 ⟨rfl,rfl⟩;go_wp2_with fail;refine (HD.out _).mono ?_;rintro e6 w6 ⟨rfl,rfl⟩;go_wp2_with fail;go_ret;exact ⟨rfl,Below.refl _ _⟩
    ·clear HPP HND;have l1:decide (k<n)=true:=Zt hlt;have l2:decide ((k:Int)<(n:Int))=true:=Zt (by omega);have l3:k1<=n:=by omega
     go_enter Tryz.func29,Tryz.ntmps29;go_wp2_with fail;refine (HSL.out _).mono ?_;rintro e4 w4 ⟨rfl,rfl⟩;go_wp2_with fail;refine (HA.out _).mono ?_;rintro e5 w5 ⟨rfl,rfl⟩;go_wp2_with fail;refine (HD.out _).mono ?_;rintro e6 w6 ⟨rfl,rfl⟩;go_wp2_with fail;go_ret;exact ⟨rfl,Below.refl _ _⟩
    ·rcases hdd with ⟨hlt,rfl,rfl,rfl⟩|rfl
     ·have l1:decide (k<n)=true:=Zt hlt;have l2:decide ((k:Int)<(n:Int))=true:=Zt (by omega);have l3:k1<=n:=by omega
      rcases hway with ⟨h6,rfl⟩|⟨h6,h7,rfl⟩|⟨h6,h7,hR⟩
      ·clear HPP HND;have g1:decide (600<k)=true:=Zt (by omega);have g2:decide ((600:Int)<(k:Int))=true:=Zt (by omega);go_enter Tryz.func29,Tryz.ntmps29;go_wp2_with fail;refine (HSL.out _).mono ?_;rintro e4 w4 ⟨rfl,rfl⟩;go_wp2_with fail;refine (HA.out _).mono ?_;rintro e5 w5 ⟨rfl,rfl⟩;go_wp2_with fail;refine (HD.out _).mono ?_;rintro e6 w6 ⟨rfl,rfl⟩;go_wp2_with fail;go_ret;exact ⟨rfl,Below.refl _ _⟩
      ·clear HPP HND;have g1:decide (600<k)=false:=Zf (by omega);have g2:decide ((600:Int)<(k:Int))=false:=Zf (by omega);have g3:decide ((600:Int)<(n:Int)-(k:Int)-1)=true:=Zt (by omega);go_enter Tryz.func29,Tryz.ntmps29;go_wp2_with fail;refine (HSL.out _).mono ?_;rintro e4 w4 ⟨rfl,rfl⟩;go_wp2_with fail;refine (HA.out _).mono ?_;rintro e5 w5 ⟨rfl,rfl⟩;go_wp2_with fail;refine (HD.out _).mono ?_;rintro e6 w6 ⟨rfl,rfl⟩;go_wp2_with fail;go_ret;exact ⟨rfl,Below.refl _ _⟩
      ·have hR2:R=(if Nat.gcd za zd=1 then 0 else 1):=by rcases hR with ⟨h,_⟩|⟨_,h⟩;omega;exact h
       clear hR;replace HPP:=Zh (HPP.out rfl rfl hlt);have HN3:=Zh (HND.out rfl rfl);clear HND;have HR2:=Zh hR2;clear hR2;have g1:decide (600<k)=false:=Zf (by omega);have g2:decide ((600:Int)<(k:Int))=false:=Zf (by omega);have g3:decide ((600:Int)<(n:Int)-(k:Int)-1)=false:=Zf (by omega);go_enter Tryz.func29,Tryz.ntmps29;go_wp2_with fail;refine (HSL.out _).mono ?_;rintro e4 w4 ⟨rfl,rfl⟩;go_wp2_with fail;refine (HA.out _).mono ?_;rintro e5 w5 ⟨rfl,rfl⟩;go_wp2_with fail;refine (HD.out _).mono ?_;rintro e6 w6 ⟨rfl,rfl⟩;go_wp2_with fail;refine (HPP.out _).mono ?_;rintro e8 w8 ⟨v1,v2,rfl,hi1,hi2,hb⟩;obtain ⟨q1,a1,m1,c1,rfl⟩: ∃p a n c,v1= .agg #[.bool p,.slice a n c]:=by obtain ⟨a,n,c,l,e,_⟩:=hi1;exact ⟨_,a,n,c,e⟩
       obtain ⟨q2,a2,m2,c2,rfl⟩: ∃p a n c,v2= .agg #[.bool p,.slice a n c]:=by obtain ⟨a,n,c,l,e,_⟩:=hi2;exact ⟨_,a,n,c,e⟩
       obtain ⟨p1,hp⟩: ∃p,p=q1:=⟨_,rfl⟩;subst hp;obtain ⟨p2,hp⟩: ∃p,p=q2:=⟨_,rfl⟩;subst hp;have HN6:=Zh (show Below w8.heap.size w8 ((w8.alloc (.cells #[.bool p1,.slice a1 m1 c1] 114)).alloc (.cells #[.bool p2,.slice a2 m2 c2] 114)) from ((Below.refl w8.heap.size w8).alloc (Nat.le_refl _) (.cells #[.bool p1,.slice a1 m1 c1] 114)).alloc (by simp) (.cells #[.bool p2,.slice a2 m2 c2] 114));have HX1:=Zh (show Box ((w8.alloc (.cells #[.bool p1,.slice a1 m1 c1] 114)).alloc (.cells #[.bool p2,.slice a2 m2 c2] 114)) (w8.heap.size) 114 [.bool p1,.slice a1 m1 c1] from ((Box.new w8 #[.bool p1,.slice a1 m1 c1] 114).alloc (.cells #[.bool p2,.slice a2 m2 c2] 114)));have HX2:=Zh (show Box ((w8.alloc (.cells #[.bool p1,.slice a1 m1 c1] 114)).alloc (.cells #[.bool p2,.slice a2 m2 c2] 114)) (w8.heap.size+1) 114 [.bool p2,.slice a2 m2 c2] from (Box.newAt (w8.alloc (.cells #[.bool p1,.slice a1 m1 c1] 114)) #[.bool p2,.slice a2 m2 c2] 114 (n:=w8.heap.size+1) (by simp)));obtain ⟨W8,hW8⟩: ∃W,((w8.alloc (.cells #[.bool p1,.slice a1 m1 c1] 114)).alloc (.cells #[.bool p2,.slice a2 m2 c2] 114))=W:=⟨_,rfl⟩;rw [hW8] at HN6 HX1 HX2;have HB:=Zh (hb.trans (HN6.mono hb.size));have HL1:=(hi1.later HN6.out).dl;have HL2:=(hi2.later HN6.out).dl;obtain ⟨b1,m3,c3,l3,e1,hd1⟩:=HL1;obtain ⟨b2,m4,c4,l4,e2,hd2⟩:=HL2;injection e1 with e1
       injection e2 with e2
       simp only [Array.mk.injEq,List.cons.injEq,Value.slice.injEq,Value.bool.injEq,and_true] at e1 e2;obtain ⟨ep1,rfl,rfl,rfl⟩:=e1;obtain ⟨ep2,rfl,rfl,rfl⟩:=e2;rw [Int.natAbs_natCast] at hd1 hd2;have hn1:=hd1.le (z:=(za:Int)) (HN3.out.1.up (show 2000<=400000 by decide));have hn2:=hd2.le (z:=(zd:Int)) (HN3.out.2.up (show 2000<=400000 by decide));have HS:=Zh (Zjb W8 400000 (divK 400000) (by decide) _ _ _ _ _ _ _ _ _ _ hd1 hd2 hn1 hn2);obtain ⟨x0,x1,xf,xz⟩:=HX1.v2;obtain ⟨y0,y1,yf,yz⟩:=HX2.v2;clear hi1 hi2 hb HN6 hd1 hd2 hn1 hn2 ep1 ep2 HN3;go_wp2_with fail;refine HS.mono ?_;rintro e9 w9 ⟨a9,n9,c9,l9,rfl,hg9,hb⟩;have HB9:=Zh (HB.Zg hb);have hsz9:=hg9.size;clear hb;obtain ⟨G9,hG9⟩: ∃G,Nat.gcd za zd=G:=⟨_,rfl⟩;rw [hG9] at hg9;clear HS
       by_cases h9:l9.length=1
       ·obtain ⟨b9,off9,rfl,hbb9,rfl,hcell9,_⟩:=hg9.one h9
        by_cases hG:G9=1
        ·have hR3:R=0:=by rw [HR2.out,if_pos (hG9.trans hG)]
         subst hR3;clear HR2 hG9;subst hG;clear hg9 hsz9 h9;go_wp2_with fail;go_ret;exact ⟨rfl,HB9.out⟩
        ·have hR3:R=1:=by rw [HR2.out,if_neg (fun e=>hG (hG9.symm.trans e))]
         subst hR3;have q1:((G9:Int)==1)=false:=beq_eq_false_iff_ne.2 (by omega);have q2:(G9==1)=false:=beq_eq_false_iff_ne.2 hG;clear HR2 hG9 hg9 hsz9 h9 hG;go_wp2_with fail;go_ret;exact ⟨rfl,HB9.out⟩
       ·have hG:G9≠1:=fun e=>by rw [e] at hg9;exact h9 hg9.one_of
        have hR3:R=1:=by rw [HR2.out,if_neg (fun e=>hG (hG9.symm.trans e))]
        subst hR3;have q1:((n9:Int)==1)=false:=beq_eq_false_iff_ne.2 (by omega);have q3:((n9:Int) !=1)=true:=bne_iff_ne.2 (by omega);have q4:(n9 !=1)=true:=bne_iff_ne.2 (by omega);clear q1;clear HR2 hG9 hg9 hsz9 h9 hG;go_wp2_with fail;go_ret;exact ⟨rfl,HB9.out⟩
     ·rcases hway with ⟨h6,rfl⟩|⟨h6,h7,rfl⟩|⟨h6,h7,hR⟩
      ·clear HPP HND;have l1:decide (k<k)=false:=Zf (by omega);have l2:decide ((k:Int)<(k:Int))=false:=Zf (by omega);have g1:decide (600<k)=true:=Zt (by omega);have g2:decide ((600:Int)<(k:Int))=true:=Zt (by omega);go_enter Tryz.func29,Tryz.ntmps29;go_wp2_with fail;refine (HSL.out _).mono ?_;rintro e4 w4 ⟨rfl,rfl⟩;go_wp2_with fail;refine (HA.out _).mono ?_;rintro e5 w5 ⟨rfl,rfl⟩;go_wp2_with fail;go_ret;exact ⟨rfl,Below.refl _ _⟩
      ·omega
      ·have hR2:R=0:=by rcases hR with ⟨_,h⟩|⟨h,_⟩;exact h;omega
       subst hR2;clear hR HPP HND h7;have w3:(k:Int)-(k:Int)=0:=Int.sub_self _;have l1:decide (k<k)=false:=Zf (by omega);have l2:decide ((k:Int)<(k:Int))=false:=Zf (by omega);have g1:decide (600<k)=false:=Zf (by omega);have g2:decide ((600:Int)<(k:Int))=false:=Zf (by omega);go_enter Tryz.func29,Tryz.ntmps29;go_wp2_with fail;refine (HSL.out _).mono ?_;rintro e4 w4 ⟨rfl,rfl⟩;go_wp2_with fail;refine (HA.out _).mono ?_;rintro e5 w5 ⟨rfl,rfl⟩;go_wp2_with fail;go_ret;exact ⟨rfl,Below.refl _ _⟩
  ·have z5:decide (0<n)=true:=Zt hpos;have z6:decide ((0:Int)<(n:Int))=true:=Zt (by omega);have hcc:=HC.out rfl;clear hi19 hi132 hx0 hs1 HC z1 z2 z3
   rcases hway with ⟨rfl,rfl⟩|⟨rfl,hb,rfl,rfl⟩|⟨rfl,ha,hway⟩
   ·clear HD HPP HND;go_enter Tryz.func29,Tryz.ntmps29;go_wp2_with fail;refine (HSL.out _).mono ?_;rintro e4 w4 ⟨rfl,rfl⟩;go_wp2_with fail;refine (HA.out _).mono ?_;rintro e5 w5 ⟨rfl,rfl⟩;go_wp2_with fail;go_ret;exact ⟨rfl,Below.refl _ _⟩
   ·cases hb
   ·clear ha
    rcases hway with ⟨hlt,rfl,rfl⟩|⟨hlt,rfl,rfl,rfl⟩|⟨hlt,rfl,rfl,rfl,rfl⟩|⟨hdd,hway⟩
    ·clear HPP HND;have l1:decide (k<n)=true:=Zt hlt;have l2:decide ((k:Int)<(n:Int))=true:=Zt (by omega);have l3:k1<=n:=by omega
     go_enter Tryz.func29,Tryz.ntmps29;go_wp2_with fail;refine (HSL.out _).mono ?_;rintro e4 w4 ⟨rfl,rfl⟩;go_wp2_with fail;refine (HA.out _).mono ?_;rintro e5 w5 ⟨rfl,rfl⟩;go_wp2_with fail;refine (HD.out _).mono ?_;rintro e6 w6 ⟨rfl,rfl⟩;go_wp2_with fail;go_ret;exact ⟨rfl,Below.refl _ _⟩
    ·clear HPP HND;have l1:decide (k<n)=true:=Zt hlt;have l2:decide ((k:Int)<(n:Int))=true:=Zt (by omega);have l3:k1<=n:=by omega
     go_enter Tryz.func29,Tryz.ntmps29;go_wp2_with fail;refine (HSL.out _).mono ?_;rintro e4 w4 ⟨rfl,rfl⟩;go_wp2_with fail;refine (HA.out _).mono ?_;rintro e5 w5 ⟨rfl,rfl⟩;go_wp2_with fail;refine (HD.out _).mono ?_;rintro e6 w6 ⟨rfl,rfl⟩;go_wp2_with fail;go_ret;exact ⟨rfl,Below.refl _ _⟩
    ·clear HPP HND;have l1:decide (k<n)=true:=Zt hlt;have l2:decide ((k:Int)<(n:Int))=true:=Zt (by omega);have l3:k1<=n:=by omega
     go_enter Tryz.func29,Tryz.ntmps29;go_wp2_with fail;refine (HSL.out _).mono ?_;rintro e4 w4 ⟨rfl,rfl⟩;go_wp2_with fail;refine (HA.out _).mono ?_;rintro e5 w5 ⟨rfl,rfl⟩;go_wp2_with fail;refine (HD.out _).mono ?_;rintro e6 w6 ⟨rfl,rfl⟩;go_wp2_with fail;go_ret;exact ⟨rfl,Below.refl _ _⟩
    ·rcases hdd with ⟨hlt,rfl,rfl,rfl⟩|rfl
     ·have l1:decide (k<n)=true:=Zt hlt;have l2:decide ((k:Int)<(n:Int))=true:=Zt (by omega);have l3:k1<=n:=by omega
      rcases hway with ⟨h6,rfl⟩|⟨h6,h7,rfl⟩|⟨h6,h7,hR⟩
      ·clear HPP HND;have g1:decide (600<k)=true:=Zt (by omega);have g2:decide ((600:Int)<(k:Int))=true:=Zt (by omega);go_enter Tryz.func29,Tryz.ntmps29;go_wp2_with fail;refine (HSL.out _).mono ?_;rintro e4 w4 ⟨rfl,rfl⟩;go_wp2_with fail;refine (HA.out _).mono ?_;rintro e5 w5 ⟨rfl,rfl⟩;go_wp2_with fail;refine (HD.out _).mono ?_;rintro e6 w6 ⟨rfl,rfl⟩;go_wp2_with fail;go_ret;exact ⟨rfl,Below.refl _ _⟩
      ·clear HPP HND;have g1:decide (600<k)=false:=Zf (by omega);have g2:decide ((600:Int)<(k:Int))=false:=Zf (by omega);have g3:decide ((600:Int)<(n:Int)-(k:Int)-1)=true:=Zt (by omega);go_enter Tryz.func29,Tryz.ntmps29;go_wp2_with fail;refine (HSL.out _).mono ?_;rintro e4 w4 ⟨rfl,rfl⟩;go_wp2_with fail;refine (HA.out _).mono ?_;rintro e5 w5 ⟨rfl,rfl⟩;go_wp2_with fail;refine (HD.out _).mono ?_;rintro e6 w6 ⟨rfl,rfl⟩;go_wp2_with fail;go_ret;exact ⟨rfl,Below.refl _ _⟩
      ·have hR2:R=(if Nat.gcd za zd=1 then 0 else 1):=by rcases hR with ⟨h,_⟩|⟨_,h⟩;omega;exact h
       clear hR;replace HPP:=Zh (HPP.out rfl rfl hlt);have HN3:=Zh (HND.out rfl rfl);clear HND;have HR2:=Zh hR2;clear hR2;have g1:decide (600<k)=false:=Zf (by omega);have g2:decide ((600:Int)<(k:Int))=false:=Zf (by omega);have g3:decide ((600:Int)<(n:Int)-(k:Int)-1)=false:=Zf (by omega);go_enter Tryz.func29,Tryz.ntmps29;go_wp2_with fail;refine (HSL.out _).mono ?_;rintro e4 w4 ⟨rfl,rfl⟩;go_wp2_with fail;refine (HA.out _).mono ?_;rintro e5 w5 ⟨rfl,rfl⟩;go_wp2_with fail;refine (HD.out _).mono ?_;rintro e6 w6 ⟨rfl,rfl⟩;go_wp2_with fail;refine (HPP.out _).mono ?_;rintro e8 w8 ⟨v1,v2,rfl,hi1,hi2,hb⟩;obtain ⟨q1,a1,m1,c1,rfl⟩: ∃p a n c,v1= .agg #[.bool p,.slice a n c]:=by obtain ⟨a,n,c,l,e,_⟩:=hi1;exact ⟨_,a,n,c,e⟩
       obtain ⟨q2,a2,m2,c2,rfl⟩: ∃p a n c,v2= .agg #[.bool p,.slice a n c]:=by obtain ⟨a,n,c,l,e,_⟩:=hi2;exact ⟨_,a,n,c,e⟩
       obtain ⟨p1,hp⟩: ∃p,p=q1:=⟨_,rfl⟩;subst hp;obtain ⟨p2,hp⟩: ∃p,p=q2:=⟨_,rfl⟩;subst hp;have HN6:=Zh (show Below w8.heap.size w8 ((w8.alloc (.cells #[.bool p1,.slice a1 m1 c1] 114)).alloc (.cells #[.bool p2,.slice a2 m2 c2] 114)) from ((Below.refl w8.heap.size w8).alloc (Nat.le_refl _) (.cells #[.bool p1,.slice a1 m1 c1] 114)).alloc (by simp) (.cells #[.bool p2,.slice a2 m2 c2] 114));have HX1:=Zh (show Box ((w8.alloc (.cells #[.bool p1,.slice a1 m1 c1] 114)).alloc (.cells #[.bool p2,.slice a2 m2 c2] 114)) (w8.heap.size) 114 [.bool p1,.slice a1 m1 c1] from ((Box.new w8 #[.bool p1,.slice a1 m1 c1] 114).alloc (.cells #[.bool p2,.slice a2 m2 c2] 114)));have HX2:=Zh (show Box ((w8.alloc (.cells #[.bool p1,.slice a1 m1 c1] 114)).alloc (.cells #[.bool p2,.slice a2 m2 c2] 114)) (w8.heap.size+1) 114 [.bool p2,.slice a2 m2 c2] from (Box.newAt (w8.alloc (.cells #[.bool p1,.slice a1 m1 c1] 114)) #[.bool p2,.slice a2 m2 c2] 114 (n:=w8.heap.size+1) (by simp)));obtain ⟨W8,hW8⟩: ∃W,((w8.alloc (.cells #[.bool p1,.slice a1 m1 c1] 114)).alloc (.cells #[.bool p2,.slice a2 m2 c2] 114))=W:=⟨_,rfl⟩;rw [hW8] at HN6 HX1 HX2;have HB:=Zh (hb.trans (HN6.mono hb.size));have HL1:=(hi1.later HN6.out).dl;have HL2:=(hi2.later HN6.out).dl;obtain ⟨b1,m3,c3,l3,e1,hd1⟩:=HL1;obtain ⟨b2,m4,c4,l4,e2,hd2⟩:=HL2;injection e1 with e1
       injection e2 with e2
       simp only [Array.mk.injEq,List.cons.injEq,Value.slice.injEq,Value.bool.injEq,and_true] at e1 e2;obtain ⟨ep1,rfl,rfl,rfl⟩:=e1;obtain ⟨ep2,rfl,rfl,rfl⟩:=e2;rw [Int.natAbs_natCast] at hd1 hd2;have hn1:=hd1.le (z:=(za:Int)) (HN3.out.1.up (show 2000<=400000 by decide));have hn2:=hd2.le (z:=(zd:Int)) (HN3.out.2.up (show 2000<=400000 by decide));have HS:=Zh (Zjb W8 400000 (divK 400000) (by decide) _ _ _ _ _ _ _ _ _ _ hd1 hd2 hn1 hn2);obtain ⟨x0,x1,xf,xz⟩:=HX1.v2;obtain ⟨y0,y1,yf,yz⟩:=HX2.v2;clear hi1 hi2 hb HN6 hd1 hd2 hn1 hn2 ep1 ep2 HN3;go_wp2_with fail;refine HS.mono ?_;rintro e9 w9 ⟨a9,n9,c9,l9,rfl,hg9,hb⟩;have HB9:=Zh (HB.Zg hb);have hsz9:=hg9.size;clear hb;obtain ⟨G9,hG9⟩: ∃G,Nat.gcd za zd=G:=⟨_,rfl⟩;rw [hG9] at hg9;clear HS
       by_cases h9:l9.length=1
       ·obtain ⟨b9,off9,rfl,hbb9,rfl,hcell9,_⟩:=hg9.one h9
        by_cases hG:G9=1
        ·have hR3:R=0:=by rw [HR2.out,if_pos (hG9.trans hG)]
         subst hR3;clear HR2 hG9;subst hG;clear hg9 hsz9 h9;go_wp2_with fail;go_ret;exact ⟨rfl,HB9.out⟩
        ·have hR3:R=1:=by rw [HR2.out,if_neg (fun e=>hG (hG9.symm.trans e))]
         subst hR3;have q1:((G9:Int)==1)=false:=beq_eq_false_iff_ne.2 (by omega);have q2:(G9==1)=false:=beq_eq_false_iff_ne.2 hG;clear HR2 hG9 hg9 hsz9 h9 hG;go_wp2_with fail;go_ret;exact ⟨rfl,HB9.out⟩
       ·have hG:G9≠1:=fun e=>by rw [e] at hg9;exact h9 hg9.one_of
        have hR3:R=1:=by rw [HR2.out,if_neg (fun e=>hG (hG9.symm.trans e))]
        subst hR3;have q1:((n9:Int)==1)=false:=beq_eq_false_iff_ne.2 (by omega);have q3:((n9:Int) !=1)=true:=bne_iff_ne.2 (by omega);have q4:(n9 !=1)=true:=bne_iff_ne.2 (by omega);clear q1;clear HR2 hG9 hg9 hsz9 h9 hG;go_wp2_with fail;go_ret;exact ⟨rfl,HB9.out⟩
     ·rcases hway with ⟨h6,rfl⟩|⟨h6,h7,rfl⟩|⟨h6,h7,hR⟩
      ·clear HPP HND;have l1:decide (k<k)=false:=Zf (by omega);have l2:decide ((k:Int)<(k:Int))=false:=Zf (by omega);have g1:decide (600<k)=true:=Zt (by omega);have g2:decide ((600:Int)<(k:Int))=true:=Zt (by omega);go_enter Tryz.func29,Tryz.ntmps29;go_wp2_with fail;refine (HSL.out _).mono ?_;rintro e4 w4 ⟨rfl,rfl⟩;go_wp2_with fail;refine (HA.out _).mono ?_;rintro e5 w5 ⟨rfl,rfl⟩;go_wp2_with fail;go_ret;exact ⟨rfl,Below.refl _ _⟩
      ·omega
      ·have hR2:R=0:=by rcases hR with ⟨_,h⟩|⟨h,_⟩;exact h;omega
       subst hR2;clear hR HPP HND h7;have w3:(k:Int)-(k:Int)=0:=Int.sub_self _;have l1:decide (k<k)=false:=Zf (by omega);have l2:decide ((k:Int)<(k:Int))=false:=Zf (by omega);have g1:decide (600<k)=false:=Zf (by omega);have g2:decide ((600:Int)<(k:Int))=false:=Zf (by omega);go_enter Tryz.func29,Tryz.ntmps29;go_wp2_with fail;refine (HSL.out _).mono ?_;rintro e4 w4 ⟨rfl,rfl⟩;go_wp2_with fail;refine (HA.out _).mono ?_;rintro e5 w5 ⟨rfl,rfl⟩;go_wp2_with fail;go_ret;exact ⟨rfl,Below.refl _ _⟩
theorem Zj7 {q:Rat} (h:Dn mxd q):(ratL q).length<=2000:=by
  have hl1:(Lib.decDigits q.num.natAbs).length<=mxd:=(Zaw (by decide)).2 h.n;have hl2:(Lib.decDigits q.den).length<=mxd:=(Zaw (by decide)).2 h.d;rw [Zi3] at hl1 hl2;rw [Zho];unfold Zlv Znx
  split <;> split <;> simp <;> omega
theorem Zpm (w:World) (q:Rat) (h:Dn mxd q):Calls Tryz.prog 29 #[.string (txq q)] w (Ret (.int .i64 0) w):=by
  have k:=Zl5 w (ratL q) (Zj7 h);rw [Zp7 h] at k;exact k
theorem Zn3 (w:World) (n:Int):Calls Tryz.prog 68 #[.int .i64 n] w fun e w'=>e= .returned (.bool (decide (0<=n) && decide (n<=999999999)))/\w=w':=by
  have HW:=Zh (show∀w1:World,Calls Tryz.prog 146 #[.int .i64 n,.int .i64 0,.int .i64 999999999] w1 fun e w'=>e= .returned (.bool (decide (0<=n) && decide (n<=999999999)))/\w1=w' from fun w1=>by
    by_cases h1:0<=n
    ·by_cases h2:n<=999999999
     ·rw [Zt h1,Zt h2];have d1:=Zt h1;have d2:=Zt h2;go_enter Tryz.func146,Tryz.ntmps146;go_wp2_with fail;go_ret;exact ⟨rfl,rfl⟩
     ·rw [Zt h1,Zf h2];have d1:=Zt h1;have d2:=Zf h2;go_enter Tryz.func146,Tryz.ntmps146;go_wp2_with fail;go_ret;exact ⟨rfl,rfl⟩
    ·rw [Zf h1];have d1:=Zf h1;simp only [Bool.false_and];go_enter Tryz.func146,Tryz.ntmps146;go_wp2_with fail;go_ret;exact ⟨rfl,rfl⟩)
  generalize (decide (0<=n) && decide (n<=999999999))=B at *;go_enter Tryz.func68,Tryz.ntmps68;go_wp2_with fail;refine (HW.out _).mono ?_;rintro e4 w4 ⟨rfl,rfl⟩;go_wp2_with fail;go_ret;exact ⟨rfl,rfl⟩
end Go.Proofs.YtijajkfmlghgkaaGreatDoor.Nu
namespace Go.Proofs
open Go Go.RowKit
theorem YtijajkfmlghgkaaGreatDoor.Box.w6 {w:World} {b:Nat} {e:TypeId} {x0 x1 x2 x3 x4 x5:Value} (h:YtijajkfmlghgkaaGreatDoor.Box w b e [x0,x1,x2,x3,x4,x5]):w.cell? ⟨b,0,none⟩=some x0/\w.cell? ⟨b,1,none⟩=some x1/\w.cell? ⟨b,2,none⟩=some x2/\w.cell? ⟨b,3,none⟩=some x3/\w.cell? ⟨b,4,none⟩=some x4/\w.cell? ⟨b,5,none⟩=some x5/\(∀o,w.frozen? ⟨b,o,none⟩=false)/\b<w.heap.size:=
  ⟨h.cell 0,h.cell 1,h.cell 2,h.cell 3,h.cell 4,h.cell 5,h.frozen,h.lt⟩
end Go.Proofs
namespace Go.Proofs.YtijajkfmlghgkaaGreatDoor.Nu
open Go Go.Proofs Go.RowKit Go.Proofs.YtijajkfmlghgkaaGreatDoor
def Zcc (n:Int):Bool:=decide (0<=n) && decide (n<=999999999)
theorem Zfs (w:World) (n:Int):Calls Tryz.prog 68 #[.int .i64 n] w fun e w'=>e= .returned (.bool (Zcc n))/\w=w':=Zn3 w n
theorem Zii (w:World) (ah am:Option Addr) (nh ch nm cm:Nat) (v1 v2 v3 v4 v5:Value) (hne:nm≠nh):Calls Tryz.prog 21 #[.agg #[.slice ah nh ch,v1,v2,v3,v4,v5],.slice am nm cm] w (Ret (.int .i64 2) w):=by
  have HB:=Zh ((Below.refl w.heap.size w).alloc (Nat.le_refl _) (.cells #[.slice ah nh ch,v1,v2,v3,v4,v5] 51));have HX:=Zh (Box.new w #[.slice ah nh ch,v1,v2,v3,v4,v5] 51);obtain ⟨x0,x1,x2,x3,x4,x5,xf,xz⟩:=HX.w6;have d1:((nm:Int) !=(nh:Int))=true:=bne_iff_ne.2 (by omega);have d2:(nm !=nh)=true:=bne_iff_ne.2 hne;go_enter Tryz.func21,Tryz.ntmps21;go_wp2_with fail;go_ret;exact ⟨rfl,HB.out⟩
theorem Zn4 (w:World) (ah:Option Addr) (nh ch:Nat) (v1 v2 v3 v4 v5 vm:Value) (l:List Int) (hl:Sl encI 1 w w.heap.size vm l) (hn:l.length=nh):Calls Tryz.prog 21 #[.agg #[.slice ah nh ch,v1,v2,v3,v4,v5],vm] w (Ret (.int .i64 (if l.all Zcc then 0 else 3)) w):=by
  obtain ⟨a,c,rfl,hlen,hA⟩:=hl;have HB:=Zh ((Below.refl w.heap.size w).alloc (Nat.le_refl _) (.cells #[.slice ah nh ch,v1,v2,v3,v4,v5] 51));have HX:=Zh (Box.new w #[.slice ah nh ch,v1,v2,v3,v4,v5] 51);obtain ⟨x0,x1,x2,x3,x4,x5,xf,xz⟩:=HX.w6;have HA:=Zh (fun (h0:0<l.length)=>(show∃b off,a=some ⟨b,off,none⟩/\b<w.heap.size/\∀i (h:i<l.length),At (w.alloc (.cells #[.slice ah nh ch,v1,v2,v3,v4,v5] 51)) b (off+i* 1) (encI l[i]) by
    obtain ⟨b,off,e,hb,h⟩:=hA h0;exact ⟨b,off,e,hb,fun i hi=>(h i hi).below HB.out hb⟩))
  clear hA;have HT:=Zh (show (∀k (hk:k<l.length),Zcc l[k]=true)->(if l.all Zcc=true then (0:Int) else 3)=0 from fun h=>by
    rw [if_pos];rw [List.all_eq_true];intro c hc;obtain ⟨k,hk,rfl⟩:=List.getElem_of_mem hc;exact h k hk)
  have HF:=Zh (show∀k (hk:k<l.length),Zcc l[k]=false->(if l.all Zcc=true then (0:Int) else 3)=3 from fun k hk h=>by
    rw [if_neg];rw [List.all_eq_true];intro hh;have:=hh _ (List.getElem_mem hk);rw [h] at this;cases this)
  obtain ⟨R,hR⟩: ∃R,(if l.all Zcc=true then (0:Int) else 3)=R:=⟨_,rfl⟩;rw [hR] at HT HF ⊢;clear hR;obtain ⟨n,hnn⟩: ∃n,l.length=n:=⟨_,rfl⟩;have HN:=Zh hnn;rw [hnn] at hlen hn ⊢;clear hnn;subst hn;have d1:((n:Int) !=(n:Int))=false:=by simp
  have d2:(n !=n)=false:=by simp
  go_enter Tryz.func21,Tryz.ntmps21;go_wp2_with fail
  go_loop [5] (fun i=> ∃k:Nat,k<=n/\i= .int .i64 k/\Hid (∀j (hj:j<l.length),j<k->Zcc l[j]=true)) (fun i=>n-(intOf i).toNat)
  case atStart=>exact ⟨0,by omega,rfl,Zh (fun j _ h=>by omega)⟩
  case round=>
    obtain ⟨k,hk,rfl,HK⟩:=hrel
    by_cases hlt:k<n
    ·have hkl:k<l.length:=by rw [HN.out];exact hlt
     obtain ⟨b,off,rfl,hbb,hcells⟩:=HA.out (by omega);have c0:=(hcells k hkl).c1;rw [Nat.mul_one] at c0;clear hcells HA;have HF1:=Zh (HF.out k hkl);have HS:=Zh (show Zcc l[k]=true->∀j (hj:j<l.length),j<k+1->Zcc l[j]=true from fun hc j hj h=>by
       rcases Nat.lt_or_ge j k with h1|h1
       ·exact HK.out j hj h1
       ·have:j=k:=by omega
        subst this;exact hc)
     have HM:=Zh (fun (u:World)=>Zfs u l[k]);obtain ⟨D,hD⟩: ∃D,Zcc l[k]=D:=⟨_,rfl⟩;rw [hD] at HS HF1 HM;clear hD;generalize l[k]=y at *;cases D with
     | false=>
       have HR:=Zh (HF1.out rfl);clear HF1 HS HK;go_wp2_with fail;refine (HM.out _).mono ?_;rintro e4 w4 ⟨rfl,rfl⟩;go_wp2_with fail;go_ret;exact ⟨by rw [HR.out];rfl,HB.out⟩
     | true=>
       have HR:=Zh (HS.out rfl);clear HF1 HS HK;go_wp2_with fail;refine (HM.out _).mono ?_;rintro e4 w4 ⟨rfl,rfl⟩;go_wp2_with fail
       go_round
       case rel=>exact ⟨k+1,by omega,by go_num,HR⟩
       case measure=>simp [intOf];omega
    ·have HR:=Zh (HT.out (fun j hj=>HK.out j hj (by rw [HN.out] at hj;omega)));clear HK;go_wp2_with fail;go_ret;exact ⟨by rw [HR.out];rfl,HB.out⟩
def encT (a:List UInt8):List Value:=[.string (tx a)]
def StOk (x:Int) (a:List UInt8) (y z:Int):Prop:=Zcc x=true/\(∃q:Rat,a=ratL q/\Dn mxd q/\0<q)/\Zcc y=true/\Zcc z=true
theorem Zij (w:World) (vh tv:Value) (aw ac asx ab:Option Addr) (n cw cc cs cb:Nat) (wt sh be:List Int) (ca:List (List UInt8))
    (hw:Sl encI 1 w w.heap.size (.slice aw n cw) wt) (hc:Sl encT 1 w w.heap.size (.slice ac n cc) ca) (hs:Sl encI 1 w w.heap.size (.slice asx n cs) sh) (hb:Sl encI 1 w w.heap.size (.slice ab n cb) be)
    (h0:0<n) (h6:n<=24) (h12: ∀a∈ca,a.length<=2000):
    Calls Tryz.prog 145 #[.agg #[vh,.slice aw n cw,.slice ac n cc,.slice asx n cs,.slice ab n cb,tv]] w fun e w'=> ∃R:Int,e= .returned (.int .i64 R)/\Below w.heap.size w w'/\
      (R=0->wt.length=n/\ca.length=n/\sh.length=n/\be.length=n/\∀k (h1:k<wt.length) (h2:k<ca.length) (h3:k<sh.length) (h4:k<be.length),StOk wt[k] ca[k] sh[k] be[k]):=by
 obtain ⟨a',c',e,-,hA⟩:=hw;injection e with e1 e2 e3
 subst e1 e3;obtain ⟨a',c',e,-,hA2⟩:=hc;injection e with e1 e4 e3
 subst e1 e3;obtain ⟨a',c',e,-,hA3⟩:=hs;injection e with e1 e5 e3
 subst e1 e3;obtain ⟨a',c',e,-,hA4⟩:=hb;injection e with e1 e6 e3
 subst e1 e3;obtain ⟨bw,ow,rfl,hbw,hcw⟩:=hA (by omega);obtain ⟨bc,oc,rfl,hbc,hcc⟩:=hA2 (by omega);obtain ⟨bs,os,rfl,hbs,hcs⟩:=hA3 (by omega);obtain ⟨bb,ob,rfl,hbb,hcb⟩:=hA4 (by omega);clear hA hA2 hA3 hA4;have HCW:=Zh hcw;have HCC:=Zh hcc;have HCS:=Zh hcs;have HCB:=Zh hcb;have H12:=Zh h12;have HN:=Zh (And.intro e2.symm (And.intro e4.symm (And.intro e5.symm e6.symm)));clear hcw hcc hcs hcb h12 e2 e4 e5 e6;obtain ⟨S,hS⟩: ∃S:Nat->Prop,S=fun k=> ∀ (h1:k<wt.length) (h2:k<ca.length) (h3:k<sh.length) (h4:k<be.length),StOk wt[k] ca[k] sh[k] be[k]:=⟨_,rfl⟩;have HSF:=Zh hS;have HEND:=Zh (show (∀k,k<n->S k)->wt.length=n/\ca.length=n/\sh.length=n/\be.length=n/\∀k (h1:k<wt.length) (h2:k<ca.length) (h3:k<sh.length) (h4:k<be.length),StOk wt[k] ca[k] sh[k] be[k] from fun h=>by
   refine ⟨HN.out.1,HN.out.2.1,HN.out.2.2.1,HN.out.2.2.2,fun k h1 h2 h3 h4=> ?_⟩;have:=h k (by rw [HN.out.1] at h1;exact h1);rw [hS] at this;exact this h1 h2 h3 h4)
 clear hS;generalize (wt.length=n/\ca.length=n/\sh.length=n/\be.length=n/\∀k (h1:k<wt.length) (h2:k<ca.length) (h3:k<sh.length) (h4:k<be.length),StOk wt[k] ca[k] sh[k] be[k])=Q at *;have HB:=Zh ((Below.refl w.heap.size w).alloc (Nat.le_refl _) (.cells #[vh,.slice (some ⟨bw,ow,none⟩) n cw,.slice (some ⟨bc,oc,none⟩) n cc,.slice (some ⟨bs,os,none⟩) n cs,.slice (some ⟨bb,ob,none⟩) n cb,tv] 51));have HX:=Zh (Box.new w #[vh,.slice (some ⟨bw,ow,none⟩) n cw,.slice (some ⟨bc,oc,none⟩) n cc,.slice (some ⟨bs,os,none⟩) n cs,.slice (some ⟨bb,ob,none⟩) n cb,tv] 51);obtain ⟨x0,x1,x2,x3,x4,x5,xf,xz⟩:=HX.w6;have d1:((n:Int) !=(n:Int))=false:=by simp
 have d2:(n !=n)=false:=by simp
 have d3:((n:Int)==0)=false:=beq_eq_false_iff_ne.2 (by omega);have d4:(n==0)=false:=beq_eq_false_iff_ne.2 (by omega);have d5:decide ((24:Int)<(n:Int))=false:=Zf (by omega);have d6:decide (24<n)=false:=Zf (by omega);go_enter Tryz.func145,Tryz.ntmps145;go_wp2_with fail;generalize hW:w.alloc (.cells #[vh,.slice (some ⟨bw,ow,none⟩) n cw,.slice (some ⟨bc,oc,none⟩) n cc,.slice (some ⟨bs,os,none⟩) n cs,.slice (some ⟨bb,ob,none⟩) n cb,tv] 51)=W at *
 go_loopw [3] (fun i wr=> ∃k:Nat,k<=n/\i= .int .i64 k/\Hid (Below W.heap.size W wr)/\Hid (∀j,j<k->S j)) (fun i _=>n-(intOf i).toNat)
 case atStart=>exact ⟨0,by omega,rfl,Zh (Below.refl _ _),Zh (fun j h=>by omega)⟩
 case round=>
   obtain ⟨k,hk,rfl,HBE,HK⟩:=hrel;clear x0 x1 x2 x3 x4 x5 xf xz;have HX2:=Zh (HX.later HBE.out);obtain ⟨x0,x1,x2,x3,x4,x5,xf,xz⟩:=HX2.w6
   by_cases hlt:k<n
   ·have HN2:=Zh HN.out;have hk1:k<wt.length:=by rw [HN.out.1];exact hlt
    have hk2:k<ca.length:=by rw [HN.out.2.1];exact hlt
    have hk3:k<sh.length:=by rw [HN.out.2.2.1];exact hlt
    have hk4:k<be.length:=by rw [HN.out.2.2.2];exact hlt
    have HBW:=Zh (HB.trans (HBE.mono HB.size));have HC1:=Zh (HCW.out k hk1);have HC2:=Zh (HCC.out k hk2);have HC3:=Zh (HCS.out k hk3);have HC4:=Zh (HCB.out k hk4);have HSK:=Zh (show StOk wt[k] ca[k] sh[k] be[k]->∀j,j<k+1->S j from fun h j hj=>by
      rcases Nat.lt_or_ge j k with h1|h1
      ·exact HK.out j h1
      ·have:j=k:=by omega
       subst this;rw [HSF.out];exact fun _ _ _ _=>h)
    have HLE:=Zh (H12.out _ (List.getElem_mem hk2));clear HCW HCC HCS HCB HK HN2;generalize wt[k]=y1 at *;generalize ca[k]=y2 at *;generalize sh[k]=y3 at *;generalize be[k]=y4 at *;clear hk1 hk2 hk3 hk4;rw [Nat.mul_one] at HC1 HC2 HC3 HC4;have HM1:=Zh (fun (u:World)=>Zfs u y1);have HM3:=Zh (fun (u:World)=>Zfs u y3);have HM4:=Zh (fun (u:World)=>Zfs u y4);have HCK:=Zh (fun (u:World)=>Zl5 u y2 HLE.out);have HOK:=Zh (@Zo9 y2);have HSO:=Zh (show Zcc y1=true->(∃q:Rat,y2=ratL q/\Dn mxd q/\0<q)->Zcc y3=true->Zcc y4=true->∀j,j<k+1->S j from fun a b c d=>HSK.out ⟨a,b,c,d⟩);clear HSK HLE;have c1:=(HC1.below HBW.out hbw).c1;generalize Zcc y1=M1 at *;generalize Zcc y3=M3 at *;generalize Zcc y4=M4 at *;generalize ckR y2=R2 at *;have c2:=(HC2.below HBW.out hbc).c1;cases M1 with
    | false=>
      clear HSO HOK;go_wp2_with fail;refine (HM1.out _).mono ?_;rintro e4 w4 ⟨rfl,rfl⟩;go_wp2_with fail;go_ret;exact ⟨3,rfl,HBW.out,fun h=>absurd h (by decide)⟩
    | true=>
      go_wp2_with fail;refine (HM1.out _).mono ?_;rintro e4 w4 ⟨rfl,rfl⟩;go_wp2_with fail;refine (HCK.out _).mono ?_;rintro e5 w5 ⟨rfl,hb⟩;have HX3:=Zh (HX2.later hb);have HBE5:=Zh (HBE.Zg hb);have HB5:=Zh (HBW.Zg hb);clear hb x0 x1 x2 x3 x4 x5 xf xz c1 c2;obtain ⟨x0,x1,x2,x3,x4,x5,xf,xz⟩:=HX3.w6;have c2:=(HC2.below HB5.out hbc).c1;have c3:=(HC3.below HB5.out hbs).c1;have c4:=(HC4.below HB5.out hbb).c1
      by_cases hz:R2=0
      ·subst hz;obtain ⟨q,rfl,hdn⟩:=HOK.out rfl;have HSG:=Zh (fun (u:World)=>Zsc u q (hdn.mono (by decide)));have HPOS:=Zh (show 0<q.num.sign->∃q':Rat,ratL q=ratL q'/\Dn mxd q'/\0<q' from fun h=>⟨q,rfl,hdn,Zel.1 h⟩);have HSO2:=Zh (fun h=>HSO.out (by trivial) (HPOS.out h));clear HSO HPOS HOK HCK hdn;rw [show tx (ratL q)=txq q from rfl] at c2;generalize txq q=X2 at *;generalize q.num.sign=sg at *
       by_cases hsg:0<sg
       ·have g1:decide (sg<=0)=false:=Zf (by omega);cases M3 with
        | false=>
          clear HSO2;go_wp2_with fail;refine (HSG.out _).mono ?_;rintro e6 w6 ⟨rfl,rfl⟩;go_wp2_with fail;refine (HM3.out _).mono ?_;rintro e7 w7 ⟨rfl,rfl⟩;go_wp2_with fail;go_ret;exact ⟨3,rfl,HB5.out,fun h=>absurd h (by decide)⟩
        | true=>
          cases M4 with
          | false=>
            clear HSO2;go_wp2_with fail;refine (HSG.out _).mono ?_;rintro e6 w6 ⟨rfl,rfl⟩;go_wp2_with fail;refine (HM3.out _).mono ?_;rintro e7 w7 ⟨rfl,rfl⟩;go_wp2_with fail;refine (HM4.out _).mono ?_;rintro e8 w8 ⟨rfl,rfl⟩;go_wp2_with fail;go_ret;exact ⟨3,rfl,HB5.out,fun h=>absurd h (by decide)⟩
          | true=>
            have HSN:=Zh (HSO2.out hsg rfl rfl);clear HSO2;go_wp2_with fail;refine (HSG.out _).mono ?_;rintro e6 w6 ⟨rfl,rfl⟩;go_wp2_with fail;refine (HM3.out _).mono ?_;rintro e7 w7 ⟨rfl,rfl⟩;go_wp2_with fail;refine (HM4.out _).mono ?_;rintro e8 w8 ⟨rfl,rfl⟩;go_wp2_with fail;go_roundw
            case rel=>exact ⟨k+1,by omega,by go_num,HBE5,HSN⟩
            case measure=>simp [intOf];omega
       ·have g1:decide (sg<=0)=true:=Zt (by omega);clear HSO2;go_wp2_with fail;refine (HSG.out _).mono ?_;rintro e6 w6 ⟨rfl,rfl⟩;go_wp2_with fail;go_ret;exact ⟨3,rfl,HB5.out,fun h=>absurd h (by decide)⟩
      ·have g1:(R2 !=0)=true:=bne_iff_ne.2 hz;have HZ:=Zh hz;clear HSO HOK HCK;go_wp2_with fail;go_ret;exact ⟨R2,rfl,HB5.out,fun h=>absurd h HZ.out⟩
   ·have HR:=Zh (HEND.out (fun j hj=>HK.out j (by omega)));clear HK;go_wp2_with fail;go_ret;exact ⟨0,rfl,HB.trans (HBE.mono HB.size),fun _=>HR.out⟩
def encQ (q:Rat):List Value:=[.string (txq q)]
theorem Zcx (w:World) (v:Value) (l:List Rat) (hl:Sl encQ 1 w w.heap.size v l) (hd: ∀q∈l,Dn mxd q):Calls Tryz.prog 25 #[v] w (Ret (.int .i64 0) w):=by
  obtain ⟨a,c,rfl,hlen,hA⟩:=hl;have HA:=Zh hA;have HD:=Zh hd;clear hA hd;obtain ⟨n,hnn⟩: ∃n,l.length=n:=⟨_,rfl⟩;have HN:=Zh hnn;rw [hnn] at hlen ⊢;clear hnn;go_enter Tryz.func25,Tryz.ntmps25;go_wp2_with fail
  go_loopw [3] (fun i wr=> ∃k:Nat,k<=n/\i= .int .i64 k/\Hid (Below w.heap.size w wr)) (fun i _=>n-(intOf i).toNat)
  case atStart=>exact ⟨0,by omega,rfl,Zh (Below.refl _ _)⟩
  case round=>
    obtain ⟨k,hk,rfl,HBE⟩:=hrel
    by_cases hlt:k<n
    ·have hkl:k<l.length:=by rw [HN.out];exact hlt
     obtain ⟨b,off,rfl,hbb,hcells⟩:=HA.out (by omega);have HC1:=Zh (hcells k hkl);have HQ:=Zh (HD.out _ (List.getElem_mem hkl));clear hcells HA;generalize l[k]=q at *;clear hkl;have HCK:=Zh (fun (u:World)=>Zpm u q HQ.out);rw [Nat.mul_one] at HC1;have c1:=(HC1.below HBE.out hbb).c1;generalize txq q=X at *;go_wp2_with fail;refine (HCK.out _).mono ?_;rintro e5 w5 ⟨rfl,hb⟩;have HBE5:=Zh (HBE.Zg hb);clear hb c1;go_wp2_with fail;go_roundw
     case rel=>exact ⟨k+1,by omega,by go_num,HBE5⟩
     case measure=>simp [intOf];omega
    ·go_wp2_with fail;go_ret;exact ⟨rfl,HBE.out⟩
theorem Zb2 {α:Type} (f:α->List Value) (sz:Nat) (hf: ∀x,(f x).length=sz) (hsz:0<sz) (x0:α) (z:Value) (hzc:z.cells=(f x0).toArray) (t e:TypeId) (bytes:Nat) {P:Program} (hT:P.underlying t=some (.slice e)) (hI:(P.info? e).map (fun i=>(i.zero,i.size,i.bytes))=some (some z,sz,bytes))
    (hby:bytes<=1000) (base:Nat) (w:World) (n:Nat) (hn:n<=1000000) (hb:base<=w.heap.size)
    {ops:Array Oper} {rest:List Oper} {o:Oper} {a:Act} {Q:Exit->Act->World->Prop} (hg:o.guard=none) (l c:Operand) (hop:o.op=Op.makeSlice t l c) (kl kc:IntKind) (hl:a.eval l= .int kl n) (hc:a.eval c= .int kc n)
    (h: ∀w',Own f sz e w' base (.slice (some ⟨w.heap.size,0,none⟩) n n) (List.replicate n x0)->w.grownBy w' none->wpList P ops Q rest (a.put o.dst (.slice (some ⟨w.heap.size,0,none⟩) n n)) w'):wpList P ops Q (o::rest) a w:=by
 obtain ⟨i,hi,h0,h1,h2⟩:=info_parts hI;have hmul:bytes* n<=1000* 1000000:=Nat.mul_le_mul hby hn;refine wpList_make_full w hg l c t hop base e i z sz hT hi h0 h1 kl kc _ _ n hl hc rfl rfl (by rw [h2];omega) (by unfold maxLen;omega) hb ?_;intro w' how hgr;refine h w' ?_ hgr;unfold Own;have:(List.replicate n x0).flatMap f=(madeCells z.cells (n* sz)).toList:=by
   apply List.ext_getElem?;intro j
   by_cases hj:j<n* sz
   ·have hd:j=j / sz* sz+j % sz:=by have:=Nat.div_add_mod j sz;rw [Nat.mul_comm] at this;omega
    have hq:j / sz<n:=(Nat.div_lt_iff_lt_mul hsz).2 hj;have hr:j % sz<sz:=Nat.mod_lt _ hsz;have h5:=Zce f sz hf (List.replicate n x0) (j / sz) (by simpa using hq) (j % sz) hr;rw [<-hd] at h5;rw [h5,hzc];simp only [List.getElem_replicate,madeCells,Array.toList_map,List.getElem?_map,Array.toList_range,List.getElem?_range hj,Option.map_some];have h6:j % (f x0).length<(f x0).length:=by rw [hf];exact hr
    rw [show (f x0).toArray.size=(f x0).length by simp,getElem!_pos _ _ (by simpa using h6),List.getElem_toArray,List.getElem?_eq_getElem (by rw [hf];exact hr)];simp only [hf]
   ·rw [List.getElem?_eq_none (by rw [Zbq f sz hf];simp;omega),List.getElem?_eq_none (by simp [madeCells];omega)]
 rw [this,List.length_replicate];exact how
theorem Own.box {α:Type} {f:α->List Value} {sz:Nat} {e:TypeId} {w:World} {base g n:Nat} {l:List α} (h:Own f sz e w base (.slice (some ⟨g,0,none⟩) n n) l):Box w g e (l.flatMap f):=by
  obtain ⟨h1,h2|⟨g',cap,cur,h2,_,h3,_,_,h4,h5⟩⟩:=h
  ·cases h2.1
  ·injection h2 with e1 e2 e3
   injection e1 with e1
   injection e1 with e1
   subst e1 e3;have h6:cur.toList.take (l.length* sz)=cur.toList:=List.take_of_length_le (by rw [Array.length_toList,h4,e2];exact Nat.le_refl _);rw [h6] at h5;unfold Box;rw [h3,<-h5]
theorem Box.toOwn {α:Type} {f:α->List Value} {sz:Nat} {e:TypeId} {w:World} {base g n:Nat} {l:List α} (hf: ∀x,(f x).length=sz) (h:Box w g e (l.flatMap f)) (hn:l.length=n) (hb:base<=g) (hm:n<=1000000):Own f sz e w base (.slice (some ⟨g,0,none⟩) n n) l:=by
  have hl:=Zbq f sz hf l;refine ⟨hl,.inr ⟨g,n,_,by rw [hn],hb,h,by omega,by simp [maxLen];omega,by rw [List.size_toArray,hl,hn],?_⟩⟩;show List.take (l.length* sz) (l.flatMap f)=_;rw [<-hl];exact List.take_length
def RowF (w:World) (g n:Nat) (qs:List Rat) (k:Nat):Prop:=∃l:List F4,Box w g 135 (l.flatMap F4.enc)/\l.length=n/\n=qs.length/\∀i (h:i<l.length) (h':i<qs.length),i<k->FrR w l[i].v qs[i]
theorem RowF.later {w w':World} {g n k:Nat} {qs:List Rat} (h:RowF w g n qs k) (hb:Below w.heap.size w w'):RowF w' g n qs k:=by
  obtain ⟨l,h1,h2,h3,h4⟩:=h;exact ⟨l,Box.later h1 hb,h2,h3,fun i hi hi' hk=>(h4 i hi hi' hk).later hb⟩
theorem Zft {l:List F4}: ∀u∈l.flatMap F4.enc,∀y:Int,u≠ .int .u64 y:=fun u hu=>by
  obtain ⟨x,_,hx⟩:=List.mem_flatMap.1 hu;exact F4.enc_no x u hx
theorem Zqt {l:List F4} {i:Nat} (h:i<l.length) {w:World} {g:Nat} (hB:Box w g 135 (l.flatMap F4.enc)):At w g (i* 4) l[i].enc:=fun j u hu=>by
  have hj:j<4:=(List.getElem?_eq_some_iff.1 hu).1;rw [Box.cell hB,Zce F4.enc 4 F4.enc_len l i h j hj];exact hu
theorem RowF.set {w:World} {g n k:Nat} {qs:List Rat} (h:RowF w g n qs k) (hk:k<n) (x:F4) (hx:FrR w x.v (qs.getD k 0)):
    RowF ((((w.setCell ⟨g,k* 4,none⟩ (.int .i64 x.s)).setCell ⟨g,k* 4+1,none⟩ (.slice x.a x.n x.c)).setCell ⟨g,k* 4+2,none⟩ (.int .i64 x.t)).setCell ⟨g,k* 4+3,none⟩ (.slice x.b x.m x.d)) g n qs (k+1):=by
 obtain ⟨l,h1,h2,h3,h4⟩:=h;have step: ∀ (w1:World) (l1:List F4) (j:Nat) (u:Value) (y:F4),Box w1 g 135 (l1.flatMap F4.enc)->(hi1:k<l1.length)->j<4->y.enc=(l1[k]).enc.set j u->Box (w1.setCell ⟨g,k* 4+j,none⟩ u) g 135 ((l1.set k y).flatMap F4.enc):=by
   intro w1 l1 j u y hB hi1 hj hy;rw [<-Zf7 F4.enc_len l1 k hi1 j hj u y hy];exact Box.set hB (k* 4+j) u
 have gr: ∀ (w1:World) (o:Nat) (u:Value),w1.grownBy (w1.setCell ⟨g,o,none⟩ u) (some g):=fun w1 o u=>⟨rfl,rfl,rfl,by simp,fun b hb hne=>heap_setCell_other w1 ⟨g,o,none⟩ b u (fun e=>hne (by rw [e]))⟩;have hil:k<l.length:=by omega
 have c1:=Zau h1 Zft;have k1:=step w l 0 (.int .i64 x.s) ⟨x.s,l[k].a,l[k].n,l[k].c,l[k].t,l[k].b,l[k].m,l[k].d⟩ h1 hil (by decide) rfl;have c2:=Zau k1 Zft;have k2:=step _ _ 1 (.slice x.a x.n x.c) ⟨x.s,x.a,x.n,x.c,l[k].t,l[k].b,l[k].m,l[k].d⟩ k1 (by simp;omega) (by decide) (by simp [F4.enc]);have c3:=Zau k2 Zft;have k3:=step _ _ 2 (.int .i64 x.t) ⟨x.s,x.a,x.n,x.c,x.t,l[k].b,l[k].m,l[k].d⟩ k2 (by simp;omega) (by decide) (by simp [F4.enc]);have c4:=Zau k3 Zft;have k4:=step _ _ 3 (.slice x.b x.m x.d) x k3 (by simp;omega) (by decide) (by simp [F4.enc]);have keep: ∀ (v:Value) (q:Rat),FrR w v q->FrR _ v q:=fun v q h=>(((h.grown (gr w (k* 4+0) (.int .i64 x.s)) (fun g' e=>by cases e;exact c1)).grown (gr _ (k* 4+1) (.slice x.a x.n x.c)) (fun g' e=>by cases e;exact c2)).grown (gr _ (k* 4+2) (.int .i64 x.t)) (fun g' e=>by cases e;exact c3)).grown (gr _ (k* 4+3) (.slice x.b x.m x.d)) (fun g' e=>by cases e;exact c4);refine ⟨_,k4,by simp [h2],h3,fun i hi hi' hik=> ?_⟩;simp only [List.set_set] at hi ⊢
 by_cases e:i=k
 ·subst e;rw [List.getElem_set_self];rw [Zax (by omega)] at hx;exact keep _ _ hx
 ·rw [List.getElem_set_ne (by omega)];exact keep _ _ (h4 i _ _ (by omega))
theorem RowF.toOwnF {w:World} {g n base:Nat} {qs:List Rat} (h:RowF w g n qs n) (hn:n<=1000000) (hb:base<=g):OwnF w base (.slice (some ⟨g,0,none⟩) n n) qs:=by
  obtain ⟨l,h1,h2,h3,h4⟩:=h;exact ⟨l,Box.toOwn F4.enc_len h1 h2 hb hn,fun g' e=>by simp [Value.ownBlock] at e;subst e;exact Zau h1 Zft,by omega,fun i hi hi'=>h4 i hi hi' (by omega)⟩
theorem RowF.toSlF {w:World} {g n:Nat} {qs:List Rat} (h:RowF w g n qs n) (hn:n<=1000000):SlF w (.slice (some ⟨g,0,none⟩) n n) qs:=by
  obtain ⟨l,h1,h2,h3,h4⟩:=h;exact ⟨l,Sc.of_own F4.enc_len (by omega) (Box.toOwn (base:=0) F4.enc_len h1 h2 (Nat.zero_le _) hn),by omega,fun i hi hi'=>h4 i hi hi' (by omega)⟩
abbrev zF4:F4:=⟨0,none,0,0,0,none,0,0⟩
abbrev zFv:Value:= .agg #[.int .i64 0,.slice none 0 0,.int .i64 0,.slice none 0 0]
theorem infoF:(Tryz.prog.info? 135).map (fun i=>(i.zero,i.size,i.bytes))=some (some zFv,4,64):=by kernel_rfl
theorem Zj8 (w:World) (hw:TbR w) (v:Value) (qs:List Rat) (hl:Sl encQ 1 w w.heap.size v qs) (hn:qs.length<=24) (hd: ∀q∈qs,Dn 1000 q):Calls Tryz.prog 114 #[v] w (RetS w qs):=by
  obtain ⟨a,c,rfl,-,hA⟩:=hl;have HA:=Zh hA;have HFR:=Zh (fun (u:World) (hb:Below w.heap.size w u) (k:Nat) (hk:k<qs.length)=>(Zih u (hw.later hb) qs[k] (hd _ (List.getElem_mem hk)):Calls Tryz.prog 116 #[.string (txq qs[k])] u (RetF u qs[k])));have HIN:=Zh infoF;obtain ⟨n,hnn⟩: ∃n,qs.length=n:=⟨_,rfl⟩;have HN:=Zh hnn;rw [hnn] at hn ⊢;clear hA hd hnn hw;go_enter Tryz.func114,Tryz.ntmps114;go_wp2_with (at_make;refine Zb2 F4.enc 4 F4.enc_len (by decide) zF4 zFv rfl 130 135 64 Tryz.underlying130 HIN.out (by decide) w.heap.size w n (by omega) (Nat.le_refl _) rfl _ _ rfl .i64 .i64 rfl rfl ?_;intro w3 ho3 hg3);have hb3:Below w.heap.size w w3:=⟨hg3.os,hg3.tape,hg3.output,hg3.size,fun k hk=>hg3.block k hk (by simp)⟩;have HR:=Zh (show RowF w3 w.heap.size n qs 0 from ⟨_,Own.box ho3,by simp,HN.symm,fun i _ _ h=>by omega⟩);have HB3:=Zh hb3;clear ho3 hg3 hb3;go_wp2_with fail
  go_loopw [11] (fun i wr=> ∃k:Nat,k<=n/\i= .int .i64 k/\Hid (Below w.heap.size w wr)/\Hid (RowF wr w.heap.size n qs k)) (fun i _=>n-(intOf i).toNat)
  case atStart=>exact ⟨0,by omega,rfl,HB3,HR⟩
  case round=>
    obtain ⟨k,hk,rfl,HBE,HRO⟩:=hrel
    by_cases hlt:k<n
    ·have hkl:k<qs.length:=by rw [HN.out];exact hlt
     obtain ⟨b,off,rfl,hbb,hcells⟩:=HA.out (by omega);have c0:=((hcells k hkl).below HBE.out hbb).c1;rw [Nat.mul_one] at c0;have HS:=Zh (HFR.out wr HBE.out k hkl);have HGD:=Zh (show qs.getD k 0=qs[k] from Zax hkl);generalize qs[k]=q at *;generalize txq q=X at *;clear hcells;go_wp2_with fail;refine HS.mono ?_;rintro e5 w5 ⟨v5,rfl,hf5,hb⟩;have HB5:=Zh (HBE.Zg hb);have hr5:=HRO.later hb;have HR5:=Zh hr5;obtain ⟨l,h1,h2,-,-⟩:=hr5;have h3:=Zqt (i:=k) (by omega) h1;obtain ⟨y,hy⟩: ∃y,l[k]'(by omega)=y:=⟨_,rfl⟩;rw [hy] at h3;have r0:=h3 0 _ rfl;have r1:=h3 1 _ rfl;have r2:=h3 2 _ rfl;have r3:=h3 3 _ rfl;have rf:=Box.frozen h1;rw [Nat.add_zero] at r0;obtain ⟨x,rfl,hx⟩:=hf5.f4;have HX5:=Zh hx;clear hb hf5 hx h1 h2 h3 hy c0 HRO;go_wp2_with fail;go_roundw
     case rel=>
       refine ⟨k+1,by omega,by go_num,Zh ?_,Zh (HR5.set hlt x (by rw [HGD.out];exact HX5.out))⟩
       repeat (first|with_reducible exact HB5.out|with_reducible exact Below.refl _ _|refine .Zs ?_ _|refine .Za ?_ _|refine .drew ?_)
     case measure=>simp [intOf];omega
    ·obtain rfl:k=n:=by omega
     have HS:=Zh (HRO.toOwnF (by omega) (Nat.le_refl _));clear HA HFR HRO;go_wp2_with fail;go_ret;exact ⟨_,rfl,HS.out,HBE.out⟩
theorem Sl.encQ {w:World} {B:Nat} {v:Value} {qs:List Rat} (h:Sl encS 1 w B v (qs.map txq)):Sl encQ 1 w B v qs:=by
  obtain ⟨a,c,rfl,h1,h2⟩:=h;refine ⟨a,c,by rw [List.length_map],by rw [List.length_map] at h1;exact h1,fun h0=> ?_⟩;obtain ⟨b,off,e,hb,hc⟩:=h2 (by rw [List.length_map];exact h0);refine ⟨b,off,e,hb,fun i hi=> ?_⟩;have:=hc i (by rw [List.length_map];exact hi);rw [List.getElem_map] at this;exact this
def RetT (w:World) (qs:List Rat) (e:Ending) (w':World):Prop:=∃v,e= .returned v/\Sl encQ 1 w' w'.heap.size v qs/\Below w.heap.size w w'
theorem infoR:(Tryz.prog.info? 32).map (fun i=>(i.zero,i.size,i.bytes))=some (some (.string ⟨#[]⟩),1,16):=by kernel_rfl
theorem Ze0 (w:World) (hw:TbR w) (v:Value) (qs:List Rat) (hl:SlF w v qs) (hn:qs.length<=24) (hd: ∀q∈qs,Dn 1000 q):Calls Tryz.prog 153 #[v] w (RetT w qs):=by
  have HSL:=Zh hl;obtain ⟨a,c,rfl,hc⟩:=hl.shape;have HFR:=Zh (fun (u:World) (hb:Below w.heap.size w u) (k:Nat) (hk:k<qs.length) (v:Value) (h:FrR u v qs[k])=>(Zqk u (hw.later hb) v qs[k] h (hd _ (List.getElem_mem hk)):Calls Tryz.prog 118 #[v] u (Ret (.string (txq qs[k])) u)));have HIN:=Zh infoR;obtain ⟨n,hnn⟩: ∃n,qs.length=n:=⟨_,rfl⟩;have HN:=Zh hnn;rw [hnn] at hn hc HSL ⊢;clear hl hd hnn hw;go_enter Tryz.func153,Tryz.ntmps153;go_wp2_with (at_make;refine Zb2 encS 1 Zcg (by decide) ⟨#[]⟩ (.string ⟨#[]⟩) rfl 42 32 16 Tryz.underlying42 HIN.out (by decide) w.heap.size w n (by omega) (Nat.le_refl _) rfl _ _ rfl .i64 .i64 rfl rfl ?_;intro w3 ho3 hg3);have hb3:Below w.heap.size w w3:=⟨hg3.os,hg3.tape,hg3.output,hg3.size,fun k hk=>hg3.block k hk (by simp)⟩;have HR:=Zh (show Box w3 w.heap.size 32 ((((qs.take 0).map txq)++List.replicate (n-0) (⟨#[]⟩:ByteArray)).flatMap encS) from Own.box ho3);have HB3:=Zh hb3;clear ho3 hg3 hb3;go_wp2_with fail
  go_loopw [11] (fun i wr=> ∃k:Nat,k<=n/\i= .int .i64 k/\Hid (Below w.heap.size w wr)/\Hid (Box wr w.heap.size 32 ((((qs.take k).map txq)++List.replicate (n-k) (⟨#[]⟩:ByteArray)).flatMap encS))) (fun i _=>n-(intOf i).toNat)
  case atStart=>exact ⟨0,by omega,rfl,HB3,HR⟩
  case round=>
    obtain ⟨k,hk,rfl,HBE,HRO⟩:=hrel
    by_cases hlt:k<n
    ·have hkl:k<qs.length:=by rw [HN.out];exact hlt
     obtain ⟨b,off,y,ha,hbb,hat,huf⟩:=(HSL.later HBE.out).at k hkl;subst ha;have c0:=hat 0 _ rfl;have c1:=hat 1 _ rfl;have c2:=hat 2 _ rfl;have c3:=hat 3 _ rfl;rw [Nat.add_zero] at c0;have hal:Below wr.heap.size wr (wr.alloc (.cells #[.int .i64 y.s,.slice y.a y.n y.c,.int .i64 y.t,.slice y.b y.m y.d] 135)):=(Below.refl _ _).alloc (Nat.le_refl _) _;have HS:=Zh (HFR.out _ (HBE.Zg hal) k hkl _ (huf.later hal));have HBA:=Zh (HBE.Zg hal);have HROA:=Zh (Box.later HRO.out hal);have HU:=Zh (Box.new wr #[.int .i64 y.s,.slice y.a y.n y.c,.int .i64 y.t,.slice y.b y.m y.d] 135);obtain ⟨T,hT⟩: ∃T,txq qs[k]=T:=⟨_,rfl⟩;have HT:=Zh (show (qs.take (k+1)).map txq=(qs.take k).map txq++ [T] by rw [<-hT,List.take_succ_eq_append_getElem hkl,List.map_append];rfl);rw [hT] at HS;clear hT hat huf hal HRO;go_wp2_with fail;refine HS.mono ?_;rintro e5 w5 ⟨rfl,hb⟩;have HB5:=Zh (HBA.Zg hb);have hr5:=Box.later HROA.out hb;have HR5:=Zh hr5;have hlen:((qs.take k).map txq).length=k:=by rw [List.length_map,List.length_take];omega
     have r0:w5.cell? ⟨w.heap.size,k,none⟩=some (.string ⟨#[]⟩):=by
       rw [Box.cell hr5];have h5:=Zce encS 1 Zcg ((qs.take k).map txq++List.replicate (n-k) (⟨#[]⟩:ByteArray)) k (by rw [List.length_append,hlen,List.length_replicate];omega) 0 (by decide);rw [Nat.mul_one,Nat.add_zero] at h5;rw [h5,List.getElem_append_right (by omega),List.getElem_replicate];rfl
     have rf:=Box.frozen hr5;have hrlt:=Box.lt hr5;have HNX:=Zh (show Box (w5.setCell ⟨w.heap.size,k,none⟩ (.string T)) w.heap.size 32 ((((qs.take (k+1)).map txq)++List.replicate (n-(k+1)) (⟨#[]⟩:ByteArray)).flatMap encS) by
       have h6:=Box.set hr5 k (.string T);have h7:=Zf7 (f:=encS) Zcg ((qs.take k).map txq++List.replicate (n-k) (⟨#[]⟩:ByteArray)) k (by rw [List.length_append,hlen,List.length_replicate];omega) 0 (by decide) (.string T) T (by rfl);rw [Nat.mul_one,Nat.add_zero] at h7;rw [h7] at h6;rw [HT.out];rw [List.set_append_right _ _ (by omega),hlen,Nat.sub_self,show n-k=(n-(k+1))+1 by omega,List.replicate_succ,Z5] at h6;rw [List.append_assoc];exact h6)
     clear hb hr5 c0 c1 c2 c3 HROA HU HR5 hlen HBA HS;go_wp2_with fail;go_roundw
     case rel=>
       refine ⟨k+1,by omega,by go_num,Zh ?_,HNX⟩
       repeat (first|with_reducible exact HB5.out|with_reducible exact Below.refl _ _|refine .Zs ?_ _|refine .Za ?_ _|refine .drew ?_)
     case measure=>simp [intOf];omega
    ·obtain rfl:k=n:=by omega
     have HS:=Zh (show Sl encQ 1 wr wr.heap.size (.slice (some ⟨w.heap.size,0,none⟩) k k) qs from by
       have h1:=HRO.out;rw [Nat.sub_self,List.replicate_zero,List.append_nil,List.take_of_length_le (by have:=HN.out;omega)] at h1;exact Sl.encQ (Own.toSl (Box.toOwn (base:=0) Zcg h1 (by rw [List.length_map];exact HN.out) (Nat.zero_le _) (by omega)) Zcg (by rw [List.length_map,HN.out];omega)))
     clear HSL HFR HRO;go_wp2_with fail;go_ret;exact ⟨_,rfl,HS.out,HBE.out⟩
theorem Zn5 (w:World) (hw:TbR w) (v:Value) (qs:List Rat) (hl:SlF w v qs) (hn:qs.length<=24) (hd: ∀q∈qs,Dn 600 q):Calls Tryz.prog 224 #[v,.func (.func 152) #[] #[]] w (Ret (.int .i64 (-1)) w):=by
  have HSL:=Zh hl;obtain ⟨a,c,rfl,hc⟩:=hl.shape;have HFR:=Zh (fun (u:World) (hb:Below w.heap.size w u) (k:Nat) (hk:k<qs.length) (v:Value) (h:FrR u v qs[k])=>(Znt u (hw.later hb) v qs[k] h (hd _ (List.getElem_mem hk))));obtain ⟨n,hnn⟩: ∃n,qs.length=n:=⟨_,rfl⟩;have HN:=Zh hnn;rw [hnn] at hn hc HSL ⊢;clear hl hd hnn hw;go_enter Tryz.func224,Tryz.ntmps224;go_wp2_with fail
  go_loopw [8] (fun i wr=> ∃k:Nat,k<=n/\i= .int .i64 k/\Hid (Below w.heap.size w wr)) (fun i _=>n-(intOf i).toNat)
  case atStart=>exact ⟨0,by omega,rfl,Zh (Below.refl _ _)⟩
  case round=>
    obtain ⟨k,hk,rfl,HBE⟩:=hrel
    by_cases hlt:k<n
    ·have hkl:k<qs.length:=by rw [HN.out];exact hlt
     obtain ⟨b,off,y,ha,hbb,hat,huf⟩:=(HSL.later HBE.out).at k hkl;subst ha;have c0:=hat 0 _ rfl;have c1:=hat 1 _ rfl;have c2:=hat 2 _ rfl;have c3:=hat 3 _ rfl;rw [Nat.add_zero] at c0;have HS:=Zh (HFR.out _ HBE.out k hkl _ huf);clear hat huf HFR HSL;go_wp2_with fail;refine HS.mono ?_;rintro e5 w5 ⟨rfl,hb⟩;have HB5:=Zh (HBE.Zg hb);clear hb c0 c1 c2 c3;go_wp2_with fail;go_roundw
     case rel=>exact ⟨k+1,by omega,by go_num,HB5⟩
     case measure=>simp [intOf];omega
    ·obtain rfl:k=n:=by omega
     clear HSL HFR;go_wp2_with fail;go_ret;exact ⟨rfl,HBE.out⟩
theorem Zc1 (w:World) (hw:TbR w) (v:Value) (qs:List Rat) (hl:SlF w v qs) (hn:qs.length<=24) (hd: ∀q∈qs,Dn 600 q):Calls Tryz.prog 151 #[v,.func (.func 152) #[] #[]] w (Ret (.bool false) w):=by
  have H:=Zh (Zn5 w hw v qs hl hn hd);clear hw hl hn hd;go_enter Tryz.func151,Tryz.ntmps151;go_wp2_with fail;refine H.mono ?_;rintro e5 w5 ⟨rfl,hb⟩;have HB:=Zh hb;clear hb;go_wp2_with fail;go_ret;exact ⟨rfl,HB.out⟩
theorem Zj9 {α:Type} (f:Nat->α) {n k:Nat} (h:k<=n):((List.range n).map f).take k=(List.range k).map f:=by
  rw [<-List.map_take,List.take_range,Nat.min_eq_left h]
theorem Zgw (w:World) (v:Value) (f:Nat->Rat) (n:Nat) (hn:n<=24) (h:SlF w v ((List.range n).map f)) (hf: ∀k,k<n->Dw (f k)) (hs: ∀k,k<=n->Dw (sm f k)):Calls Tryz.prog 223 #[v] w (RetS w ((List.range n).map fun k=>sm f (k+1))):=by
  have HSL:=Zh h;obtain ⟨a,c,rfl,hc⟩:=h.shape;have e:((List.range n).map f).length=n:=by simp
  rw [e] at hc HSL ⊢;have HF:=Zh hf;have HS:=Zh hs;clear h hf hs e;obtain ⟨g,hgg⟩: ∃g:Nat->Rat,(fun k=>sm f (k+1))=g:=⟨_,rfl⟩;have HG:=Zh (show∀k,sm f (k+1)=g k from fun k=>congrFun hgg k);rw [hgg];clear hgg;go_enter Tryz.func223,Tryz.ntmps223;go_wp2_with fail
  go_loopw [3,7] (fun o i wr=> ∃k:Nat,k<=n/\i= .int .i64 k/\Hid (Below w.heap.size w wr)/\Hid (OwnF wr w.heap.size o ((List.range k).map g))) (fun _ i _=>n-(intOf i).toNat)
  case atStart=>exact ⟨0,by omega,rfl,Zh (Below.refl _ _),Zh (OwnF.nil w _)⟩
  case round=>
    obtain ⟨k,hk,rfl,HBE,HO⟩:=hrel;obtain ⟨ao,co,e⟩:=HO.shape;have el:((List.range k).map g).length=k:=by simp
    rw [el] at e;subst e;clear el
    by_cases hlt:k<n
    ·obtain ⟨b,off,y,ha,_⟩:=(HSL.later HBE.out).at k (by simpa using hlt);subst ha;have HTA:=Zh (by have h:=HSL.take (k+1) (by simp;omega);rwa [Zj9 f (by omega)] at h:SlF w (.slice (some ⟨b,off,none⟩) (k+1) c) ((List.range (k+1)).map f));have HT:=Zh (fun (u:World) (hb:Below w.heap.size w u) (v:Value) (h:FrR u v ((0:Int):Rat))=>(by rw [<-HG.out k];exact Zdh u v _ f (k+1) (by omega) (by rwa [Rat.intCast_zero] at h) (HTA.later hb) (fun j hj=>HS.out j (by omega)) (fun j hj=>HF.out j (by omega)):Calls Tryz.prog 221 #[v,.slice (some ⟨b,off,none⟩) (k+1) c] u (RetF u (g k))));have k1:IntKind.i64.wrap ((k:Int)+1)=((k+1:Nat):Int):=by rw [IntWalk.i64_in _ (by omega)];omega
     have HQ2:=HG;obtain ⟨q2,hq2⟩: ∃q:Rat,g k=q:=⟨_,rfl⟩;rw [hq2] at HT;have HQ2:=Zh hq2;clear hq2;obtain ⟨m,hm⟩: ∃m,k+1=m:=⟨_,rfl⟩;rw [hm] at HT k1;have hmc:m<=c:=by omega
     have HM:=Zh hm;clear hm HTA;go_wp2_with fail;refine Zak 8 (fun j=>false) (kxs [.is (.slice ao k co),.frac ((0:Int):Rat),.is (.slice (some ⟨b,off,none⟩) n c),.is (.int .i64 (k:Int)),.is (.int .i64 (m:Int)),.is (.slice (some ⟨b,off,none⟩) m c),.frac q2,.one q2 wr.heap.size]) (by kernel_rfl) (by kernel_rfl) (fun j v u u' h hb=>Kx.later h hb) ?_ ?_
     ·refine ⟨?_,?_,?_,?_,?_,?_,?_,?_,trivial⟩
      all_goals
        first|intro vs u hu hR|intro vs u hR
        simp only [Zac,Z2,Z6,Act.put,Z1,Z4,Z5]
      rotate_left;have HS:=Zh (Zf4 u 0 (by omega) (by omega));rotate_left;rotate_left;rotate_left;have e3:vs 3=_:=Zr hR 3;rotate_left;have e2:vs 2=_:=Zr hR 2;have e4:vs 4=_:=Zr hR 4;rotate_left;have k1:FrR u (vs 1) _:=Zr hR 1;have e5:vs 5=_:=Zr hR 5;have HS:=Zh (HT.out u (HBE.Zg hu) _ k1);clear k1;rotate_left
      ·have k6:FrR u (vs 6) _:=Zr hR 6;obtain ⟨x6,ex6,hx6⟩:=k6.f4;have hxl:FrR (u.alloc (.cells #[.int .i64 x6.s,.slice x6.a x6.n x6.c,.int .i64 x6.t,.slice x6.b x6.m x6.d] 135)) x6.v _:=hx6.later ((Below.refl _ _).alloc (Nat.le_refl _) _);have HXL:=Zh hxl;have hsz:=hu.size;rw [ex6];clear hR hu k6 ex6 hx6 hxl;go_wp2_with fail;exact ⟨rfl,rfl,_,_,rfl,rfl,(Below.refl _ _).alloc (Nat.le_refl _) _,⟨_,x6,rfl,Box.new u _ 135,HXL.out,hsz⟩,fun h=>absurd h (by decide)⟩
      all_goals
        clear hR
        try clear hu
        go_wp2_with fail
        first|exact ⟨rfl,rfl,_,_,rfl,rfl,Below.refl _ _,rfl,fun h=>absurd h (by decide)⟩|(refine HS.mono ?_;rintro e11 w11 ⟨v11,rfl,hi11,hb⟩;go_wp2_with fail;exact ⟨rfl,rfl,_,_,rfl,rfl,hb,hi11,fun h=>absurd h (by decide)⟩)
     ·intro vs u hu hR hsep;have e0:vs 0=_:=hR 0 (by decide);obtain ⟨g7,x7,e7,hb7,hx7,hl7⟩:Kx.R (.one q2 wr.heap.size) (vs 7) u:=hR 7 (by decide);simp only [Zac,Z3,Z7,Z2,Z6,Act.put,Z1,Z4,Z5,e0,e7];have HO6:=HO.later hu;have hbs:w.heap.size<=u.heap.size:=Nat.le_trans HBE.size hu.size;have HB6:=Zh (HBE.Zg hu);refine Zc5 130 (.agg #[.int .i64 0,.slice none 0 0,.int .i64 0,.slice none 0 0]) 64 Tryz.underlying130 (by kernel_rfl) rfl (by decide) (by simp [Value.cells]) ((List.range k).map g) q2 x7 w.heap.size u g7 x7.enc.toArray 135 hb7 (by simp) hx7 (.slice ao k co) HO6 (by exact hbs) (by simp;omega) rfl (.tmp 10) (.tmp 17) rfl rfl rfl ?_;intro v' w' hown' hgr;have HB7:=Zh (Zci (base:=w.heap.size) HB6.out hgr (by omega) (fun k hk=>(HO6.lt k hk).1) (Nat.le_refl _));rw [<-HQ2.out,Zb1] at hown';obtain ⟨a',c',e'⟩:=hown'.shape;rw [List.length_map,List.length_range] at e';subst e';have HO7:=Zh hown';clear hR hu hsep hown' hgr HO6 hbs HT HB6 hb7 hx7 hl7 k1 hmc HM;simp only [Act.put,Z1,Z4,Z5];go_wp2_with fail;go_roundw
      case rel=>exact ⟨k+1,by omega,by go_num,HB7,HO7⟩
      case measure=>simp [intOf];omega
    ·obtain rfl:k=n:=by omega
     clear HSL HF HG;go_wp2_with fail;go_ret;exact ⟨_,rfl,HO.out,HBE.out⟩
def Zc2 (h:HoR):List Value:=[.int .i64 h.lo,.int .i64 h.hi,.int .i64 h.room]
theorem Zhq (h:HoR):(Zc2 h).length=3:=rfl
structure ShV where
  ah:Option Addr
  aw:Option Addr
  ac:Option Addr
  az:Option Addr
  ab:Option Addr
  nh:Nat
  nw:Nat
  nc:Nat
  ns:Nat
  nb:Nat
  ch:Nat
  cw:Nat
  cc:Nat
  cs:Nat
  cb:Nat
def ShV.cells (x:ShV) (t:Rat):List Value:=[.slice x.ah x.nh x.ch,.slice x.aw x.nw x.cw,.slice x.ac x.nc x.cc,.slice x.az x.ns x.cs,.slice x.ab x.nb x.cb,.string (txq t)]
abbrev ShV.v (x:ShV) (t:Rat):Value:= .agg #[.slice x.ah x.nh x.ch,.slice x.aw x.nw x.cw,.slice x.ac x.nc x.cc,.slice x.az x.ns x.cs,.slice x.ab x.nb x.cb,.string (txq t)]
structure ShR (w:World) (x:ShV) (s:Shp):Prop where
  ph:Sl Zc2 3 w w.heap.size (.slice x.ah x.nh x.ch) s.hs
  pw:Sl encI 1 w w.heap.size (.slice x.aw x.nw x.cw) s.wt
  pc:Sl encQ 1 w w.heap.size (.slice x.ac x.nc x.cc) s.ca
  ps:Sl encI 1 w w.heap.size (.slice x.az x.ns x.cs) s.sh
  pb:Sl encI 1 w w.heap.size (.slice x.ab x.nb x.cb) s.be
theorem ShR.later {w w':World} {x:ShV} {s:Shp} (h:ShR w x s) (hb:Below w.heap.size w w'):ShR w' x s:=⟨h.ph.later hb,h.pw.later hb,h.pc.later hb,h.ps.later hb,h.pb.later hb⟩
theorem Sl.len {α:Type} {f:α->List Value} {sz:Nat} {w:World} {B:Nat} {a:Option Addr} {n c:Nat} {l:List α} (h:Sl f sz w B (.slice a n c) l):l.length=n:=by
  obtain ⟨a',c',e,_⟩:=h;injection e with _ e _
  exact e.symm
theorem Sl.atI {α:Type} {f:α->List Value} {sz:Nat} {w w':World} {a:Option Addr} {n c:Nat} {l:List α} (h:Sl f sz w w.heap.size (.slice a n c) l) (hb:Below w.heap.size w w') (i:Nat) (hi:i<l.length): ∃b off,a=some ⟨b,off,none⟩/\b<w.heap.size/\b<w'.heap.size/\At w' b (off+i* sz) (f l[i]):=by
  obtain ⟨a',c',e,_,hA⟩:=h;injection e with e1 e2 e3
  subst e1;obtain ⟨b,off,rfl,hbb,hc⟩:=hA (by omega);exact ⟨b,off,rfl,hbb,Nat.lt_of_lt_of_le hbb hb.size,(hc i hi).below hb hbb⟩
theorem Za4 (w:World) (g o:Nat) (u:Value):w.grownBy (w.setCell ⟨g,o,none⟩ u) (some g):=⟨rfl,rfl,rfl,by simp,fun b _ hne=>heap_setCell_other w ⟨g,o,none⟩ b u (fun e=>hne (by rw [e]))⟩
theorem OwnF.box {w:World} {base:Nat} {v:Value} {qs:List Rat} (h:OwnF w base v qs) {k:Nat} {e:TypeId} {vs:List Value} (hB:Box w k e vs) (hv: ∀u∈vs,∀y:Int,u≠ .int .u64 y) (hk:k<base) (j:Nat) (u:Value):OwnF (w.setCell ⟨k,j,none⟩ u) base v qs:=
  h.grown (Za4 w k j u) (by
    cases hv:v.ownBlock with
    | none=>exact .inl rfl
    | some g=>exact .inr (fun e=>by injection e with e;have:=(h.lt g hv).1;omega)) (fun g e=>by cases e;exact Zau hB hv)
def afc (sv:List Value) (vm vl vb vs vd:Value) (t:F4):List Value:=sv++ [vm,vl,vb,vs,vd,.int .i64 t.s,.slice t.a t.n t.c,.int .i64 t.t,.slice t.b t.m t.d]
structure FlI (w:World) (sv av:List Value) (u:World):Prop where
  be:Below w.heap.size w u
  x:Box u w.heap.size 51 sv
  a:Box u (w.heap.size+1) 137 av
section
variable {w u u':World} {sv av:List Value}
theorem FlI.later (h:FlI w sv av u) (hb:Below u.heap.size u u'):FlI w sv av u':=⟨h.be.trans (hb.mono h.be.size),h.x.later hb,h.a.later hb⟩
theorem FlI.grown {row:Option Nat} (h:FlI w sv av u) (hg:u.grownBy u' row) (hr: ∀k,row=some k->w.heap.size+2<=k):FlI w sv av u':=
  ⟨h.be.grown hg h.be.size (fun k hk=>by have:=hr k hk;omega),h.x.kept hg (fun e=>by have:=hr _ e.symm;omega),h.a.kept hg (fun e=>by have:=hr _ e.symm;omega)⟩
theorem FlI.put (h:FlI w sv av u) (j:Nat) (v:Value):FlI w sv (av.set j v) (u.setCell ⟨w.heap.size+1,j,none⟩ v):=
  ⟨h.be.setCell (by dsimp only;omega) _,h.x.other _ (by dsimp only;omega),h.a.set j v⟩
end
def NoW (l:List Value):Prop:=∀u∈l,∀y:Int,u≠ .int .u64 y
theorem NoW.set {l:List Value} (h:NoW l) (j:Nat) {v:Value} (hv: ∀y:Int,v≠ .int .u64 y):NoW (l.set j v):=fun u hu=>by
  rcases List.mem_or_eq_of_mem_set hu with h1|h1
  ·exact h u h1
  ·rw [h1];exact hv
end Go.Proofs.YtijajkfmlghgkaaGreatDoor.Nu
