/- Lemmas on the way to the law TopMirrored: De Ga Gb Gc Ge Gf Gg Fh Gh Te Mb Mc Ti Fi -/
import Derived.Test.YtijajkfmlghgkaaGreatDoorTopMirroredP07
import Derived.Lib.Atoi
import Derived.Lib.IndexMore
import Derived.Lib.IndexBytes
import Derived.Lib.Strings
import Derived.Lib.SlTrimSet
import Derived.Lib.SmallJoins
import Derived.Lib.AppendIntMem
import Derived.Lib.ItoaMem
set_option linter.unusedVariables false
set_option linter.unusedSimpArgs false
set_option maxRecDepth 100000
set_option maxHeartbeats 4000000
namespace Go.Proofs.YtijajkfmlghgkaaGreatDoor
open Go.Lib
def qd (n d:Int):Rat:=(n:Rat) / (d:Rat)
theorem Zbi (n d:Int):qd n d=Rat.divInt n d:=(Rat.divInt_eq_div n d).symm
theorem Zri {n d:Int} (hd:0<d):(qd n d).num=n / (Int.gcd d n:Int):=by
  rw [Zbi,Rat.num_divInt,Int.sign_eq_one_of_pos hd,Int.one_mul]
theorem Zrj {n d:Int} (hd:0<d):(qd n d).den=d.natAbs / Int.gcd d n:=by
  rw [Zbi,Rat.den_divInt,if_neg (by omega)]
theorem Zeb (q:Rat):qd q.num q.den=q:=by
  rw [Zbi];exact Rat.num_divInt_den q
theorem Zrk (n d:Int):qd (-n) (-d)=qd n d:=by
  unfold qd;rw [Rat.intCast_neg,Rat.intCast_neg];grind
theorem Zrl {a b c d:Int} (hb:b≠0) (hd:d≠0):qd a b+qd c d=qd (a* d+c* b) (b* d):=by
  rw [Zbi,Zbi,Zbi,Rat.divInt_add_divInt _ _ hb hd]
theorem Zrm (a b c d:Int):qd a b* qd c d=qd (a* c) (b* d):=by
  rw [Zbi,Zbi,Zbi,Rat.divInt_mul_divInt]
theorem Zrn (n d:Int):(qd n d)⁻¹=qd d n:=by rw [Zbi,Zbi,Rat.inv_divInt]
theorem Zpy (p q:Rat):p+q=qd (p.num* q.den+q.num* p.den) (p.den* q.den):=by
  have h:=Zrl (a:=p.num) (b:=p.den) (c:=q.num) (d:=q.den) (by have:=p.den_pos;omega) (by have:=q.den_pos;omega);rw [Zeb,Zeb] at h;exact h
theorem Zpz (p q:Rat):p* q=qd (p.num* q.num) (p.den* q.den):=by
  have h:=Zrm p.num p.den q.num q.den;rw [Zeb,Zeb] at h;exact h
theorem Zne {a b:Int} (h:itoa a=itoa b):a=b:=by
  have hm: ∀n:Nat,∀l:List UInt8,decDigits n≠45::l:=fun n l e=>by
    have:=Zcl n 45 (by rw [e];exact List.mem_cons_self);exact absurd this (by decide)
  by_cases ha:a<0 <;> by_cases hb:b<0
  ·rw [Zbc ha,Zbc hb] at h;injection h with _ h
   have:=Zds h;omega
  ·rw [Zbc ha,Zav (by omega)] at h;exact absurd h.symm (hm _ _)
  ·rw [Zav (by omega),Zbc hb] at h;exact absurd h (hm _ _)
  ·rw [Zav (by omega),Zav (by omega)] at h;have:=Zds h;omega
theorem Zcw (n:Int):(47:UInt8)∉itoa n:=by
  intro h;have hd: ∀m:Nat,(47:UInt8)∉decDigits m:=fun m hm=>absurd (Zcl m 47 hm) (by decide)
  by_cases hn:n<0
  ·rw [Zbc hn] at h
   rcases List.mem_cons.1 h with h|h
   ·exact absurd h (by decide)
   ·exact hd _ h
  ·rw [Zav (by omega)] at h;exact hd _ h
def Za2 (l:List UInt8):Nat:=l.findIdx (·==47)
theorem Zew {l:List UInt8} (h:(47:UInt8)∉l):Za2 l=l.length:=by
  unfold Za2;rw [List.findIdx_eq_length];intro x hx;exact beq_eq_false_iff_ne.2 (fun e=>h (e ▸ hx))
theorem Zfi {a b:List UInt8} (h:(47:UInt8)∉a):Za2 (a++47::b)=a.length:=by
  have h1:=Zew h;unfold Za2 at h1 ⊢;rw [List.findIdx_append,h1,if_neg (by omega),List.findIdx_cons];simp
theorem Zhj (q:Rat):Za2 (ratL q)=(itoa q.num).length:=by
  unfold ratL
  by_cases h:q.den=1
  ·rw [if_pos h,List.append_nil,Zew (Zcw _)]
  ·rw [if_neg h,Zfi (Zcw _)]
theorem Znf {p q:Rat} (h:ratL p=ratL q):p=q:=by
  have hs:=congrArg Za2 h;rw [Zhj,Zhj] at hs;unfold ratL at h;have h1:=congrArg (List.take (itoa p.num).length) h;rw [List.take_append_of_le_length (Nat.le_refl _),List.take_of_length_le (Nat.le_refl _),hs,List.take_append_of_le_length (Nat.le_refl _),List.take_of_length_le (Nat.le_refl _)] at h1;have hn:=Zne h1;rw [h1] at h;have h2:=List.append_cancel_left h;have hd:p.den=q.den:=by
    by_cases hp:p.den=1 <;> by_cases hq:q.den=1
    ·omega
    ·rw [if_pos hp,if_neg hq] at h2;cases h2
    ·rw [if_neg hp,if_pos hq] at h2;cases h2
    ·rw [if_neg hp,if_neg hq] at h2;injection h2 with _ h2
     exact Zds h2
  exact Rat.ext hn hd
theorem Ziy (n:Int):ratL (n:Rat)=itoa n:=by
  unfold ratL;rw [Rat.num_intCast,Rat.den_intCast,if_pos rfl,List.append_nil]
theorem Zp0 (n:Int):itoa n≠ []:=by
  by_cases hn:n<0
  ·rw [Zbc hn];simp
  ·rw [Zav (by omega)];exact Zfh _
theorem Zk2 (q:Rat):ratL q≠ []:=by unfold ratL;simp [Zp0]
theorem Zgj {q:Rat} (h:q<0):ratL q=45::ratL (-q):=by
  have hn:q.num<0:=by
    have:=Rat.num_nonneg (q:=q);grind
  unfold ratL;rw [Zbc hn,Rat.neg_num,Rat.neg_den,Zav (by omega),List.cons_append,show (-q.num).toNat=q.num.natAbs by omega]
theorem Zk3 {q:Rat} (h:0<=q):(ratL q).head?≠some 45:=by
  have hn:0<=q.num:=(Rat.num_nonneg (q:=q)).2 h;unfold ratL;rw [Zav hn,Ziv (Zfh _)];intro e;have:=Zcl q.num.toNat 45 (List.mem_of_mem_head? e);exact absurd this (by decide)
theorem Zfj:ratL 0=[48]:=by
  have:=Ziy 0;rw [show ((0:Int):Rat)=0 from rfl] at this;rw [this,Zav (by omega)];exact Zb4
theorem Zhk {q:Rat}:ratL q=[48]↔q=0:=⟨fun h=>Znf (by rw [h,Zfj]),fun h=>by rw [h,Zfj]⟩
def tx (l:List UInt8):ByteArray:=⟨l.toArray⟩
theorem Zec (l:List UInt8):(tx l).data.toList=l:=by simp [tx]
theorem Zan (l:List UInt8):(tx l).size=l.length:=by simp [tx,ByteArray.size]
def txz (z:Int):ByteArray:=tx (itoa z)
def txq (q:Rat):ByteArray:=tx (ratL q)
theorem Zex (z:Int):(txz z).data.toList=itoa z:=Zec _
theorem Zey (z:Int):(txz z).size=(itoa z).length:=Zan _
theorem Zdu {z:Int} {k:Nat} (hk:0<k) (h:z.natAbs<10^k):(itoa z).length<=k+1:=by
  by_cases hn:z<0
  ·rw [Zbc hn,List.length_cons];have:=(Zaw hk).2 h;omega
  ·rw [Zav (by omega)];have:=(Zaw (n:=z.toNat) hk).2 (by omega);omega
theorem Ziz (n:Nat):(45:UInt8)∉decDigits n:=fun h=>absurd (Zcl n 45 h) (by decide)
theorem Zei {z:Int} (h:0<=z):(itoa z).head?≠some 45:=by
  rw [Zav h];intro e;exact Ziz _ (List.mem_of_mem_head? e)
end Go.Proofs.YtijajkfmlghgkaaGreatDoor
namespace Go.Proofs.YtijajkfmlghgkaaGreatDoor.Nu
open Go Go.Proofs Go.RowKit Go.Proofs.YtijajkfmlghgkaaGreatDoor
structure Sm (z:Int):Prop where
  lo: -4611686018427387904<=z
  hi:z<=4611686018427387904
theorem Sm.wrap {z:Int} (h:Sm z):IntKind.i64.wrap z=z:=IntWalk.i64_in _ (by have:=h.lo;have:=h.hi;omega)
theorem Sm.neg {z:Int} (h:Sm z):Sm (-z):=⟨by have:=h.hi;omega,by have:=h.lo;omega⟩
end Go.Proofs.YtijajkfmlghgkaaGreatDoor.Nu
namespace Go.Proofs
theorem YtijajkfmlghgkaaGreatDoor.Box.w3 {w:World} {b:Nat} {e:TypeId} {x y z:Value} (h:YtijajkfmlghgkaaGreatDoor.Box w b e [x,y,z]):w.cell? ⟨b,0,none⟩=some x/\w.cell? ⟨b,1,none⟩=some y/\w.cell? ⟨b,2,none⟩=some z/\(∀o,w.frozen? ⟨b,o,none⟩=false)/\b<w.heap.size:=
  ⟨h.cell 0,h.cell 1,h.cell 2,h.frozen,h.lt⟩
theorem YtijajkfmlghgkaaGreatDoor.Box.w4 {w:World} {b:Nat} {e:TypeId} {x y z u:Value} (h:YtijajkfmlghgkaaGreatDoor.Box w b e [x,y,z,u]):w.cell? ⟨b,0,none⟩=some x/\w.cell? ⟨b,1,none⟩=some y/\w.cell? ⟨b,2,none⟩=some z/\w.cell? ⟨b,3,none⟩=some u/\(∀o,w.frozen? ⟨b,o,none⟩=false)/\b<w.heap.size:=
  ⟨h.cell 0,h.cell 1,h.cell 2,h.cell 3,h.frozen,h.lt⟩
theorem YtijajkfmlghgkaaGreatDoor.Box.w8 {w:World} {b:Nat} {e:TypeId} {x0 x1 x2 x3 x4 x5 x6 x7:Value} (h:YtijajkfmlghgkaaGreatDoor.Box w b e [x0,x1,x2,x3,x4,x5,x6,x7]):w.cell? ⟨b,0,none⟩=some x0/\w.cell? ⟨b,1,none⟩=some x1/\w.cell? ⟨b,2,none⟩=some x2/\w.cell? ⟨b,3,none⟩=some x3/\w.cell? ⟨b,4,none⟩=some x4/\w.cell? ⟨b,5,none⟩=some x5/\w.cell? ⟨b,6,none⟩=some x6/\w.cell? ⟨b,7,none⟩=some x7/\(∀o,w.frozen? ⟨b,o,none⟩=false)/\b<w.heap.size:=
  ⟨h.cell 0,h.cell 1,h.cell 2,h.cell 3,h.cell 4,h.cell 5,h.cell 6,h.cell 7,h.frozen,h.lt⟩
end Go.Proofs
namespace Go.Proofs.YtijajkfmlghgkaaGreatDoor.Nu
open Go Go.Proofs Go.RowKit Go.Proofs.YtijajkfmlghgkaaGreatDoor
theorem Zo8 (w:World) (a b:Int) (h1:Sm a) (h2:Sm b) (h:Sm (a* b)):Calls Tryz.prog 234 #[.agg #[.int .i64 a,.slice none 0 0],.agg #[.int .i64 b,.slice none 0 0]] w (Ret (.agg #[.int .i64 (a* b),.slice none 0 0]) w):=by
  have hq:=fun (w:World) (a:Option Addr) (n c:Nat)=>Lib.run_eql_slice_nil w 131 345 a n c 0 0 Tryz.underlying131;have HB0:=Zh ((Below.refl w.heap.size w).alloc (Nat.le_refl _) (.cells #[.int .i64 a,.slice none 0 0] 133));have HB1:=Zh (HB0.alloc HB0.size (.cells #[.int .i64 b,.slice none 0 0] 133));have HB:=Zh (HB1.alloc HB1.size (.cells #[.int .i64 0,.slice none 0 0] 133));have HX:=Zh (((Box.new w #[.int .i64 a,.slice none 0 0] 133).alloc (.cells #[.int .i64 b,.slice none 0 0] 133)).alloc (.cells #[.int .i64 0,.slice none 0 0] 133));have HY:=Zh ((Box.newAt (w.alloc (.cells #[.int .i64 a,.slice none 0 0] 133)) #[.int .i64 b,.slice none 0 0] 133 (n:=w.heap.size+1) (by simp)).alloc (.cells #[.int .i64 0,.slice none 0 0] 133));have HZ:=Zh (Box.newAt ((w.alloc (.cells #[.int .i64 a,.slice none 0 0] 133)).alloc (.cells #[.int .i64 b,.slice none 0 0] 133)) #[.int .i64 0,.slice none 0 0] 133 (n:=w.heap.size+1+1) (by simp));obtain ⟨x0,x1,xf,xz⟩:=HX.v2;obtain ⟨y0,y1,yf,yz⟩:=HY.v2;obtain ⟨z0,z1',zf,zz⟩:=HZ.v2;have HSZ:=Zh (fun (w:World) (s:Int) (h:s=a∨s=b)=>Zh3 s (by have:=h1.lo;have:=h2.lo;omega) (by have:=h1.hi;have:=h2.hi;omega) w);have HM:=Zh (fun (w:World)=>Tryz.bits_Mul64 a.natAbs b.natAbs (by have:=h1.lo;have:=h1.hi;omega) (by have:=h2.lo;have:=h2.hi;omega) w);have hab:a.natAbs* b.natAbs=(a* b).natAbs:=(Int.natAbs_mul a b).symm;have hm1:(a* b).natAbs<=4611686018427387904:=by have:=h.lo;have:=h.hi;omega
  obtain ⟨p1,hp1⟩: ∃p,decide (a<0)=p:=⟨_,rfl⟩;obtain ⟨p2,hp2⟩: ∃p,decide (b<0)=p:=⟨_,rfl⟩;have hfour:(p1=true/\p2=false/\ -((a* b).natAbs:Int)=a* b)∨(p1=false/\p2=true/\ -((a* b).natAbs:Int)=a* b)∨(p1=true/\p2=true/\((a* b).natAbs:Int)=a* b)∨(p1=false/\p2=false/\((a* b).natAbs:Int)=a* b):=by
    cases p1 <;> cases p2 <;> simp only [decide_eq_true_eq,decide_eq_false_iff_not] at hp1 hp2
    ·exact .inr (.inr (.inr ⟨rfl,rfl,by have:=Int.mul_nonneg (show 0<=a by omega) (show 0<=b by omega);omega⟩))
    ·exact .inr (.inl ⟨rfl,rfl,by have:=Int.mul_nonneg (show 0<=a by omega) (show 0<= -b by omega);rw [Int.mul_neg] at this;omega⟩)
    ·exact .inl ⟨rfl,rfl,by have:=Int.mul_nonneg (show 0<= -a by omega) (show 0<=b by omega);rw [Int.neg_mul] at this;omega⟩
    ·exact .inr (.inr (.inl ⟨rfl,rfl,by have:=Int.mul_nonneg (show 0<= -a by omega) (show 0<= -b by omega);rw [Int.neg_mul_neg] at this;omega⟩))
  rw [hab] at HM;obtain ⟨z,hz⟩: ∃z,a* b=z:=⟨_,rfl⟩;rw [hz] at hfour hm1 HM ⊢;generalize z.natAbs=m at *;rw [show m / 18446744073709551616=0 by omega,show m % 18446744073709551616=m by omega] at HM;have k3:decide ((m:Int)<=9223372036854775807)=true:=Zt (by omega);have k4:IntKind.i64.wrap (m:Int)=m:=IntWalk.i64_in _ (by omega);have k5:IntKind.i64.wrap (-(m:Int))= -m:=IntWalk.i64_in _ (by omega);have k7:IntKind.i64.wrap z=z:=by rw [<-hz];exact h.wrap
  have k8:decide (z<=9223372036854775807)=true:=Zt (by rw [<-hz];have:=h.hi;omega);clear h1 h2 h HB0 HB1 hab hm1 hz
  rcases hfour with ⟨rfl,rfl,k6⟩|⟨rfl,rfl,k6⟩|⟨rfl,rfl,k6⟩|⟨rfl,rfl,k6⟩
  all_goals
    go_enter Tryz.func234,Tryz.ntmps234;go_wp2_with fail;refine Zah (by kernel_rfl) (by kernel_rfl) ?_
    repeat go_big_quiet_step ((first|(go_at_call 298;exact Calls.later_same (HSZ.out _ _ (by first|exact .inl rfl|exact .inr rfl)))|(go_at_call 297;exact Calls.later_same ((HM.out _).mono (fun e w' h=>⟨h.1,h.2.symm⟩)))))
    refine wpQuiet_nil ?_;rintro w4 ⟨⟨_,hb⟩,rfl⟩;have HB4:=Zh (HB.Zg hb);have HX4:=Zh (HX.later hb);have HY4:=Zh (HY.later hb);have HZ4:=Zh (HZ.later hb);clear hb x0 x1 xf xz y0 y1 yf yz z0 z1' zf zz;obtain ⟨x0,x1,xf,xz⟩:=HX4.v2;obtain ⟨y0,y1,yf,yz⟩:=HY4.v2;obtain ⟨z0,z1',zf,zz⟩:=HZ4.v2;go_wp2_with fail;refine bodyPost_ret (v:= .agg #[.int .i64 z,.slice none 0 0]) (by simp [results,Tryz.results234,go_sem, *]) rfl ?_;refine Ret.mk rfl ?_
    repeat (first|exact HB4.out|exact Below.refl _ _|refine .Zs ?_ _|refine .Za ?_ _|refine .drew ?_)
theorem Zk4 {r:Nat} (h:r<=18):Sm ((10:Int)^r):=by
  have h1:(10:Int)^r<=10^18:=by
    have:=Nat.pow_le_pow_right (show 0<10 by decide) h;have e: ∀n:Nat,(10:Int)^n=((10^n:Nat):Int):=fun n=>by rw [Int.natCast_pow];rfl
    rw [e,e];omega
  have h2:(0:Int)<=10^r:=Int.pow_nonneg (by decide);exact ⟨by omega,by omega⟩
theorem Zp1 (w:World) (n:Nat) (hn:n<=18):Calls Tryz.prog 259 #[.agg #[.int .i64 10,.slice none 0 0],.int .i64 (n:Int)] w (Ret (.agg #[.int .i64 (10^n),.slice none 0 0]) w):=by
  have HO:=Zh (fun (w1:World) (n:Int)=>of94 n w1);have HM:=Zh (fun (w1:World) (r q s:Nat) (h:r+q=s) (hs:s<=18)=>(by
    have h:=Zo8 w1 (10^r) (10^q) (Zk4 (by omega)) (Zk4 (by omega)) (by rw [<-Int.pow_add,h];exact Zk4 hs);rw [<-Int.pow_add] at h;subst s;exact h:Calls Tryz.prog 234 #[.agg #[.int .i64 (10^r),.slice none 0 0],.agg #[.int .i64 (10^q),.slice none 0 0]] w1 (Ret (.agg #[.int .i64 (10^s),.slice none 0 0]) w1)))
  have HP:=Zh (fun (n:Nat)=>show (10:Int)^n=10^n from rfl);have HP1:=Zh (show (10:Int)^1=10/\(10:Int)^0=1 from ⟨by decide,by decide⟩);obtain ⟨p,hp⟩: ∃p:Nat->Int,(fun n=>(10:Int)^n)=p:=⟨_,rfl⟩;have hp': ∀n:Nat,(10:Int)^n=p n:=fun n=>congrFun hp n;have HM2:=Zh (fun (w1:World) (r q s:Nat) (h:r+q=s) (hs:s<=18)=>(by
    have h:=HM.out w1 r q s h hs;rw [hp' r,hp' q,hp' s] at h;exact h:Calls Tryz.prog 234 #[.agg #[.int .i64 (p r),.slice none 0 0],.agg #[.int .i64 (p q),.slice none 0 0]] w1 (Ret (.agg #[.int .i64 (p s),.slice none 0 0]) w1)))
  rw [hp' 1,hp' 0] at HP1;rw [hp' n];clear HM HP hp hp';have HN:=Zh hn;clear hn;have HB_0:=Zh ((Below.refl w.heap.size w).alloc (Nat.le_refl _) (.cells #[.int .i64 10,.slice none 0 0] 133));have HB:=Zh (HB_0.alloc HB_0.size (.cells #[.int .i64 0,.slice none 0 0] 133));have HX:=Zh ((Box.new w #[.int .i64 10,.slice none 0 0] 133).alloc (.cells #[.int .i64 0,.slice none 0 0] 133));have HZ:=Zh (Box.newAt (w.alloc (.cells #[.int .i64 10,.slice none 0 0] 133)) #[.int .i64 0,.slice none 0 0] 133 (n:=w.heap.size+1) (by simp));obtain ⟨x0,x1,xf,xz⟩:=HX.v2;obtain ⟨z0,z1,zf,zz⟩:=HZ.v2;clear HB_0;go_enter Tryz.func259,Tryz.ntmps259;go_wp2_with fail;refine (HO.out _ _).mono ?_;rintro e4 w4 ⟨rfl,hb⟩;replace HB:=Zh (HB.Zg hb);replace HX:=Zh (HX.later hb);replace HZ:=Zh (HZ.later hb);clear hb x0 x1 xf xz z0 z1 zf zz;obtain ⟨x0,x1,xf,xz⟩:=HX.v2;obtain ⟨z0,z1,zf,zz⟩:=HZ.v2;have HR:=Zh (Box.new w4 #[.int .i64 1,.slice none 0 0] 133);have HB4:=Zh (HB.alloc HB.size (.cells #[.int .i64 1,.slice none 0 0] 133));have HX4:=Zh (HX.alloc (.cells #[.int .i64 1,.slice none 0 0] 133));have HZ4:=Zh (HZ.alloc (.cells #[.int .i64 1,.slice none 0 0] 133));have HLT:=Zh (show w.heap.size<w4.heap.size/\w.heap.size+1<w4.heap.size from ⟨HX.lt,HZ.lt⟩);go_wp2_with fail;clear x0 x1 xf xz z0 z1 zf zz HX HZ HB;generalize w4.alloc (.cells #[.int .i64 1,.slice none 0 0] 133)=w5 at *;generalize w4.heap.size=g at *
  go_loopw [1] (fun i wr=> ∃r q k:Nat,r+q* k=n/\q≠0/\i= .int .i64 (k:Int)/\Below w.heap.size w wr/\Box wr w.heap.size 133 [.int .i64 (p q),.slice none 0 0]/\Box wr g 133 [.int .i64 (p r),.slice none 0 0]/\Box wr (w.heap.size+1) 133 [.int .i64 0,.slice none 0 0]) (fun i _=>(intOf i).toNat)
  case atStart=>exact ⟨0,1,n,by omega,by decide,rfl,HB4.out,by rw [HP1.out.1];exact HX4.out,by rw [HP1.out.2];exact HR.out,HZ4.out⟩
  case round=>
    obtain ⟨r,q,k,hk,HQ,rfl,hbe,hbx,hbr,hbz⟩:=hrel;have HX:=Zh hbx;have HR:=Zh hbr;have HZ:=Zh hbz;have HB:=Zh hbe;have HK:=Zh hk;clear hk hbe hbx hbr hbz HX4 HZ4 HB4;obtain ⟨x0,x1,xf,xz⟩:=HX.v2;obtain ⟨r0,r1,rf,rz⟩:=HR.v2;obtain ⟨z0,z1,zf,zz⟩:=HZ.v2
    by_cases h0:k=0
    ·subst h0;have e:r=n:=by have:=HK.out;omega
     subst e;go_wp2_with fail;refine bodyPost_ret (v:= .agg #[.int .i64 (p r),.slice none 0 0]) (by simp [results,Tryz.results259,go_sem, *]) rfl ?_;refine Ret.mk rfl ?_
     repeat (first|with_reducible exact HB.out|with_reducible exact Below.refl _ _|refine .Zs ?_ _|refine .Za ?_ _|refine .drew ?_)
    ·have d0:decide ((0:Int)<(k:Int))=true:=Zt (by omega);have hk18:q=0∨k<=18:=by
       rcases Nat.eq_zero_or_pos q with h|h
       ·exact .inl h
       ·have:=HK.out;have:=HN.out;have:=Nat.le_mul_of_pos_left k h;exact .inr (by omega)
     have k1:(k:Int) / 2=((k / 2:Nat):Int):=by omega
     have hq1:q≠0:=HQ;have hbit:bits BinOp.and IntKind.i64 (k:Int) 1=((k % 2:Nat):Int):=by
       have: ∀k:Nat,k<19->bits BinOp.and IntKind.i64 (k:Int) 1=((k % 2:Nat):Int):=by decide
       exact this k (by omega)
     have hd:(k % 2=1/\1<k)∨(k % 2=1/\k=1)∨(k % 2=0/\1<k):=by omega
     obtain ⟨h,hh⟩: ∃h,k / 2=h:=⟨_,rfl⟩;have HH:=Zh (show k=2* h+k % 2 by omega);rw [hh] at k1;have HMU:=Zh (show q* k=q* 2* h+q* (k % 2) by rw [Nat.mul_assoc,<-Nat.mul_add,<-HH.out]);clear hk18 hh;have hpos:0<k:=by omega
     have d2:decide (0<k)=true:=Zt (by omega);clear h0 hq1
     rcases hd with ⟨hp,h1⟩|⟨hp,h1⟩|⟨hp,h1⟩
     ·rw [hp] at hbit HMU;have d1:decide ((1:Int)<(k:Int))=true:=Zt (by omega);have d3:decide (1<k)=true:=Zt (by omega);clear hp;go_wp2_with fail;refine (HM2.out wr r q (r+q) rfl (by have:=HK.out;have:=HN.out;have:=HMU.out;have:=Nat.le_mul_of_pos_right q (show 0<k by omega);omega)).mono ?_;rintro e6 w6 ⟨rfl,hb⟩;have HB6:=Zh (HB.Zg hb);have HX6:=Zh (HX.later hb);have HR6:=Zh (HR.later hb);have HZ6:=Zh (HZ.later hb);clear hb x0 x1 xf xz r0 r1 rf rz z0 z1 zf zz HX HR HZ HB;have HX:=Zh ((HX6.other (a:=⟨g,0,none⟩) (.int .i64 (p (r+q))) (by have:=HLT.out;dsimp only;omega)).other (a:=⟨g,1,none⟩) (.slice none 0 0) (by have:=HLT.out;dsimp only;omega));have HR:=Zh ((HR6.set 0 (.int .i64 (p (r+q)))).set 1 (.slice none 0 0));have HZ:=Zh ((HZ6.other (a:=⟨g,0,none⟩) (.int .i64 (p (r+q))) (by have:=HLT.out;dsimp only;omega)).other (a:=⟨g,1,none⟩) (.slice none 0 0) (by have:=HLT.out;dsimp only;omega));have HB:=Zh ((HB6.setCell (p:=⟨g,0,none⟩) (by have:=HLT.out;dsimp only;omega) (.int .i64 (p (r+q)))).setCell (p:=⟨g,1,none⟩) (by have:=HLT.out;dsimp only;omega) (.slice none 0 0));obtain ⟨r0,r1,rf,rz⟩:=HR6.v2;obtain ⟨x0,x1,xf,xz⟩:=HX.v2;clear HX6 HZ6 HB6;go_wp2_with fail;refine (HM2.out _ q q (q* 2) (by omega) (by have:=HK.out;have:=HN.out;have:=HMU.out;have:q* 2* 1<=q* 2* h:=Nat.mul_le_mul_left _ (by omega);omega)).mono ?_;rintro e7 w7 ⟨rfl,hb⟩;have HB6:=Zh (HB.Zg hb);have HX6:=Zh (HX.later hb);have HR6:=Zh (HR.later hb);have HZ6:=Zh (HZ.later hb);clear hb x0 x1 xf xz HX HR HZ HB
      try clear r0 r1 rf rz
      try clear z0 z1 zf zz
      obtain ⟨x0,x1,xf,xz⟩:=HX6.v2;go_wp2_with fail;go_roundw
      case rel=>
        refine ⟨r+q,q* 2,h,by have:=HK.out;have:=HMU.out;omega,by omega,by go_num,?_,(HX6.set 0 (.int .i64 (p (q* 2)))).set 1 (.slice none 0 0),(HR6.other (a:=⟨w.heap.size,0,none⟩) (.int .i64 (p (q* 2))) (by have:=HLT.out;dsimp only;omega)).other (a:=⟨w.heap.size,1,none⟩) (.slice none 0 0) (by have:=HLT.out;dsimp only;omega),(HZ6.other (a:=⟨w.heap.size,0,none⟩) (.int .i64 (p (q* 2))) (by dsimp only;omega)).other (a:=⟨w.heap.size,1,none⟩) (.slice none 0 0) (by dsimp only;omega)⟩
        repeat (first|with_reducible exact HB6.out|with_reducible exact Below.refl _ _|refine .Zs ?_ _|refine .Za ?_ _|refine .drew ?_)
      case measure=>simp [intOf];omega
     ·rw [hp] at hbit HMU;have d1:decide ((1:Int)<(k:Int))=false:=Zf (by omega);have d3:decide (1<k)=false:=Zf (by omega);clear hp;go_wp2_with fail;refine (HM2.out wr r q (r+q) rfl (by have:=HK.out;have:=HN.out;have:=HMU.out;have:=Nat.le_mul_of_pos_right q (show 0<k by omega);omega)).mono ?_;rintro e6 w6 ⟨rfl,hb⟩;have HB6:=Zh (HB.Zg hb);have HX6:=Zh (HX.later hb);have HR6:=Zh (HR.later hb);have HZ6:=Zh (HZ.later hb);clear hb x0 x1 xf xz r0 r1 rf rz z0 z1 zf zz HX HR HZ HB;have HX:=Zh ((HX6.other (a:=⟨g,0,none⟩) (.int .i64 (p (r+q))) (by have:=HLT.out;dsimp only;omega)).other (a:=⟨g,1,none⟩) (.slice none 0 0) (by have:=HLT.out;dsimp only;omega));have HR:=Zh ((HR6.set 0 (.int .i64 (p (r+q)))).set 1 (.slice none 0 0));have HZ:=Zh ((HZ6.other (a:=⟨g,0,none⟩) (.int .i64 (p (r+q))) (by have:=HLT.out;dsimp only;omega)).other (a:=⟨g,1,none⟩) (.slice none 0 0) (by have:=HLT.out;dsimp only;omega));have HB:=Zh ((HB6.setCell (p:=⟨g,0,none⟩) (by have:=HLT.out;dsimp only;omega) (.int .i64 (p (r+q)))).setCell (p:=⟨g,1,none⟩) (by have:=HLT.out;dsimp only;omega) (.slice none 0 0));obtain ⟨r0,r1,rf,rz⟩:=HR6.v2;obtain ⟨x0,x1,xf,xz⟩:=HX.v2;clear HX6 HZ6 HB6;go_wp2_with fail;go_roundw
      case rel=>
        have e:h=0:=by have:=HH.out;omega
        subst e;exact ⟨r+q,q,0,by have:=HK.out;have:=HMU.out;omega,HQ,by go_num,HB.out,HX.out,HR.out,HZ.out⟩
      case measure=>simp [intOf];omega
     ·rw [hp] at hbit HMU;have d1:decide ((1:Int)<(k:Int))=true:=Zt (by omega);have d3:decide (1<k)=true:=Zt (by omega);clear hp;go_wp2_with fail;refine (HM2.out _ q q (q* 2) (by omega) (by have:=HK.out;have:=HN.out;have:=HMU.out;have:q* 2* 1<=q* 2* h:=Nat.mul_le_mul_left _ (by omega);omega)).mono ?_;rintro e7 w7 ⟨rfl,hb⟩;have HB6:=Zh (HB.Zg hb);have HX6:=Zh (HX.later hb);have HR6:=Zh (HR.later hb);have HZ6:=Zh (HZ.later hb);clear hb x0 x1 xf xz HX HR HZ HB
      try clear r0 r1 rf rz
      try clear z0 z1 zf zz
      obtain ⟨x0,x1,xf,xz⟩:=HX6.v2;go_wp2_with fail;go_roundw
      case rel=>
        refine ⟨r,q* 2,h,by have:=HK.out;have:=HMU.out;omega,by omega,by go_num,?_,(HX6.set 0 (.int .i64 (p (q* 2)))).set 1 (.slice none 0 0),(HR6.other (a:=⟨w.heap.size,0,none⟩) (.int .i64 (p (q* 2))) (by have:=HLT.out;dsimp only;omega)).other (a:=⟨w.heap.size,1,none⟩) (.slice none 0 0) (by have:=HLT.out;dsimp only;omega),(HZ6.other (a:=⟨w.heap.size,0,none⟩) (.int .i64 (p (q* 2))) (by dsimp only;omega)).other (a:=⟨w.heap.size,1,none⟩) (.slice none 0 0) (by dsimp only;omega)⟩
        repeat (first|with_reducible exact HB6.out|with_reducible exact Below.refl _ _|refine .Zs ?_ _|refine .Za ?_ _|refine .drew ?_)
      case measure=>simp [intOf];omega
end Go.Proofs.YtijajkfmlghgkaaGreatDoor.Nu
namespace Go.Proofs.YtijajkfmlghgkaaGreatDoor
open Go.Lib
theorem Zh9: ∀ (l:List UInt8) (a:Nat),(∀c∈l,Zcb c)->decFrom a l=some (l.foldl (fun n c=>10* n+(c.toNat-48)) a):=by
  intro l
  induction l with
  | nil=>intro a _;rfl
  | cons c l ih=>
    intro a h;have hc:=h c List.mem_cons_self;obtain ⟨hc1,hc2⟩:=hc;unfold decFrom digitVal;rw [if_pos (show 48<=c.toNat/\c.toNat<=57 from ⟨hc1,hc2⟩)];simp only [List.foldl_cons];rw [Nat.mul_comm a 10];exact ih _ (fun x hx=>h x (List.mem_cons_of_mem _ hx))
theorem Zng {l:List UInt8} (h: ∀c∈l,Zcb c) (h0:l≠ []):atoi l=some (dval l:Int):=by
  cases l with
  | nil=>exact absurd rfl h0
  | cons b r=>
    have hb:=h b List.mem_cons_self;have e1:(b==45)=false:=beq_eq_false_iff_ne.2 (by rintro rfl;exact absurd hb (by decide));have e2:(b==43)=false:=beq_eq_false_iff_ne.2 (by rintro rfl;exact absurd hb (by decide));unfold atoi;dsimp only;rw [e1,e2];simp only [Bool.false_eq_true,if_false];unfold decNat;rw [if_neg (by simp),Zh9 _ _ h];rfl
theorem Zgk (l:List UInt8) (c:UInt8):hasPrefix l [c]=decide (l.head?=some c):=by
  unfold hasPrefix;cases l with
  | nil=>simp [List.isPrefixOf]
  | cons b l=>
    simp only [List.isPrefixOf,List.head?_cons,Option.some.injEq,Bool.and_true]
    by_cases h:c=b
    ·subst h;simp
    ·rw [Zf (fun e=>h e.symm)];simpa using h
theorem Zdl (z:Int):hasPrefix (itoa z) [45]=decide (z<0):=by
  rw [Zgk]
  by_cases h:z<0
  ·rw [Zbc h,Zt h];simp
  ·rw [Zf h,Zf (Zei (by omega))]
theorem Zcm (z:Int):trimPrefix (itoa z) [45]=decDigits z.natAbs:=by
  unfold trimPrefix;rw [Zdl]
  by_cases h:z<0
  ·rw [Zt h,Zbc h];rfl
  ·rw [Zf h,Zav (by omega),show z.toNat=z.natAbs by omega];rfl
theorem Zf3 {l:List UInt8} {c:UInt8} (h:c∉l):indexByte l c= -1:=by
  induction l with
  | nil=>rfl
  | cons b l ih=>
    unfold indexByte;rw [if_neg (by simp;rintro rfl;exact h List.mem_cons_self),ih (fun hx=>h (List.mem_cons_of_mem _ hx))];rfl
theorem Znh {l:List UInt8} {c:UInt8} (h:c∉l):cut l [c]=(l,[],false):=by
  unfold cut;rw [index_one,Zf3 h];rfl
theorem Zni (z:Int):cut (itoa z) [47]=(itoa z,[],false):=Znh (Zcw z)
theorem Zgl {a b:List UInt8} {c:UInt8} (h:c∉a):indexByte (a++c::b) c=(a.length:Int):=by
  induction a with
  | nil=>simp [indexByte]
  | cons x a ih=>
    have h1:x≠c:=by rintro rfl;exact h List.mem_cons_self
    have e:=ih (fun hx=>h (List.mem_cons_of_mem _ hx));rw [List.cons_append];unfold indexByte;rw [if_neg (by simpa using h1),e,if_neg (by simp)];simp
theorem Zp2 {a b:List UInt8} {c:UInt8} (h:c∉a):cut (a++c::b) [c]=(a,b,true):=by
  unfold cut;rw [index_one,Zgl h,if_pos (by omega)];simp
def digT:List UInt8:=[48,49,50,51,52,53,54,55,56,57]
theorem Znj {c:UInt8} (h:Zcb c):digT.contains c=true:=by
  obtain ⟨h1,h2⟩:=h;have hc:c=UInt8.ofNat c.toNat:=by simp
  rw [hc];generalize c.toNat=n at *;have: ∀n:Nat,n<58->48<=n->digT.contains (UInt8.ofNat n)=true:=by decide
  exact this n (by omega) h1
theorem Zgm {α:Type} {p:α->Bool} {l:List α} (h: ∀x∈l,p x=true):l.dropWhile p=[]:=by
  induction l with
  | nil=>rfl
  | cons x l ih=>rw [List.dropWhile_cons,if_pos (h x List.mem_cons_self)];exact ih (fun y hy=>h y (List.mem_cons_of_mem _ hy))
theorem Zk5 {l:List UInt8} (h: ∀c∈l,Zcb c):trimS l digT=[]:=by
  unfold trimS trimRightS trimLeftS;rw [Zgm (l:=l.reverse) (fun x hx=>Znj (h x (List.mem_reverse.1 hx)))];rfl
end Go.Proofs.YtijajkfmlghgkaaGreatDoor
namespace Go.Proofs.YtijajkfmlghgkaaGreatDoor.Nu
open Go Go.Proofs Go.RowKit Go.Proofs.YtijajkfmlghgkaaGreatDoor
def slen:Value->Nat
  | .string s=>s.size
  | _=>0
def Zk6 (m:Nat):Nat:=if m=0 then 0 else m.log2+1
theorem Zia {l:List Nat} {p y b:Nat} (hd:Dg (2^64) l) (hp:l.length=p+1) (hy:l[p]'(by omega)=y) (h1:1<=b) (h2:2^ (b-1)<=y) (h3:y<2^b):Zk6 (val (2^64) l)=64* p+b:=by
  have e:=Za3 (2^64) l p (by omega);rw [Zcf _ _ _ (by omega),hy,show p+1=l.length by omega,List.drop_length] at e;have e0:val (2^64) ([]:List Nat)=0:=rfl;rw [e0,Nat.mul_zero,Nat.add_zero] at e;have e1:=Zbg (hd.take p);rw [List.length_take,Nat.min_eq_left (by omega)] at e1;have hP:0<(2^64)^p:=Nat.pow_pos (by decide);have p1:2^ (64* p+(b-1))=(2^64)^p* 2^ (b-1):=by rw [Nat.pow_add,Nat.pow_mul]
  have p2:2^ (64* p+b)=(2^64)^p* 2^b:=by rw [Nat.pow_add,Nat.pow_mul]
  have m1:(2^64)^p* 2^ (b-1)<=(2^64)^p* y:=Nat.mul_le_mul_left _ h2;have m2:(2^64)^p* (y+1)<=(2^64)^p* 2^b:=Nat.mul_le_mul_left _ h3;rw [Nat.mul_add] at m2;have hpb:0<2^ (b-1):=Nat.pow_pos (by decide);have m3:0<(2^64)^p* 2^ (b-1):=Nat.mul_pos hP hpb;have hne:val (2^64) l≠0:=by omega
  unfold Zk6;rw [if_neg hne];have h:=(Nat.log2_eq_iff (k:=64* p+(b-1)) hne).2 ⟨by rw [p1];omega,by rw [show 64* p+(b-1)+1=64* p+b by omega,p2];omega⟩;omega
theorem Zp3 (w:World) (v:Value) (z:Int) (h:IntR w v z) (hw:Wds 1000000 z):Calls Tryz.prog 284 #[v] w (Ret (.int .i64 ((Zk6 z.natAbs:Nat):Int)) w):=by
  obtain ⟨s1,a1,n1,c1,rfl,_,hs1,hs1',hf1⟩:=h.form;have HP1:=Zh (fun (w1:World) (hb:Below w.heap.size w w1)=>Zcz w1 _ z (h.later hb));have HB:=Zh ((Below.refl w.heap.size w).alloc (Nat.le_refl _) (.cells #[.int .i64 s1,.slice a1 n1 c1] 133));have HX:=Zh (Box.new w #[.int .i64 s1,.slice a1 n1 c1] 133);obtain ⟨x0,x1,xf,xz⟩:=HX.v2;have HW:=Zh hw.abs;obtain ⟨nb,hnb⟩: ∃x,Zk6 z.natAbs=x:=⟨_,rfl⟩;have HNB:=Zh hnb;obtain ⟨sg,hsg⟩: ∃p,decide (z<0)=p:=⟨_,rfl⟩;unfold Zdz at HP1;rw [hsg] at HP1;rw [hnb];clear h hw hf1 hs1 hs1' hnb hsg;go_enter Tryz.func284,Tryz.ntmps284;go_wp2_with fail;refine (HP1.out _ HB.out).mono ?_;rintro e4 w4 ⟨a4,n4,c4,l4,rfl,hw4,hn4,hb⟩;have HB4:=Zh (HB.Zg hb);have hl4:=hw4.len HW.out;have hve:=hw4.eq;have hdg:=hw4.dg;have htr:=hw4.tr;obtain ⟨a',c',e,hl,hl',hA⟩:=hw4.sc;injection e with e1 e2 e3
  subst e1 e3;clear e2 hb x0 x1 xf xz hw4
  by_cases h0:n4=0
  ·subst h0;have hnz:nb=0:=by
     have e:l4=[]:=List.eq_nil_of_length_eq_zero hn4.symm;rw [e] at hve;have h1:z.natAbs=0:=hve.symm;rw [<-HNB.out,h1];rfl
   subst hnz;clear hn4 hl4 hve hdg htr hl hl' hA;go_wp2_with fail;go_ret;exact ⟨rfl,HB4.out⟩
  ·obtain ⟨p,rfl⟩: ∃p,n4=p+1:=⟨n4-1,by omega⟩;have hpl:p<l4.length:=by omega
   obtain ⟨b4,o4,rfl,hbb,hcells⟩:=hA (by omega);obtain ⟨y,hy⟩: ∃y,l4[p]=y:=⟨_,rfl⟩;have g0:=(hcells p hpl).c1;rw [Nat.mul_one,hy] at g0;have hyB:y<2^64:=hy ▸ hdg.get p hpl;have hy0:y≠0:=by
     have:=htr.last (by omega);simp only [<-hn4,Nat.add_sub_cancel] at this
     rwa [hy] at this
   obtain ⟨b1,b2,b3⟩:=Lib.bitLenAux_bounds 64 y hyB hy0;have hbl:=Lib.bitLenAux 64 y;have hlb:Lib.bitLen y<=64:=by
     rcases Nat.lt_or_ge 64 (Lib.bitLen y) with h|h
     ·have h5:2^64<=2^ (Lib.bitLen y-1):=Nat.pow_le_pow_right (by decide) (by omega);have h6:2^ (Lib.bitLen y-1)<=y:=b2;omega
     ·exact h
   have hnw:=Zia hdg hn4.symm hy b1 b2 b3;rw [hve,HNB.out] at hnw;have HL:=Zh ((Tryz.bits_Len64 (y:Int) w4 (by omega) (by omega)).mono (fun e w' h=>(⟨by rw [h.1];rfl,h.2⟩:e= .returned (.int .i64 ((Lib.bitLenAux 64 y:Nat):Int))/\w'=w4)));have hlb2:Lib.bitLenAux 64 y<=64:=hlb;obtain ⟨bl,hbl2⟩: ∃x,Lib.bitLenAux 64 y=x:=⟨_,rfl⟩;rw [hbl2] at HL hnw hlb2;have k1:IntKind.i64.wrap (p:Int)=(p:Int):=IntWalk.i64_in _ (by omega);have k1':IntKind.i64.wrap ((p:Int)+1-1)=(p:Int):=by rw [Int.add_sub_cancel];exact k1
   have k2:IntKind.i64.wrap (64* (p:Int))=((64* p:Nat):Int):=by rw [IntWalk.i64_in _ (by omega)];omega
   have k3:IntKind.i64.wrap (((64* p:Nat):Int)+(bl:Int))=(nb:Int):=by rw [IntWalk.i64_in _ (by omega)];omega
   have k3':IntKind.i64.wrap (64* (p:Int)+(bl:Int))=(nb:Int):=by rw [IntWalk.i64_in _ (by omega)];omega
   have d1:(((p+1:Nat):Int)==0)=false:=beq_eq_false_iff_ne.2 (by omega);have hpn:p<p+1:=Nat.lt_succ_self p;clear hn4 hl4 hve hdg htr hl hA hcells hy hyB hy0 b1 b2 b3 hbl hlb hbl2 h0 hpl hnw;go_wp2_with fail;refine HL.mono ?_;rintro e6 w6 ⟨rfl,rfl⟩;go_wp2_with fail;go_ret;exact ⟨rfl,HB4.out⟩
theorem Zk7 {P:Program} {nm:String} {k:IntKind} {zs:List Int} {w w':World} (h:Lib.TabIs P w nm k zs) (hb:Below w.heap.size w w'):Lib.TabIs P w' nm k zs:=by
  unfold Lib.TabIs World.var? at h ⊢;cases hg:P.globalNamed nm with
  | none=>rw [hg] at h;cases h
  | some g=>
    rw [hg] at h;simp only [Option.bind_some] at h ⊢;have hlt:g<w.heap.size:=by
     rcases Nat.lt_or_ge g w.heap.size with h1|h1
     ·exact h1
     ·rw [Array.getElem?_eq_none h1] at h;cases h
    rw [hb.block g hlt];exact h
structure TbR (w:World):Prop where
  tab:Lib.TabIs Tryz.prog w "internal/strconv.uint64pow10" .u64 Lib.pow10Tab
  mx: ∃m:Int,w.cell? ⟨0,0,none⟩=some (.int .i64 m)
theorem TbR.later {w w':World} (h:TbR w) (hb:Below w.heap.size w w'):TbR w':=
  ⟨Zk7 h.tab hb,by obtain ⟨m,hm⟩:=h.mx;exact ⟨m,(hb.cell (p:=⟨0,0,none⟩) (World.block_lt_of_cell? _ _ hm)).trans hm⟩⟩
theorem Zk8 (w:World) (hw:TbR w) (z:Int) (h1: -9223372036854775808<=z) (h2:z<=9223372036854775807):Calls Tryz.prog 220 #[.int .i64 z] w (Ret (.string (txz z)) w):=
  (Tryz.strconv_Itoa z h1 h2 w hw.tab).mono fun _ _ h=>⟨h.1,by obtain ⟨k,os,rfl⟩:=h.2;exact Lib.below_grow _ _ (Nat.le_refl _) k os⟩
end Go.Proofs.YtijajkfmlghgkaaGreatDoor.Nu
namespace Go.Proofs.YtijajkfmlghgkaaGreatDoor.Nu
open Go Go.Proofs Go.RowKit Go.Shelf Go.Sort Go.Proofs.YtijajkfmlghgkaaGreatDoor
theorem Zib (w:World) (T:TypeId) (nd:Nat) (hs:nd<=24):Holds (fun (b:UInt8)=>Value.int .u8 (b.toNat:Int)) (w.alloc (.cells Lib.zeros24 T)) w.heap.size 0 (Array.replicate nd (0:UInt8)):=fun j hj=>by
  have hj':j<nd:=by simpa using hj
  refine ⟨?_,World.frozen?_alloc_new _ _ _ _⟩;rw [World.cell?_alloc_new,Nat.zero_add,Lib.zeros24_at _ (by omega),getElem!_pos _ j hj];simp
theorem Zjz (w:World) (o:Obj) (dk:Array UInt8) (k:Nat):Below w.heap.size w ((putRow (fun (b:UInt8)=>Value.int .u8 (b.toNat:Int)) (w.alloc o) w.heap.size 0 dk).drewN k):=by
  obtain ⟨os',_,e⟩:=putRow_grow_new (fun (b:UInt8)=>Value.int .u8 (b.toNat:Int)) w #[o] w.heap.size 0 dk (Nat.le_refl _);rw [alloc_eq_grow,e];exact Lib.below_grow _ _ (Nat.le_refl _) k os'
theorem Zp4 (w:World) (hw:TbR w) (u:Nat) (hu:u<9223372036854775808):Calls Tryz.prog 327 #[.int .u64 (u:Int),.int .i64 10] w (Ret (.string (tx (Lib.decDigits u))) w):=by
  have k1:IntKind.i64.wrap (u:Int)=u:=IntWalk.i64_in _ (by omega)
  by_cases hs:u<100
  ·have d1:decide ((u:Int)<100)=true:=Zt (by omega);have d2:decide (u<100)=true:=Zt hs;have HS:=Zh (fun (w1:World)=>(Any.internal_strconv_small { Tryz.laysM171 with } u hs w1:Calls Tryz.prog 379 #[.int .i64 (u:Int)] w1 fun e w'=>e= .returned (.string ⟨(Lib.decDigits u).toArray⟩)/\w'=w1));go_enter Tryz.func327,Tryz.ntmps327;go_wp2_with fail;refine (HS.out _).mono ?_;rintro e4 w4 ⟨rfl,rfl⟩;go_wp2_with fail;go_ret;exact ⟨rfl,Below.refl _ _⟩
  ·have d1:decide ((u:Int)<100)=false:=Zf (by omega);have d2:decide (u<100)=false:=Zf hs;have hu1:1<=u:=by omega
   have hu64:u<18446744073709551616:=by omega
   have hnd20:Lib.nDigits u<=20:=by have:=Lib.numDigits_eq u hu1 hu64;split at this <;> omega
   have hal:Tryz.prog.arrayLen 428=24:=by simp [Program.arrayLen,Tryz.underlying428]
   have hsl: ∀W,(Instr.sliceAt 428 (.pointer (some ⟨w.heap.size,0,none⟩)) none (some (.int .i64 (Lib.nDigits u:Int))) none).run Tryz.prog W= .ok (.slice (some ⟨w.heap.size,0,none⟩) (Lib.nDigits u) 24) W:=fun W=>by
     rw [run_sliceAt_array_h W 428 ⟨w.heap.size,0,none⟩ (by simp [Program.arrayLen,Program.elem,Tryz.underlying428]) .i64 (Lib.nDigits u:Int) (by omega) (by rw [hal];omega)]
     go_simp
   have hH0:=Zib w 428 (Lib.nDigits u) (by omega);have hfmt:=Any.internal_strconv_formatBase10 (P:=Tryz.prog) (ρ:=Tryz.laysM171_ren) { Tryz.laysM171 with } w.heap.size 0 24 u (Array.replicate (Lib.nDigits u) 0) (w.alloc (.cells Lib.zeros24 428)) hH0 (by rw [Array.size_replicate];exact Lib.lt_pow_nDigits u) hu64 (by rw [Array.size_replicate];omega);rw [Array.size_replicate] at hfmt;have HND:=Zh (fun (w1:World) (hb:Below w.heap.size w w1)=>(Any.internal_strconv_numDigits { Tryz.laysM171 with } u hu1 hu64 w1 (hw.later hb).tab:Calls Tryz.prog 380 #[.int .u64 (u:Int)] w1 fun e w'=>e= .returned (.int .i64 (Lib.nDigits u))/\w'=w1));have HB:=Zh ((Below.refl w.heap.size w).alloc (Nat.le_refl _) (.cells Lib.zeros24 428));have HFM:=Zh (hfmt:Calls Tryz.prog 381 #[.slice (some ⟨w.heap.size,0,none⟩) (Lib.nDigits u) 24,.int .u64 (u:Int)] (w.alloc (.cells Lib.zeros24 428)) _);have HH0:=Zh hH0;have HNU:=Zh (And.intro hu1 hnd20);clear hH0 hal hfmt hw hu hs hu1 hu64 hnd20;go_enter Tryz.func327,Tryz.ntmps327;go_wp2_with fail;refine (HND.out _ HB.out).mono ?_;rintro e4 w4 ⟨rfl,rfl⟩;go_wp2_with fail;refine HFM.mono ?_;rintro e w' ⟨rfl,k,v',dk,rfl,hF⟩;have hcv:(convert 351 9 (.slice (some ⟨w.heap.size,0,none⟩) (Lib.nDigits u) 24)).run Tryz.prog ((putRow (fun (b:UInt8)=>Value.int .u8 (b.toNat:Int)) (w.alloc (.cells Lib.zeros24 428)) w.heap.size 0 dk).drewN k)= .ok (.string ⟨(Lib.decDigits u).toArray⟩) ((putRow (fun (b:UInt8)=>Value.int .u8 (b.toNat:Int)) (w.alloc (.cells Lib.zeros24 428)) w.heap.size 0 dk).drewN k):=by
     have h:=run_convert_bytes_back (P:=Tryz.prog) ((putRow (fun (b:UInt8)=>Value.int .u8 (b.toNat:Int)) (w.alloc (.cells Lib.zeros24 428)) w.heap.size 0 dk).drewN k) 351 9 5 ⟨w.heap.size,0,none⟩ 24 (Lib.decDigits u) Tryz.underlying351 Tryz.underlying5 Tryz.underlying9 (fun j hj=>by
       rw [Lib.row_is_numeral hF j hj,Lib.add_plain,World.cell?_drewN];exact cell?_putRow (fun (b:UInt8)=>Value.int .u8 (b.toNat:Int)) _ w.heap.size 0 _ dk HH0.out (by rw [hF.size,Array.size_replicate]) j (by rw [hF.size];rw [Lib.decDigits_length] at hj;exact hj))
     rw [Lib.decDigits_length] at h;exact h
   clear hF HFM HND;go_wp2_with fail;go_ret;exact ⟨rfl,Zjz w _ dk k⟩
theorem Zp5 (w:World) (hw:TbR w) (u:Nat) (hu:u<9223372036854775808):Calls Tryz.prog 268 #[.int .u64 (u:Int),.int .i64 10] w (Ret (.string (tx (Lib.decDigits u))) w):=by
  have HS:=Zh (Zp4 w hw u hu);clear hw hu;go_enter Tryz.func268,Tryz.ntmps268;go_wp2_with fail;refine HS.mono ?_;rintro e4 w4 ⟨rfl,hb⟩;have HB:=Zh hb;clear hb;go_wp2_with fail;go_ret;exact ⟨rfl,HB.out⟩
end Go.Proofs.YtijajkfmlghgkaaGreatDoor.Nu
namespace Go.Proofs.YtijajkfmlghgkaaGreatDoor
open Go.Lib
def digB (c:UInt8):Bool:=decide (48<=c.toNat) && decide (c.toNat<=57)
theorem Zi0 (c:UInt8):digB c=true↔Zcb c:=by unfold digB Zcb;simp
def dfB (l:List UInt8):Bool:= !l.isEmpty && (decide (l.length=1) || !(l.head?==some 48)) && l.all digB
theorem Zdv {l:List UInt8} (h:dfB l=true): ∀c∈l,Zcb c:=by
  unfold dfB at h;simp only [Bool.and_eq_true,List.all_eq_true] at h;exact fun c hc=>(Zi0 c).1 (h.2 c hc)
theorem Zro {l:List UInt8} (h:dfB l=true):l≠ []:=by
  unfold dfB at h;rintro rfl;simp at h
theorem Zgn {l:List UInt8} (h:dfB l=true):l=decDigits (dval l):=by
  refine Zrh l.length l rfl (Zro h) (Zdv h) ?_;have h0:=h;unfold dfB at h;simp only [Bool.and_eq_true,Bool.or_eq_true,decide_eq_true_eq,Bool.not_eq_true'] at h
  rcases h.1.2 with h1|h1
  ·match l,h1 with
   | [c],_=>
     by_cases hc:c=48
     ·exact .inl (by rw [hc])
     ·right;simpa using hc
  ·right;exact beq_eq_false_iff_ne.1 h1
theorem Zk9 (n:Nat):dfB (decDigits n)=true:=by
  unfold dfB;have h1:(decDigits n).all digB=true:=List.all_eq_true.2 fun c hc=>(Zi0 c).2 (Zcl n c hc);have h2:(decDigits n).isEmpty=false:=by cases h:decDigits n with|nil=>exact absurd h (Zfh n)|cons a r=>rfl
  rw [h1,h2]
  rcases Nat.eq_zero_or_pos n with rfl|h
  ·rw [Zb4];rfl
  ·have:=Zix h;simp [this]
def Za6 (l:List UInt8):List UInt8:=if l.head?=some 45 then l.tail else l
def ckR (a:List UInt8):Int:=
  if (!dfB ((Za6 a).take (Za2 (Za6 a))) || (a.head?==some 45 && (Za6 a).take (Za2 (Za6 a))==[48]))=true then 1
  else if (decide (Za2 (Za6 a)<(Za6 a).length) && (!dfB ((Za6 a).drop (Za2 (Za6 a)+1)) || (Za6 a).drop (Za2 (Za6 a)+1)==[48] || (Za6 a).drop (Za2 (Za6 a)+1)==[49]))=true then 1
  else if 600<Za2 (Za6 a)∨600<((Za6 a).length:Int)-(Za2 (Za6 a):Int)-1 then 4
  else if (decide (Za2 (Za6 a)<(Za6 a).length) && !decide (Nat.gcd (dval ((Za6 a).take (Za2 (Za6 a)))) (dval ((Za6 a).drop (Za2 (Za6 a)+1)))=1))=true then 1 else 0
theorem Zi1 (l:List UInt8):Za2 l<=l.length:=List.findIdx_le_length
theorem Zi2 {l:List UInt8} (h:Za2 l<l.length):l=l.take (Za2 l)++47::l.drop (Za2 l+1):=by
  have h1:=List.take_append_drop (Za2 l) l;rw [List.drop_eq_getElem_cons h] at h1;have h2:l[Za2 l]=47:=by
    have:=List.findIdx_getElem (p:=(·==(47:UInt8))) (xs:=l) (w:=h);exact eq_of_beq this
  rw [h2] at h1;exact h1.symm
theorem Zp6 (neg:Bool) (n:Nat) (h:neg=true->n≠0):itoa (if neg then -(n:Int) else n)=(if neg then [45] else [])++decDigits n:=by
  cases neg with
  | true=>
    have:=h rfl;rw [if_pos rfl,if_pos rfl,Zbc (by omega)];simp
  | false=>
    rw [if_neg (by simp),if_neg (by simp),Zav (by omega)];simp
theorem Zhl (a:List UInt8):a=(if a.head?=some 45 then [45] else [])++Za6 a:=by
  unfold Za6
  split
  ·rename_i h
   match a,h with
   | c::r,h=>simp at h;subst h;rfl
  ·rfl
def mxd:Nat:=600
theorem Zi3:mxd=600:=rfl
structure Dn (k:Nat) (q:Rat):Prop where
  n:q.num.natAbs<10^k
  d:q.den<10^k
theorem Zo9 {a:List UInt8} (h:ckR a=0): ∃q:Rat,a=ratL q/\Dn mxd q:=by
  unfold ckR at h;have hle:=Zi1 (Za6 a);have hat:= @Zi2 (Za6 a);have hsg:=Zhl a;generalize Za6 a=s at *;generalize Za2 s=k at *
  split at h
  ·cases h
  rename_i h1
  split at h
  ·cases h
  rename_i h2
  split at h
  ·cases h
  rename_i h3
  split at h
  ·cases h
  rename_i h4;simp only [Bool.or_eq_true,Bool.and_eq_true,Bool.not_eq_true',decide_eq_true_eq,not_or,not_and,Bool.not_eq_false,beq_iff_eq,decide_eq_false_iff_not,Classical.not_not] at h1 h2 h3 h4;obtain ⟨h11,h12⟩:=h1;have e1:=Zgn h11;obtain ⟨m,hm⟩: ∃m,dval (s.take k)=m:=⟨_,rfl⟩;rw [hm] at e1 h4;have hm6:m<10^mxd:=by
    have:=Zc0 (Zdv h11);rw [hm,List.length_take] at this;exact Nat.lt_of_lt_of_le this (Nat.pow_le_pow_right (by decide) (by have:=Zi3;omega))
  have hneg:decide (a.head?=some 45)=true->m≠0:=fun hh hz=>by
    subst hz;have:=h12 (of_decide_eq_true hh);rw [e1,Zb4] at this;exact this rfl
  have hi:=Zp6 (decide (a.head?=some 45)) m hneg;have hab:((if decide (a.head?=some 45)=true then -(m:Int) else m):Int).natAbs=m:=by split <;> omega
  by_cases hk:k<s.length
  ·obtain ⟨⟨b1,b2⟩,b3⟩:=h2 hk;have e2:=Zgn b1;have hs:=hat hk;have hg:=h4 hk;obtain ⟨d,hd⟩: ∃d,dval (s.drop (k+1))=d:=⟨_,rfl⟩;rw [hd] at e2 hg;have hd6:d<10^mxd:=by
     have:=Zc0 (Zdv b1);rw [hd,List.length_drop] at this;exact Nat.lt_of_lt_of_le this (Nat.pow_le_pow_right (by decide) (by have:=Zi3;omega))
   have hd0:d≠0:=fun hz=>by subst hz;rw [e2,Zb4] at b2;exact b2 rfl
   have hd1:d≠1:=fun hz=>by subst hz;rw [e2,Zb9 (by omega)] at b3;exact b3 rfl
   refine ⟨⟨if decide (a.head?=some 45)=true then -(m:Int) else m,d,hd0,by rw [hab];exact hg⟩,?_,⟨?_,hd6⟩⟩
   ·unfold ratL;dsimp only;rw [if_neg hd1,hi]
    conv=>lhs;rw [hsg,hs,e1,e2]
    simp
   ·dsimp only;rw [hab];exact hm6
  ·refine ⟨((if decide (a.head?=some 45)=true then -(m:Int) else m:Int):Rat),?_,⟨?_,?_⟩⟩
   ·rw [Ziy,hi]
    conv=>lhs;rw [hsg]
    rw [List.take_of_length_le (by omega)] at e1;rw [<-e1];simp
   ·rw [Rat.num_intCast,hab];exact hm6
   ·rw [Rat.den_intCast];exact Nat.one_lt_pow (by decide) (by decide)
theorem Zla (q:Rat):Za6 (ratL q)=decDigits q.num.natAbs++(if q.den=1 then [] else 47::decDigits q.den):=by
  unfold Za6
  by_cases h:q.num<0
  ·have e:ratL q=45::(decDigits q.num.natAbs++(if q.den=1 then [] else 47::decDigits q.den)):=by unfold ratL;rw [Zbc h];rfl
   rw [e];rfl
  ·have e:ratL q=decDigits q.num.natAbs++(if q.den=1 then [] else 47::decDigits q.den):=by
     unfold ratL;rw [Zav (by omega),show q.num.toNat=q.num.natAbs by omega]
   rw [e,if_neg];rw [Ziv (Zfh _)];intro hh;exact absurd (Zcl q.num.natAbs 45 (List.mem_of_head? hh)) (by decide)
theorem Zi4 (n:Nat):(47:UInt8)∉decDigits n:=fun h=>absurd (Zcl n 47 h) (by decide)
theorem Zp7 {q:Rat} (h:Dn mxd q):ckR (ratL q)=0:=by
  have hl1:(decDigits q.num.natAbs).length<=mxd:=(Zaw (by decide)).2 h.n;have hl2:(decDigits q.den).length<=mxd:=(Zaw (by decide)).2 h.d;rw [Zi3] at hl1 hl2;have hu:=Zla q;have hneg:(ratL q).head?=some 45->q.num.natAbs≠0:=fun hh hz=>by
    have e:ratL q=decDigits 0++(if q.den=1 then [] else 47::decDigits q.den):=by
      unfold ratL;rw [Zav (by omega),show q.num.toNat=0 by omega]
    rw [e,Zb4] at hh;simp at hh
  unfold ckR;rw [hu]
  by_cases hd:q.den=1
  ·rw [if_pos hd,List.append_nil];rw [Zew (Zi4 _),List.take_of_length_le (Nat.le_refl _),Zk9];rw [if_neg,if_neg,if_neg,if_neg]
   ·simp
   ·omega
   ·simp
   ·simp;intro hh e;have:=Zbv q.num.natAbs;rw [e] at this;exact hneg hh (by rw [<-this];rfl)
  ·rw [if_neg hd,Zfi (Zi4 _)];have hd0:=q.den_nz;have e1:(decDigits q.num.natAbs++47::decDigits q.den).take (decDigits q.num.natAbs).length=decDigits q.num.natAbs:=by simp
   have e2:(decDigits q.num.natAbs++47::decDigits q.den).drop ((decDigits q.num.natAbs).length+1)=decDigits q.den:=by
     rw [List.drop_append];simp
   rw [e1,e2,Zk9,Zk9,Zbv,Zbv];rw [if_neg,if_neg,if_neg,if_neg]
   ·have:=q.reduced;simp [this,Nat.Coprime] at this ⊢
   ·simp;omega
   ·have n0:decDigits q.den≠ [48]:=fun e=>hd0 (by have:=Zbv q.den;rw [e] at this;exact this.symm);have n1:decDigits q.den≠ [49]:=fun e=>hd (by have:=Zbv q.den;rw [e] at this;exact this.symm);simp [n0,n1]
   ·simp;intro hh e;have:=Zbv q.num.natAbs;rw [e] at this;exact hneg hh (by rw [<-this];rfl)
end Go.Proofs.YtijajkfmlghgkaaGreatDoor
namespace Go.Proofs.YtijajkfmlghgkaaGreatDoor
structure Zb (k:Nat) (z:Int):Prop where
  lt:z.natAbs<10^k
theorem Zdf {a b:Nat} (h:a<=b):10^a<=10^b:=Nat.pow_le_pow_right (by omega) h
theorem Zc6 (a:Nat):0<10^a:=Nat.pow_pos (by omega)
theorem Zb.mono {a b:Nat} {z:Int} (h:Zb a z) (hab:a<=b):Zb b z:=⟨Nat.lt_of_lt_of_le h.lt (Zdf hab)⟩
theorem Zb.mul {a b:Nat} {x y:Int} (h:Zb a x) (k:Zb b y):Zb (a+b) (x* y):=⟨by
  rw [Int.natAbs_mul,Nat.pow_add]
  rcases Nat.eq_zero_or_pos x.natAbs with h0|h0
  ·rw [h0,Nat.zero_mul];exact Nat.mul_pos (Zc6 _) (Zc6 _)
  ·exact Nat.lt_of_lt_of_le ((Nat.mul_lt_mul_left h0).2 k.lt) (Nat.mul_le_mul_right _ (Nat.le_of_lt h.lt))⟩
theorem Zb.add {a b:Nat} {x y:Int} (h:Zb a x) (k:Zb b y):Zb (max a b+1) (x+y):=⟨by
  have h1:=(h.mono (Nat.le_max_left a b)).lt;have h2:=(k.mono (Nat.le_max_right a b)).lt;have:=Int.natAbs_add_le x y;rw [Nat.pow_succ];omega⟩
theorem Zb.neg {a:Nat} {x:Int} (h:Zb a x):Zb a (-x):=⟨by rw [Int.natAbs_neg];exact h.lt⟩
theorem Zb.sub {a b:Nat} {x y:Int} (h:Zb a x) (k:Zb b y):Zb (max a b+1) (x-y):=by
  rw [Int.sub_eq_add_neg];exact h.add k.neg
theorem Zrp (n d:Int) (hd:0<d):(qd n d).num.natAbs<=n.natAbs/\(qd n d).den<=d.natAbs:=by
  rw [Zri hd,Zrj hd];refine ⟨?_,Nat.div_le_self _ _⟩
  rcases Nat.eq_zero_or_pos (Int.gcd d n) with h|h
  ·rw [h];simp
  ·rw [Int.natAbs_ediv_of_dvd (Int.gcd_dvd_right ..)];exact Nat.div_le_self _ _
theorem Dn.qd {k:Nat} {n d:Int} (hd:0<d) (h1:Zb k n) (h2:Zb k d):Dn k (qd n d):=
  ⟨Nat.lt_of_le_of_lt (Zrp n d hd).1 h1.lt,Nat.lt_of_le_of_lt (Zrp n d hd).2 h2.lt⟩
theorem Dn.mono {a b:Nat} {q:Rat} (h:Dn a q) (hab:a<=b):Dn b q:=⟨Nat.lt_of_lt_of_le h.n (Zdf hab),Nat.lt_of_lt_of_le h.d (Zdf hab)⟩
theorem Dn.zn {k:Nat} {q:Rat} (h:Dn k q):Zb k q.num:=⟨h.n⟩
theorem Dn.zd {k:Nat} {q:Rat} (h:Dn k q):Zb k (q.den:Int):=⟨by simpa using h.d⟩
theorem Dn.neg {k:Nat} {q:Rat} (h:Dn k q):Dn k (-q):=⟨by rw [Rat.neg_num,Int.natAbs_neg];exact h.n,by rw [Rat.neg_den];exact h.d⟩
theorem Dn.add {a b:Nat} {p q:Rat} (h:Dn a p) (k:Dn b q):Dn (a+b+1) (p+q):=by
  rw [Zpy];have hd:(0:Int)<(p.den:Int) * (q.den:Int):=Int.mul_pos (by have:=p.den_pos;omega) (by have:=q.den_pos;omega);refine Dn.qd hd ?_ ((h.zd.mul k.zd).mono (by omega));exact ((h.zn.mul k.zd).add (k.zn.mul h.zd)).mono (by omega)
theorem Dn.sub {a b:Nat} {p q:Rat} (h:Dn a p) (k:Dn b q):Dn (a+b+1) (p-q):=by
  rw [Rat.sub_eq_add_neg];exact h.add k.neg
theorem Dn.mul {a b:Nat} {p q:Rat} (h:Dn a p) (k:Dn b q):Dn (a+b) (p* q):=by
  rw [Zpz];have hd:(0:Int)<(p.den:Int) * (q.den:Int):=Int.mul_pos (by have:=p.den_pos;omega) (by have:=q.den_pos;omega);exact Dn.qd hd (h.zn.mul k.zn) (h.zd.mul k.zd)
theorem Dn.int {k:Nat} {z:Int} (h:Zb k z) (hk:0<k):Dn k (z:Rat):=
  ⟨by rw [Rat.num_intCast];exact h.lt,by rw [Rat.den_intCast];exact Nat.one_lt_pow (by omega) (by omega)⟩
theorem Dn.inv {k:Nat} {q:Rat} (h:Dn k q) (h0:q≠0):Dn k q⁻¹:=by
  have hn:q.num≠0:=fun e=>h0 (Rat.num_eq_zero.1 e);have e:q⁻¹=Go.Proofs.YtijajkfmlghgkaaGreatDoor.qd (q.den:Int) q.num:=by
    have h1:=Zrn q.num q.den;rw [Zeb] at h1;exact h1
  rw [e]
  rcases Int.lt_or_gt_of_ne hn with h1|h1
  ·rw [<-Zrk];exact Dn.qd (by omega) h.zd.neg h.zn.neg
  ·exact Dn.qd h1 h.zd h.zn
theorem Dn.div {a b:Nat} {p q:Rat} (h:Dn a p) (k:Dn b q) (h0:q≠0):Dn (a+b) (p / q):=by
  rw [Rat.div_def];exact h.mul (k.inv h0)
theorem Dn.zero (k:Nat) (hk:0<k):Dn k 0:=Dn.int (z:=0) ⟨by simpa using Zc6 k⟩ hk
end Go.Proofs.YtijajkfmlghgkaaGreatDoor
namespace Go.Proofs.YtijajkfmlghgkaaGreatDoor.Nu
open Go Go.Proofs Go.RowKit Go.Proofs.YtijajkfmlghgkaaGreatDoor
structure OwnC {α:Type} (f:α->List Value) (sz:Nat) (e:TypeId) (w:World) (base:Nat) (v:Value) (l:List α):Prop where
  own:Own f sz e w base v l
  cln: ∀g,v.ownBlock=some g->Cln w g
section
variable {α:Type} {f:α->List Value} {sz:Nat} {e:TypeId} {w w':World} {base:Nat} {v:Value} {l:List α}
theorem OwnC.nil (f:α->List Value) (sz:Nat) (e:TypeId) (w:World) (base:Nat):OwnC f sz e w base (.slice none 0 0) []:=⟨Own.nil _ _ _ _ _,fun g h=>by simp [Value.ownBlock] at h⟩
theorem OwnC.grown {row:Option Nat} (h:OwnC f sz e w base v l) (hg:w.grownBy w' row) (hne:v.ownBlock=none∨v.ownBlock≠row):OwnC f sz e w' base v l:=by
  refine ⟨h.own.kept hg hne,fun g hv o u hu=> ?_⟩;have hlt:=(World.ownsRow.lt h.own g hv).2;rw [World.cell?_of_block (a:=⟨g,o,none⟩) (hg.block g hlt (fun e=>hne.elim (fun h5=>by rw [hv] at h5;cases h5) (fun h5=>h5 (hv.trans e))))] at hu;exact h.cln g hv o u hu
theorem OwnC.later (h:OwnC f sz e w base v l) (hb:Below w.heap.size w w'):OwnC f sz e w' base v l:=by
  refine h.grown (row:=none) ⟨hb.os,hb.tape,hb.output,hb.size,fun k hk _=>hb.block k hk⟩ ?_;cases v.ownBlock <;> simp
end
theorem Znk {α:Type} (f:α->List Value) (sz bytes:Nat) (t e:TypeId) (z:Value) {P:Program} (hT:P.underlying t=some (.slice e)) (hI:(P.info? e).map (fun i=>(i.zero,i.size,i.bytes))=some (some z,sz,bytes))
    (hzs:z.cells.size=sz) (hsz:0<sz) (hby:bytes<=1000) (hf: ∀x,(f x).length=sz) (h1c: ∀x,∀u∈f x,u.oneCell'=true) (hno: ∀x,∀u∈f x,∀y:Int,u≠ .int .u64 y) (hnz: ∀u∈z.cells.toList,∀y:Int,u≠ .int .u64 y)
    (l:List α) (x:α) (base:Nat) (w:World) (g:Nat) (cs:Array Value) (e':TypeId) (hg:w.heap[g]?=some (.cells cs e' (0,0))) (hcs:cs.toList=f x) (v:Value) (hown:OwnC f sz e w base v l) (hbase:base<=w.heap.size) (hlen:l.length<=1000000)
    {o:Oper} {a:Act} {K:Act->World->Prop} {Q:Exit->Act->World->Prop} (s y:Operand)
    (ho:o.op= .call { callee:= .builtin .append,args:= #[s,y],argTypes:= #[t,t] }) (hs:a.eval s=v) (hy:a.eval y= .slice (some ⟨g,0,none⟩) 1 1)
    (h: ∀v' w',OwnC f sz e w' base v' (l++ [x])->w.grownBy w' v.ownBlock->K (a.put o.dst v') w'):o.wp P a w K Q:=by
 obtain ⟨i,hi,hz0,hz1,hz2⟩:=info_parts hI;have hmul:(l.length+1) * bytes<=1000001* 1000:=Nat.mul_le_mul (by omega) hby
 obtain ⟨v',w',hr,h2,h3,h4⟩:=Zc4 (P:=P) w base t o.type e i z sz bytes hT hi hz0 hz1 hz2 hzs hsz v l.length (l.flatMap f) hown.own hown.cln ⟨g,0,none⟩ 1 1 (f x) (by rw [hf];omega) (fun j u hu=>by
   rw [Addr.add_lit,Nat.zero_add,cell_of_row _ g j cs e' (0,0) hg];rw [<-hcs] at hu;simpa using hu) (h1c x) (by decide) (hno x) hnz (by simp [maxLen];omega) (by omega) hbase
 unfold Oper.wp execOp;simp only [ho,resolve,invoke,builtin,Sem.run_bind,Sem.run_pure,Result.andThen_ok,List.map_toArray,List.map_cons,List.map_nil,hs,hy,hr];refine h v' w' ⟨?_,h4⟩ h3;unfold Own;rw [List.length_append,List.length_singleton,List.flatMap_append,List.flatMap_singleton];exact h2
theorem Zc7 {α:Type} (f:α->List Value) (sz bytes:Nat) (t e:TypeId) (z:Value) {P:Program} (hT:P.underlying t=some (.slice e)) (hI:(P.info? e).map (fun i=>(i.zero,i.size,i.bytes))=some (some z,sz,bytes))
    (hzs:z.cells.size=sz) (hsz:0<sz) (hby:bytes<=1000) (hf: ∀x,(f x).length=sz) (h1c: ∀x,∀u∈f x,u.oneCell'=true) (hno: ∀x,∀u∈f x,∀y:Int,u≠ .int .u64 y) (hnz: ∀u∈z.cells.toList,∀y:Int,u≠ .int .u64 y)
    (l:List α) (x:α) (base:Nat) (w:World) (g:Nat) (cs:Array Value) (e':TypeId) (hg:w.heap[g]?=some (.cells cs e' (0,0))) (hcs:cs.toList=f x) (v:Value) (hown:OwnC f sz e w base v l) (hbase:base<=w.heap.size) (hlen:l.length<=1000000)
    {ops:Array Oper} {rest:List Oper} {o:Oper} {a:Act} {Q:Exit->Act->World->Prop} (hgd:o.guard=none) (s y:Operand)
    (ho:o.op= .call { callee:= .builtin .append,args:= #[s,y],argTypes:= #[t,t] }) (hs:a.eval s=v) (hy:a.eval y= .slice (some ⟨g,0,none⟩) 1 1)
    (h: ∀v' w',OwnC f sz e w' base v' (l++ [x])->w.grownBy w' v.ownBlock->wpList P ops Q rest (a.put o.dst v') w'):wpList P ops Q (o::rest) a w:=
 wpList_plain hgd fun _ hK=>Znk f sz bytes t e z hT hI hzs hsz hby hf h1c hno hnz l x base w g cs e' hg hcs v hown hbase hlen s y ho hs hy fun v' w' h1 h2=>hK _ _ (h v' w' h1 h2)
theorem Zic (s:ByteArray): ∀u∈encS s,∀y:Int,u≠ .int .u64 y:=by intro u hu y;simp [encS] at hu;subst hu;simp
theorem Zj0 {m:Nat} (h:m / 1000000000000000000=0):Lib.decDigits m=Lib.decDigits (m % 1000000000000000000):=by
  have:=Nat.div_add_mod m 1000000000000000000;rw [h] at this
  congr 1;omega
theorem Zj1 {m:Nat} (h:0<m / 1000000000000000000):Lib.decDigits m=Lib.decDigits (m / 1000000000000000000)++padL 18 (m % 1000000000000000000):=by
  have hlt:=Nat.mod_lt m (show 0<1000000000000000000 by decide);rw [<-Zk0 18 _ _ h hlt]
  congr 1
  have:=Nat.div_add_mod m 1000000000000000000;have e:(10:Nat)^18=1000000000000000000:=by decide
  rw [e];omega
theorem Zfk: ∀c:Nat,Lib.repeatL [48] c=List.replicate c 48
  | 0=>rfl
  | c+1=>by rw [Lib.repeatL,Zfk c];rfl
theorem WlR.grown {w w':World} {v:Value} {l:List Nat} {m:Nat} {row:Option Nat} (h:WlR w v l m) (hg:w.grownBy w' row) (hc: ∀g,row=some g->Cln w g):WlR w' v l m:=⟨(h.sc.grown hg hc).mono hg.size,h.dg,h.tr,h.eq⟩
theorem WlR.len0 {w:World} {a:Option Addr} {n c:Nat} {l:List Nat} {m:Nat} (h:WlR w (.slice a n c) l m):n=l.length/\(l.length=0↔m=0):=by
  obtain ⟨a',c',e,_⟩:=h.sc;injection e with e1 e2 e3
  refine ⟨e2,fun h0=> ?_,fun h0=> ?_⟩
  ·have e:=List.eq_nil_of_length_eq_zero h0;have:=h.eq;rw [e] at this;simpa [val] using this.symm
  ·have:=Tr.zero (B:=2^64) (by decide) h.tr (by rw [h.eq];exact h0);rw [this];rfl
theorem Zpa (w:World) (v1 v2:Value) (q1 q2:Rat) (h1:FrR w v1 q1) (h2:FrR w v2 q2) (w1:Wds 400000 q1.num) (w2:Wds 400000 (q1.den:Int)) (w3:Wds 400000 q2.num) (w4:Wds 400000 (q2.den:Int)):Calls Tryz.prog 162 #[v1,v2] w (RetF w (q1* q2)):=by
  obtain ⟨s1,a1,n1,c1,t1,b1,m1,d1,rfl,h11,h12⟩:=h1;obtain ⟨s2,a2,n2,c2,t2,b2,m2,d2,rfl,h21,h22⟩:=h2;have HI11:=Zh (fun (u:World) (hb:Below w.heap.size w u)=>h11.later hb);have HI12:=Zh (fun (u:World) (hb:Below w.heap.size w u)=>h12.later hb);have HI21:=Zh (fun (u:World) (hb:Below w.heap.size w u)=>h21.later hb);have HI22:=Zh (fun (u:World) (hb:Below w.heap.size w u)=>h22.later hb);have HB0:=Zh ((Below.refl w.heap.size w).alloc (Nat.le_refl _) (.cells #[.int .i64 s1,.slice a1 n1 c1,.int .i64 t1,.slice b1 m1 d1] 135));have HB1:=Zh (HB0.alloc HB0.size (.cells #[.int .i64 s2,.slice a2 n2 c2,.int .i64 t2,.slice b2 m2 d2] 135));have HB:=Zh (HB1.alloc HB1.size (.cells #[.int .i64 0,.slice none 0 0,.int .i64 0,.slice none 0 0] 135));have HX:=Zh (((Box.new w #[.int .i64 s1,.slice a1 n1 c1,.int .i64 t1,.slice b1 m1 d1] 135).alloc (.cells #[.int .i64 s2,.slice a2 n2 c2,.int .i64 t2,.slice b2 m2 d2] 135)).alloc (.cells #[.int .i64 0,.slice none 0 0,.int .i64 0,.slice none 0 0] 135));have HY:=Zh ((Box.newAt (w.alloc (.cells #[.int .i64 s1,.slice a1 n1 c1,.int .i64 t1,.slice b1 m1 d1] 135)) #[.int .i64 s2,.slice a2 n2 c2,.int .i64 t2,.slice b2 m2 d2] 135 (n:=w.heap.size+1) (by simp)).alloc (.cells #[.int .i64 0,.slice none 0 0,.int .i64 0,.slice none 0 0] 135));have HZ:=Zh (Box.newAt ((w.alloc (.cells #[.int .i64 s1,.slice a1 n1 c1,.int .i64 t1,.slice b1 m1 d1] 135)).alloc (.cells #[.int .i64 s2,.slice a2 n2 c2,.int .i64 t2,.slice b2 m2 d2] 135)) #[.int .i64 0,.slice none 0 0,.int .i64 0,.slice none 0 0] 135 (n:=w.heap.size+1+1) (by simp));have HWS:=Zh (And.intro (w1.mono (show 400000<=1000000 by decide)) (And.intro (w2.mono (show 400000<=1000000 by decide)) (And.intro (w3.mono (show 400000<=1000000 by decide)) (w4.mono (show 400000<=1000000 by decide)))));have HWM:=Zh (And.intro ((w1.mul w3).mono (show 400000+400000<=1000000 by decide)) ((w2.mul w4).mono (show 400000+400000<=1000000 by decide)));have HPOS:=Zh (show 0<(q1.den:Int) * (q2.den:Int) from Int.mul_pos (by have:=q1.den_pos;omega) (by have:=q2.den_pos;omega));have HMK:=Zh (show mkRat (q1.num* q2.num) ((q1.den:Int) * (q2.den:Int)).natAbs=q1* q2 by
    rw [Int.natAbs_mul,Int.natAbs_natCast,Int.natAbs_natCast,Rat.mul_def'])
  obtain ⟨q,hqq⟩: ∃q,q1* q2=q:=⟨_,rfl⟩;rw [hqq] at HMK ⊢;clear hqq w1 w2 w3 w4 h11 h12 h21 h22 HB0 HB1;go_enter Tryz.func162,Tryz.ntmps162;go_wp2_with fail;refine Zap 11 (Zhi [.is (.pointer (some ⟨w.heap.size,0,none⟩)),.int q1.num,.is (.pointer (some ⟨w.heap.size+1,0,none⟩)),.int q2.num,.int (q1.num* q2.num),.is (.pointer (some ⟨w.heap.size,2,none⟩)),.int (q1.den:Int),.is (.pointer (some ⟨w.heap.size+1,2,none⟩)),.int (q2.den:Int),.int ((q1.den:Int) * (q2.den:Int)),.frac q]) (by kernel_rfl) (by kernel_rfl) (fun j v u u' h hb=>Kd.later h hb) ?_ ?_
  ·refine ⟨?_,?_,?_,?_,?_,?_,?_,?_,?_,?_,?_,trivial⟩
   all_goals
     intro vs u hu hR;simp only [Zac,Z2,Z6,Act.put,Z1,Z4,Z5]
   rotate_left;have e0:vs 0=_:=Zr hR 0;obtain ⟨x0,x1,x2,x3,xf,xz⟩:=(HX.later hu).v4;have HI:=Zh (HI11.out u (HB.Zg hu));rotate_left;rotate_left;have e0:vs 2=_:=Zr hR 2;obtain ⟨x0,x1,x2,x3,xf,xz⟩:=(HY.later hu).v4;have HI:=Zh (HI21.out u (HB.Zg hu));rotate_left;have k0:IntR u (vs 1) _:=Zr hR 1;have k1:IntR u (vs 3) _:=Zr hR 3;have HS:=Zh (Zfb u _ _ _ _ k0 k1 HWS.out.1 HWS.out.2.2.1);clear k0 k1;rotate_left;rotate_left;have e0:vs 5=_:=Zr hR 5;obtain ⟨x0,x1,x2,x3,xf,xz⟩:=(HX.later hu).v4;have HI:=Zh (HI12.out u (HB.Zg hu));rotate_left;rotate_left;have e0:vs 7=_:=Zr hR 7;obtain ⟨x0,x1,x2,x3,xf,xz⟩:=(HY.later hu).v4;have HI:=Zh (HI22.out u (HB.Zg hu));rotate_left;have k0:IntR u (vs 6) _:=Zr hR 6;have k1:IntR u (vs 8) _:=Zr hR 8;have HS:=Zh (Zfb u _ _ _ _ k0 k1 HWS.out.2.1 HWS.out.2.2.2);clear k0 k1;rotate_left;have k0:IntR u (vs 4) _:=Zr hR 4;have k1:IntR u (vs 9) _:=Zr hR 9;have HS:=Zh ((by have h:=Ziu u _ _ _ _ k0 k1 HWM.out.1 HWM.out.2 HPOS.out;rwa [HMK.out] at h:Calls Tryz.prog 233 #[vs 4,vs 9] u (RetF u q)));clear k0 k1;rotate_left
   all_goals
     clear hR
     try clear hu
     go_wp2_with fail
     first|exact ⟨rfl,rfl,_,_,rfl,rfl,Below.refl _ _,rfl⟩|exact ⟨rfl,rfl,_,_,rfl,rfl,Below.refl _ _,HI.out⟩|(refine HS.mono ?_;rintro e11 w11 ⟨v11,rfl,hi11,hb⟩;go_wp2_with fail;exact ⟨rfl,rfl,_,_,rfl,rfl,hb,hi11⟩)
  ·intro vs u hu hR;have k0:FrR u (vs 10) _:=hR 10 (by decide);obtain ⟨s7,a7,n7,c7,t7,b7,m7,d7,e7,k1,k2⟩:=k0;have HZu:=Zh (HZ.later hu);obtain ⟨z0,zb,zc,zd,zf,zz⟩:=HZu.v4;have HK1:=Zh k1;have HK2:=Zh k2;have HBu:=Zh (HB.Zg hu);simp only [Zac,Z3,Z7,Z2,Z6,Act.put,Z1,Z4,Z5,e7];clear hR hu k1 k2 e7;go_wp2_with fail;refine bodyPost_ret (v:= .agg #[.int .i64 s7,.slice a7 n7 c7,.int .i64 t7,.slice b7 m7 d7]) (by simp [results,Tryz.results162,go_sem, *]) rfl ?_;refine RetF.mk rfl ⟨_,_,_,_,_,_,_,_,rfl,HK1.put4 HZu.out _ _ _ _ _ _ _ _,HK2.put4 HZu.out _ _ _ _ _ _ _ _⟩ ?_
   repeat (first|with_reducible exact HBu.out|with_reducible exact Below.refl _ _|refine .Zs ?_ _|refine .Za ?_ _|refine .drew ?_)
theorem Zrq (w:World) (v1:Value) (q1:Rat) (h1:FrR w v1 q1) (w1:Wds 400000 q1.num) (w2:Wds 400000 (q1.den:Int)) (h0:0<q1):Calls Tryz.prog 240 #[v1] w (RetF w q1⁻¹):=by
  have hn0:0<q1.num:=by have:=(Rat.lt_iff 0 q1).1 h0;simpa using this
  have HQ:mkRat (q1.den:Int) q1.num.natAbs=q1⁻¹:=by
    have e:((q1.num.natAbs:Nat):Rat)=(q1.num:Rat):=by rw [<-Rat.intCast_natCast,show ((q1.num.natAbs:Nat):Int)=q1.num by omega]
    rw [Rat.inv_def,Rat.divInt_eq_div,Rat.mkRat_eq_div,e]
  obtain ⟨q,hq⟩: ∃q,q1⁻¹=q:=⟨_,rfl⟩;rw [hq] at HQ ⊢;obtain ⟨s1,a1,n1,c1,t1,b1,m1,d1,rfl,h11,h12⟩:=h1;have HM:=Zh (fun (u:World) (hb:Below w.heap.size w u)=>(by
    have h:=Ziu u _ _ _ _ (h12.later hb) (h11.later hb) (w2.mono (by decide)) (w1.mono (by decide)) hn0
    rwa [HQ] at h:Calls Tryz.prog 233 #[.agg #[.int .i64 t1,.slice b1 m1 d1],.agg #[.int .i64 s1,.slice a1 n1 c1]] u (RetF u q)))
  clear HQ hq w1 w2 hn0 h0;have HB0:=Zh ((Below.refl w.heap.size w).alloc (Nat.le_refl _) (.cells #[.int .i64 s1,.slice a1 n1 c1,.int .i64 t1,.slice b1 m1 d1] 135));have HB:=Zh (HB0.alloc HB0.size (.cells #[.int .i64 0,.slice none 0 0,.int .i64 0,.slice none 0 0] 135));have HX:=Zh ((Box.new w #[.int .i64 s1,.slice a1 n1 c1,.int .i64 t1,.slice b1 m1 d1] 135).alloc (.cells #[.int .i64 0,.slice none 0 0,.int .i64 0,.slice none 0 0] 135));have HZ:=Zh (Box.newAt (w.alloc (.cells #[.int .i64 s1,.slice a1 n1 c1,.int .i64 t1,.slice b1 m1 d1] 135)) #[.int .i64 0,.slice none 0 0,.int .i64 0,.slice none 0 0] 135 (n:=w.heap.size+1) (by simp));clear HB0 h11 h12;obtain ⟨x0,x1,x2,x3,xf,xz⟩:=HX.v4;go_enter Tryz.func240,Tryz.ntmps240;go_wp2_with fail;refine (HM.out _ HB.out).mono ?_;rintro e7 w7 ⟨v7,rfl,hf7,hb⟩;have HB7:=Zh (HB.Zg hb);have HZ7:=Zh (HZ.later hb);obtain ⟨s7,a7,n7,c7,t7,b7,m7,d7,rfl,k1,k2⟩:=hf7;have HK1:=Zh k1;have HK2:=Zh k2;clear hb k1 k2 x0 x1 x2 x3 xf xz;obtain ⟨z0,zb,zc,zd,zf,zz⟩:=HZ7.v4;go_wp2_with fail;refine bodyPost_ret (v:= .agg #[.int .i64 s7,.slice a7 n7 c7,.int .i64 t7,.slice b7 m7 d7]) (by simp [results,Tryz.results240,go_sem, *]) rfl ?_;refine RetF.mk rfl ⟨_,_,_,_,_,_,_,_,rfl,HK1.put4 HZ7.out _ _ _ _ _ _ _ _,HK2.put4 HZ7.out _ _ _ _ _ _ _ _⟩ ?_
  repeat (first|with_reducible exact HB7.out|with_reducible exact Below.refl _ _|refine .Zs ?_ _|refine .Za ?_ _|refine .drew ?_)
theorem Zrr (w:World) (v1 v2:Value) (q1 q2:Rat) (h1:FrR w v1 q1) (h2:FrR w v2 q2) (w1:Wds 400000 q1.num) (w2:Wds 400000 (q1.den:Int)) (w3:Wds 400000 q2.num) (w4:Wds 400000 (q2.den:Int)) (h0:0<q2):Calls Tryz.prog 168 #[v1,v2] w (RetF w (q1 / q2)):=by
  have HF1:=Zh (fun (u:World) (hb:Below w.heap.size w u)=>h1.later hb);have HF2:=Zh (fun (u:World) (hb:Below w.heap.size w u)=>h2.later hb);obtain ⟨s1,a1,n1,c1,t1,b1,m1,d1,rfl,h11,h12⟩:=h1;obtain ⟨s2,a2,n2,c2,t2,b2,m2,d2,rfl,h21,h22⟩:=h2;have HB0:=Zh ((Below.refl w.heap.size w).alloc (Nat.le_refl _) (.cells #[.int .i64 s1,.slice a1 n1 c1,.int .i64 t1,.slice b1 m1 d1] 135));have HB1:=Zh (HB0.alloc HB0.size (.cells #[.int .i64 s2,.slice a2 n2 c2,.int .i64 t2,.slice b2 m2 d2] 135));have HB:=Zh (HB1.alloc HB1.size (.cells #[.int .i64 0,.slice none 0 0,.int .i64 0,.slice none 0 0] 135));have HX:=Zh (((Box.new w #[.int .i64 s1,.slice a1 n1 c1,.int .i64 t1,.slice b1 m1 d1] 135).alloc (.cells #[.int .i64 s2,.slice a2 n2 c2,.int .i64 t2,.slice b2 m2 d2] 135)).alloc (.cells #[.int .i64 0,.slice none 0 0,.int .i64 0,.slice none 0 0] 135));have HY:=Zh ((Box.newAt (w.alloc (.cells #[.int .i64 s1,.slice a1 n1 c1,.int .i64 t1,.slice b1 m1 d1] 135)) #[.int .i64 s2,.slice a2 n2 c2,.int .i64 t2,.slice b2 m2 d2] 135 (n:=w.heap.size+1) (by simp)).alloc (.cells #[.int .i64 0,.slice none 0 0,.int .i64 0,.slice none 0 0] 135));have HZ:=Zh (Box.newAt ((w.alloc (.cells #[.int .i64 s1,.slice a1 n1 c1,.int .i64 t1,.slice b1 m1 d1] 135)).alloc (.cells #[.int .i64 s2,.slice a2 n2 c2,.int .i64 t2,.slice b2 m2 d2] 135)) #[.int .i64 0,.slice none 0 0,.int .i64 0,.slice none 0 0] 135 (n:=w.heap.size+1+1) (by simp));have hinv:(q2⁻¹).num.natAbs=q2.den/\((q2⁻¹).den:Int).natAbs=q2.num.natAbs:=by
    have hn0:0<q2.num:=by have:=(Rat.lt_iff 0 q2).1 h0;simpa using this
    have e0:((q2.num.natAbs:Nat):Rat)=(q2.num:Rat):=by rw [<-Rat.intCast_natCast,show ((q2.num.natAbs:Nat):Int)=q2.num by omega]
    rw [Rat.inv_def];have e:Rat.divInt (q2.den:Int) q2.num=mkRat (q2.den:Int) q2.num.natAbs:=by rw [Rat.divInt_eq_div,Rat.mkRat_eq_div,e0]
    rw [e];obtain ⟨e1,e2⟩:=Zo7 hn0 (z1:=(q2.den:Int));have hg:Nat.gcd (q2.den:Int).natAbs q2.num.natAbs=1:=by rw [Int.natAbs_natCast,Nat.gcd_comm];exact q2.reduced
    rw [hg] at e1 e2;rw [e1,e2];simp
  have w5:Wds 400000 (q2⁻¹).num:=w4.le (by rw [hinv.1,Int.natAbs_natCast];exact Nat.le_refl _);have w6:Wds 400000 ((q2⁻¹).den:Int):=w3.le (by rw [hinv.2];exact Nat.le_refl _);have HV:=Zh (fun (u:World) (v:Value) (h:FrR u v q2)=>Zrq u v q2 h w3 w4 h0);have HM:=Zh (fun (u:World) (v v':Value) (h:FrR u v q1) (h':FrR u v' q2⁻¹)=>(by rw [Rat.div_def];exact Zpa u _ _ q1 q2⁻¹ h h' w1 w2 w5 w6:Calls Tryz.prog 162 #[v,v'] u (RetF u (q1 / q2))));obtain ⟨q,hqq⟩: ∃q,q1 / q2=q:=⟨_,rfl⟩;rw [hqq] at HM ⊢;obtain ⟨qi,hqi⟩: ∃q,q2⁻¹=q:=⟨_,rfl⟩;rw [hqi] at HM HV;clear hqq hqi w1 w2 w3 w4 w5 w6 hinv h0 h11 h12 h21 h22 HB0 HB1;go_enter Tryz.func168,Tryz.ntmps168;go_wp2_with fail;refine Zap 4 (Zhi [.frac q1,.frac q2,.frac qi,.frac q]) (by kernel_rfl) (by kernel_rfl) (fun j v u u' h hb=>Kd.later h hb) ?_ ?_
  ·refine ⟨?_,?_,?_,?_,trivial⟩
   all_goals
     intro vs u hu hR;simp only [Zac,Z2,Z6,Act.put,Z1,Z4,Z5]
   obtain ⟨x0,x1,x2,x3,xf,xz⟩:=(HX.later hu).v4;have HI:=Zh (HF1.out u (HB.Zg hu));rotate_left;obtain ⟨x0,x1,x2,x3,xf,xz⟩:=(HY.later hu).v4;have HI:=Zh (HF2.out u (HB.Zg hu));rotate_left;have k0:FrR u (vs 1) _:=Zr hR 1;have HS:=Zh (HV.out u _ k0);clear k0;rotate_left;have k0:FrR u (vs 0) _:=Zr hR 0;have k1:FrR u (vs 2) _:=Zr hR 2;have HS:=Zh (HM.out u _ _ k0 k1);clear k0 k1;rotate_left
   all_goals
     clear hR
     try clear hu
     go_wp2_with fail
     first|exact ⟨rfl,rfl,_,_,rfl,rfl,Below.refl _ _,HI.out⟩|(refine HS.mono ?_;rintro e11 w11 ⟨v11,rfl,hi11,hb⟩;go_wp2_with fail;exact ⟨rfl,rfl,_,_,rfl,rfl,hb,hi11⟩)
  ·intro vs u hu hR;have k0:FrR u (vs 3) _:=hR 3 (by decide);obtain ⟨s7,a7,n7,c7,t7,b7,m7,d7,e7,k1,k2⟩:=k0;have HZu:=Zh (HZ.later hu);obtain ⟨z0,zb,zc,zd,zf,zz⟩:=HZu.v4;have HK1:=Zh k1;have HK2:=Zh k2;have HBu:=Zh (HB.Zg hu);simp only [Zac,Z3,Z7,Z2,Z6,Act.put,Z1,Z4,Z5,e7];clear hR hu k1 k2 e7;go_wp2_with fail;refine bodyPost_ret (v:= .agg #[.int .i64 s7,.slice a7 n7 c7,.int .i64 t7,.slice b7 m7 d7]) (by simp [results,Tryz.results168,go_sem, *]) rfl ?_;refine RetF.mk rfl ⟨_,_,_,_,_,_,_,_,rfl,HK1.put4 HZu.out _ _ _ _ _ _ _ _,HK2.put4 HZu.out _ _ _ _ _ _ _ _⟩ ?_
   repeat (first|with_reducible exact HBu.out|with_reducible exact Below.refl _ _|refine .Zs ?_ _|refine .Za ?_ _|refine .drew ?_)
theorem Zlb (w:World) (v1:Value) (q1:Rat) (h1:FrR w v1 q1):Calls Tryz.prog 185 #[v1] w (Ret (.int .i64 q1.num.sign) w):=by
  obtain ⟨s1,a1,n1,c1,t1,b1,m1,d1,rfl,h11,h12⟩:=h1;have HS:=Zh (fun (u:World) (hb:Below w.heap.size w u)=>Zd9 u _ q1.num (h11.later hb));clear h11 h12;have HB:=Zh ((Below.refl w.heap.size w).alloc (Nat.le_refl _) (.cells #[.int .i64 s1,.slice a1 n1 c1,.int .i64 t1,.slice b1 m1 d1] 135));have HX:=Zh (Box.new w #[.int .i64 s1,.slice a1 n1 c1,.int .i64 t1,.slice b1 m1 d1] 135);obtain ⟨x0,x1,x2,x3,xf,xz⟩:=HX.w4;go_enter Tryz.func185,Tryz.ntmps185;go_wp2_with fail;refine (HS.out _ HB.out).mono ?_;rintro e7 w7 ⟨rfl,hb⟩;have HB7:=Zh (HB.Zg hb);clear hb;go_wp2_with fail;go_ret;exact ⟨rfl,HB7.out⟩
end Go.Proofs.YtijajkfmlghgkaaGreatDoor.Nu
