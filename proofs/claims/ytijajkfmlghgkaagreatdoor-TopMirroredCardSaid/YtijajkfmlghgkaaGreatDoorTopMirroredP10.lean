/- Lemmas on the way to the law TopMirrored: Th Pa Pb Pc Pd Pe Td Tj Tb -/
import Derived.Test.YtijajkfmlghgkaaGreatDoorTopMirroredP09
set_option linter.unusedVariables false
set_option linter.unusedSimpArgs false
set_option maxRecDepth 100000
set_option maxHeartbeats 4000000
namespace Go.Proofs.YtijajkfmlghgkaaGreatDoor.Nu
open Go Go.Proofs Go.RowKit Go.Proofs.YtijajkfmlghgkaaGreatDoor
theorem Zi5 (l:List UInt8) (a b:Nat):(tx l).extract a b=tx ((l.take b).drop a):=by
  apply ByteArray.ext;unfold tx;rw [ByteArray.data_extract];simp [List.extract_eq_take_drop,List.drop_take]
theorem Zle (D:List UInt8) (j n:Nat) (hn:n<=(D.drop j).length):dval (D.take (j+n))=dval (D.take j) * 10^n+dval ((D.drop j).take n):=by
  rw [List.take_add,Zgh,List.length_take,Nat.min_eq_left hn]
theorem Zlf {D:List UInt8} (h: ∀c∈D,Zcb c) {k:Nat} (hk:D.length<=k):Zb k ((dval D:Nat):Int):=⟨by
  rw [Int.natAbs_natCast];exact Nat.lt_of_lt_of_le (Zc0 h) (Zdf hk)⟩
theorem Zgo (w:World) (z:Int) (hz:Zb 2000 z):Calls Tryz.prog 191 #[.string (txz z)] w (RetI w z):=by
  have HO:=Zh (fun (w1:World) (n:Int)=>of94 n w1);have HPF:=Zh (fun (w1:World)=>(by
    have h:=Tryz.strings_HasPrefix (txz z) ⟨#[45]⟩ w1;rw [Zex,show (⟨#[45]⟩:ByteArray).data.toList=[45] from rfl,Zdl] at h;exact h.mono (fun e w' h=>⟨h.1,h.2.symm⟩):Calls Tryz.prog 257 #[.string (txz z),.string ⟨#[45]⟩] w1 fun e w'=>e= .returned (.bool (decide (z<0)))/\w1=w'))
  have HTP:=Zh (fun (w1:World)=>(by
    have h:=Tryz.strings_TrimPrefix (txz z) ⟨#[45]⟩ w1;rw [Zex,show (⟨#[45]⟩:ByteArray).data.toList=[45] from rfl,Zcm] at h;exact h.mono (fun e w' h=>⟨h.1,h.2.symm⟩):Calls Tryz.prog 188 #[.string (txz z),.string ⟨#[45]⟩] w1 fun e w'=>e= .returned (.string (tx (Lib.decDigits z.natAbs)))/\w1=w'))
  obtain ⟨D,hD⟩: ∃D,Lib.decDigits z.natAbs=D:=⟨_,rfl⟩;have hdig: ∀c∈D,Zcb c:=by rw [<-hD];exact Zcl _
  have hdv:dval D=z.natAbs:=by rw [<-hD];exact Zbv _
  have hdl:D.length<=2000:=by rw [<-hD];exact (Zaw (by decide)).2 hz.lt
  have hd0:0<D.length:=by rw [<-hD];exact Zdt _
  rw [hD] at HTP;have HAT:=Zh (fun (w1:World) (l:List UInt8) (h0:l≠ []) (hl:l.length<=18) (hd: ∀c∈l,Zcb c)=>(by
   have h:=Tryz.strconv_Atoi (tx l) (dval l:Int) (by rw [Zan];exact hl) (by rw [Zec,Zng hd h0]) w1;exact h.mono (fun e w' h=>⟨h.1,by obtain ⟨t,rfl⟩:=h.2;exact Go.Joins.below_bytesWorld _ _ _ _ (Nat.le_refl _)⟩):Calls Tryz.prog 258 #[.string (tx l)] w1 (Ret (.tuple #[.int .i64 (dval l:Int),.nilIface]) w1)))
  have HPW:=Zh (fun (w1:World) (n:Nat) (h:n<=18)=>Zp1 w1 n h);have HFIN:=Zh (show (decide (z<0)=true-> -(dval D:Int)=z)/\(decide (z<0)=false->(dval D:Int)=z) by
    rw [hdv];refine ⟨fun h=> ?_,fun h=> ?_⟩
    ·have:=of_decide_eq_true h;omega
    ·have:=of_decide_eq_false h;omega)
  have HD:=Zh (And.intro hdig hdl);obtain ⟨p,hp⟩: ∃p,decide (z<0)=p:=⟨_,rfl⟩;obtain ⟨X,hX⟩: ∃X,txz z=X:=⟨_,rfl⟩;rw [hp,hX] at HPF;rw [hX] at HTP;rw [hp] at HFIN;rw [hX];have HD0:=Zh hd0;clear hp hX hD hdv hdig hdl hd0 hz;have HB_0:=Zh ((Below.refl w.heap.size w).alloc (Nat.le_refl _) (.cells #[.int .i64 0,.slice none 0 0] 133));have HB:=Zh (HB_0.alloc HB_0.size (.cells #[.int .i64 0,.slice none 0 0] 133));have HX:=Zh ((Box.new w #[.int .i64 0,.slice none 0 0] 133).alloc (.cells #[.int .i64 0,.slice none 0 0] 133));have HY:=Zh (Box.newAt (w.alloc (.cells #[.int .i64 0,.slice none 0 0] 133)) #[.int .i64 0,.slice none 0 0] 133 (n:=w.heap.size+1) (by simp));obtain ⟨x0,x1,xf,xz⟩:=HX.v2;obtain ⟨y0,y1,yf,yz⟩:=HY.v2;clear HB_0;go_enter Tryz.func191,Tryz.ntmps191;go_wp2_with fail;refine (HPF.out _).mono ?_;rintro e4 w4 ⟨rfl,rfl⟩;go_wp2_with fail;refine (HTP.out _).mono ?_;rintro e5 w5 ⟨rfl,rfl⟩;go_wp2_with fail
  go_loopw [0] (fun s wr=> ∃ (j:Nat) (s1:Int) (a1:Option Addr) (n1 c1:Nat),j<=D.length/\s= .string (tx (D.drop j))/\Hid (Below w.heap.size w wr)/\Hid (Box wr w.heap.size 133 [.int .i64 0,.slice none 0 0])/\Hid (Box wr (w.heap.size+1) 133 [.int .i64 s1,.slice a1 n1 c1])/\Hid (IntR wr (.agg #[.int .i64 s1,.slice a1 n1 c1]) (dval (D.take j):Int))) (fun s _=>slen s)
  case atStart=>exact ⟨0,0,none,0,0,by omega,rfl,HB,HX,HY,Zh (IntR.small _ (by decide) (by decide))⟩
  case round=>
    obtain ⟨j,s1,a1,n1,c1,hj,rfl,HB1,HX1,HY1,HI1⟩:=hrel;clear HX HY HB x0 x1 xf xz y0 y1 yf yz;have HB:=HB1;have HX:=HX1;have HY:=HY1;clear HB1 HX1 HY1;obtain ⟨x0,x1,xf,xz⟩:=HX.v2;obtain ⟨y0,y1,yf,yz⟩:=HY.v2;obtain ⟨L,hL⟩: ∃L,D.drop j=L:=⟨_,rfl⟩;obtain ⟨m,hm⟩: ∃m,L.length=m:=⟨_,rfl⟩;have hml:m+j=D.length:=by rw [<-hm,<-hL,List.length_drop];omega
    have hsz:(tx L).size=m:=by rw [Zan];exact hm
    rw [hL]
    by_cases h0:0<m
    ·have d0:decide (0<m)=true:=Zt h0;have d0':decide ((0:Int)<(m:Int))=true:=Zt (by omega);obtain ⟨n,hn⟩: ∃n,min 18 m=n:=⟨_,rfl⟩;have d1:min (18:Int) (m:Int)=(n:Int):=by omega
     have hnm:n<=m:=by omega
     have hn18:n<=18:=by omega
     have hn0:0<n:=by omega
     have hx1:(tx L).extract 0 n=tx (L.take n):=by rw [Zi5];rfl
     have hx2:(tx L).extract n m=tx (L.drop n):=by rw [Zi5,List.take_of_length_le (by omega)]
     have HT:=Zh (show (dval (D.take (j+n)):Int)=(dval (D.take j):Int) * 10^n+(dval (L.take n):Int) by
       rw [Zle D j n (by rw [hL];omega),hL,Int.natCast_add,Int.natCast_mul,Int.natCast_pow];rfl)
     have HDR:=Zh (show L.drop n=D.drop (j+n) by rw [<-hL,List.drop_drop]);have HZ1:=Zh (show Zb 2000 (dval (D.take j):Int) from Zlf (fun c hc=>HD.out.1 c (List.mem_of_mem_take hc)) (by rw [List.length_take];have:=HD.out.2;omega));have hr:dval (L.take n)<10^n:=by
       have h:=Zc0 (l:=L.take n) (fun c hc=>HD.out.1 c (by rw [<-hL] at hc;exact List.mem_of_mem_drop (List.mem_of_mem_take hc)))
       rwa [List.length_take,Nat.min_eq_left (by omega)] at h
     have hr18:(10:Nat)^n<=10^18:=Zdf hn18;have HA2:=Zh (fun (w1:World)=>HAT.out w1 (L.take n) (fun e=>by have:=congrArg List.length e;rw [List.length_take,List.length_nil] at this;omega) (by rw [List.length_take];omega) (fun c hc=>HD.out.1 c (by rw [<-hL] at hc;exact List.mem_of_mem_drop (List.mem_of_mem_take hc))));obtain ⟨r,hrr⟩: ∃r:Nat,dval (L.take n)=r:=⟨_,rfl⟩;rw [hrr] at HT HA2 hr;obtain ⟨A,hA⟩: ∃A:Int,(dval (D.take j):Int)=A:=⟨_,rfl⟩;rw [hA] at HT HZ1 HI1;have hPz:(10:Int)^n=((10^n:Nat):Int):=by rw [Int.natCast_pow];rfl
     have HPN:=Zh (fun (w1:World)=>HPW.out w1 n hn18);obtain ⟨P,hP⟩: ∃P:Int,10^n=P:=⟨_,rfl⟩;rw [hP] at HT HPN;have hPb:0<P/\P<=1000000000000000000:=by
       rw [<-hP,hPz];have:0<(10:Nat)^n:=Zc6 n;omega
     have HM:=Zh (fun (u:World) (v:Value) (h:IntR u v A)=>(Zfb u _ _ A P h (IntR.small u (by omega) (by omega)) ((HZ1.wdsN (m:=1000000) (by decide))) ((Wds.small (by omega) (by omega)).mono (by decide)):Calls Tryz.prog 234 #[v,.agg #[.int .i64 P,.slice none 0 0]] u (RetI u (A* P))));have hrb:(r:Int)<1000000000000000000:=by
       have e18:(10:Nat)^18=1000000000000000000:=by decide
       omega
     have HMW:=Zh (show Wds 1000000 (A* P) from (Zb.mul HZ1.out (⟨by omega⟩:Zb 19 P)).wdsN (by decide));have HAD:=Zh (fun (u:World) (v:Value) (h:IntR u v (A* P))=>(by rw [HT.out];exact Zjs u _ _ _ _ h (IntR.small u (by omega) (by omega)) HMW.out ((Wds.small (by omega) (by omega)).mono (by decide)):Calls Tryz.prog 236 #[v,.agg #[.int .i64 (r:Int),.slice none 0 0]] u (RetI u (dval (D.take (j+n)):Int))));obtain ⟨E,hE⟩: ∃E:Int,(dval (D.take (j+n)):Int)=E:=⟨_,rfl⟩;rw [hE] at HAD;have HE:=Zh hE;have HMJ:=Zh (And.intro hml hnm);have HR:=Zh hrb;obtain ⟨S,hS⟩: ∃S,tx L=S:=⟨_,rfl⟩;obtain ⟨S1,hS1⟩: ∃S,tx (L.take n)=S:=⟨_,rfl⟩;obtain ⟨S2,hS2⟩: ∃S,tx (L.drop n)=S:=⟨_,rfl⟩;have HS2:=Zh (show S2=tx (D.drop (j+n))/\S2.size=m-n by
       rw [<-hS2,Zan,List.length_drop,hm,<-HDR.out];exact ⟨rfl,rfl⟩)
     rw [hS] at hsz hx1 hx2 ⊢;rw [hS1] at hx1 HA2;rw [hS2] at hx2;clear hS hS1 hS2 hE hPb hPz hP hA hrr hr hr18 HT HDR HZ1 hml hn h0 hL hm HMW hrb HAT HPW HPF HTP;go_wp2_with fail;refine (HA2.out _).mono ?_;rintro e6 w6 ⟨rfl,hb⟩;replace HB:=Zh (HB.Zg hb);replace HX:=Zh (HX.later hb);replace HY:=Zh (HY.later hb);replace HI1:=Zh (HI1.later hb);clear hb x0 x1 xf xz y0 y1 yf yz HA2;go_wp2_with fail;refine Zak 8 (fun j=>false) (kxs [.int A,.is (.agg #[.int .i64 10,.slice none 0 0]),.is (.int .i64 (n:Int)),.is (.agg #[.int .i64 P,.slice none 0 0]),.int (A* P),.is (.int .i64 (r:Int)),.is (.agg #[.int .i64 (r:Int),.slice none 0 0]),.int E]) (by kernel_rfl) (by kernel_rfl) (fun j v u u' h hb=>Kx.later h hb) ?_ ?_
     ·refine ⟨?_,?_,?_,?_,?_,?_,?_,?_,trivial⟩
      all_goals
        first|intro vs u hu hR|intro vs u hR
        simp only [Zac,Z2,Z6,Act.put,Z1,Z4,Z5]
      obtain ⟨y0,y1,yf,yz⟩:=(HY.later hu).v2;have HI:=Zh (HI1.later hu);rotate_left;have HS:=Zh (HO.out u 10);rotate_left;rotate_left;have e1:vs 1=_:=Zr hR 1;have e2:vs 2=_:=Zr hR 2;have HS:=Zh (HPN.out u);rotate_left;have k0:IntR u (vs 0) _:=Zr hR 0;have e3:vs 3=_:=Zr hR 3;have HS:=Zh (HM.out u _ k0);clear k0;rotate_left;rotate_left;have e5:vs 5=_:=Zr hR 5;have HS:=Zh (HO.out u (r:Int));rotate_left;have k4:IntR u (vs 4) _:=Zr hR 4;have e6:vs 6=_:=Zr hR 6;have HS:=Zh (HAD.out u _ k4);clear k4;rotate_left
      all_goals
        clear hR
        try clear hu
        go_wp2_with fail
        first|exact ⟨rfl,rfl,_,_,rfl,rfl,Below.refl _ _,HI.out,fun h=>absurd h (by decide)⟩|exact ⟨rfl,rfl,_,_,rfl,rfl,Below.refl _ _,rfl,fun h=>absurd h (by decide)⟩|(refine HS.mono ?_;rintro e11 w11 ⟨rfl,hb⟩;go_wp2_with fail;exact ⟨rfl,rfl,_,_,rfl,rfl,hb,rfl,fun h=>absurd h (by decide)⟩)|(refine HS.mono ?_;rintro e11 w11 ⟨v11,rfl,hi11,hb⟩;go_wp2_with fail;exact ⟨rfl,rfl,_,_,rfl,rfl,hb,hi11,fun h=>absurd h (by decide)⟩)
     ·intro vs u hu hR hsep;have hi7:IntR u (vs 7) E:=hR 7 (by decide);obtain ⟨s7,a7,n7,c7,e7,_,_,_,_⟩:=hi7.form;rw [e7] at hi7;have HX7:=Zh hi7;clear hi7;simp only [Zac,Z3,Z7,Z2,Z6,Act.put,Z1,Z4,Z5,e7];have HBu:=Zh (HB.Zg hu);have HXu:=Zh (HX.later hu);have HYu:=Zh (HY.later hu);clear hR hu hsep e7 HB HX HY HI1 HM HAD;obtain ⟨y0,y1,yf,yz⟩:=HYu.v2;have hs2:=HS2.out.2;go_wp2_with fail;go_roundw
      case rel=>
        refine ⟨j+n,s7,a7,n7,c7,by have:=HMJ.out;omega,by rw [HS2.out.1],Zh ?_,Zh ((HXu.other (a:=⟨w.heap.size+1,0,none⟩) _ (by simp)).other (a:=⟨w.heap.size+1,1,none⟩) _ (by simp)),Zh ((HYu.set 0 _).set 1 _),Zh (by rw [HE.out];exact HX7.put HYu.out _ _)⟩
        repeat (first|with_reducible exact HBu.out|with_reducible exact Below.refl _ _|refine .Zs ?_ _|refine .Za ?_ _|refine .drew ?_)
      case measure=>simp [slen,hsz,hs2];omega
    ·have d0:decide (0<m)=false:=Zf h0;have d0':decide ((0:Int)<(m:Int))=false:=Zf (by omega);obtain rfl:j=D.length:=by omega
     rw [List.take_length] at HI1;have HZ3:=Zh (show Wds 1000000 (dval D:Int) from (Zlf HD.out.1 HD.out.2).wdsN (by decide));obtain ⟨A,hA⟩: ∃A:Int,(dval D:Int)=A:=⟨_,rfl⟩;rw [hA] at HI1 HFIN HZ3;clear hA hL hm hml h0;generalize tx L=S at *;cases p with
     | true=>
       have HZ:=Zh (HFIN.out.1 rfl);go_wp2_with fail;refine (Ziq _ _ A HI1.out).mono ?_;rintro e6 w6 ⟨v6,rfl,hi6,hb⟩;obtain ⟨s6,a6,n6,c6,rfl,_,_,_,_⟩:=hi6.form;have HI6:=Zh hi6;replace HB:=Zh (HB.Zg hb);replace HX:=Zh (HX.later hb);clear hb hi6 x0 x1 xf xz y0 y1 yf yz HY;obtain ⟨x0,x1,xf,xz⟩:=HX.v2;go_wp2_with fail;refine bodyPost_ret (v:= .agg #[.int .i64 s6,.slice a6 n6 c6]) (by simp [results,Tryz.results191,go_sem, *]) rfl ?_;refine RetI.mk rfl (by rw [<-HZ.out];exact HI6.put HX.out _ _) ?_
       repeat (first|with_reducible exact HB.out|with_reducible exact Below.refl _ _|refine .Zs ?_ _|refine .Za ?_ _|refine .drew ?_)
     | false=>
       have HZ:=Zh (HFIN.out.2 rfl);go_wp2_with fail;refine bodyPost_ret (v:= .agg #[.int .i64 s1,.slice a1 n1 c1]) (by simp [results,Tryz.results191,go_sem, *]) rfl ?_;refine RetI.mk rfl (by rw [<-HZ.out];exact HI1.put HX.out _ _) ?_
       repeat (first|with_reducible exact HB.out|with_reducible exact Below.refl _ _|refine .Zs ?_ _|refine .Za ?_ _|refine .drew ?_)
end Go.Proofs.YtijajkfmlghgkaaGreatDoor.Nu
namespace Go.Proofs.YtijajkfmlghgkaaGreatDoor
def sm (f:Nat->Rat):Nat->Rat
  | 0=>0
  | n+1=>sm f n+f n
theorem Zbe {f g:Nat->Rat}: ∀ {n:Nat},(∀k,k<n->f k=g k)->sm f n=sm g n
  | 0,_=>rfl
  | n+1,h=>by rw [sm,sm,Zbe (fun k hk=>h k (by omega)),h n (by omega)]
theorem Zfn (f g:Nat->Rat): ∀n,sm (fun k=>f k+g k) n=sm f n+sm g n
  | 0=>by simp only [sm];grind
  | n+1=>by rw [sm,sm,sm,Zfn f g n];grind
theorem Zi6 (f g:Nat->Rat): ∀n,sm (fun k=>f k-g k) n=sm f n-sm g n
  | 0=>by simp only [sm];grind
  | n+1=>by rw [sm,sm,sm,Zi6 f g n];grind
theorem Zc8 (a:Rat) (f:Nat->Rat): ∀n,sm (fun k=>a* f k) n=a* sm f n
  | 0=>by simp [sm]
  | n+1=>by rw [sm,sm,Zc8 a f n];grind
theorem Zru (f:Nat->Rat) (n:Nat):sm (fun k=> - f k) n= - sm f n:=by
  have:=Zc8 (-1) f n;rw [Zbe (g:=fun k=> -1* f k) (fun k _=>by grind),this];grind
theorem Zi7 (f:Nat->Rat): ∀n,sm f (n+1)=f 0+sm (fun k=>f (k+1)) n
  | 0=>by simp [sm];grind
  | n+1=>by rw [sm,Zi7 f n,sm];grind
theorem Zi8 (f:Nat->Rat): ∀n,sm (fun k=>f (n-1-k)) n=sm f n
  | 0=>rfl
  | n+1=>by
    rw [Zi7,sm];have:=Zi8 f n;rw [Zbe (g:=fun k=>f (n-1-k)) (fun k hk=>by rw [show n+1-1-(k+1)=n-1-k by omega]),this];simp;grind
theorem Zlg {f:Nat->Rat}: ∀ {n:Nat},(∀k,k<n->0<f k)->0<n->0<sm f n
  | 1,h,_=>by have:=h 0 (by omega);simp [sm];grind
  | n+2,h,_=>by
    have h1:=Zlg (n:=n+1) (fun k hk=>h k (by omega)) (by omega);have h2:=h (n+1) (by omega);rw [sm];grind
abbrev m1 (f:Nat->Rat) (n:Nat):Rat:=sm (fun k=>f k* (k:Rat)) n
abbrev m2 (f:Nat->Rat) (n:Nat):Rat:=sm (fun k=>f k* ((k:Rat) * (k:Rat))) n
def detR (c:Nat->Rat) (n:Nat):Rat:=sm c n* m2 c n-m1 c n* m1 c n
theorem Znm (c:Nat->Rat) (n:Nat):detR c (n+1)=detR c n+c n* sm (fun k=>c k* (((n:Rat)-k) * ((n:Rat)-k))) n:=by
  have e:sm (fun k=>c k* (((n:Rat)-k) * ((n:Rat)-k))) n=(n:Rat) * n* sm c n-2* n* m1 c n+m2 c n:=by
    rw [Zbe (g:=fun k=>((n:Rat) * n* c k+(-2* n) * (c k* (k:Rat)))+c k* ((k:Rat) * k)) (fun k _=>by grind),Zfn,Zfn,Zc8,Zc8];grind
  rw [e];unfold detR;rw [sm,m2,m1,sm,sm];grind
theorem Zfo {c:Nat->Rat}: ∀ {n:Nat},(∀k,k<n->0<c k)->2<=n->0<detR c n
  | n+2,h,_=>by
    have hn:0<=detR c (n+1):=by
      match n with
      | 0=>simp [detR,sm,m1,m2];grind
      | n+1=>have:=Zfo (c:=c) (n:=n+2) (fun k hk=>h k (by omega)) (by omega);grind
    rw [Znm];have h1:=h (n+1) (by omega);have h2:0<sm (fun k=>c k* ((((n+1:Nat):Rat)-k) * (((n+1:Nat):Rat)-k))) (n+1):=Zlg (fun k hk=>by
     have h3:=h k (by omega);have h4:(0:Rat)<((n+1:Nat):Rat)-k:=by
       have:(k:Rat)<((n+1:Nat):Rat):=Rat.natCast_lt_natCast.2 hk;grind
     exact Rat.mul_pos h3 (Rat.mul_pos h4 h4)) (by omega)
    have:=Rat.mul_pos h1 h2;grind
def levR (c l:Nat->Rat) (n:Nat):Rat:=if n=1 then sm l n / sm c n else (sm l n* m2 c n-m1 l n* m1 c n) / detR c n
def trmR (c l:Nat->Rat) (n:Nat):Rat:=if n=1 then 0 else (m1 l n* sm c n-sm l n* m1 c n) / detR c n
def buoR (c l:Nat->Rat) (n:Nat) (k:Nat):Rat:=c k* (levR c l n+trmR c l n* (k:Rat))
def resR (c l:Nat->Rat) (n:Nat) (k:Nat):Rat:=l k-buoR c l n k
def sheR (c l:Nat->Rat) (n:Nat) (k:Nat):Rat:=sm (resR c l n) (k+1)
def benR (c l:Nat->Rat) (n:Nat) (k:Nat):Rat:=sm (sheR c l n) (k+1)
theorem Zrv (c l:Nat->Rat) (n:Nat):sm (buoR c l n) n=levR c l n* sm c n+trmR c l n* m1 c n:=by
  rw [Zbe (g:=fun k=>levR c l n* c k+trmR c l n* (c k* (k:Rat))) (fun k _=>by unfold buoR;grind),Zfn,Zc8,Zc8]
theorem Zrw (c l:Nat->Rat) (n:Nat):m1 (buoR c l n) n=levR c l n* m1 c n+trmR c l n* m2 c n:=by
  rw [m1,Zbe (g:=fun k=>levR c l n* (c k* (k:Rat))+trmR c l n* (c k* ((k:Rat) * k))) (fun k _=>by unfold buoR;grind),Zfn,Zc8,Zc8]
theorem Zrx {c l:Nat->Rat} {n:Nat} (hc: ∀k,k<n->0<c k) (hn:0<n):sm (resR c l n) n=0/\m1 (resR c l n) n=0:=by
  have e1:sm (resR c l n) n=sm l n-sm (buoR c l n) n:=Zi6 _ _ _;have e2:m1 (resR c l n) n=m1 l n-m1 (buoR c l n) n:=by
    rw [m1,Zbe (g:=fun k=>l k* (k:Rat)-buoR c l n k* (k:Rat)) (fun k _=>by unfold resR;grind),Zi6]
  rw [e1,e2,Zrv,Zrw]
  by_cases h1:n=1
  ·subst h1;have:=hc 0 (by omega);have hs:sm c 1=c 0:=by simp [sm];grind
   have hm: ∀f:Nat->Rat,m1 f 1=0:=fun f=>by simp [m1,sm];grind
   have hm2: ∀f:Nat->Rat,m2 f 1=0:=fun f=>by simp [m2,sm];grind
   rw [hm,hm,hm2];unfold levR trmR;rw [if_pos rfl,if_pos rfl,hs]
   constructor
   ·have:sm l 1 / c 0* c 0=sm l 1:=Rat.div_mul_cancel (by grind);grind
   ·grind
  ·have hd:=Zfo (c:=c) hc (by omega);unfold levR trmR;rw [if_neg h1,if_neg h1];have hD:detR c n=sm c n* m2 c n-m1 c n* m1 c n:=rfl;generalize detR c n=D at *;generalize sm c n=C0 at *;generalize m1 c n=C1 at *;generalize m2 c n=C2 at *;generalize sm l n=S at *;generalize m1 l n=M at *;have h0:D≠0:=by grind
   constructor <;> grind
section lin
variable {c l1 l2 l3 l4:Nat->Rat} {n:Nat}
end lin
section mir
variable {c l c' l':Nat->Rat} {n:Nat}
theorem Zlh {f f':Nat->Rat} (h: ∀k,k<n->f' k=f (n-1-k)):sm f' n=sm f n:=by rw [Zbe h,Zi8]
theorem Zgp {k:Nat} (hk:k<n):((n-1-k:Nat):Rat)=((n-1:Nat):Rat)-k:=by
  have:((n-1-k:Nat):Rat)+(k:Rat)=((n-1:Nat):Rat):=by rw [<-Rat.natCast_add];congr 1;omega
  grind
theorem Zpb {f f':Nat->Rat} (h: ∀k,k<n->f' k=f (n-1-k)):m1 f' n=((n-1:Nat):Rat) * sm f n-m1 f n:=by
  have e:m1 f' n=sm (fun k=>(fun j=>f j* (((n-1:Nat):Rat)-j)) (n-1-k)) n:=Zbe fun k hk=>by
    rw [h k hk];have:=Zgp hk;dsimp only;rw [this];grind
  rw [e,Zi8 (fun j=>f j* (((n-1:Nat):Rat)-j)),Zbe (g:=fun k=>((n-1:Nat):Rat) * f k-f k* (k:Rat)) (fun k _=>by grind),Zi6,Zc8]
theorem Zry {f f':Nat->Rat} (h: ∀k,k<n->f' k=f (n-1-k)):m2 f' n=((n-1:Nat):Rat) * ((n-1:Nat):Rat) * sm f n-2* ((n-1:Nat):Rat) * m1 f n+m2 f n:=by
  have e:m2 f' n=sm (fun k=>(fun j=>f j* ((((n-1:Nat):Rat)-j) * (((n-1:Nat):Rat)-j))) (n-1-k)) n:=Zbe fun k hk=>by
    rw [h k hk];have:=Zgp hk;dsimp only;rw [this];grind
  rw [e,Zi8 (fun j=>f j* ((((n-1:Nat):Rat)-j) * (((n-1:Nat):Rat)-j))),Zbe (g:=fun k=>(((n-1:Nat):Rat) * ((n-1:Nat):Rat) * f k+(-2* ((n-1:Nat):Rat)) * (f k* (k:Rat)))+f k* ((k:Rat) * k)) (fun k _=>by grind),Zfn,Zfn,Zc8,Zc8];grind
variable (hc: ∀k,k<n->0<c k) (hn:0<n) (h1: ∀k,k<n->c' k=c (n-1-k)) (h2: ∀k,k<n->l' k=l (n-1-k))
include hc hn h1 h2
theorem Zgq:trmR c' l' n= - trmR c l n/\levR c' l' n=levR c l n+trmR c l n* ((n-1:Nat):Rat):=by
  have e1:=Zlh h1;have e2:=Zlh h2;have e3:=Zpb h1;have e4:=Zpb h2;have e5:=Zry h1;have e6:detR c' n=detR c n:=by unfold detR;rw [e1,e3,e5];grind
  unfold trmR levR;rw [e1,e2,e3,e4,e5,e6]
  by_cases hn1:n=1
  ·rw [if_pos hn1,if_pos hn1,if_pos hn1];grind
  ·rw [if_neg hn1,if_neg hn1,if_neg hn1];have hd:=Zfo (c:=c) hc (by omega);have hD:detR c n=sm c n* m2 c n-m1 c n* m1 c n:=rfl;generalize detR c n=D at *;generalize sm c n=C0 at *;generalize m1 c n=C1 at *;generalize m2 c n=C2 at *;generalize sm l n=S at *;generalize m1 l n=M at *;have h0:D≠0:=by grind
   constructor <;> grind
theorem Zie (k:Nat) (hk:k<n):buoR c' l' n k=buoR c l n (n-1-k):=by
  obtain ⟨e1,e2⟩:=Zgq hc hn h1 h2;unfold buoR;rw [e1,e2,h1 k hk,Zgp hk];grind
theorem Zqc (k:Nat) (hk:k<n):resR c' l' n k=resR c l n (n-1-k):=by
  unfold resR;rw [Zie hc hn h1 h2 k hk,h2 k hk]
omit hc hn h1 h2 in
theorem Zif (f:Nat->Rat) (n:Nat): ∀j,j<=n->sm (fun k=>f (n-1-k)) j=sm f n-sm f (n-j)
  | 0,_=>by simp only [sm,Nat.sub_zero];grind
  | j+1,hj=>by
    rw [sm,Zif f n j (by omega)];obtain ⟨i,hi⟩: ∃i,n-j=i+1:=⟨n-j-1,by omega⟩;rw [hi,show n-(j+1)=i by omega,show n-1-j=i by omega,sm];grind
theorem Zig (k:Nat) (hk:k<n):sheR c' l' n k=if k+2<=n then-sheR c l n (n-2-k) else 0:=by
  have e:sheR c' l' n k=sm (resR c l n) n-sm (resR c l n) (n-(k+1)):=by
    rw [<-Zif _ n (k+1) (by omega)];exact Zbe fun j hj=>Zqc hc hn h1 h2 j (by omega)
  rw [e,(Zrx hc hn).1]
  split
  ·unfold sheR;rw [show n-2-k+1=n-(k+1) by omega];grind
  ·rw [show n-(k+1)=0 by omega,sm];grind
omit h1 h2 in
theorem Zqd:sm (sheR c l n) (n-1)=0:=by
  have key: ∀ (f:Nat->Rat) (m:Nat),sm (fun k=>sm f (k+1)) m=(m:Rat) * sm f m-m1 f m:=fun f m=>by
    induction m with
    | zero=>simp only [sm,m1];grind
    | succ m ih=>rw [sm,ih,m1,m1,sm,sm,show ((m+1:Nat):Rat)=(m:Rat)+1 from by rw [Rat.natCast_add];rfl];grind
  have h:=Zrx hc hn (l:=l);have e:=key (resR c l n) (n-1);have e2:sm (resR c l n) n=sm (resR c l n) (n-1)+resR c l n (n-1):=by
    obtain ⟨m,rfl⟩: ∃m,n=m+1:=⟨n-1,by omega⟩;rw [Nat.add_sub_cancel,sm]
  have e3:m1 (resR c l n) n=m1 (resR c l n) (n-1)+resR c l n (n-1) * ((n-1:Nat):Rat):=by
    obtain ⟨m,rfl⟩: ∃m,n=m+1:=⟨n-1,by omega⟩;rw [Nat.add_sub_cancel,m1,sm]
  show sm (fun k=>sm (resR c l n) (k+1)) (n-1)=0;rw [e];grind
theorem Zli (k:Nat) (hk:k<n):benR c' l' n k=if k+3<=n then benR c l n (n-3-k) else 0:=by
  have hS:=Zig hc hn h1 h2;have h0:=Zqd (l:=l) hc hn;have hpart: ∀j,j<=n-1->sm (sheR c' l' n) j=sm (sheR c l n) (n-1-j):=fun j hj=>by
    rw [Zbe (g:=fun i=> - (fun q=>sheR c l n q) (n-1-1-i)) (fun i hi=>by rw [hS i (by omega),if_pos (by omega),show n-1-1-i=n-2-i by omega]),Zru];have:=Zif (fun q=>sheR c l n q) (n-1) j hj;rw [this,h0];grind
  unfold benR
  by_cases h3:k+3<=n
  ·rw [if_pos h3,hpart (k+1) (by omega),show n-1-(k+1)=n-3-k+1 by omega]
  ·rw [if_neg h3]
   by_cases h4:k+2=n
   ·rw [hpart (k+1) (by omega),show n-1-(k+1)=0 by omega,sm]
   ·obtain rfl:n=k+1:=by omega
    rw [sm,hpart k (by omega),hS k (by omega),if_neg (by omega),show k+1-1-k=0 by omega,sm];grind
end mir
def smZ (f:Nat->Int):Nat->Int
  | 0=>0
  | n+1=>smZ f n+f n
theorem Zej {f:Nat->Int} {b:Nat}: ∀ {n:Nat},(∀k,k<n->Zb b (f k))->Zb (b+n) (smZ f n)
  | 0,_=>⟨by show (0:Int).natAbs<_;simpa using Zc6 b⟩
  | n+1,h=>((Zej (n:=n) fun k hk=>h k (by omega)).add (h n (by omega))).mono (by omega)
theorem Zek {f:Nat->Rat} {g:Nat->Int} {d:Rat}: ∀ {n:Nat},(∀k,k<n->f k* d=(g k:Rat))->sm f n* d=(smZ g n:Rat)
  | 0,_=>by simp only [sm,smZ];grind
  | n+1,h=>by
    have h1:=Zek (n:=n) fun k hk=>h k (by omega);have h2:=h n (by omega);rw [sm,smZ,Rat.intCast_add,<-h1,<-h2];grind
def prZ (f:Nat->Int):Nat->Int
  | 0=>1
  | n+1=>prZ f n* f n
theorem Zlj {f:Nat->Int}: ∀ {n:Nat},(∀k,k<n->0<f k)->0<prZ f n
  | 0,_=>by show (0:Int)<1;decide
  | n+1,h=>Int.mul_pos (Zlj fun k hk=>h k (by omega)) (h n (by omega))
theorem Zpc {f:Nat->Int} {b:Nat}: ∀ {n:Nat},(∀k,k<n->Zb b (f k))->Zb (b* n+1) (prZ f n)
  | 0,_=>⟨by show (1:Int).natAbs<10^ (b* 0+1);rw [Nat.mul_zero];decide⟩
  | n+1,h=>((Zpc (n:=n) fun k hk=>h k (by omega)).mul (h n (by omega))).mono (by rw [Nat.mul_add];omega)
theorem Zlk {f:Nat->Int}: ∀ {n k:Nat},k<n->∃r,prZ f n=f k* r
  | n+1,k,h=>by
    by_cases e:k=n
    ·subst e;exact ⟨prZ f k,Int.mul_comm _ _⟩
    ·obtain ⟨r,hr⟩:=Zlk (f:=f) (n:=n) (k:=k) (by omega);exact ⟨r* f n,by rw [prZ,hr,Int.mul_assoc]⟩
theorem Znn {c:Nat->Rat} {n b:Nat} (hc: ∀k,k<n->Dn b (c k)): ∃ (Q:Int) (P:Nat->Int),0<Q/\Zb (b* n+1) Q/\∀k,k<n->c k* (Q:Rat)=(P k:Rat)/\Zb (b+(b* n+1)) (P k):=by
  have hpos:0<prZ (fun k=>((c k).den:Int)) n:=Zlj fun k _=>by have:=(c k).den_pos;omega
  have hzb:Zb (b* n+1) (prZ (fun k=>((c k).den:Int)) n):=Zpc fun k hk=>(hc k hk).zd;have key: ∀k,∃P:Int,k<n->c k* ((prZ (fun k=>((c k).den:Int)) n:Int):Rat)=(P:Rat)/\Zb (b+(b* n+1)) P:=fun k=>by
    by_cases hk:k<n
    ·obtain ⟨r,hr⟩:=Zlk (f:=fun k=>((c k).den:Int)) hk;have hr':prZ (fun k=>((c k).den:Int)) n=((c k).den:Int) * r:=hr;refine ⟨(c k).num* r,fun _=>⟨?_,?_⟩⟩
     ·rw [hr',Rat.intCast_mul,Rat.intCast_mul];have h2:(c k) * (((c k).den:Int):Rat)=((c k).num:Rat):=by
       have h5:=Zeb (c k);unfold qd at h5;have h6:(((c k).den:Int):Rat)≠0:=fun e=>by have:=Rat.intCast_eq_zero_iff.1 e;have:=(c k).den_pos;omega
       have h7:=Rat.div_mul_cancel (a:=((c k).num:Rat)) h6;rw [h5] at h7;exact h7
      rw [<-h2];grind
     ·refine (hc k hk).zn.mul ⟨?_⟩;have h3:=hzb.lt;rw [hr',Int.natAbs_mul] at h3;have h4:0<((c k).den:Int).natAbs:=by have:=(c k).den_pos;omega
      exact Nat.lt_of_le_of_lt (Nat.le_mul_of_pos_left _ h4) h3
    ·exact ⟨0,fun h=>absurd h hk⟩
  exact ⟨_,fun k=>(key k).choose,hpos,hzb,fun k hk=>(key k).choose_spec hk⟩
theorem Zed {q:Rat} {k:Nat} {N D:Int} (hD:0<D) (h:q* (D:Rat)=(N:Rat)) (h1:Zb k N) (h2:Zb k D):Dn k q:=by
  have hD0:(D:Rat)≠0:=fun e=>by have:=Rat.intCast_eq_zero_iff.1 e;omega
  have e:q=qd N D:=by unfold qd;rw [<-h];grind
  rw [e];exact Dn.qd hD h1 h2
theorem Zpd {k b:Nat} (h:k<10^b):Zb b (k:Int):=⟨by simpa using h⟩
section
variable {c l:Nat->Rat} {n b bl:Nat} {Q:Int} {P L:Nat->Int}
structure ShZ (c l:Nat->Rat) (n:Nat) (E:Int) (T:Int) (B R:Nat->Int):Prop where
  pos:0<E
  t:trmR c l n* (E:Rat)=(T:Rat)
  b: ∀k,k<n->buoR c l n k* (E:Rat)=(B k:Rat)
  r: ∀k,k<n->resR c l n k* (E:Rat)=(R k:Rat)
theorem Zqe (hn:2<=n) (hc: ∀k,k<n->0<c k) (hQ:0<Q) (hP: ∀k,k<n->c k* (Q:Rat)=(P k:Rat)) (hL: ∀k,k<n->l k* 60=(L k:Rat)):
    ∃ (C0 C1 C2 S M:Int),C0=smZ P n/\C1=smZ (fun k=>P k* k) n/\C2=smZ (fun k=>P k* ((k:Int) * k)) n/\S=smZ L n/\M=smZ (fun k=>L k* k) n/\
      ShZ c l n (60* (C0* C2-C1* C1)) ((M* C0-S* C1) * Q) (fun k=>P k* (S* C2-M* C1+(M* C0-S* C1) * k)) (fun k=>L k* (C0* C2-C1* C1)-P k* (S* C2-M* C1+(M* C0-S* C1) * k)):=by
 have c0:sm c n* (Q:Rat)=(smZ P n:Rat):=Zek hP;have c1:m1 c n* (Q:Rat)=(smZ (fun k=>P k* k) n:Rat):=Zek fun k hk=>by rw [Rat.intCast_mul,<-hP k hk,Rat.intCast_natCast];grind
 have c2:m2 c n* (Q:Rat)=(smZ (fun k=>P k* ((k:Int) * k)) n:Rat):=Zek fun k hk=>by rw [Rat.intCast_mul,Rat.intCast_mul,<-hP k hk,Rat.intCast_natCast];grind
 have s0:sm l n* 60=(smZ L n:Rat):=Zek hL;have s1:m1 l n* 60=(smZ (fun k=>L k* k) n:Rat):=Zek fun k hk=>by rw [Rat.intCast_mul,<-hL k hk,Rat.intCast_natCast];grind
 refine ⟨_,_,_,_,_,rfl,rfl,rfl,rfl,rfl,?_⟩;generalize smZ P n=C0 at *;generalize smZ (fun k=>P k* k) n=C1 at *;generalize smZ (fun k=>P k* ((k:Int) * k)) n=C2 at *;generalize smZ L n=S at *;generalize smZ (fun k=>L k* k) n=M at *;have hd:=Zfo hc hn;have hQ':(0:Rat)<(Q:Rat):=Rat.intCast_pos.2 hQ;have hdet:detR c n* ((Q:Rat) * Q)=((C0* C2-C1* C1:Int):Rat):=by
   rw [Rat.intCast_sub,Rat.intCast_mul,Rat.intCast_mul,<-c0,<-c1,<-c2];unfold detR;grind
 have hE:0<C0* C2-C1* C1:=by
   have:(0:Rat)<((C0* C2-C1* C1:Int):Rat):=by rw [<-hdet];exact Rat.mul_pos hd (Rat.mul_pos hQ' hQ')
   exact Rat.intCast_pos.1 this
 have hEE:((60* (C0* C2-C1* C1):Int):Rat)=60* (detR c n* ((Q:Rat) * Q)):=by rw [Rat.intCast_mul,<-hdet];rfl
 have hd0:detR c n≠0:=by grind
 have ht:trmR c l n* detR c n=m1 l n* sm c n-sm l n* m1 c n:=by
   unfold trmR;rw [if_neg (by omega)];exact Rat.div_mul_cancel hd0
 have hl:levR c l n* detR c n=sm l n* m2 c n-m1 l n* m1 c n:=by
   unfold levR;rw [if_neg (by omega)];exact Rat.div_mul_cancel hd0
 have hT:trmR c l n* ((60* (C0* C2-C1* C1):Int):Rat)=(((M* C0-S* C1) * Q:Int):Rat):=by
   rw [hEE,Rat.intCast_mul,Rat.intCast_sub,Rat.intCast_mul,Rat.intCast_mul,<-c0,<-c1,<-s0,<-s1];have:trmR c l n* (60* (detR c n* ((Q:Rat) * Q)))=60* (trmR c l n* detR c n) * (Q* Q):=by grind
   rw [this,ht];grind
 have hB: ∀k,k<n->buoR c l n k* ((60* (C0* C2-C1* C1):Int):Rat)=((P k* (S* C2-M* C1+(M* C0-S* C1) * k):Int):Rat):=fun k hk=>by
   have hp:=hP k hk;rw [hEE,Rat.intCast_mul,Rat.intCast_add,Rat.intCast_mul,Rat.intCast_sub,Rat.intCast_sub,Rat.intCast_mul,Rat.intCast_mul,Rat.intCast_mul,Rat.intCast_mul,Rat.intCast_natCast,<-c0,<-c1,<-c2,<-s0,<-s1,<-hp];unfold buoR;have:c k* (levR c l n+trmR c l n* (k:Rat)) * (60* (detR c n* ((Q:Rat) * Q)))=60* (c k* Q) * Q* (levR c l n* detR c n+(trmR c l n* detR c n) * k):=by grind
   rw [this,ht,hl];grind
 refine ⟨by omega,hT,hB,fun k hk=> ?_⟩;have hb:=hB k hk;have hq:=hL k hk;unfold resR;rw [Rat.intCast_sub,<-hb,hEE,Rat.intCast_mul (L k),<-hdet,<-hq];grind
end
theorem Zqf {c l:Nat->Rat} {n:Nat} (hn:0<n) (hn6:n<=6) (hc: ∀k,k<n->0<c k) (hd: ∀k,k<n->Dn 12 (c k)) {L:Nat->Int} (hL: ∀k,k<n->l k* 60=(L k:Rat)) (hLb: ∀k,k<n->Zb 13 (L k)):
    Dn mxd (trmR c l n)/\∀k,k<n->Dn mxd (buoR c l n k)/\Dn mxd (sheR c l n k)/\Dn mxd (benR c l n k):=by
 have hm:mxd=600:=rfl
 by_cases h1:n=1
 ·subst h1;have hc0:=hc 0 (by omega);have e1:trmR c l 1=0:=by unfold trmR;rw [if_pos rfl]
  have e2:levR c l 1=l 0 / c 0:=by
    unfold levR;rw [if_pos rfl];have: ∀f:Nat->Rat,sm f 1=f 0:=fun f=>by simp only [sm];grind
    rw [this,this]
  have e3:buoR c l 1 0=l 0:=by
    unfold buoR;rw [e1,e2];have:l 0 / c 0* c 0=l 0:=Rat.div_mul_cancel (by grind);grind
  have e4:resR c l 1 0=0:=by unfold resR;rw [e3];grind
  have e5:sheR c l 1 0=0:=by unfold sheR;simp only [sm];rw [e4];grind
  have e6:benR c l 1 0=0:=by unfold benR;simp only [sm];rw [e5];grind
  have z:=Dn.zero mxd (by decide);refine ⟨by rw [e1];exact z,fun k hk=> ?_⟩;obtain rfl:k=0:=by omega
  refine ⟨?_,by rw [e5];exact z,by rw [e6];exact z⟩;rw [e3];exact Zed (N:=L 0) (D:=60) (by decide) (hL 0 (by omega)) ((hLb 0 (by omega)).mono (by omega)) ⟨Nat.lt_of_lt_of_le (by decide:(60:Int).natAbs<10^2) (Zdf (by omega))⟩
 ·obtain ⟨Q,P,hQ,hQb,hP⟩:=Znn hd;obtain ⟨C0,C1,C2,S,M,f0,f1,f2,f3,f4,hz⟩:=Zqe (by omega) hc hQ (fun k hk=>(hP k hk).1) hL;have bQ:Zb 80 Q:=hQb.mono (by omega);have bP: ∀k,k<n->Zb 90 (P k):=fun k hk=>(hP k hk).2.mono (by omega);have bk: ∀k,k<n->Zb 1 (k:Int):=fun k hk=>Zpd (by omega);have b0:Zb 100 C0:=by rw [f0];exact (Zej bP).mono (by omega)
  have b1:Zb 100 C1:=by rw [f1];exact (Zej fun k hk=>(bP k hk).mul (bk k hk)).mono (by omega)
  have b2:Zb 100 C2:=by rw [f2];exact (Zej fun k hk=>(bP k hk).mul ((bk k hk).mul (bk k hk))).mono (by omega)
  have bS:Zb 20 S:=by rw [f3];exact (Zej hLb).mono (by omega)
  have bM:Zb 20 M:=by rw [f4];exact (Zej fun k hk=>(hLb k hk).mul (bk k hk)).mono (by omega)
  have bD:Zb 210 (C0* C2-C1* C1):=((b0.mul b2).sub (b1.mul b1)).mono (by omega);have bE:Zb 220 (60* (C0* C2-C1* C1)):=(Zb.mul (a:=2) ⟨by decide⟩ bD).mono (by omega);have bT:Zb 130 (M* C0-S* C1):=((bM.mul b0).sub (bS.mul b1)).mono (by omega);have bA:Zb 130 (S* C2-M* C1):=((bS.mul b2).sub (bM.mul b1)).mono (by omega);have bB: ∀k,k<n->Zb 240 (P k* (S* C2-M* C1+(M* C0-S* C1) * k)):=fun k hk=>((bP k hk).mul (bA.add (bT.mul (bk k hk)))).mono (by omega);have bR: ∀k,k<n->Zb 250 (L k* (C0* C2-C1* C1)-P k* (S* C2-M* C1+(M* C0-S* C1) * k)):=fun k hk=>(((hLb k hk).mul bD).sub (bB k hk)).mono (by omega);generalize 60* (C0* C2-C1* C1)=E at *;generalize M* C0-S* C1=T at *;generalize S* C2-M* C1=A at *;generalize C0* C2-C1* C1=D at *;have bEm:=bE.mono (b:=mxd) (by omega);have hsh: ∀k,k<n->sheR c l n k* (E:Rat)=(smZ (fun k=>L k* D-P k* (A+T* k)) (k+1):Rat):=fun k hk=>Zek fun j hj=>hz.r j (by omega);have bsh: ∀k,k<n->Zb 260 (smZ (fun k=>L k* D-P k* (A+T* k)) (k+1)):=fun k hk=>(Zej fun j hj=>bR j (by omega)).mono (by omega);refine ⟨Zed hz.pos hz.t ((bT.mul bQ).mono (by omega)) bEm,fun k hk=>⟨Zed hz.pos (hz.b k hk) ((bB k hk).mono (by omega)) bEm,Zed hz.pos (hsh k hk) ((bsh k hk).mono (by omega)) bEm,?_⟩⟩;have hbe:benR c l n k* (E:Rat)=(smZ (fun i=>smZ (fun k=>L k* D-P k* (A+T* k)) (i+1)) (k+1):Rat):=Zek fun j hj=>hsh j (by omega);exact Zed hz.pos hbe ((Zej fun j hj=>bsh j (by omega)).mono (by omega)) bEm
structure SafeR (c l:Nat->Rat) (n:Nat) (sl bl:Nat->Rat) (t:Rat):Prop where
  lift: ∀k,k<n->0<=buoR c l n k
  sh: ∀k,k<n->sheR c l n k<=sl k/\ - sheR c l n k<=sl k
  be: ∀k,k<n->benR c l n k<=bl k/\ - benR c l n k<=bl k
  tr:trmR c l n<=t/\ - trmR c l n<=t
section
variable {c l c' l':Nat->Rat} {n:Nat} (hc: ∀k,k<n->0<c k) (hn:0<n) (h1: ∀k,k<n->c' k=c (n-1-k)) (h2: ∀k,k<n->l' k=l (n-1-k))
include hc hn h1 h2
theorem Zhn {s0 b0 t:Rat} (hs:0<=s0) (hb:0<=b0) (h:SafeR c l n (fun _=>s0) (fun _=>b0) t):SafeR c' l' n (fun _=>s0) (fun _=>b0) t:=by
  refine ⟨fun k hk=> ?_,fun k hk=> ?_,fun k hk=> ?_,?_⟩
  ·rw [Zie hc hn h1 h2 k hk];exact h.lift _ (by omega)
  ·rw [Zig hc hn h1 h2 k hk]
   split
   ·have:=h.sh (n-2-k) (by omega);grind
   ·grind
  ·rw [Zli hc hn h1 h2 k hk]
   split
   ·exact h.be (n-3-k) (by omega)
   ·grind
  ·rw [(Zgq hc hn h1 h2).1];have:=h.tr;grind
theorem Zno {s0 b0 t:Rat} (hs:0<=s0) (hb:0<=b0):SafeR c' l' n (fun _=>s0) (fun _=>b0) t↔SafeR c l n (fun _=>s0) (fun _=>b0) t:=by
  refine ⟨fun h=> ?_,Zhn hc hn h1 h2 hs hb⟩;refine Zhn (c:=c') (l:=l') (fun k hk=>by rw [h1 k hk];exact hc _ (by omega)) hn (fun k hk=> ?_) (fun k hk=> ?_) hs hb h
  ·rw [h1 _ (by omega),show n-1-(n-1-k)=k by omega]
  ·rw [h2 _ (by omega),show n-1-(n-1-k)=k by omega]
end
structure HoR where
  lo:Int
  hi:Int
  room:Int
  deriving Inhabited
abbrev MsP (x:Int):Prop:=0<=x/\x<=999999999
def hcR (hs:List HoR) (ms:List Int) (k i:Nat):Rat:=
  if (hs.getD i default).lo<=(k:Int)/\(k:Int)<(hs.getD i default).hi then ((ms.getD i 0:Int):Rat) / (((hs.getD i default).hi-(hs.getD i default).lo:Int):Rat) else 0
def ldR (wt:List Int) (hs:List HoR) (ms:List Int) (m k:Nat):Rat:=((wt.getD k 0:Int):Rat)+sm (hcR hs ms k) m
theorem Zqg (wt:List Int) (hs:List HoR) (ms:List Int) (k:Nat):ldR wt hs ms 0 k=((wt.getD k 0:Int):Rat):=by
  unfold ldR;rw [sm];grind
theorem ld_in {wt:List Int} {hs:List HoR} {ms:List Int} {m k:Nat} (h1:(hs.getD m default).lo<=(k:Int)) (h2:(k:Int)<(hs.getD m default).hi):
    ldR wt hs ms (m+1) k=ldR wt hs ms m k+((ms.getD m 0:Int):Rat) / (((hs.getD m default).hi-(hs.getD m default).lo:Int):Rat):=by
 unfold ldR;rw [sm,show hcR hs ms k m=((ms.getD m 0:Int):Rat) / (((hs.getD m default).hi-(hs.getD m default).lo:Int):Rat) from if_pos ⟨h1,h2⟩];grind
theorem Zrz {wt:List Int} {hs:List HoR} {ms:List Int} {m k:Nat} (h: ¬ ((hs.getD m default).lo<=(k:Int)/\(k:Int)<(hs.getD m default).hi)):ldR wt hs ms (m+1) k=ldR wt hs ms m k:=by
  unfold ldR;rw [sm,show hcR hs ms k m=0 from if_neg h];grind
def Sx (b:Nat) (q:Rat):Prop:=∃z:Int,q* 60=(z:Rat)/\z.natAbs<=b
theorem Sx.add {a b:Nat} {p q:Rat} (h:Sx a p) (k:Sx b q):Sx (a+b) (p+q):=by
  obtain ⟨y,h1,h2⟩:=h;obtain ⟨z,h3,h4⟩:=k;exact ⟨y+z,by rw [Rat.intCast_add,<-h1,<-h3];grind,by have:=Int.natAbs_add_le y z;omega⟩
theorem Zr0 {hs:List HoR} {ms:List Int} {k i:Nat} (hd:(hs.getD i default).hi-(hs.getD i default).lo<=6) (hm:MsP (ms.getD i 0)):Sx 60000000000 (hcR hs ms k i):=by
  unfold hcR
  split
  ·rename_i h;obtain ⟨d,hd2⟩: ∃d,(hs.getD i default).hi-(hs.getD i default).lo=d:=⟨_,rfl⟩;rw [hd2];have hd3:1<=d:=by omega
   have hd4:d<=6:=by omega
   refine ⟨ms.getD i 0* (60 / d),?_,?_⟩
   ·have e:((60 / d:Int):Rat) * (d:Rat)=60:=by
      rw [<-Rat.intCast_mul];have:60 / d* d=60:=by
       have:d=1∨d=2∨d=3∨d=4∨d=5∨d=6:=by omega
       rcases this with rfl|rfl|rfl|rfl|rfl|rfl <;> decide
      rw [this];rfl
    have hd0:(d:Rat)≠0:=fun e=>by have:=Rat.intCast_eq_zero_iff.1 e;omega
    rw [Rat.intCast_mul];have e2:((ms.getD i 0:Int):Rat) / (d:Rat) * (d:Rat)=((ms.getD i 0:Int):Rat):=Rat.div_mul_cancel hd0;rw [<-e];grind
   ·have h6:(60 / d).natAbs<=60:=by
      have:d=1∨d=2∨d=3∨d=4∨d=5∨d=6:=by omega
      rcases this with rfl|rfl|rfl|rfl|rfl|rfl <;> decide
    rw [Int.natAbs_mul];have:=Nat.mul_le_mul (show (ms.getD i 0).natAbs<=1000000000 by have:=hm.1;have:=hm.2;omega) h6;omega
  ·exact ⟨0,by grind,by decide⟩
theorem Zr1 {f:Nat->Rat} {b:Nat}: ∀ {n:Nat},(∀i,i<n->Sx b (f i))->Sx (b* n) (sm f n)
  | 0,_=>⟨0,by rw [sm];grind,by simp⟩
  | n+1,h=>by
    rw [sm,Nat.mul_add,Nat.mul_one];exact (Zr1 fun i hi=>h i (by omega)).add (h n (by omega))
theorem Zpe {z:Int} (h:MsP z):Sx 60000000000 (z:Rat):=⟨z* 60,by rw [Rat.intCast_mul];rfl,by have:=h.1;have:=h.2;omega⟩
theorem Sx.dn {q:Rat} (h:Sx 1000000000000 q):Dn 13 q:=by
  obtain ⟨z,h1,h2⟩:=h;exact Zed (D:=60) (by decide) h1 ⟨by have:(10:Nat)^13=10000000000000:=(by decide);omega⟩ ⟨by decide⟩
structure Shp where
  hs:List HoR
  wt:List Int
  ca:List Rat
  sh:List Int
  be:List Int
  t:Rat
def HoP (n:Nat) (h:HoR):Prop:=0<=h.lo/\h.lo<h.hi/\h.hi<=(n:Int)/\MsP h.room
structure ShOk (s:Shp):Prop where
  n0:0<s.wt.length
  n6:s.wt.length<=6
  lc:s.ca.length=s.wt.length
  ls:s.sh.length=s.wt.length
  lb:s.be.length=s.wt.length
  wt: ∀x∈s.wt,MsP x
  ca: ∀q∈s.ca,Dn 12 q/\0<q
  sh: ∀x∈s.sh,MsP x
  be: ∀x∈s.be,MsP x
  h0:0<s.hs.length
  h12:s.hs.length<=12
  ho: ∀k (h:k<s.hs.length),HoP s.wt.length s.hs[k]
  ord: ∀k (h:k+1<s.hs.length),s.hs[k].hi<=s.hs[k+1].lo
  t0:0<=s.t
  td:Dn 12 s.t
structure CgOk (s:Shp) (ms:List Int):Prop where
  len:ms.length=s.hs.length
  ok: ∀x∈ms,MsP x
def cF (s:Shp) (k:Nat):Rat:=s.ca.getD k 0
def lF (s:Shp) (ms:List Int) (k:Nat):Rat:=ldR s.wt s.hs ms s.hs.length k
theorem Zbw {α:Type} {p:α->Prop} {l:List α} (h: ∀x∈l,p x) {d:α} {i:Nat} (hi:i<l.length):p (l.getD i d):=by
  rw [List.getD_eq_getElem?_getD,List.getElem?_eq_getElem hi];exact h _ (List.getElem_mem hi)
theorem Zax {α:Type} {l:List α} {d:α} {i:Nat} (hi:i<l.length):l.getD i d=l[i]:=by
  rw [List.getD_eq_getElem?_getD,List.getElem?_eq_getElem hi];rfl
section
variable {s:Shp} {ms:List Int} (hs:ShOk s) (hm:CgOk s ms)
include hs
theorem ShOk.cpos {k:Nat} (hk:k<s.wt.length):0<cF s k:=(Zbw hs.ca (by rw [hs.lc];exact hk)).2
theorem ShOk.cdn {k:Nat} (hk:k<s.wt.length):Dn 12 (cF s k):=(Zbw hs.ca (by rw [hs.lc];exact hk)).1
include hm
theorem Zr2 {m k:Nat} (hmm:m<=s.hs.length) (hk:k<s.wt.length):Sx 1000000000000 (ldR s.wt s.hs ms m k):=by
  have h1:=(Zpe (Zbw (d:=0) hs.wt hk)).add (Zr1 (f:=hcR s.hs ms k) (n:=m) fun i hi=>Zr0 (by
    rw [Zax (by omega)];have h1:=hs.ho i (by omega);have h2:=hs.n6;unfold HoP at h1;omega) (Zbw hm.ok (by rw [hm.len];omega)))
  obtain ⟨z,e,h2⟩:=h1;have:=hs.h12;exact ⟨z,e,by have:60000000000* m<=60000000000* 12:=Nat.mul_le_mul_left _ (by omega);omega⟩
theorem ld_dn {m k:Nat} (hmm:m<=s.hs.length) (hk:k<s.wt.length):Dn 13 (ldR s.wt s.hs ms m k):=(Zr2 hs hm hmm hk).dn
theorem Zqh {i:Nat} (hi:i<s.hs.length):Dn 13 (((ms.getD i 0:Int):Rat) / (((s.hs.getD i default).hi-(s.hs.getD i default).lo:Int):Rat)):=by
  have h:=hs.ho i hi;have h6:=hs.n6;unfold HoP at h;have e:=Zax (d:=default) hi;have h2:=Zr0 (hs:=s.hs) (ms:=ms) (k:=(s.hs.getD i default).lo.toNat) (i:=i) (by rw [e];omega) (Zbw hm.ok (by rw [hm.len];omega));unfold hcR at h2;rw [if_pos (by rw [e];omega)] at h2;obtain ⟨z,h3,h4⟩:=h2;exact Sx.dn ⟨z,h3,by omega⟩
theorem Zi9:Dn mxd (trmR (cF s) (lF s ms) s.wt.length)/\∀k,k<s.wt.length->Dn mxd (buoR (cF s) (lF s ms) s.wt.length k)/\Dn mxd (sheR (cF s) (lF s ms) s.wt.length k)/\Dn mxd (benR (cF s) (lF s ms) s.wt.length k):=by
  have key: ∀k,∃z:Int,k<s.wt.length->lF s ms k* 60=(z:Rat)/\Zb 13 z:=fun k=>by
    by_cases hk:k<s.wt.length
    ·obtain ⟨z,h1,h2⟩:=Zr2 hs hm (Nat.le_refl _) hk;exact ⟨z,fun _=>⟨h1,⟨by have:(10:Nat)^13=10000000000000:=(by decide);omega⟩⟩⟩
    ·exact ⟨0,fun h=>absurd h hk⟩
  exact Zqf (L:=fun k=>(key k).choose) hs.n0 hs.n6 (fun k hk=>hs.cpos hk) (fun k hk=>hs.cdn hk) (fun k hk=>((key k).choose_spec hk).1) (fun k hk=>((key k).choose_spec hk).2)
end
theorem Zes {f:Nat->Rat} {b:Nat}: ∀ {n:Nat},(∀k,k<n->Dn b (f k))->Dn (n* (b+1)+1) (sm f n)
  | 0,_=>by rw [sm];exact Dn.zero _ (by omega)
  | n+1,h=>by
    rw [sm];exact ((Zes fun k hk=>h k (by omega)).add (h n (by omega))).mono (by rw [Nat.succ_mul];omega)
theorem Zcs {k b:Nat} (h:k<10^b) (hb:0<b):Dn b (k:Rat):=by
  have:=Dn.int (z:=(k:Int)) (Zpd h) hb
  rwa [Rat.intCast_natCast] at this
section
variable {c l:Nat->Rat} {n:Nat} (hn:n<=6) (hc: ∀k,k<n->Dn 12 (c k)) (hl: ∀k,k<n->Dn 13 (l k))
include hn hc
theorem Znp (j:Nat) (hj:j<=n):Dn 90 (m1 c j):=(Zes (b:=13) fun k hk=>((hc k (by omega)).mul (Zcs (b:=1) (by omega) (by decide))).mono (by omega)).mono (by have:=Nat.mul_le_mul_right 14 (show j<=6 by omega);omega)
theorem Zqi (j:Nat) (hj:j<=n):Dn 100 (m2 c j):=(Zes (b:=14) fun k hk=>((hc k (by omega)).mul ((Zcs (b:=1) (by omega) (by decide)).mul (Zcs (b:=1) (by omega) (by decide)))).mono (by omega)).mono (by have:=Nat.mul_le_mul_right 15 (show j<=6 by omega);omega)
theorem Zqj (j:Nat) (hj:j<=n):Dn 90 (sm c j):=(Zes (b:=12) fun k hk=>hc k (by omega)).mono (by have:=Nat.mul_le_mul_right 13 (show j<=6 by omega);omega)
theorem Zr3:Dn 400 (sm c n* m2 c n-m1 c n* m1 c n):=(((Zqj hn hc n (Nat.le_refl _)).mul (Zqi hn hc n (Nat.le_refl _))).sub ((Znp hn hc n (Nat.le_refl _)).mul (Znp hn hc n (Nat.le_refl _)))).mono (by omega)
omit hc in
include hl in
theorem Zr4 (j:Nat) (hj:j<=n):Dn 90 (sm l j):=(Zes (b:=13) fun k hk=>hl k (by omega)).mono (by have:=Nat.mul_le_mul_right 14 (show j<=6 by omega);omega)
omit hc in
include hl in
theorem Zr5 (j:Nat) (hj:j<=n):Dn 100 (m1 l j):=(Zes (b:=14) fun k hk=>((hl k (by omega)).mul (Zcs (b:=1) (by omega) (by decide))).mono (by omega)).mono (by have:=Nat.mul_le_mul_right 15 (show j<=6 by omega);omega)
end
end Go.Proofs.YtijajkfmlghgkaaGreatDoor
namespace Go.Proofs.YtijajkfmlghgkaaGreatDoor.Nu
open Go Go.Proofs Go.RowKit Go.Proofs.YtijajkfmlghgkaaGreatDoor
theorem FrR.put4 {w:World} {v:Value} {q:Rat} (h:FrR w v q) {k:Nat} {e:TypeId} {s t:Int} {a b:Option Addr} {n c n' c':Nat} (hB:Box w k e [.int .i64 s,.slice a n c,.int .i64 t,.slice b n' c']) (s1 s2:Int) (a1 a2:Option Addr) (n1 c1 n2 c2:Nat):
    FrR ((((w.setCell ⟨k,0,none⟩ (.int .i64 s1)).setCell ⟨k,1,none⟩ (.slice a1 n1 c1)).setCell ⟨k,2,none⟩ (.int .i64 s2)).setCell ⟨k,3,none⟩ (.slice a2 n2 c2)) v q:=by
 obtain ⟨u1,o1,m1,d1,u2,o2,m2,d2,e,h1,h2⟩:=h;exact ⟨u1,o1,m1,d1,u2,o2,m2,d2,e,h1.put4 hB _ _ _ _ _ _ _ _,h2.put4 hB _ _ _ _ _ _ _ _⟩
theorem Box.put4 {w:World} {k:Nat} {e:TypeId} {x:F4} (hB:Box w k e x.enc) (y:F4):
    Box ((((w.setCell ⟨k,0,none⟩ (.int .i64 y.s)).setCell ⟨k,1,none⟩ (.slice y.a y.n y.c)).setCell ⟨k,2,none⟩ (.int .i64 y.t)).setCell ⟨k,3,none⟩ (.slice y.b y.m y.d)) k e y.enc:=
 (((Box.set hB 0 _).set 1 _).set 2 _).set 3 _
theorem Znq (v:Value) (w:World):(method 593 135 v "Add").run Tryz.prog w= .ok (164,v) w:=by kernel_rfl
theorem Zcn {α:Type} (f:Nat->α) {n k:Nat} (h:k<((List.range n).map f).length):((List.range n).map f)[k]=f k:=by simp
theorem Zdh (w:World) (v1 v2:Value) (f:Nat->Rat) (n:Nat) (hn:n<=1000) (h1:FrR w v1 0) (h2:SlF w v2 ((List.range n).map f)) (hd: ∀k,k<=n->Dw (sm f k)) (hf: ∀k,k<n->Dw (f k)):Calls Tryz.prog 221 #[v1,v2] w (RetF w (sm f n)):=by
  obtain ⟨x,rfl,hx⟩:=h1.f4;have HSL:=Zh h2;obtain ⟨a,c,rfl,hc⟩:=h2.shape;rw [List.length_map,List.length_range] at hc;have HD:=Zh hd;have HF:=Zh hf;have HX0:=Zh hx;clear h1 h2 hd hf hx hc;have e:((List.range n).map f).length=n:=by simp
  rw [e];rw [e] at HSL;clear e;have HB_0:=Zh ((Below.refl w.heap.size w).alloc (Nat.le_refl _) (.cells #[.int .i64 x.s,.slice x.a x.n x.c,.int .i64 x.t,.slice x.b x.m x.d] 135));have HB:=Zh (HB_0.alloc HB_0.size (.cells #[.int .i64 0,.slice none 0 0,.int .i64 0,.slice none 0 0] 135));have HX:=Zh ((Box.new w #[.int .i64 x.s,.slice x.a x.n x.c,.int .i64 x.t,.slice x.b x.m x.d] 135).alloc (.cells #[.int .i64 0,.slice none 0 0,.int .i64 0,.slice none 0 0] 135));have HZ:=Zh (Box.newAt (w.alloc (.cells #[.int .i64 x.s,.slice x.a x.n x.c,.int .i64 x.t,.slice x.b x.m x.d] 135)) #[.int .i64 0,.slice none 0 0,.int .i64 0,.slice none 0 0] 135 (n:=w.heap.size+1) (by simp));obtain ⟨x0,x1,x2,x3,xf,xz⟩:=HX.w4;obtain ⟨z0,z1,z2,z3,zf,zz⟩:=HZ.w4;clear HB_0;go_enter Tryz.func221,Tryz.ntmps221;go_wp2_with fail;generalize hW:(w.alloc (.cells #[.int .i64 x.s,.slice x.a x.n x.c,.int .i64 x.t,.slice x.b x.m x.d] 135)).alloc (.cells #[.int .i64 0,.slice none 0 0,.int .i64 0,.slice none 0 0] 135)=W at *
  go_loopw [9] (fun i wr=> ∃k:Nat,k<=n/\i= .int .i64 k/\Hid (Below w.heap.size w wr)/\Hid (∃y:F4,Box wr w.heap.size 135 y.enc/\FrR wr y.v (sm f k))/\Hid (Box wr (w.heap.size+1) 135 [.int .i64 0,.slice none 0 0,.int .i64 0,.slice none 0 0])) (fun i _=>n-(intOf i).toNat)
  case atStart=>exact ⟨0,by omega,rfl,HB,Zh ⟨x,HX.out,HX0.later (by subst hW;exact (Below.refl _ _).alloc (Nat.le_refl _) _ |>.alloc (by simp) _)⟩,HZ⟩
  case round=>
    obtain ⟨k,hk,rfl,HBE,HXE,HZE⟩:=hrel;obtain ⟨y,hy,hyf⟩:=HXE.out;have HY:=Zh hy;have HYF:=Zh hyf;clear HXE hyf HX x0 x1 x2 x3 xf xz z0 z1 z2 z3 zf zz;obtain ⟨y0,y1,y2,y3,yf,yz⟩:=(show Box wr w.heap.size 135 [.int .i64 y.s,.slice y.a y.n y.c,.int .i64 y.t,.slice y.b y.m y.d] from hy).w4;clear hy
    by_cases hlt:k<n
    ·obtain ⟨b,off,u,ha,hb,hat,huf⟩:=(HSL.later HBE.out).at k (by simpa using hlt);rw [Zcn] at huf;subst ha;have HAT:=Zh hat;have HUF:=Zh huf;have c0:=hat 0 _ rfl;have c1:=hat 1 _ rfl;have c2:=hat 2 _ rfl;have c3:=hat 3 _ rfl;rw [Nat.add_zero] at c0;clear hat huf;have hme:=Znq;go_wp2_with fail;have hal:Below wr.heap.size wr (wr.alloc (.cells #[.int .i64 u.s,.slice u.a u.n u.c,.int .i64 u.t,.slice u.b u.m u.d] 135)):=(Below.refl _ _).alloc (Nat.le_refl _) _;refine (fadd _ _ _ (HYF.later hal) (HUF.later hal) (HD.out k hk) (HF.out k hlt)).mono ?_;rintro e5 w5 ⟨v5,rfl,hf5,hb⟩;have hb2:=hal.trans (hb.mono hal.size);have HB5:=Zh (HBE.Zg hb2);have HY5:=Zh (HY.later hb2);have HZ5:=Zh (HZE.later hb2);obtain ⟨q,rfl,hq⟩:=hf5.f4;have HQ:=Zh hq;clear hal hb hb2 hf5 hq c0 c1 c2 c3 y0 y1 y2 y3 yf yz hme;obtain ⟨y0,y1,y2,y3,yf,yz⟩:=(show Box w5 w.heap.size 135 [.int .i64 y.s,.slice y.a y.n y.c,.int .i64 y.t,.slice y.b y.m y.d] from HY5.out).w4;go_wp2_with fail;go_roundw
     case rel=>
       refine ⟨k+1,by omega,by go_num,Zh ?_,Zh ⟨q,Box.put4 HY5.out q,by rw [sm];exact HQ.put4 HY5.out _ _ _ _ _ _ _ _⟩,Zh ((((HZ5.other _ (by simp)).other _ (by simp)).other _ (by simp)).other _ (by simp))⟩
       repeat (first|with_reducible exact HB5.out|with_reducible exact Below.refl _ _|refine .Zs ?_ _|refine .Za ?_ _|refine .drew ?_)
     case measure=>simp [intOf];omega
    ·obtain rfl:k=n:=by omega
     have HZ:=HZE;have HB:=HBE;obtain ⟨z0,z1,z2,z3,zf,zz⟩:=HZ.w4;have hyq:=HYF.out;clear HD HF HSL;go_wp2_with fail;refine bodyPost_ret (v:= .agg #[.int .i64 y.s,.slice y.a y.n y.c,.int .i64 y.t,.slice y.b y.m y.d]) (by simp [results,Tryz.results221,go_sem, *]) rfl ?_;refine RetF.mk rfl (hyq.put4 HZ.out _ _ _ _ _ _ _ _) ?_
     repeat (first|with_reducible exact HB.out|with_reducible exact Below.refl _ _|refine .Zs ?_ _|refine .Za ?_ _|refine .drew ?_)
theorem Znr {q:Rat} {k:Nat} (hk:0<k) (h:Dn k q):(ratL q).length<=k+1+(k+1):=by
  have h1:=Zdu hk h.n;have h2:=(Zaw hk).2 h.d;unfold ratL;rw [List.length_append]
  split
  ·simp;omega
  ·simp;omega
theorem Zja (q:Rat):(q.den=1->Lib.cut (ratL q) [47]=(Lib.itoa q.num,[],false))/\(q.den≠1->Lib.cut (ratL q) [47]=(Lib.itoa q.num,Lib.itoa (q.den:Int),true)):=by
  refine ⟨fun h=> ?_,fun h=> ?_⟩
  ·unfold ratL;rw [if_pos h,List.append_nil];exact Zni _
  ·unfold ratL;rw [if_neg h,Zp2 (Zcw _),Zav (Int.natCast_nonneg _),Int.toNat_natCast]
theorem Zpf (w:World) (hw:TbR w) (q:Rat) (hq:Dn 1000 q):Calls Tryz.prog 187 #[.string (txq q),.string ⟨#[47]⟩] w (Ret (.tuple #[.string (txz q.num),.string (if q.den=1 then ⟨#[]⟩ else txz (q.den:Int)),.bool (!decide (q.den=1))]) w):=by
  obtain ⟨m,hm⟩:=hw.mx;have hl:=Znr (by decide) hq;have h:=Tryz.strings_Cut (txq q) ⟨#[47]⟩ m w (by unfold txq;rw [Zan];omega) hm;have e:(txq q).data.toList=ratL q:=Zec _;rw [e,show (⟨#[47]⟩:ByteArray).data.toList=[47] from rfl] at h;refine h.mono fun _ _ h=>⟨?_,by obtain ⟨n,rfl⟩:=h.2;exact below_drewN (Below.refl _ _) n⟩;rw [h.1]
  by_cases hd:q.den=1
  ·rw [(Zja q).1 hd,if_pos hd,Zt hd];rfl
  ·rw [(Zja q).2 hd,if_neg hd,Zf hd];rfl
theorem Zih (w:World) (hw:TbR w) (q:Rat) (hq:Dn 1000 q):Calls Tryz.prog 116 #[.string (txq q)] w (RetF w q):=by
  have HC:=Zh (fun (w1:World) (hb:Below w.heap.size w w1)=>Zpf w1 (hw.later hb) q hq);have HN:=Zh (fun (w1:World)=>Zgo w1 q.num (hq.zn.mono (by decide)));have HDD:=Zh (fun (w1:World)=>Zgo w1 (q.den:Int) (hq.zd.mono (by decide)));have HW:=Zh (fun (w1:World) (v:Value) (h:IntR w1 v q.num)=>Zh8 w1 v q.num h);have HFW:=Zh (show q.den=1->((q.num:Int):Rat)=q from fun h=>by
    apply Rat.ext
    ·rw [Rat.num_intCast]
    ·rw [Rat.den_intCast,h])
  have HFR:=Zh (fun (u:World) (s1:Int) (a1:Option Addr) (n1 c1:Nat) (s2:Int) (a2:Option Addr) (n2 c2:Nat) (h1:IntR u (.agg #[.int .i64 s1,.slice a1 n1 c1]) q.num) (h2:IntR u (.agg #[.int .i64 s2,.slice a2 n2 c2]) (q.den:Int))=>(⟨_,_,_,_,_,_,_,_,rfl,h1,h2⟩:FrR u (.agg #[.int .i64 s1,.slice a1 n1 c1,.int .i64 s2,.slice a2 n2 c2]) q));obtain ⟨X,hX⟩: ∃X,txq q=X:=⟨_,rfl⟩;rw [hX] at HC ⊢;clear hX hw hq;have HB:=Zh ((Below.refl w.heap.size w).alloc (Nat.le_refl _) (.cells #[.int .i64 0,.slice none 0 0,.int .i64 0,.slice none 0 0] 135));have HZ:=Zh (Box.new w #[.int .i64 0,.slice none 0 0,.int .i64 0,.slice none 0 0] 135);obtain ⟨z0,z1,z2,z3,zf,zz⟩:=HZ.w4
  by_cases hd:q.den=1
  ·have HQ:=Zh (HFW.out hd);rw [if_pos hd,Zt hd] at HC;clear HFW HFR HDD hd;generalize txz q.num=N at *;go_enter Tryz.func116,Tryz.ntmps116;go_wp2_with fail;refine (HC.out _ HB.out).mono ?_;rintro e3 w3 ⟨rfl,hb⟩;replace HB:=Zh (HB.Zg hb);replace HZ:=Zh (HZ.later hb);clear hb z0 z1 z2 z3 zf zz;obtain ⟨z0,z1,z2,z3,zf,zz⟩:=HZ.w4;go_wp2_with fail;refine (HN.out _).mono ?_;rintro e4 w4 ⟨v4,rfl,hi4,hb⟩;have HI4:=Zh hi4;clear hi4;replace HB:=Zh (HB.Zg hb);replace HZ:=Zh (HZ.later hb);clear hb z0 z1 z2 z3 zf zz;obtain ⟨z0,z1,z2,z3,zf,zz⟩:=HZ.w4;go_wp2_with fail;refine (HW.out _ _ HI4.out).mono ?_;rintro e5 w5 ⟨v5,rfl,hf5,hb⟩;rw [HQ.out] at hf5;replace HB:=Zh (HB.Zg hb);replace HZ:=Zh (HZ.later hb);clear hb z0 z1 z2 z3 zf zz;obtain ⟨z0,z1,z2,z3,zf,zz⟩:=HZ.w4;obtain ⟨s7,a7,n7,c7,t7,b7,m7,d7,rfl,k1,k2⟩:=hf5;have HK1:=Zh k1;have HK2:=Zh k2;clear k1 k2;go_wp2_with fail;refine bodyPost_ret (v:= .agg #[.int .i64 s7,.slice a7 n7 c7,.int .i64 t7,.slice b7 m7 d7]) (by simp [results,Tryz.results116,go_sem, *]) rfl ?_;refine RetF.mk rfl ⟨_,_,_,_,_,_,_,_,rfl,HK1.put4 HZ.out _ _ _ _ _ _ _ _,HK2.put4 HZ.out _ _ _ _ _ _ _ _⟩ ?_
   repeat (first|with_reducible exact HB.out|with_reducible exact Below.refl _ _|refine .Zs ?_ _|refine .Za ?_ _|refine .drew ?_)
  ·rw [if_neg hd,Zf hd] at HC;clear HFW HW hd;generalize txz q.num=N at *;generalize txz (q.den:Int)=M at *;go_enter Tryz.func116,Tryz.ntmps116;go_wp2_with fail;refine (HC.out _ HB.out).mono ?_;rintro e3 w3 ⟨rfl,hb⟩;replace HB:=Zh (HB.Zg hb);replace HZ:=Zh (HZ.later hb);clear hb z0 z1 z2 z3 zf zz;obtain ⟨z0,z1,z2,z3,zf,zz⟩:=HZ.w4;go_wp2_with fail;refine (HN.out _).mono ?_;rintro e4 w4 ⟨v4,rfl,hi4,hb⟩;obtain ⟨s4,a4,n4,c4,rfl,_,_,_,_⟩:=hi4.form;have HI4:=Zh hi4;clear hi4;replace HB:=Zh (HB.Zg hb);replace HZ:=Zh (HZ.later hb);clear hb z0 z1 z2 z3 zf zz;obtain ⟨z0,z1,z2,z3,zf,zz⟩:=HZ.w4;go_wp2_with fail;refine (HDD.out _).mono ?_;rintro e5 w5 ⟨v5,rfl,hi5,hb⟩;obtain ⟨s5,a5,n5,c5,rfl,_,_,_,_⟩:=hi5.form;have hf5:=HFR.out w5 _ _ _ _ _ _ _ _ (HI4.later hb) hi5;clear hi5 HI4;replace HB:=Zh (HB.Zg hb);replace HZ:=Zh (HZ.later hb);clear hb z0 z1 z2 z3 zf zz;obtain ⟨z0,z1,z2,z3,zf,zz⟩:=HZ.w4;have HF5:=Zh hf5;clear hf5;go_wp2_with fail;refine bodyPost_ret (v:= .agg #[.int .i64 s4,.slice a4 n4 c4,.int .i64 s5,.slice a5 n5 c5]) (by simp [results,Tryz.results116,go_sem, *]) rfl ?_;refine RetF.mk rfl (FrR.put4 (q:=q) HF5.out HZ.out _ _ _ _ _ _ _ _) ?_
   repeat (first|with_reducible exact HB.out|with_reducible exact Below.refl _ _|refine .Zs ?_ _|refine .Za ?_ _|refine .drew ?_)
theorem Zfp {b:Int} (h0:0<=b) (h9:b<=30) {r:Nat} (h:r<=4):Sm (b^r):=by
  obtain ⟨n,rfl⟩: ∃n:Nat,b=(n:Int):=⟨b.toNat,by omega⟩;have h1:n^r<=30^4:=Nat.le_trans (Nat.pow_le_pow_left (show n<=30 by omega) r) (Nat.pow_le_pow_right (by decide) h);rw [<-Int.natCast_pow];exact ⟨by omega,by omega⟩
theorem spowB (w:World) (b:Int) (hb0:0<=b) (hb9:b<=30) (n:Nat) (hn:n<=4):Calls Tryz.prog 259 #[.agg #[.int .i64 b,.slice none 0 0],.int .i64 (n:Int)] w (Ret (.agg #[.int .i64 (b^n),.slice none 0 0]) w):=by
  have HO:=Zh (fun (w1:World) (n:Int)=>of94 n w1);have HM:=Zh (fun (w1:World) (r q s:Nat) (h:r+q=s) (hs:s<=4)=>(by
    have h:=Zo8 w1 (b^r) (b^q) (Zfp hb0 hb9 (by omega)) (Zfp hb0 hb9 (by omega)) (by rw [<-Int.pow_add,h];exact Zfp hb0 hb9 hs);rw [<-Int.pow_add] at h;subst s;exact h:Calls Tryz.prog 234 #[.agg #[.int .i64 (b^r),.slice none 0 0],.agg #[.int .i64 (b^q),.slice none 0 0]] w1 (Ret (.agg #[.int .i64 (b^s),.slice none 0 0]) w1)))
  have HP:=Zh (fun (n:Nat)=>show b^n=b^n from rfl);have HP1:=Zh (show b^1=b/\b^0=1 from ⟨Int.pow_one b,Int.pow_zero b⟩);obtain ⟨p,hp⟩: ∃p:Nat->Int,(fun n=>b^n)=p:=⟨_,rfl⟩;have hp': ∀n:Nat,b^n=p n:=fun n=>congrFun hp n;have HM2:=Zh (fun (w1:World) (r q s:Nat) (h:r+q=s) (hs:s<=4)=>(by
    have h:=HM.out w1 r q s h hs;rw [hp' r,hp' q,hp' s] at h;exact h:Calls Tryz.prog 234 #[.agg #[.int .i64 (p r),.slice none 0 0],.agg #[.int .i64 (p q),.slice none 0 0]] w1 (Ret (.agg #[.int .i64 (p s),.slice none 0 0]) w1)))
  rw [hp' 1,hp' 0] at HP1;rw [hp' n];clear HM HP hp hp';have HN:=Zh hn;clear hn;have HB_0:=Zh ((Below.refl w.heap.size w).alloc (Nat.le_refl _) (.cells #[.int .i64 b,.slice none 0 0] 133));have HB:=Zh (HB_0.alloc HB_0.size (.cells #[.int .i64 0,.slice none 0 0] 133));have HX:=Zh ((Box.new w #[.int .i64 b,.slice none 0 0] 133).alloc (.cells #[.int .i64 0,.slice none 0 0] 133));have HZ:=Zh (Box.newAt (w.alloc (.cells #[.int .i64 b,.slice none 0 0] 133)) #[.int .i64 0,.slice none 0 0] 133 (n:=w.heap.size+1) (by simp));obtain ⟨x0,x1,xf,xz⟩:=HX.v2;obtain ⟨z0,z1,zf,zz⟩:=HZ.v2;clear HB_0;go_enter Tryz.func259,Tryz.ntmps259;go_wp2_with fail;refine (HO.out _ _).mono ?_;rintro e4 w4 ⟨rfl,hb⟩;replace HB:=Zh (HB.Zg hb);replace HX:=Zh (HX.later hb);replace HZ:=Zh (HZ.later hb);clear hb x0 x1 xf xz z0 z1 zf zz;obtain ⟨x0,x1,xf,xz⟩:=HX.v2;obtain ⟨z0,z1,zf,zz⟩:=HZ.v2;have HR:=Zh (Box.new w4 #[.int .i64 1,.slice none 0 0] 133);have HB4:=Zh (HB.alloc HB.size (.cells #[.int .i64 1,.slice none 0 0] 133));have HX4:=Zh (HX.alloc (.cells #[.int .i64 1,.slice none 0 0] 133));have HZ4:=Zh (HZ.alloc (.cells #[.int .i64 1,.slice none 0 0] 133));have HLT:=Zh (show w.heap.size<w4.heap.size/\w.heap.size+1<w4.heap.size from ⟨HX.lt,HZ.lt⟩);go_wp2_with fail;clear x0 x1 xf xz z0 z1 zf zz HX HZ HB;generalize w4.alloc (.cells #[.int .i64 1,.slice none 0 0] 133)=w5 at *;generalize w4.heap.size=g at *
  go_loopw [1] (fun i wr=> ∃r q k:Nat,r+q* k=n/\q≠0/\i= .int .i64 (k:Int)/\Below w.heap.size w wr/\Box wr w.heap.size 133 [.int .i64 (p q),.slice none 0 0]/\Box wr g 133 [.int .i64 (p r),.slice none 0 0]/\Box wr (w.heap.size+1) 133 [.int .i64 0,.slice none 0 0]) (fun i _=>(intOf i).toNat)
  case atStart=>exact ⟨0,1,n,by omega,by decide,rfl,HB4.out,by rw [HP1.out.1];exact HX4.out,by rw [HP1.out.2];exact HR.out,HZ4.out⟩
  case round=>
    obtain ⟨r,q,k,hk,HQ,rfl,hbe,hbx,hbr,hbz⟩:=hrel;have HX:=Zh hbx;have HR:=Zh hbr;have HZ:=Zh hbz;have HB:=Zh hbe;have HK:=Zh hk;clear hk hbe hbx hbr hbz HX4 HZ4 HB4;obtain ⟨x0,x1,xf,xz⟩:=HX.v2;obtain ⟨r0,r1,rf,rz⟩:=HR.v2;obtain ⟨z0,z1,zf,zz⟩:=HZ.v2
    by_cases h0:k=0
    ·subst h0;have e:r=n:=by have:=HK.out;omega
     subst e;go_wp2_with fail;refine bodyPost_ret (v:= .agg #[.int .i64 (p r),.slice none 0 0]) (by simp [results,Tryz.results259,go_sem, *]) rfl ?_;refine Ret.mk rfl ?_
     repeat (first|with_reducible exact HB.out|with_reducible exact Below.refl _ _|refine .Zs ?_ _|refine .Za ?_ _|refine .drew ?_)
    ·have d0:decide ((0:Int)<(k:Int))=true:=Zt (by omega);have hk18:q=0∨k<=4:=by
       rcases Nat.eq_zero_or_pos q with h|h
       ·exact .inl h
       ·have:=HK.out;have:=HN.out;have:=Nat.le_mul_of_pos_left k h;exact .inr (by omega)
     have k1:(k:Int) / 2=((k / 2:Nat):Int):=by omega
     have hq1:q≠0:=HQ;have hbit:bits BinOp.and IntKind.i64 (k:Int) 1=((k % 2:Nat):Int):=by
       have: ∀k:Nat,k<5->bits BinOp.and IntKind.i64 (k:Int) 1=((k % 2:Nat):Int):=by decide
       exact this k (by omega)
     have hd:(k % 2=1/\1<k)∨(k % 2=1/\k=1)∨(k % 2=0/\1<k):=by omega
     obtain ⟨h,hh⟩: ∃h,k / 2=h:=⟨_,rfl⟩;have HH:=Zh (show k=2* h+k % 2 by omega);rw [hh] at k1;have HMU:=Zh (show q* k=q* 2* h+q* (k % 2) by rw [Nat.mul_assoc,<-Nat.mul_add,<-HH.out]);clear hk18 hh;have hpos:0<k:=by omega
     have d2:decide (0<k)=true:=Zt (by omega);clear h0 hq1
     rcases hd with ⟨hp,h1⟩|⟨hp,h1⟩|⟨hp,h1⟩
     ·rw [hp] at hbit HMU;have d1:decide ((1:Int)<(k:Int))=true:=Zt (by omega);have d3:decide (1<k)=true:=Zt (by omega);clear hp;go_wp2_with fail;refine (HM2.out wr r q (r+q) rfl (by have:=HK.out;have:=HN.out;have:=HMU.out;have:=Nat.le_mul_of_pos_right q (show 0<k by omega);omega)).mono ?_;rintro e6 w6 ⟨rfl,hb⟩;have HB6:=Zh (HB.Zg hb);have HX6:=Zh (HX.later hb);have HR6:=Zh (HR.later hb);have HZ6:=Zh (HZ.later hb);clear hb x0 x1 xf xz r0 r1 rf rz z0 z1 zf zz HX HR HZ HB;have HX:=Zh ((HX6.other (a:=⟨g,0,none⟩) (.int .i64 (p (r+q))) (by have:=HLT.out;dsimp only;omega)).other (a:=⟨g,1,none⟩) (.slice none 0 0) (by have:=HLT.out;dsimp only;omega));have HR:=Zh ((HR6.set 0 (.int .i64 (p (r+q)))).set 1 (.slice none 0 0));have HZ:=Zh ((HZ6.other (a:=⟨g,0,none⟩) (.int .i64 (p (r+q))) (by have:=HLT.out;dsimp only;omega)).other (a:=⟨g,1,none⟩) (.slice none 0 0) (by have:=HLT.out;dsimp only;omega));have HB:=Zh ((HB6.setCell (p:=⟨g,0,none⟩) (by have:=HLT.out;dsimp only;omega) (.int .i64 (p (r+q)))).setCell (p:=⟨g,1,none⟩) (by have:=HLT.out;dsimp only;omega) (.slice none 0 0));obtain ⟨r0,r1,rf,rz⟩:=HR6.v2;obtain ⟨x0,x1,xf,xz⟩:=HX.v2;clear HX6 HZ6 HB6;go_wp2_with fail;refine (HM2.out _ q q (q* 2) (by omega) (by have:=HK.out;have:=HN.out;have:=HMU.out;have:q* 2* 1<=q* 2* h:=Nat.mul_le_mul_left _ (by omega);omega)).mono ?_;rintro e7 w7 ⟨rfl,hb⟩;have HB6:=Zh (HB.Zg hb);have HX6:=Zh (HX.later hb);have HR6:=Zh (HR.later hb);have HZ6:=Zh (HZ.later hb);clear hb x0 x1 xf xz HX HR HZ HB
      try clear r0 r1 rf rz
      try clear z0 z1 zf zz
      obtain ⟨x0,x1,xf,xz⟩:=HX6.v2;go_wp2_with fail;go_roundw
      case rel=>
        refine ⟨r+q,q* 2,h,by have:=HK.out;have:=HMU.out;omega,by omega,by go_num,?_,(HX6.set 0 (.int .i64 (p (q* 2)))).set 1 (.slice none 0 0),(HR6.other (a:=⟨w.heap.size,0,none⟩) (.int .i64 (p (q* 2))) (by have:=HLT.out;dsimp only;omega)).other (a:=⟨w.heap.size,1,none⟩) (.slice none 0 0) (by have:=HLT.out;dsimp only;omega),(HZ6.other (a:=⟨w.heap.size,0,none⟩) (.int .i64 (p (q* 2))) (by dsimp only;omega)).other (a:=⟨w.heap.size,1,none⟩) (.slice none 0 0) (by dsimp only;omega)⟩
        repeat (first|with_reducible exact HB6.out|with_reducible exact Below.refl _ _|refine .Zs ?_ _|refine .Za ?_ _|refine .drew ?_)
      case measure=>simp [intOf];omega
     ·rw [hp] at hbit HMU;have d1:decide ((1:Int)<(k:Int))=false:=Zf (by omega);have d3:decide (1<k)=false:=Zf (by omega);clear hp;go_wp2_with fail;refine (HM2.out wr r q (r+q) rfl (by have:=HK.out;have:=HN.out;have:=HMU.out;have:=Nat.le_mul_of_pos_right q (show 0<k by omega);omega)).mono ?_;rintro e6 w6 ⟨rfl,hb⟩;have HB6:=Zh (HB.Zg hb);have HX6:=Zh (HX.later hb);have HR6:=Zh (HR.later hb);have HZ6:=Zh (HZ.later hb);clear hb x0 x1 xf xz r0 r1 rf rz z0 z1 zf zz HX HR HZ HB;have HX:=Zh ((HX6.other (a:=⟨g,0,none⟩) (.int .i64 (p (r+q))) (by have:=HLT.out;dsimp only;omega)).other (a:=⟨g,1,none⟩) (.slice none 0 0) (by have:=HLT.out;dsimp only;omega));have HR:=Zh ((HR6.set 0 (.int .i64 (p (r+q)))).set 1 (.slice none 0 0));have HZ:=Zh ((HZ6.other (a:=⟨g,0,none⟩) (.int .i64 (p (r+q))) (by have:=HLT.out;dsimp only;omega)).other (a:=⟨g,1,none⟩) (.slice none 0 0) (by have:=HLT.out;dsimp only;omega));have HB:=Zh ((HB6.setCell (p:=⟨g,0,none⟩) (by have:=HLT.out;dsimp only;omega) (.int .i64 (p (r+q)))).setCell (p:=⟨g,1,none⟩) (by have:=HLT.out;dsimp only;omega) (.slice none 0 0));obtain ⟨r0,r1,rf,rz⟩:=HR6.v2;obtain ⟨x0,x1,xf,xz⟩:=HX.v2;clear HX6 HZ6 HB6;go_wp2_with fail;go_roundw
      case rel=>
        have e:h=0:=by have:=HH.out;omega
        subst e;exact ⟨r+q,q,0,by have:=HK.out;have:=HMU.out;omega,HQ,by go_num,HB.out,HX.out,HR.out,HZ.out⟩
      case measure=>simp [intOf];omega
     ·rw [hp] at hbit HMU;have d1:decide ((1:Int)<(k:Int))=true:=Zt (by omega);have d3:decide (1<k)=true:=Zt (by omega);clear hp;go_wp2_with fail;refine (HM2.out _ q q (q* 2) (by omega) (by have:=HK.out;have:=HN.out;have:=HMU.out;have:q* 2* 1<=q* 2* h:=Nat.mul_le_mul_left _ (by omega);omega)).mono ?_;rintro e7 w7 ⟨rfl,hb⟩;have HB6:=Zh (HB.Zg hb);have HX6:=Zh (HX.later hb);have HR6:=Zh (HR.later hb);have HZ6:=Zh (HZ.later hb);clear hb x0 x1 xf xz HX HR HZ HB
      try clear r0 r1 rf rz
      try clear z0 z1 zf zz
      obtain ⟨x0,x1,xf,xz⟩:=HX6.v2;go_wp2_with fail;go_roundw
      case rel=>
        refine ⟨r,q* 2,h,by have:=HK.out;have:=HMU.out;omega,by omega,by go_num,?_,(HX6.set 0 (.int .i64 (p (q* 2)))).set 1 (.slice none 0 0),(HR6.other (a:=⟨w.heap.size,0,none⟩) (.int .i64 (p (q* 2))) (by have:=HLT.out;dsimp only;omega)).other (a:=⟨w.heap.size,1,none⟩) (.slice none 0 0) (by have:=HLT.out;dsimp only;omega),(HZ6.other (a:=⟨w.heap.size,0,none⟩) (.int .i64 (p (q* 2))) (by dsimp only;omega)).other (a:=⟨w.heap.size,1,none⟩) (.slice none 0 0) (by dsimp only;omega)⟩
        repeat (first|with_reducible exact HB6.out|with_reducible exact Below.refl _ _|refine .Zs ?_ _|refine .Za ?_ _|refine .drew ?_)
      case measure=>simp [intOf];omega
end Go.Proofs.YtijajkfmlghgkaaGreatDoor.Nu
