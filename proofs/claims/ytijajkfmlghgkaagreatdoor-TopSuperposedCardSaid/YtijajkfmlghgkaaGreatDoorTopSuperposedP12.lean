/- Lemmas on the way to the law TopSuperposed: Kb Kc Kd Ke Kf Kg Kh Ki -/
import Derived.Test.YtijajkfmlghgkaaGreatDoorTopSuperposedP11
set_option linter.unusedVariables false
set_option linter.unusedSimpArgs false
set_option maxRecDepth 100000
set_option maxHeartbeats 4000000
namespace Go.Proofs.YtijajkfmlghgkaaGreatDoor.Nu
open Go Go.Proofs Go.RowKit Go.Proofs.YtijajkfmlghgkaaGreatDoor
structure DzR (w:World) (v:Value) (l:List Nat) (m:Nat):Prop where
  sc:Sc encD 1 w w.heap.size v l
  dg:Dg 1000000000 l
  eq:val 1000000000 l=m
theorem DzR.later {w w':World} {v:Value} {l:List Nat} {m:Nat} (h:DzR w v l m) (hb:Below w.heap.size w w'):DzR w' v l m:=⟨h.sc.later hb,h.dg,h.eq⟩
def Zl5 (w:World) (m:Nat) (e:Ending) (w':World):Prop:=∃a n c l,e= .returned (.slice a n c)/\DzR w' (.slice a n c) l m/\Below w.heap.size w w'
theorem Zse (w:World) (a1 a2:Option Addr) (n1 n2 c1 c2:Nat) (l1 l2:List Nat) (m1 m2:Nat) (h1:DlR w (.slice a1 n1 c1) l1 m1) (h2:DlR w (.slice a2 n2 c2) l2 m2) (hb1:l1.length<=900000) (hb2:l2.length<=900000):
    Calls Tryz.prog 141 #[.slice a1 n1 c1,.slice a2 n2 c2] w (Zl5 w (m1+m2)):=by
 have HD1:=Zh h1.dg;have HD2:=Zh h2.dg;have HC1:=Zh (fun (w1:World) (hb:Below w.heap.size w w1) (i:Nat) (hi:i<=1000000000)=>Zg1 w1 a1 n1 c1 l1 (h1.sc.later hb) i hi);have HC2:=Zh (fun (w1:World) (hb:Below w.heap.size w w1) (i:Nat) (hi:i<=1000000000)=>Zg1 w1 a2 n2 c2 l2 (h2.sc.later hb) i hi);have e1:=h1.eq;have e2:=h2.eq;have HS:=Zh (show val 1000000000 l1+val 1000000000 l2=m1+m2 by omega);obtain ⟨a1',c1',e,hl1,hl1',_⟩:=h1.sc;injection e with f0 f1 f2
 obtain ⟨a2',c2',e,hl2,hl2',_⟩:=h2.sc;injection e with f3 f4 f5
 subst f0 f1 f2 f3 f4 f5;obtain ⟨S,hS⟩: ∃S,m1+m2=S:=⟨_,rfl⟩;rw [hS] at HS ⊢;obtain ⟨N,hN⟩: ∃N,l1.length=N:=⟨_,rfl⟩;obtain ⟨M,hM⟩: ∃M,l2.length=M:=⟨_,rfl⟩;have HN:=Zh hN;have HM:=Zh hM;rw [hN] at hb1 HC1 ⊢;rw [hM] at hb2 HC2 ⊢;clear hN hM hS e1 e2 hl1 hl2 hl1' hl2' h1 h2;go_enter Tryz.func141,Tryz.ntmps141;go_wp2_with fail
 go_loopw [5,6,7] (fun o cr i wr=> ∃ (k c:Nat) (d:List Nat) (v:Value),v=o/\k<=max N M+1/\(k=max N M+1->c=0)/\i= .int .i64 k/\cr= .int .i64 (c:Int)/\AddI 1000000000 l1 l2 d c k/\Below w.heap.size w wr/\Own encD 1 3 wr w.heap.size v d) (fun _ _ i _=>max N M+1-(intOf i).toNat)
 case atStart=>exact ⟨0,0,[],_,rfl,Nat.zero_le _,by omega,rfl,rfl,AddI.start _ _ _,Below.refl _ _,Own.nil _ _ _ _ _⟩
 case round=>
   obtain ⟨k,c,d,v,rfl,hk,hkc,rfl,rfl,hai,hbe,hown⟩:=hrel;have HAI:=Zh hai;have HB:=Zh hbe;have HO:=Zh hown;have hc1:=hai.carry;have hdl:=hai.len;have HCX:=Zh (HC1.out wr HB.out k (by omega));have HCY:=Zh (HC2.out wr HB.out k (by omega));clear hai hown hbe
   by_cases hgo:k<N∨k<M∨0<c
   ·have HSTEP:=Zh (HAI.step (by decide) HD1.out HD2.out rfl);have hx:=HD1.dig (by decide) k;have hy:=HD2.dig (by decide) k;have HLAST:=Zh (show max N M<=k->dig l1 k=0/\dig l2 k=0 from fun h=>⟨Zey (by rw [HN.out];omega),Zey (by rw [HM.out];omega)⟩);have hlast:k+1=max N M+1->(dig l1 k+dig l2 k+c) / 1000000000=0:=fun h=>by
      obtain ⟨u1,u2⟩:=HLAST.out (by omega);rw [u1,u2];omega
    have hkm:k+1<=max N M+1:=by omega
    generalize dig l1 k=x at *;generalize dig l2 k=y at *;obtain ⟨u,hu⟩: ∃u,x+y=u:=⟨_,rfl⟩;have kx:IntKind.i64.wrap ((x:Int)+(y:Int))=(u:Int):=by rw [IntWalk.i64_in _ (by omega)];omega
    obtain ⟨s,hs⟩: ∃s,x+y+c=s:=⟨_,rfl⟩;have ky:IntKind.i64.wrap ((u:Int)+(c:Int))=(s:Int):=by rw [IntWalk.i64_in _ (by omega)];omega
    rw [hs] at HSTEP hlast;have hs9:s<2000000000:=by omega
    have km:(s:Int).tmod 1000000000=((s % 1000000000:Nat):Int):=by rw [Int.tmod_eq_emod_of_nonneg (by omega)];omega
    have kd:(s:Int).tdiv 1000000000=((s / 1000000000:Nat):Int):=by rw [Int.tdiv_eq_ediv_of_nonneg (by omega)];omega
    have hdd:s % 1000000000<1000000000:=Nat.mod_lt _ (by decide);have hqq:s / 1000000000<=2:=by omega
    generalize s % 1000000000=dd at *;generalize s / 1000000000=q at *;have kq:IntKind.i64.wrap ((q:Nat):Int)=(q:Int):=IntWalk.i64_in _ (by omega);have kk:IntKind.i64.wrap ((k:Int)+1)=((k+1:Nat):Int):=by rw [IntWalk.i64_in _ (by omega)];omega
    have HLAST2:=Zh hlast;have HKM:=Zh hkm;have HBA:=Zh (HB.alloc HB.size (.cells #[.int .i64 (dd:Int)] 3));have HOA:=Zh (HO.alloc (.cells #[.int .i64 (dd:Int)] 3));have HSZ:=Zh (show w.heap.size<=(wr.alloc (.cells #[.int .i64 (dd:Int)] 3)).heap.size by have:=HB.size;simp;omega);have HLE:=Zh (show d.length<=1000000 by omega);have HRH:=Zh (Box.new wr #[.int .i64 (dd:Int)] 3);clear hlast hkm hkc hs hu hs9 hx hy hdl HLAST;have hways:(∃d1 d2 d3:Bool,decide (k<N)=d1/\(d1=false->decide (k<M)=d2)/\(d1=false->d2=false->decide (0<c)=d3)/\(d1=true∨d2=true∨d3=true)):=⟨_,_,_,rfl,fun _=>rfl,fun _ _=>rfl,by
      rcases hgo with h|h|h
      ·exact .inl (Zt (by omega))
      ·exact .inr (.inl (Zt (by omega)))
      ·exact .inr (.inr (Zt (by omega)))⟩
    obtain ⟨d1,d2,d3,g1,g2,g3,hor⟩:=hways;clear hgo;cases d1 with
    | true=>
      clear g2 g3 hor;go_wp2_with fail;refine HCX.mono ?_;rintro e4 w4 ⟨rfl,rfl⟩;go_wp2_with fail;refine HCY.mono ?_;rintro e5 w5 ⟨rfl,rfl⟩;go_wp2_with (at_builtin;(refine Zat encD 1 8 27 3 _ Tryz.underlying27 Zdp rfl (by decide) (by decide) Zai Zbl d dd w.heap.size _ _ _ _ HRH.out rfl _ HOA.out HSZ.out HLE.out rfl _ _ rfl rfl rfl ?_);intro v' w' hown' hg');go_roundw
      case rel=>exact ⟨k+1,q,_,v',rfl,HKM.out,HLAST2.out,rfl,rfl,HSTEP.out,HBA.grown hg' HBA.size (fun j hj=>HOA.lt' j hj),hown'⟩
      case measure=>have:=HKM.out;simp only [intOf];omega
    | false=>
      replace g2:=g2 rfl;replace g3:=g3 rfl;cases d2 with
      | true=>
        clear g3 hor;go_wp2_with fail;refine HCX.mono ?_;rintro e4 w4 ⟨rfl,rfl⟩;go_wp2_with fail;refine HCY.mono ?_;rintro e5 w5 ⟨rfl,rfl⟩;go_wp2_with (at_builtin;(refine Zat encD 1 8 27 3 _ Tryz.underlying27 Zdp rfl (by decide) (by decide) Zai Zbl d dd w.heap.size _ _ _ _ HRH.out rfl _ HOA.out HSZ.out HLE.out rfl _ _ rfl rfl rfl ?_);intro v' w' hown' hg');go_roundw
        case rel=>exact ⟨k+1,q,_,v',rfl,HKM.out,HLAST2.out,rfl,rfl,HSTEP.out,HBA.grown hg' HBA.size (fun j hj=>HOA.lt' j hj),hown'⟩
        case measure=>have:=HKM.out;simp only [intOf];omega
      | false=>
        replace g3:=g3 rfl;obtain rfl:d3=true:=by simpa using hor
        clear hor;go_wp2_with fail;refine HCX.mono ?_;rintro e4 w4 ⟨rfl,rfl⟩;go_wp2_with fail;refine HCY.mono ?_;rintro e5 w5 ⟨rfl,rfl⟩;go_wp2_with (at_builtin;(refine Zat encD 1 8 27 3 _ Tryz.underlying27 Zdp rfl (by decide) (by decide) Zai Zbl d dd w.heap.size _ _ _ _ HRH.out rfl _ HOA.out HSZ.out HLE.out rfl _ _ rfl rfl rfl ?_);intro v' w' hown' hg');go_roundw
        case rel=>exact ⟨k+1,q,_,v',rfl,HKM.out,HLAST2.out,rfl,rfl,HSTEP.out,HBA.grown hg' HBA.size (fun j hj=>HOA.lt' j hj),hown'⟩
        case measure=>have:=HKM.out;simp only [intOf];omega
   ·have hk1:N<=k:=by omega
    have hk2:M<=k:=by omega
    obtain rfl:c=0:=by omega
    have HV:=Zh (show val 1000000000 d=S by
      have h:=HAI.eq;rw [List.take_of_length_le (by rw [HN.out];omega),List.take_of_length_le (by rw [HM.out];omega),HS.out] at h;simpa using h)
    have HDG:=Zh HAI.dg;have g1:decide (k<N)=false:=Zf (by omega);have g2:decide (k<M)=false:=Zf (by omega);have g3:decide (0<0)=false:=by decide
    have hlk:d.length=k:=hdl;obtain ⟨aa,nn,cc,hsh⟩: ∃aa nn cc,v= .slice aa nn cc:=by obtain ⟨aa,cc,e,_⟩:=(Sc.of_own Zai (by omega) HO.out).shape;exact ⟨aa,_,cc,e⟩
    subst hsh;have HSC:=Zh (Sc.of_own Zai (by omega) HO.out);clear hgo hk1 hk2 hkc HCX HCY;go_wp2_with fail;go_ret;exact ⟨_,_,_,_,rfl,⟨HSC.out,HDG.out,HV.out⟩,HB.out⟩
theorem Zpm (w:World) (a1 a2:Option Addr) (n1 n2 c1 c2:Nat) (l1 l2:List Nat) (m1 m2:Nat) (h1:DlR w (.slice a1 n1 c1) l1 m1) (h2:DlR w (.slice a2 n2 c2) l2 m2) (hb1:l1.length<=900000) (hle:m2<=m1):
    Calls Tryz.prog 143 #[.slice a1 n1 c1,.slice a2 n2 c2] w (RetDl w (m1-m2)):=by
 have HD1:=Zh h1.dg;have HD2:=Zh h2.dg;have e1:=h1.eq;have e2:=h2.eq;have hlen:l2.length<=l1.length:=by
   rcases Nat.lt_or_ge l1.length l2.length with h|h
   ·have:=Zbt (B:=1000000000) (by decide) h1.dg h2.tr h;omega
   ·exact h
 have HC2:=Zh (fun (w1:World) (hb:Below w.heap.size w w1) (i:Nat) (hi:i<=1000000000)=>Zg1 w1 a2 n2 c2 l2 (h2.sc.later hb) i hi);have HDN:=Zh (fun (d:List Nat) (c:Nat) (h:SubI 1000000000 l1 l2 d c l1.length)=>(by have:=(h.done hlen (by omega)).2;omega:val 1000000000 d=m1-m2));obtain ⟨a1',c1',e,hl1,hl1',hA⟩:=h1.sc;injection e with f0 f1 f2
 subst f0 f1 f2;obtain ⟨S,hS⟩: ∃S,m1-m2=S:=⟨_,rfl⟩;rw [hS] at HDN ⊢;have HA:=Zh hA;obtain ⟨N,hN⟩: ∃N,l1.length=N:=⟨_,rfl⟩;have HN:=Zh hN;rw [hN] at hb1 HDN ⊢;clear hN hS e1 e2 hl1 hl1' h1 h2 hA hlen hle;go_enter Tryz.func143,Tryz.ntmps143;go_wp2_with fail
 go_loopw [5,6,7] (fun o cr i wr=> ∃ (k c:Nat) (d:List Nat) (v:Value),v=o/\k<=N/\i= .int .i64 k/\cr= .int .i64 (c:Int)/\SubI 1000000000 l1 l2 d c k/\Below w.heap.size w wr/\Own encD 1 3 wr w.heap.size v d) (fun _ _ i _=>N-(intOf i).toNat)
 case atStart=>exact ⟨0,0,[],_,rfl,Nat.zero_le _,rfl,rfl,SubI.start _ _ _,Below.refl _ _,Own.nil _ _ _ _ _⟩
 case round=>
   obtain ⟨k,c,d,v,rfl,hk,rfl,rfl,hai,hbe,hown⟩:=hrel;have HAI:=Zh hai;have HB:=Zh hbe;have HO:=Zh hown;have hc1:=hai.carry;have hdl:=hai.len;clear hai hown hbe
   by_cases hkN:k<N
   ·have hkl:k<l1.length:=by rw [HN.out];exact hkN
    obtain ⟨b,off,rfl,hbb,hcells⟩:=HA.out (by omega);have g1:=Zkb ((hcells k hkl).below HB.out hbb);rw [Nat.mul_one] at g1;have hbz:b<wr.heap.size:=by have:=HB.size;omega
    have hx:=HD1.dig (by decide) k;have hy:=HD2.dig (by decide) k;have HCY:=Zh (fun (X:Later wr)=>HC2.out X.w (HB.trans (X.h.mono HB.size)) k (by omega));rw [<-Zbh hkl] at g1;have hway: ∃s c',s+dig l2 k+c=dig l1 k+1000000000* c'/\s<1000000000/\c'<=1/\((c'=0/\IntKind.i64.wrap (IntKind.i64.wrap ((dig l1 k:Int)-(dig l2 k:Int))-(c:Int))=(s:Int))∨(c'=1/\∃t:Int,t<0/\IntKind.i64.wrap (IntKind.i64.wrap ((dig l1 k:Int)-(dig l2 k:Int))-(c:Int))=t/\IntKind.i64.wrap (t+1000000000)=(s:Int))):=by
      have e1:IntKind.i64.wrap ((dig l1 k:Int)-(dig l2 k:Int))=(dig l1 k:Int)-(dig l2 k:Int):=IntWalk.i64_in _ (by omega);have e2:IntKind.i64.wrap ((dig l1 k:Int)-(dig l2 k:Int)-(c:Int))=(dig l1 k:Int)-(dig l2 k:Int)-(c:Int):=IntWalk.i64_in _ (by omega);rw [e1,e2]
      by_cases h:dig l2 k+c<=dig l1 k
      ·exact ⟨dig l1 k-(dig l2 k+c),0,by omega,by omega,by omega,.inl ⟨rfl,by omega⟩⟩
      ·exact ⟨dig l1 k+1000000000-(dig l2 k+c),1,by omega,by omega,by omega,.inr ⟨rfl,_,by omega,rfl,by rw [IntWalk.i64_in _ (by omega)];omega⟩⟩
    obtain ⟨s,c',hs,hs9,hc',hway⟩:=hway;have HSTEP:=Zh (HAI.step (by decide) HD1.out HD2.out hs hs9 hc');have HKM:=Zh hkN;have hdl2:d.length<=1000000:=by omega
    clear hs HAI hdl hkl hcells;generalize dig l1 k=x at *;generalize dig l2 k=y at *;have k5:decide (k<N)=true:=Zt hkN;have k3:decide ((N:Int)<=(k:Int))=false:=Zf (by omega);have kk:IntKind.i64.wrap ((k:Int)+1)=((k+1:Nat):Int):=by rw [IntWalk.i64_in _ (by omega)];omega
    obtain ⟨z,hz⟩: ∃z,IntKind.i64.wrap ((x:Int)-(y:Int))=z:=⟨_,rfl⟩;rw [hz] at hway
    rcases hway with ⟨rfl,kz⟩|⟨rfl,t,ht,kz,kt⟩
    ·have ks:decide ((s:Int)<0)=false:=Zf (by omega);clear hx hy hs9 hc';go_wp2_with fail;refine Za3 10 (by kernel_rfl) (by kernel_rfl) ?_;simp only [Z2,Z6,Z3,Z7]
     repeat go_big_quiet_step ((go_at_call 215;exact Calls.later_same (HCY.out _)))
     refine wpQuiet_nil ?_;rintro w2 ⟨⟨_,hb2⟩,rfl⟩;replace HB:=Zh (HB.Zg hb2);replace HO:=Zh (HO.later hb2);have HBA:=Zh (HB.alloc HB.size (.cells #[.int .i64 (s:Int)] 3));have HOA:=Zh (HO.alloc (.cells #[.int .i64 (s:Int)] 3));have HSZ:=Zh (show w.heap.size<=(w2.alloc (.cells #[.int .i64 (s:Int)] 3)).heap.size by have:=HB.size;simp;omega);have HLE:=Zh hdl2;have HRH:=Zh (Box.new w2 #[.int .i64 (s:Int)] 3);clear hb2;go_wp2_with (at_builtin;(refine Zat encD 1 8 27 3 _ Tryz.underlying27 Zdp rfl (by decide) (by decide) Zai Zbl d s w.heap.size _ _ _ _ HRH.out rfl _ HOA.out HSZ.out HLE.out rfl _ _ rfl rfl rfl ?_);intro v' w' hown' hg');go_roundw
     case rel=>exact ⟨k+1,_,_,v',rfl,HKM.out,rfl,rfl,HSTEP.out,HBA.grown hg' HBA.size (fun j hj=>HOA.lt' j hj),hown'⟩
     case measure=>have:=HKM.out;simp only [intOf];omega
    ·have ks:decide (t<0)=true:=Zt ht;clear hx hy hs9 hc' ht;go_wp2_with fail;refine Za3 10 (by kernel_rfl) (by kernel_rfl) ?_;simp only [Z2,Z6,Z3,Z7]
     repeat go_big_quiet_step ((go_at_call 215;exact Calls.later_same (HCY.out _)))
     refine wpQuiet_nil ?_;rintro w2 ⟨⟨_,hb2⟩,rfl⟩;replace HB:=Zh (HB.Zg hb2);replace HO:=Zh (HO.later hb2);have HBA:=Zh (HB.alloc HB.size (.cells #[.int .i64 (s:Int)] 3));have HOA:=Zh (HO.alloc (.cells #[.int .i64 (s:Int)] 3));have HSZ:=Zh (show w.heap.size<=(w2.alloc (.cells #[.int .i64 (s:Int)] 3)).heap.size by have:=HB.size;simp;omega);have HLE:=Zh hdl2;have HRH:=Zh (Box.new w2 #[.int .i64 (s:Int)] 3);clear hb2;go_wp2_with (at_builtin;(refine Zat encD 1 8 27 3 _ Tryz.underlying27 Zdp rfl (by decide) (by decide) Zai Zbl d s w.heap.size _ _ _ _ HRH.out rfl _ HOA.out HSZ.out HLE.out rfl _ _ rfl rfl rfl ?_);intro v' w' hown' hg');go_roundw
     case rel=>exact ⟨k+1,_,_,v',rfl,HKM.out,rfl,rfl,HSTEP.out,HBA.grown hg' HBA.size (fun j hj=>HOA.lt' j hj),hown'⟩
     case measure=>have:=HKM.out;simp only [intOf];omega
   ·obtain rfl:k=N:=by omega
    have HV:=Zh (HDN.out d c HAI.out);have HDG:=Zh HAI.dg;have g1:decide (k<k)=false:=Zf (by omega);obtain ⟨aa,nn,cc,hsh⟩: ∃aa nn cc,v= .slice aa nn cc:=by obtain ⟨aa,cc,e,_⟩:=(Sc.of_own Zai (by omega) HO.out).shape;exact ⟨aa,_,cc,e⟩
    subst hsh;have HSC:=Zh (Sc.of_own Zai (by omega) HO.out);have HT:=Zh (Zd4 wr aa nn cc d HSC.out);clear hkN hk hdl;go_wp2_with fail;refine HT.mono ?_;rintro e4 w4 ⟨rfl,rfl⟩;go_wp2_with fail;go_ret;exact ⟨_,_,_,_,rfl,⟨HSC.take _ (Zam d).1,HDG.take _,(Zam d).2.1,by rw [Zcb];exact HV.out⟩,HB.out⟩
theorem Zl6 (w:World) (a1 a2:Option Addr) (n1 n2 c1 c2:Nat) (lx ly:List Nat) (m1 m2:Nat) (h1:DlR w (.slice a1 n1 c1) lx m1) (h2:DlR w (.slice a2 n2 c2) ly m2) (hb1:lx.length<=400000) (hb2:ly.length<=400000):
    Calls Tryz.prog 144 #[.slice a1 n1 c1,.slice a2 n2 c2] w (RetDl w (m1* m2)):=by
 obtain ⟨⟨a1',c1',e,hl1,hl1',hA1⟩,hd1,ht1,hv1⟩:=h1;injection e with e1 e2 e3
 subst e1 e2 e3;obtain ⟨⟨a2',c2',e,hl2,hl2',hA2⟩,hd2,ht2,hv2⟩:=h2;injection e with e1 e2 e3
 subst e1 e2 e3;have HAX:=Zh hA1;have HAY:=Zh hA2;have HDX:=Zh hd1;have HDY:=Zh hd2;obtain ⟨S,hS⟩: ∃S,m1* m2=S:=⟨_,rfl⟩;rw [hS];have HS:=Zh (show val 1000000000 lx* val 1000000000 ly=S by rw [hv1,hv2,hS]);obtain ⟨X,hN⟩: ∃N,lx.length=N:=⟨_,rfl⟩;obtain ⟨Y,hM⟩: ∃M,ly.length=M:=⟨_,rfl⟩;have HNX:=Zh hN;have HNY:=Zh hM;rw [hN] at hb1 hl1' ⊢;rw [hM] at hb2 hl2' ⊢;have HINFO:=Zh Zdp;obtain ⟨Z,hZ⟩: ∃Z,X+Y=Z:=⟨_,rfl⟩;have k1:IntKind.i64.wrap ((X:Int)+(Y:Int))=(Z:Int):=by rw [IntWalk.i64_in _ (by omega)];omega
 have HZ:=Zh hZ;clear hZ hA1 hA2 hN hM hS hv1 hv2 hd1 hd2 ht1 ht2 hl1 hl2;go_enter Tryz.func144,Tryz.ntmps144;go_wp2_with (at_make;refine mk1 encD 0 (.int .i64 0) rfl 27 3 8 Tryz.underlying27 HINFO.out rfl (by decide) w.heap.size w Z (by have:=HZ.out;omega) (Nat.le_refl _) rfl _ _ rfl .i64 .i64 rfl rfl ?_;intro w3 ho3 hg3);have HB3:=Zh (Zbm hg3);have HO3:=Zh ho3;have HST0:=Zh (MulO.start (B:=1000000000) (by decide) lx ly);rw [HNX.out,HNY.out,HZ.out] at HST0;clear ho3 hg3 k1
 go_loopw [6] (fun i wr=> ∃ (k:Nat) (o:List Nat),k<=X/\i= .int .i64 k/\MulO 1000000000 o lx ly k/\Below w.heap.size w wr/\Own encD 1 3 wr w.heap.size (.slice (some ⟨w.heap.size,0,none⟩) Z Z) o) (fun i _=>X-(intOf i).toNat)
 case atStart=>exact ⟨0,List.replicate Z 0,Nat.zero_le _,rfl,HST0.out,HB3.out,HO3.out⟩
 case round=>
   obtain ⟨k,o,hk,rfl,hmo,hbe,hown⟩:=hrel;have HMO:=Zh hmo;have HB:=Zh hbe;have HO:=Zh hown;have HLL:=Zh (show o.length=Z by rw [hmo.len,HNX.out,HNY.out,HZ.out]);clear hmo hown hbe HST0 HB3 HO3
   by_cases hkX:k<X
   ·have k2:decide ((k:Int)<(X:Int))=true:=Zt (by omega);have k2':decide (k<X)=true:=Zt (by omega);have hkx:k<lx.length:=by rw [HNX.out];exact hkX
    obtain ⟨b1,o1,rfl,hbb1,hcells1⟩:=HAX.out (by omega);have g1:=((hcells1 k hkx).below HB.out hbb1).c1;rw [Nat.mul_one] at g1;have hz1:b1<wr.heap.size:=by have:=HB.size;omega
    have HG1:=Zh (fun (w1:World) (hb:Below w.heap.size w w1)=>(by
      have h:=((hcells1 k hkx).below hb hbb1).c1;rw [Nat.mul_one] at h;exact ⟨h,by have:=hb.size;omega⟩:w1.cell? ⟨b1,o1+k,none⟩=some (.int .i64 (lx[k]:Int))/\b1<w1.heap.size))
    have HROW:=Zh (HMO.row hkx (by decide));have HSTEP:=Zh (fun o' c hl hz h=>MulO.step (B:=1000000000) (a:=lx) (b:=ly) (i:=k) (o':=o') (c:=c) hkx hl hz h);have HXB:=Zh (HDX.get k hkx);have HZER:=Zh (show∀q (h:q<o.length),k+ly.length<=q->o[q]=0 from HMO.zer);have k3:IntKind.i64.wrap ((k:Int)+1)=((k+1:Nat):Int):=by rw [IntWalk.i64_in _ (by omega)];omega
    obtain ⟨kY,hkY⟩: ∃q,k+Y=q:=⟨_,rfl⟩;have HKY:=Zh hkY;have k9:IntKind.i64.wrap ((k:Int)+(Y:Int))=(kY:Int):=by rw [IntWalk.i64_in _ (by omega)];omega
    clear hkY;clear hcells1 HMO;generalize lx[k]=x at *;go_wp2_with fail;obtain ⟨U,hU⟩: ∃U:World,U=wr:=⟨_,rfl⟩;subst hU
    go_loopw [7,8] (fun cr i wr=> ∃ (j c:Nat) (o:List Nat),j<=Y/\i= .int .i64 j/\cr= .int .i64 (c:Int)/\o.length=Z/\(∀q (h:q<o.length),k+ly.length<=q->o[q]=0)/\MulI 1000000000 o ly (val 1000000000 (lx.take k) * val 1000000000 ly) x k j c/\Below w.heap.size w wr/\Own encD 1 3 wr w.heap.size (.slice (some ⟨w.heap.size,0,none⟩) Z Z) o) (fun _ i _=>Y-(intOf i).toNat)
    case atStart=>exact ⟨0,0,o,Nat.zero_le _,rfl,rfl,HLL.out,HZER.out,HROW.out,HB.out,HO.out⟩
    case round=>
      clear HB HO HLL HROW HZER g1 hz1;obtain ⟨j,c,o,hj,rfl,rfl,hlo,hze,hmi,hbe,hown⟩:=hrel;have HMI:=Zh hmi;have HB:=Zh hbe;have HO:=Zh hown;have HLL:=Zh hlo;have HZE:=Zh hze;have HCB:=Zh hmi.carry;have hz2:w.heap.size<wr.heap.size:=Za4 HO.out;clear hmi hown hbe hlo hze
      by_cases hjY:j<Y
      ·have k4:decide ((j:Int)<(Y:Int))=true:=Zt (by omega);have k4':decide (j<Y)=true:=Zt (by omega);have hjy:j<ly.length:=by rw [HNY.out];exact hjY
       obtain ⟨b2,o2,rfl,hbb2,hcells2⟩:=HAY.out (by omega);have g2:=((hcells2 j hjy).below HB.out hbb2).c1;rw [Nat.mul_one] at g2;have hz3:b2<wr.heap.size:=by have:=HB.size;omega
       obtain ⟨kj,hkje⟩: ∃q,k+j=q:=⟨_,rfl⟩;have HKJ:=Zh hkje;have hkj2:kj<Z:=by have:=HZ.out;omega
       obtain ⟨g1,hz1⟩:=HG1.out wr HB.out;have hkj:kj<o.length:=by rw [HLL.out];exact hkj2
       have hfz:=Own.frozenN HO.out HLL.out kj;have g0:=Zap HO.out HLL.out Zai kj hkj (.int .i64 (o[kj]:Int)) rfl;have HSET:=Zh (fun (y:Nat)=>Zau HO.out HLL.out Zai kj hkj2 y (.int .i64 (y:Int)) rfl);have HST:=Zh (fun s (hs:s=o[kj]+x* ly[j]+c)=>(by
         have h:=HMI.step (by decide) HDY.out HXB.out hjy (by rw [HKJ.out];exact hkj) (s:=s) (by simp only [HKJ.out];exact hs);rw [HKJ.out] at h;exact h:MulI 1000000000 (o.set kj (s % 1000000000)) ly (val 1000000000 (lx.take k) * val 1000000000 ly) x k (j+1) (s / 1000000000)))
       have hyB:=HDY.get j hjy;have hoB:=HMI.dg.get _ hkj;have k5:IntKind.i64.wrap ((j:Int)+1)=((j+1:Nat):Int):=by rw [IntWalk.i64_in _ (by omega)];omega
       have k6:IntKind.i64.wrap ((k:Int)+(j:Int))=(kj:Int):=by rw [IntWalk.i64_in _ (by omega)];omega
       clear hcells2;generalize ly[j]=y at *;clear hkje;generalize hoq:o[kj]=oq at *;have hcB:=HCB.out;have hxB:=HXB.out;obtain ⟨p,hp⟩: ∃p,x* y=p:=⟨_,rfl⟩;have hp9:p<=999999999* 999999999:=by rw [<-hp];exact Nat.mul_le_mul (by omega) (by omega)
       have q1:IntKind.i64.wrap ((x:Int) * (y:Int))=(p:Int):=by rw [show (x:Int) * (y:Int)=(p:Int) by rw [<-hp];exact (Int.natCast_mul x y).symm];exact IntWalk.i64_in _ (by omega)
       obtain ⟨u,hu⟩: ∃u,oq+p=u:=⟨_,rfl⟩;have q2:IntKind.i64.wrap ((oq:Int)+(p:Int))=(u:Int):=by rw [IntWalk.i64_in _ (by omega)];omega
       obtain ⟨s,hs⟩: ∃s,u+c=s:=⟨_,rfl⟩;have q3:IntKind.i64.wrap ((u:Int)+(c:Int))=(s:Int):=by rw [IntWalk.i64_in _ (by omega)];omega
       have hs9:s<=1000000000000000000:=by omega
       have HSN:=Zh (HST.out s (by rw [hp,hu,hs]));have q4:(s:Int).tmod 1000000000=((s % 1000000000:Nat):Int):=by rw [Int.tmod_eq_emod_of_nonneg (by omega)];omega
       have q5:(s:Int).tdiv 1000000000=((s / 1000000000:Nat):Int):=by rw [Int.tdiv_eq_ediv_of_nonneg (by omega)];omega
       have hqq:s / 1000000000<=1000000000:=by omega
       generalize s % 1000000000=dd at *;generalize s / 1000000000=q at *;have q6:IntKind.i64.wrap ((q:Nat):Int)=(q:Int):=IntWalk.i64_in _ (by omega);have k3a:decide ((Z:Int)<=(kj:Int))=false:=Zf (by omega);have k3b:decide ((X:Int)<=(k:Int))=false:=Zf (by omega);have k3c:decide ((Y:Int)<=(j:Int))=false:=Zf (by omega);clear HST hp hp9 hu hs hs9 hyB hoB hoq hcB hxB hqq;go_wp2_with fail
       go_quiet (fail)
       go_wp2_with fail;go_roundw
       case rel=>
         refine ⟨j+1,q,o.set kj dd,by omega,by go_num,rfl,by rw [List.length_set];exact HLL.out,fun q h hq=> ?_,?_,(below_drewN HB.out _).setCell (Nat.le_refl _) _,(HSET.out dd:_)⟩
         ·rw [List.getElem_set_ne (by have:=HKJ.out;have:=hjY;rw [HNY.out] at hq;omega)];exact HZE.out q (by rwa [List.length_set] at h) hq
         ·exact HSN.out
       case measure=>simp [intOf];omega
      ·obtain rfl:Y=j:=by omega
       have hkY:kY<Z:=by have:=HZ.out;have:=HKY.out;omega
       have hkYl:kY<o.length:=by rw [HLL.out];exact hkY
       have hfz:=Own.frozenN HO.out HLL.out kY;have g0:=Zap HO.out HLL.out Zai kY hkYl (.int .i64 (0:Int)) (by rw [HZE.out kY hkYl (by rw [HNY.out,HKY.out];exact Nat.le_refl _)];rfl);have HNEW:=Zh (HSTEP.out o c (by rw [HLL.out,HNX.out,HNY.out,HZ.out]) HZE.out (by rw [HNY.out];exact HMI.out));rw [HNY.out,HKY.out] at HNEW;have HO2:=Zh (Zau HO.out HLL.out Zai kY hkY c (.int .i64 (c:Int)) rfl);have hcB:=HMI.carry;have kc:IntKind.i64.wrap ((0:Int)+(c:Int))=(c:Int):=by rw [IntWalk.i64_in _ (by omega)];omega
       have kc':IntKind.i64.wrap (c:Int)=(c:Int):=IntWalk.i64_in _ (by omega);go_wp2_with fail;go_roundw
       case rel=>exact ⟨k+1,_,by omega,by go_num,HNEW.out,HB.setCell (Nat.le_refl _) _,HO2.out⟩
       case measure=>simp [intOf];omega
   ·obtain rfl:X=k:=by omega
    have HVL:=Zh (show val 1000000000 o=S by
      have h:=HMO.out;rw [<-HNX.out] at h;rw [h.done,HS.out])
    have HSC:=Zh (Sc.of_own Zai (by have:=HZ.out;rw [HLL.out];omega) HO.out);have HTR:=Zh (Zd4 _ _ _ _ _ HSC.out);have HDG:=Zh HMO.dg;go_wp2_with fail;refine HTR.mono ?_;rintro e5 w5 ⟨rfl,rfl⟩;go_wp2_with fail;go_ret;exact ⟨_,_,_,_,rfl,⟨HSC.take _ (Zam o).1,HDG.take _,(Zam o).2.1,by rw [Zcb];exact HVL.out⟩,HB.out⟩
theorem Zpn (w:World) (a:Option Addr) (n c:Nat) (l:List Nat) (m:Nat) (h:DzR w (.slice a n c) l m) (hb1:l.length<=900000) (d:Nat) (hd:0<d) (hd2:d<=1000000000):
    Calls Tryz.prog 212 #[.slice a n c,.int .i64 (d:Int)] w fun e w'=> ∃a' n' c' q,e= .returned (.tuple #[.slice a' n' c',.int .i64 ((m % d:Nat):Int)])/\DlR w' (.slice a' n' c') q (m / d)/\Below w.heap.size w w':=by
 obtain ⟨⟨a',c',e,hl,hl',hA⟩,hdg,hv⟩:=h;injection e with e1 e2 e3
 subst e1 e2 e3;have HA:=Zh hA;have HDG:=Zh hdg;obtain ⟨S,hS⟩: ∃S,m % d=S:=⟨_,rfl⟩;obtain ⟨T,hT⟩: ∃T,m / d=T:=⟨_,rfl⟩;rw [hS,hT];have HS:=Zh (show val 1000000000 l % d=S by rw [hv,hS]);have HT:=Zh (show val 1000000000 l / d=T by rw [hv,hT]);have HST:=Zh (fun (q:List Nat) (hq:q.length=l.length)=>DivI.start (B:=1000000000) (a:=l) hd hq);have HDD:=Zh hd2;obtain ⟨N,hN⟩: ∃N,l.length=N:=⟨_,rfl⟩;have HN:=Zh hN;rw [hN] at hb1 hl' HST ⊢;have HINFO:=Zh Zdp;have hd0: ¬d=0:=by omega
 have hdi: ¬ (d:Int)=0:=by omega
 have hdb:((d:Int)==0)=false:=beq_eq_false_iff_ne.2 hdi;have k0:IntKind.i64.wrap ((N:Int)-1)=(N:Int)-1:=IntWalk.i64_in _ (by omega);clear hA hN hS hT hv hdg hl hd hd2;go_enter Tryz.func212,Tryz.ntmps212;go_wp2_with (at_make;refine mk1 encD 0 (.int .i64 0) rfl 27 3 8 Tryz.underlying27 HINFO.out rfl (by decide) w.heap.size w N (by omega) (Nat.le_refl _) rfl _ _ rfl .i64 .i64 rfl rfl ?_;intro w3 ho3 hg3);have HB3:=Zh (Zbm hg3);have HO3:=Zh ho3;clear ho3 hg3
 go_loopw [7,8] (fun r i wr=> ∃ (k rr:Nat) (q:List Nat),k<=N/\i= .int .i64 ((k:Int)-1)/\r= .int .i64 (rr:Int)/\DivI 1000000000 l q d rr k/\Below w.heap.size w wr/\Own encD 1 3 wr w.heap.size (.slice (some ⟨w.heap.size,0,none⟩) N N) q) (fun _ i _=>(intOf i+1).toNat)
 case atStart=>exact ⟨N,0,List.replicate N 0,Nat.le_refl _,rfl,rfl,HST.out _ List.length_replicate,HB3.out,HO3.out⟩
 case round=>
   obtain ⟨k,rr,q,hk,rfl,rfl,hdi2,hbe,hown⟩:=hrel;have HDI:=Zh hdi2;have HB:=Zh hbe;have HO:=Zh hown;have HLL:=Zh (show q.length=N by rw [hdi2.len,HN.out]);clear hdi2 hbe hown HB3 HO3 HST k0
   by_cases h0:k=0
   ·subst h0;obtain ⟨hq1,hq2⟩:=HDI.done;rw [HS.out] at hq2;rw [HT.out] at hq1;subst hq2;have HQ:=Zh hq1;have HDQ:=Zh (show Dg 1000000000 q from HDI.dg);have HSC:=Zh (Sc.of_own Zai (by rw [HLL.out];omega) HO.out);have HTR:=Zh (Zd4 _ _ _ _ _ HSC.out);clear hq1 HDI;go_wp2_with fail;refine HTR.mono ?_;rintro e5 w5 ⟨rfl,rfl⟩;go_wp2_with fail;refine bodyPost_ret (v:= .tuple #[.slice (some ⟨w.heap.size,0,none⟩) (Zbf q) N,.int .i64 (rr:Int)]) (by simp [results,Tryz.results212,go_sem, *]) rfl ?_;exact ⟨_,_,_,_,rfl,⟨HSC.take _ (Zam q).1,HDQ.take _,(Zam q).2.1,by rw [Zcb];exact HQ.out⟩,HB.out⟩
   ·obtain ⟨j,rfl⟩: ∃j,k=j+1:=⟨k-1,by omega⟩;have hjl:j<l.length:=by rw [HN.out];omega
    have hjN:j<N:=by omega
    have hjq:j<q.length:=by rw [HLL.out];exact hjN
    obtain ⟨b,off,rfl,hbb,hcells⟩:=HA.out (by omega);have g1:=Zkb ((hcells j hjl).below HB.out hbb);rw [Nat.mul_one] at g1;have hbz:b<wr.heap.size:=by have:=HB.size;omega
    have hbz2:w.heap.size<wr.heap.size:=Za4 HO.out;have hfz:=Own.frozenN HO.out HLL.out j;have g0:=Zap HO.out HLL.out Zai j hjq (.int .i64 (q[j]:Int)) rfl;have HSET:=Zh (fun (y:Nat)=>Zau HO.out HLL.out Zai j hjN y (.int .i64 (y:Int)) rfl);have hx:=HDG.get j hjl;have hrr:=HDI.rest;have hd2:=HDD.out;obtain ⟨p,hp⟩: ∃p,rr* 1000000000=p:=⟨_,rfl⟩;obtain ⟨s,hs⟩: ∃s,p+l[j]=s:=⟨_,rfl⟩;have HSTEP:=Zh (HDI.step (by decide) hd2 HDG.out hjl (s:=s) (by rw [hp,hs]));clear hcells HDI;generalize l[j]=x at *;generalize q[j]=y0 at *;have q1:IntKind.i64.wrap ((rr:Int) * 1000000000)=(p:Int):=by rw [IntWalk.i64_in _ (by omega)];omega
    have q2:IntKind.i64.wrap ((p:Int)+(x:Int))=(s:Int):=by rw [IntWalk.i64_in _ (by omega)];omega
    have hs9:s<2000000000000000000:=by omega
    have hsq:s / d<=s:=Nat.div_le_self _ _;have hsr:s % d<d:=Nat.mod_lt _ (by omega);have q4:(s:Int).tdiv (d:Int)=((s / d:Nat):Int):=by rw [Int.tdiv_eq_ediv_of_nonneg (by omega)];exact (Int.natCast_ediv s d).symm
    have q5:(s:Int).tmod (d:Int)=((s % d:Nat):Int):=by rw [Int.tmod_eq_emod_of_nonneg (by omega)];exact (Int.natCast_emod s d).symm
    generalize s / d=t at *;generalize s % d=r2 at *;have q6:IntKind.i64.wrap ((t:Nat):Int)=(t:Int):=IntWalk.i64_in _ (by omega);have q7:IntKind.i64.wrap ((r2:Nat):Int)=(r2:Int):=IntWalk.i64_in _ (by omega);have k5:(((j+1:Nat):Int)-1)=(j:Int):=by omega
    rw [k5];have k2:decide ((0:Int)<=(j:Int))=true:=Zt (by omega);have k2':decide (0<=j)=true:=Zt (by omega);have k3:decide ((N:Int)<=(j:Int))=false:=Zf (by omega);have k1:IntKind.i64.wrap ((j:Int)-1)=(j:Int)-1:=IntWalk.i64_in _ (by omega);clear hp hs hs9 hsq hsr hx hrr hd2 hjl hjq k5 h0;go_wp2_with fail;go_roundw
    case rel=>exact ⟨j,r2,q.set j t,by omega,by go_num,rfl,HSTEP.out,HB.setCell (Nat.le_refl _) _,HSET.out t⟩
    case measure=>simp [intOf];try omega
def Zn4 (w:World) (q r:Nat) (e:Ending) (w':World):Prop:=∃a1 n1 c1 l1 a2 n2 c2 l2,e= .returned (.tuple #[.slice a1 n1 c1,.slice a2 n2 c2])/\DlR w' (.slice a1 n1 c1) l1 q/\DlR w' (.slice a2 n2 c2) l2 r/\Below w.heap.size w w'
theorem DlR.toZ {w:World} {v:Value} {l:List Nat} {m:Nat} (h:DlR w v l m):DzR w v l m:=⟨h.sc,h.dg,h.eq⟩
theorem DlR.nil (w:World):DlR w (.slice none 0 0) [] 0:=⟨Sc.nil _ _ _ _ _ _,Dg.nil _,Tr.nil,rfl⟩
theorem DlR.cutz {w:World} {a:Option Addr} {n c:Nat} {l:List Nat} {m:Nat} (h:Sc encD 1 w w.heap.size (.slice a n c) l) (hd:Dg 1000000000 l) (hv:val 1000000000 l=m):DlR w (.slice a (Zbf l) c) (l.take (Zbf l)) m:=
  ⟨h.take _ (Zam l).1,hd.take _,(Zam l).2.1,by rw [Zcb];exact hv⟩
theorem DlR.one {w:World} {a:Option Addr} {n c:Nat} {l:List Nat} {m:Nat} (h:DlR w (.slice a n c) l m) (hl:l.length=1): ∃b off,a=some ⟨b,off,none⟩/\b<w.heap.size/\n=1/\w.cell? ⟨b,off,none⟩=some (.int .i64 (m:Int))/\0<m/\m<1000000000:=by
  obtain ⟨⟨a',c',e,_,_,hA⟩,hd,ht,hv⟩:=h;injection e with e1 e2 e3
  subst e1 e2 e3;obtain ⟨b,off,rfl,hb,hc⟩:=hA (by omega)
  match l,hl with
  | [x],_=>
    rw [Zbo] at hv;subst hv;have h0:=Zkb (hc 0 (by simp));simp only [List.getElem_cons_zero,Nat.zero_mul,Nat.add_zero] at h0;have hx:=ht.last (by simp);simp only [List.length_singleton,Nat.sub_self,List.getElem_cons_zero] at hx;exact ⟨b,off,rfl,hb,rfl,h0,by omega,hd x (by simp)⟩
theorem Zpo (w:World) (r:Nat):Sc encD 1 (w.alloc (.cells #[.int .i64 (r:Int)] 3)) (w.alloc (.cells #[.int .i64 (r:Int)] 3)).heap.size (.slice (some ⟨w.heap.size,0,none⟩) 1 1) [r]:=by
  refine ⟨_,1,rfl,by simp,by simp,fun _=>⟨w.heap.size,0,rfl,by simp,fun i hi j u hu=> ?_⟩⟩;obtain rfl:i=0:=by simp at hi;omega
  match j,hu with
  | 0,hu=>
    simp [encD] at hu;subst hu;simp
theorem Zkc (w:World) (a1 a2:Option Addr) (n1 n2 c1 c2:Nat) (l1 l2:List Nat) (m1 m2:Nat) (h1:DlR w (.slice a1 n1 c1) l1 m1) (h2:DlR w (.slice a2 n2 c2) l2 m2) (hb1:l1.length<=900000) (h2l:l2.length=1):
    Calls Tryz.prog 139 #[.slice a1 n1 c1,.slice a2 n2 c2] w (Zn4 w (m1 / m2) (m1 % m2)):=by
 have HC:=Zh (Zdn w a1 a2 n1 n2 c1 c2 l1 l2 m1 m2 h1 h2);obtain ⟨b,off,rfl,hb,rfl,hcell,hm0,hm9⟩:=h2.one h2l;have HV:=Zh (fun (w1:World) (hb:Below w.heap.size w w1)=>Zpn w1 a1 n1 c1 l1 m1 (h1.later hb).toZ hb1 m2 hm0 (by omega));have HCE:=Zh (fun (w1:World) (h:Below w.heap.size w w1)=>(⟨(h.cell (p:=⟨b,off,none⟩) hb).trans hcell,Nat.lt_of_lt_of_le hb h.size⟩:w1.cell? ⟨b,off,none⟩=_/\b<w1.heap.size));have HL:=Zh (fun (w1:World) (h:Below w.heap.size w w1)=>h1.later h);clear h1 h2 hb hcell
 by_cases hlt:m1<m2
 ·have HQ:=Zh (show m1 / m2=0 from Nat.div_eq_of_lt hlt);have HR:=Zh (show m1 % m2=m1 from Nat.mod_eq_of_lt hlt);have k0:icmp (m1:Int) (m2:Int)= -1:=by unfold icmp;rw [if_pos (by omega)]
  rw [k0] at HC;rw [HQ.out,HR.out];clear k0 hlt hm0 hm9 HQ HR;go_enter Tryz.func139,Tryz.ntmps139;go_wp2_with fail;refine HC.mono ?_;rintro e4 w4 ⟨rfl,hbe⟩;have HB:=Zh hbe;clear hbe;go_wp2_with fail;refine bodyPost_ret (v:= .tuple #[.slice none 0 0,.slice a1 n1 c1]) (by simp [results,Tryz.results139,go_sem, *]) rfl ?_;exact ⟨_,_,_,_,_,_,_,_,rfl,DlR.nil _,HL.out _ HB.out,HB.out⟩
 ·obtain ⟨x,hx⟩: ∃x,icmp (m1:Int) (m2:Int)=x:=⟨_,rfl⟩;have k0:decide (x<0)=false:=by rw [<-hx];unfold icmp;rw [if_neg (by omega)];split <;> decide
  rw [hx] at HC;obtain ⟨Q,hQ⟩: ∃Q,m1 / m2=Q:=⟨_,rfl⟩;obtain ⟨R,hR⟩: ∃R,m1 % m2=R:=⟨_,rfl⟩;rw [hQ,hR] at HV ⊢;have hR9:R<1000000000:=by rw [<-hR];have:=Nat.mod_lt m1 hm0;omega
  have HR9:=Zh (Dg.one hR9);clear hx hQ hR hlt hm0 hm9 hR9;go_enter Tryz.func139,Tryz.ntmps139;go_wp2_with fail;refine HC.mono ?_;rintro e4 w4 ⟨rfl,hbe⟩;have HB:=Zh hbe;obtain ⟨g1,hz1⟩:=HCE.out w4 hbe;clear hbe;go_wp2_with fail;refine (HV.out _ HB.out).mono ?_;rintro e5 w5 ⟨a5,n5,c5,q5,rfl,hq5,hb5⟩;have HQ5:=Zh hq5;replace HB:=Zh (HB.Zg hb5);clear hq5 hb5 g1 hz1;go_wp2_with fail;have HSN:=Zh (Zpo w5 R);have HBA:=Zh (HB.alloc HB.size (.cells #[.int .i64 (R:Int)] 3));have HQA:=Zh (HQ5.later ((Below.refl w5.heap.size w5).alloc (Nat.le_refl _) (.cells #[.int .i64 (R:Int)] 3)));generalize hW:w5.alloc (.cells #[.int .i64 (R:Int)] 3)=w6 at *;have HT:=Zh (Zd4 w6 _ _ _ _ HSN.out);refine HT.mono ?_;rintro e7 w7 ⟨rfl,rfl⟩;go_wp2_with fail;refine bodyPost_ret (v:= .tuple #[.slice a5 n5 c5,.slice (some ⟨w5.heap.size,0,none⟩) (Zbf [R]) 1]) (by simp [results,Tryz.results139,go_sem, *]) rfl ?_;exact ⟨_,_,_,_,_,_,_,_,rfl,HQA.out,DlR.cutz HSN.out HR9.out (Zbo _ _),HBA.out⟩
inductive Kg where
  | is (x:Value)
  | ig (z:Int)
  | dz (m:Nat)
  | igs (p q:Int)
def Kg.R:Kg->Value->World->Prop
  | .is x,v,_=>v=x
  | .ig z,v,w=>IgR w v z
  | .dz m,v,w=> ∃l,DzR w v l m
  | .igs p q,v,w=> ∃x y,v= .tuple #[x,y]/\IgR w x p/\IgR w y q
theorem Kg.later {k:Kg} {v:Value} {w w':World} (h:k.R v w) (hb:Below w.heap.size w w'):k.R v w':=by
  cases k with
  | is x=>exact h
  | ig z=>exact IgR.later h hb
  | dz m=>exact h.imp fun _ h=>h.later hb
  | igs p q=>obtain ⟨x,y,e,h1,h2⟩:=h;exact ⟨x,y,e,h1.later hb,h2.later hb⟩
def Ze2 (l:List Kg) (j:Nat) (v:Value) (w:World):Prop:=(l.getD j (.ig 0)).R v w
theorem RetDl.dz {w:World} {m:Nat} {e:Ending} {w':World} (h:RetDl w m e w'):Zl5 w m e w':=by
  obtain ⟨a,n,c,l,e,h,hb⟩:=h;exact ⟨a,n,c,l,e,h.toZ,hb⟩
theorem IgR.dl {w:World} {v:Value} {z:Int} (h:IgR w v z): ∃a n c l,v= .agg #[.bool (decide (z<0)),.slice a n c]/\DlR w (.slice a n c) l z.natAbs:=by
  obtain ⟨a,n,c,l,e,h1,h2,h3,h4,h5⟩:=h;exact ⟨a,n,c,l,e,h1,h3,h4,h5⟩
theorem DlR.le {w:World} {v:Value} {l:List Nat} {z:Int} {K:Nat} (h:DlR w v l z.natAbs) (hz:Nd K z):l.length<=K:=Zd7 (B:=1000000000) (by decide) h.tr (by rw [h.eq];exact hz.lt)
theorem Zit (p q:Bool) (x y:Int) (hp:decide (x<0)=p) (hq:decide (y<0)=q):Zay (p !=q) (x.natAbs* y.natAbs)=x* y:=by
  have e1:x=if p then -(x.natAbs:Int) else x.natAbs:=by rw [<-hp];by_cases h:x<0 <;> simp [h] <;> omega
  have e2:y=if q then -(y.natAbs:Int) else y.natAbs:=by rw [<-hq];by_cases h:y<0 <;> simp [h] <;> omega
  conv=>rhs;rw [e1,e2]
  unfold Zay;cases p <;> cases q <;> simp [Int.natCast_mul,Int.neg_mul,Int.mul_neg]
theorem Zn5 (w:World) (v1 v2:Value) (z1 z2:Int) (h1:IgR w v1 z1) (h2:IgR w v2 z2) (b1:Nd 400000 z1) (b2:Nd 400000 z2):Calls Tryz.prog 63 #[v1,v2] w (RetG w (z1* z2)):=by
  obtain ⟨a1,n1,c1,l1,rfl,hd1⟩:=h1.dl;obtain ⟨a2,n2,c2,l2,rfl,hd2⟩:=h2.dl;have hl1:=hd1.le b1;have hl2:=hd2.le b2;obtain ⟨p1,hp1⟩: ∃p,decide (z1<0)=p:=⟨_,rfl⟩;obtain ⟨p2,hp2⟩: ∃p,decide (z2<0)=p:=⟨_,rfl⟩;have HM:=Zh (fun (u:World) (hb:Below w.heap.size w u)=>((Zl6 u a1 a2 n1 n2 c1 c2 l1 l2 _ _ (hd1.later hb) (hd2.later hb) hl1 hl2).mono fun _ _ h=>h.dz:Calls Tryz.prog 144 #[.slice a1 n1 c1,.slice a2 n2 c2] u (Zl5 u (z1.natAbs* z2.natAbs))));have HSG:=Zh (Zit p1 p2 z1 z2 hp1 hp2);rw [hp1,hp2];obtain ⟨Z0,hZ0⟩: ∃y,z1* z2=y:=⟨_,rfl⟩;obtain ⟨M0,hM0⟩: ∃y,z1.natAbs* z2.natAbs=y:=⟨_,rfl⟩;rw [hZ0,hM0] at HSG;rw [hM0] at HM;rw [hZ0];have HB_0:=Zh ((Below.refl w.heap.size w).alloc (Nat.le_refl _) (.cells #[.bool p1,.slice a1 n1 c1] 114));have HB_1:=Zh (HB_0.alloc HB_0.size (.cells #[.bool p2,.slice a2 n2 c2] 114));have HB_2:=Zh (HB_1.alloc HB_1.size (.cells #[.bool false,.slice none 0 0] 114));have HB:=Zh HB_2.out;have HX:=Zh (((Box.newAt w #[.bool p1,.slice a1 n1 c1] 114 (n:=w.heap.size) (by simp)).alloc (.cells #[.bool p2,.slice a2 n2 c2] 114)).alloc (.cells #[.bool false,.slice none 0 0] 114));have HY:=Zh ((Box.newAt (w.alloc (.cells #[.bool p1,.slice a1 n1 c1] 114)) #[.bool p2,.slice a2 n2 c2] 114 (n:=w.heap.size+1) (by simp)).alloc (.cells #[.bool false,.slice none 0 0] 114));have HZ:=Zh (Box.newAt ((w.alloc (.cells #[.bool p1,.slice a1 n1 c1] 114)).alloc (.cells #[.bool p2,.slice a2 n2 c2] 114)) #[.bool false,.slice none 0 0] 114 (n:=w.heap.size+1+1) (by simp));clear HB_0 HB_1 HB_2;clear h1 h2 b1 b2 hd1 hd2 hl1 hl2 hp1 hp2 hZ0 hM0;go_enter Tryz.func63,Tryz.ntmps63;go_wp2_with fail;refine Zah 11 (Ze2 [.is (.pointer (some ⟨w.heap.size,0,none⟩)),.is (.bool p1),.is (.pointer (some ⟨w.heap.size+1,0,none⟩)),.is (.bool p2),.is (.bool (p1 !=p2)),.is (.pointer (some ⟨w.heap.size,1,none⟩)),.is (.slice a1 n1 c1),.is (.pointer (some ⟨w.heap.size+1,1,none⟩)),.is (.slice a2 n2 c2),.dz M0,.ig Z0]) (by kernel_rfl) (by kernel_rfl) (fun j v u u' h hb=>Kg.later h hb) ?_ ?_
  ·refine ⟨?_,?_,?_,?_,?_,?_,?_,?_,?_,?_,?_,trivial⟩
   all_goals
     intro vs u hu hR;simp only [Zac,Z2,Z6,Act.put,Z1,Z4,Z5]
   rotate_left;have e0:vs 0=_:=Zr hR 0;obtain ⟨x0,x1,xf,xz⟩:=(HX.later hu).v2;rotate_left;rotate_left;have e2:vs 2=_:=Zr hR 2;obtain ⟨x0,x1,xf,xz⟩:=(HY.later hu).v2;rotate_left;have e1:vs 1=_:=Zr hR 1;have e3:vs 3=_:=Zr hR 3;rotate_left;rotate_left;have e5:vs 5=_:=Zr hR 5;obtain ⟨x0,x1,xf,xz⟩:=(HX.later hu).v2;rotate_left;rotate_left;have e7:vs 7=_:=Zr hR 7;obtain ⟨x0,x1,xf,xz⟩:=(HY.later hu).v2;rotate_left
   ·have e6:vs 6=_:=Zr hR 6;have e8:vs 8=_:=Zr hR 8;have HS:=Zh (HM.out u (HB.Zg hu));clear hR hu;go_wp2_with fail;refine HS.mono ?_;rintro e11 w11 ⟨a11,n11,c11,l11,rfl,hi11,hb⟩;go_wp2_with fail;exact ⟨rfl,rfl,_,_,rfl,rfl,hb,_,hi11⟩
   have e4:vs 4=_:=Zr hR 4;obtain ⟨l9,k9⟩: ∃l,DzR u (vs 9) l M0:=Zr hR 9;obtain ⟨a9,c9,e9,_⟩:=k9.sc.shape;rw [e9] at k9;have HS:=Zh (by have h:=Zcm u (p1 !=p2) a9 _ c9 l9 k9.sc k9.dg;rw [k9.eq,HSG.out] at h;exact h:Calls Tryz.prog 140 #[.bool (p1 !=p2),.slice a9 l9.length c9] u (RetG u Z0));clear k9;rotate_left
   all_goals
     clear hR
     try clear hu
     go_wp2_with fail
     first|exact ⟨rfl,rfl,_,_,rfl,rfl,Below.refl _ _,rfl⟩|(refine HS.mono ?_;rintro e11 w11 ⟨v11,rfl,hi11,hb⟩;go_wp2_with fail;exact ⟨rfl,rfl,_,_,rfl,rfl,hb,hi11⟩)
  ·intro vs u hu hR;have k:IgR u (vs 10) Z0:=hR 10 (by decide);have HK:=Zh k;obtain ⟨a9,n9,c9,l9,e9,_⟩:=k;rw [e9] at HK;have HZu:=Zh (HZ.later hu);obtain ⟨z0,z1,zf,zz⟩:=HZu.v2;have HBu:=Zh (HB.Zg hu);simp only [Zac,Z3,Z7,Z2,Z6,Act.put,Z1,Z4,Z5,e9];clear hR hu e9;go_wp2_with fail;refine bodyPost_ret (v:= .agg #[.bool (decide (Z0<0)),.slice a9 n9 c9]) (by simp [results,Tryz.results63,go_sem, *]) rfl ?_;refine ⟨_,rfl,IgR.put HK.out HZu.out _ _,?_⟩
   repeat (first|with_reducible exact HBu.out|with_reducible exact Below.refl _ _|refine .Zs ?_ _|refine .Za ?_ _|refine .drew ?_)
theorem Zqw (w:World) (v1 v2:Value) (z1 z2:Int) (h1:IgR w v1 z1) (h2:IgR w v2 z2) (b1:Nd 900000 z1) (b2:Nd 900000 z2):Calls Tryz.prog 62 #[v1,v2] w (RetG w (z1+z2)):=by
  obtain ⟨a1,n1,c1,l1,rfl,hd1⟩:=h1.dl;obtain ⟨a2,n2,c2,l2,rfl,hd2⟩:=h2.dl;have hl1:=hd1.le b1;have hl2:=hd2.le b2;obtain ⟨p1,hp1⟩: ∃p,decide (z1<0)=p:=⟨_,rfl⟩;obtain ⟨p2,hp2⟩: ∃p,decide (z2<0)=p:=⟨_,rfl⟩;have HC:=Zh (fun (u:World) (hb:Below w.heap.size w u)=>Zdn u a1 a2 n1 n2 c1 c2 l1 l2 _ _ (hd1.later hb) (hd2.later hb));have HA:=Zh (fun (u:World) (hb:Below w.heap.size w u)=>Zse u a1 a2 n1 n2 c1 c2 l1 l2 _ _ (hd1.later hb) (hd2.later hb) hl1 hl2);have HS1:=Zh (fun (hle:z2.natAbs<=z1.natAbs) (u:World) (hb:Below w.heap.size w u)=>((Zpm u a1 a2 n1 n2 c1 c2 l1 l2 _ _ (hd1.later hb) (hd2.later hb) hl1 hle).mono fun _ _ h=>h.dz:Calls Tryz.prog 143 #[.slice a1 n1 c1,.slice a2 n2 c2] u (Zl5 u (z1.natAbs-z2.natAbs))));have HS2:=Zh (fun (hle:z1.natAbs<=z2.natAbs) (u:World) (hb:Below w.heap.size w u)=>((Zpm u a2 a1 n2 n1 c2 c1 l2 l1 _ _ (hd2.later hb) (hd1.later hb) hl2 hle).mono fun _ _ h=>h.dz:Calls Tryz.prog 143 #[.slice a2 n2 c2,.slice a1 n1 c1] u (Zl5 u (z2.natAbs-z1.natAbs))));rw [hp1,hp2];obtain ⟨Z0,hZ0⟩: ∃y,z1+z2=y:=⟨_,rfl⟩;rw [hZ0];have HB_0:=Zh ((Below.refl w.heap.size w).alloc (Nat.le_refl _) (.cells #[.bool p1,.slice a1 n1 c1] 114));have HB_1:=Zh (HB_0.alloc HB_0.size (.cells #[.bool p2,.slice a2 n2 c2] 114));have HB_2:=Zh (HB_1.alloc HB_1.size (.cells #[.bool false,.slice none 0 0] 114));have HB:=Zh HB_2.out;have HX:=Zh (((Box.newAt w #[.bool p1,.slice a1 n1 c1] 114 (n:=w.heap.size) (by simp)).alloc (.cells #[.bool p2,.slice a2 n2 c2] 114)).alloc (.cells #[.bool false,.slice none 0 0] 114));have HY:=Zh ((Box.newAt (w.alloc (.cells #[.bool p1,.slice a1 n1 c1] 114)) #[.bool p2,.slice a2 n2 c2] 114 (n:=w.heap.size+1) (by simp)).alloc (.cells #[.bool false,.slice none 0 0] 114));have HZ:=Zh (Box.newAt ((w.alloc (.cells #[.bool p1,.slice a1 n1 c1] 114)).alloc (.cells #[.bool p2,.slice a2 n2 c2] 114)) #[.bool false,.slice none 0 0] 114 (n:=w.heap.size+1+1) (by simp));clear HB_0 HB_1 HB_2;obtain ⟨x0,x1,xf,xz⟩:=HX.v2;obtain ⟨y0,y1,yf,yz⟩:=HY.v2
  by_cases hp:p1=p2
  ·have HSG:=Zh (show Zay p1 (z1.natAbs+z2.natAbs)=Z0 by rw [<-hp1] at hp ⊢;rw [<-hp2] at hp;unfold Zay;by_cases h:z1<0 <;> simp [h] at hp ⊢ <;> omega)
   have HM:=Zh HA.out;obtain ⟨M0,hM0⟩: ∃y,z1.natAbs+z2.natAbs=y:=⟨_,rfl⟩;rw [hM0] at HSG HM;have k0:(p1==p2)=true:=by simp [hp]
   clear h1 h2 b1 b2 hd1 hd2 hl1 hl2 hp1 hp2 hZ0 hM0 hp;go_enter Tryz.func62,Tryz.ntmps62;go_wp2_with fail;clear x0 x1 xf xz y0 y1 yf yz;refine Zah 8 (Ze2 [.is (.pointer (some ⟨w.heap.size,0,none⟩)),.is (.bool p1),.is (.pointer (some ⟨w.heap.size,1,none⟩)),.is (.slice a1 n1 c1),.is (.pointer (some ⟨w.heap.size+1,1,none⟩)),.is (.slice a2 n2 c2),.dz M0,.ig Z0]) (by kernel_rfl) (by kernel_rfl) (fun j v u u' h hb=>Kg.later h hb) ?_ ?_
   ·refine ⟨?_,?_,?_,?_,?_,?_,?_,?_,trivial⟩
    all_goals
      intro vs u hu hR;simp only [Zac,Z2,Z6,Act.put,Z1,Z4,Z5]
    rotate_left;have e0:vs 0=_:=Zr hR 0;obtain ⟨x0,x1,xf,xz⟩:=(HX.later hu).v2;rotate_left;rotate_left;have e2:vs 2=_:=Zr hR 2;obtain ⟨x0,x1,xf,xz⟩:=(HX.later hu).v2;rotate_left;rotate_left;have e4:vs 4=_:=Zr hR 4;obtain ⟨x0,x1,xf,xz⟩:=(HY.later hu).v2;rotate_left
    ·have e3:vs 3=_:=Zr hR 3;have e5:vs 5=_:=Zr hR 5;have HS:=Zh (HM.out u (HB.Zg hu));clear hR hu;go_wp2_with fail;refine HS.mono ?_;rintro e11 w11 ⟨a11,n11,c11,l11,rfl,hi11,hb⟩;go_wp2_with fail;exact ⟨rfl,rfl,_,_,rfl,rfl,hb,_,hi11⟩
    have e1:vs 1=_:=Zr hR 1;obtain ⟨l9,k9⟩: ∃l,DzR u (vs 6) l M0:=Zr hR 6;obtain ⟨a9,c9,e9,_⟩:=k9.sc.shape;rw [e9] at k9;have HS:=Zh (by have h:=Zcm u (p1) a9 _ c9 l9 k9.sc k9.dg;rw [k9.eq,HSG.out] at h;exact h:Calls Tryz.prog 140 #[.bool (p1),.slice a9 l9.length c9] u (RetG u Z0));clear k9;rotate_left
    all_goals
      clear hR
      try clear hu
      go_wp2_with fail
      first|exact ⟨rfl,rfl,_,_,rfl,rfl,Below.refl _ _,rfl⟩|(refine HS.mono ?_;rintro e11 w11 ⟨v11,rfl,hi11,hb⟩;go_wp2_with fail;exact ⟨rfl,rfl,_,_,rfl,rfl,hb,hi11⟩)
   ·intro vs u hu hR;have k:IgR u (vs 7) Z0:=hR 7 (by decide);have HK:=Zh k;obtain ⟨a9,n9,c9,l9,e9,_⟩:=k;rw [e9] at HK;have HZu:=Zh (HZ.later hu);obtain ⟨z0,z1,zf,zz⟩:=HZu.v2;have HBu:=Zh (HB.Zg hu);simp only [Zac,Z3,Z7,Z2,Z6,Act.put,Z1,Z4,Z5,e9];clear hR hu e9;go_wp2_with fail;refine bodyPost_ret (v:= .agg #[.bool (decide (Z0<0)),.slice a9 n9 c9]) (by simp [results,Tryz.results62,go_sem, *]) rfl ?_;refine ⟨_,rfl,IgR.put HK.out HZu.out _ _,?_⟩
    repeat (first|with_reducible exact HBu.out|with_reducible exact Below.refl _ _|refine .Zs ?_ _|refine .Za ?_ _|refine .drew ?_)
  ·have k0:(p1==p2)=false:=by simp [hp]
   have HCC:=Zh (HC.out _ HB.out);obtain ⟨x,hx⟩: ∃x,icmp (z1.natAbs:Int) (z2.natAbs:Int)=x:=⟨_,rfl⟩;rw [hx] at HCC
   by_cases hle:z2.natAbs<=z1.natAbs
   ·have HSG:=Zh (show Zay p1 (z1.natAbs-z2.natAbs)=Z0 by rw [<-hp1] at hp ⊢;rw [<-hp2] at hp;unfold Zay;by_cases h:z1<0 <;> simp [h] at hp ⊢ <;> omega)
    have HM:=Zh (HS1.out hle);obtain ⟨M0,hM0⟩: ∃y,z1.natAbs-z2.natAbs=y:=⟨_,rfl⟩;rw [hM0] at HSG HM;have k1:decide (0<=x)=true:=by rw [<-hx];unfold icmp;rw [if_neg (by omega)];split <;> decide
    clear h1 h2 b1 b2 hd1 hd2 hl1 hl2 hp1 hp2 hZ0 hM0 hp hx hle;go_enter Tryz.func62,Tryz.ntmps62;go_wp2_with fail;refine HCC.mono ?_;rintro e4 w4 ⟨rfl,hb⟩;replace HX:=Zh (HX.later hb);replace HY:=Zh (HY.later hb);replace HZ:=Zh (HZ.later hb);replace HB:=Zh (HB.Zg hb);clear hb x0 x1 xf xz y0 y1 yf yz;go_wp2_with fail;refine Zah 8 (Ze2 [.is (.pointer (some ⟨w.heap.size,0,none⟩)),.is (.bool p1),.is (.pointer (some ⟨w.heap.size,1,none⟩)),.is (.slice a1 n1 c1),.is (.pointer (some ⟨w.heap.size+1,1,none⟩)),.is (.slice a2 n2 c2),.dz M0,.ig Z0]) (by kernel_rfl) (by kernel_rfl) (fun j v u u' h hb=>Kg.later h hb) ?_ ?_
    ·refine ⟨?_,?_,?_,?_,?_,?_,?_,?_,trivial⟩
     all_goals
       intro vs u hu hR;simp only [Zac,Z2,Z6,Act.put,Z1,Z4,Z5]
     rotate_left;have e0:vs 0=_:=Zr hR 0;obtain ⟨x0,x1,xf,xz⟩:=(HX.later hu).v2;rotate_left;rotate_left;have e2:vs 2=_:=Zr hR 2;obtain ⟨x0,x1,xf,xz⟩:=(HX.later hu).v2;rotate_left;rotate_left;have e4:vs 4=_:=Zr hR 4;obtain ⟨x0,x1,xf,xz⟩:=(HY.later hu).v2;rotate_left
     ·have e3:vs 3=_:=Zr hR 3;have e5:vs 5=_:=Zr hR 5;have HS:=Zh (HM.out u (HB.Zg hu));clear hR hu;go_wp2_with fail;refine HS.mono ?_;rintro e11 w11 ⟨a11,n11,c11,l11,rfl,hi11,hb⟩;go_wp2_with fail;exact ⟨rfl,rfl,_,_,rfl,rfl,hb,_,hi11⟩
     have e1:vs 1=_:=Zr hR 1;obtain ⟨l9,k9⟩: ∃l,DzR u (vs 6) l M0:=Zr hR 6;obtain ⟨a9,c9,e9,_⟩:=k9.sc.shape;rw [e9] at k9;have HS:=Zh (by have h:=Zcm u (p1) a9 _ c9 l9 k9.sc k9.dg;rw [k9.eq,HSG.out] at h;exact h:Calls Tryz.prog 140 #[.bool (p1),.slice a9 l9.length c9] u (RetG u Z0));clear k9;rotate_left
     all_goals
       clear hR
       try clear hu
       go_wp2_with fail
       first|exact ⟨rfl,rfl,_,_,rfl,rfl,Below.refl _ _,rfl⟩|(refine HS.mono ?_;rintro e11 w11 ⟨v11,rfl,hi11,hb⟩;go_wp2_with fail;exact ⟨rfl,rfl,_,_,rfl,rfl,hb,hi11⟩)
    ·intro vs u hu hR;have k:IgR u (vs 7) Z0:=hR 7 (by decide);have HK:=Zh k;obtain ⟨a9,n9,c9,l9,e9,_⟩:=k;rw [e9] at HK;have HZu:=Zh (HZ.later hu);obtain ⟨z0,z1,zf,zz⟩:=HZu.v2;have HBu:=Zh (HB.Zg hu);simp only [Zac,Z3,Z7,Z2,Z6,Act.put,Z1,Z4,Z5,e9];clear hR hu e9;go_wp2_with fail;refine bodyPost_ret (v:= .agg #[.bool (decide (Z0<0)),.slice a9 n9 c9]) (by simp [results,Tryz.results62,go_sem, *]) rfl ?_;refine ⟨_,rfl,IgR.put HK.out HZu.out _ _,?_⟩
     repeat (first|with_reducible exact HBu.out|with_reducible exact Below.refl _ _|refine .Zs ?_ _|refine .Za ?_ _|refine .drew ?_)
   ·have HSG:=Zh (show Zay p2 (z2.natAbs-z1.natAbs)=Z0 by rw [<-hp1] at hp;rw [<-hp2] at hp ⊢;unfold Zay;by_cases h:z1<0 <;> by_cases h':z2<0 <;> simp [h,h'] at hp ⊢ <;> omega)
    have HM:=Zh (HS2.out (by omega));obtain ⟨M0,hM0⟩: ∃y,z2.natAbs-z1.natAbs=y:=⟨_,rfl⟩;rw [hM0] at HSG HM;have k1:decide (0<=x)=false:=by rw [<-hx];unfold icmp;rw [if_pos (by omega)];decide
    clear h1 h2 b1 b2 hd1 hd2 hl1 hl2 hp1 hp2 hZ0 hM0 hp hx hle;go_enter Tryz.func62,Tryz.ntmps62;go_wp2_with fail;refine HCC.mono ?_;rintro e4 w4 ⟨rfl,hb⟩;replace HX:=Zh (HX.later hb);replace HY:=Zh (HY.later hb);replace HZ:=Zh (HZ.later hb);replace HB:=Zh (HB.Zg hb);clear hb x0 x1 xf xz y0 y1 yf yz;go_wp2_with fail;refine Zah 8 (Ze2 [.is (.pointer (some ⟨w.heap.size+1,0,none⟩)),.is (.bool p2),.is (.pointer (some ⟨w.heap.size+1,1,none⟩)),.is (.slice a2 n2 c2),.is (.pointer (some ⟨w.heap.size,1,none⟩)),.is (.slice a1 n1 c1),.dz M0,.ig Z0]) (by kernel_rfl) (by kernel_rfl) (fun j v u u' h hb=>Kg.later h hb) ?_ ?_
    ·refine ⟨?_,?_,?_,?_,?_,?_,?_,?_,trivial⟩
     all_goals
       intro vs u hu hR;simp only [Zac,Z2,Z6,Act.put,Z1,Z4,Z5]
     rotate_left;have e0:vs 0=_:=Zr hR 0;obtain ⟨x0,x1,xf,xz⟩:=(HY.later hu).v2;rotate_left;rotate_left;have e2:vs 2=_:=Zr hR 2;obtain ⟨x0,x1,xf,xz⟩:=(HY.later hu).v2;rotate_left;rotate_left;have e4:vs 4=_:=Zr hR 4;obtain ⟨x0,x1,xf,xz⟩:=(HX.later hu).v2;rotate_left
     ·have e3:vs 3=_:=Zr hR 3;have e5:vs 5=_:=Zr hR 5;have HS:=Zh (HM.out u (HB.Zg hu));clear hR hu;go_wp2_with fail;refine HS.mono ?_;rintro e11 w11 ⟨a11,n11,c11,l11,rfl,hi11,hb⟩;go_wp2_with fail;exact ⟨rfl,rfl,_,_,rfl,rfl,hb,_,hi11⟩
     have e1:vs 1=_:=Zr hR 1;obtain ⟨l9,k9⟩: ∃l,DzR u (vs 6) l M0:=Zr hR 6;obtain ⟨a9,c9,e9,_⟩:=k9.sc.shape;rw [e9] at k9;have HS:=Zh (by have h:=Zcm u (p2) a9 _ c9 l9 k9.sc k9.dg;rw [k9.eq,HSG.out] at h;exact h:Calls Tryz.prog 140 #[.bool (p2),.slice a9 l9.length c9] u (RetG u Z0));clear k9;rotate_left
     all_goals
       clear hR
       try clear hu
       go_wp2_with fail
       first|exact ⟨rfl,rfl,_,_,rfl,rfl,Below.refl _ _,rfl⟩|(refine HS.mono ?_;rintro e11 w11 ⟨v11,rfl,hi11,hb⟩;go_wp2_with fail;exact ⟨rfl,rfl,_,_,rfl,rfl,hb,hi11⟩)
    ·intro vs u hu hR;have k:IgR u (vs 7) Z0:=hR 7 (by decide);have HK:=Zh k;obtain ⟨a9,n9,c9,l9,e9,_⟩:=k;rw [e9] at HK;have HZu:=Zh (HZ.later hu);obtain ⟨z0,z1,zf,zz⟩:=HZu.v2;have HBu:=Zh (HB.Zg hu);simp only [Zac,Z3,Z7,Z2,Z6,Act.put,Z1,Z4,Z5,e9];clear hR hu e9;go_wp2_with fail;refine bodyPost_ret (v:= .agg #[.bool (decide (Z0<0)),.slice a9 n9 c9]) (by simp [results,Tryz.results62,go_sem, *]) rfl ?_;refine ⟨_,rfl,IgR.put HK.out HZu.out _ _,?_⟩
     repeat (first|with_reducible exact HBu.out|with_reducible exact Below.refl _ _|refine .Zs ?_ _|refine .Za ?_ _|refine .drew ?_)
def DivK (K:Nat):Prop:=∀ (w:World) (a1 a2:Option Addr) (n1 n2 c1 c2:Nat) (l1 l2:List Nat) (m1 m2:Nat),DlR w (.slice a1 n1 c1) l1 m1->DlR w (.slice a2 n2 c2) l2 m2->l1.length<=400000->0<l2.length->l2.length<=K->
  Calls Tryz.prog 139 #[.slice a1 n1 c1,.slice a2 n2 c2] w (Zn4 w (m1 / m2) (m1 % m2))
theorem DlR.size {w:World} {a:Option Addr} {n c:Nat} {l:List Nat} {m:Nat} (h:DlR w (.slice a n c) l m):n=l.length:=by
  obtain ⟨a',c',e,_⟩:=h.sc;injection e
theorem DlR.lt {w w':World} {v v':Value} {l l':List Nat} {m m' K:Nat} (h:DlR w v l m) (h':DlR w' v' l' m') (hk:l'.length<=K) (hm:m<=m'):l.length<=K:=
  Zd7 (B:=1000000000) (by decide) h.tr (by
    rw [h.eq];have h1:=Zbi h'.dg;rw [h'.eq] at h1;have h2:(1000000000:Nat)^l'.length<=1000000000^K:=Nat.pow_le_pow_right (by decide) hk;omega)
theorem DlR.pos {w:World} {v:Value} {l:List Nat} {m:Nat} (h:DlR w v l m) (hl:0<l.length):0<m:=by
  have:=h.tr.le (B:=1000000000) hl;rw [h.eq] at this;have:0<(1000000000:Nat)^ (l.length-1):=Nat.pow_pos (by decide);omega
theorem DlR.zero {w:World} {v:Value} {l:List Nat} {m:Nat} (h:DlR w v l m) (hl:l.length=0):m=0:=by
  rw [<-h.eq,List.eq_nil_of_length_eq_zero hl];rfl
theorem DlR.uniq {w:World} {v:Value} {l l':List Nat} {m m':Nat} (h:DlR w v l m) (h':DlR w v l' m'):m=m':=by
  obtain ⟨a,c,rfl,_,_,hA⟩:=h.sc;obtain ⟨a',c',e,_,_,hA'⟩:=h'.sc;injection e with e1 e2 e3
  subst e1 e3;have hl:l=l':=by
    apply List.ext_getElem e2;intro i h1 h2;obtain ⟨b,off,rfl,_,hc⟩:=hA (by omega);obtain ⟨b',off',e,_,hc'⟩:=hA' (by omega);cases e;have k1:=Zkb (hc i h1);rw [Zkb (hc' i h2)] at k1;injection k1 with k1
    injection k1 with _ k1
    exact Int.ofNat.inj k1.symm
  rw [<-h.eq,<-h'.eq,hl]
noncomputable def theN (p:Nat->Prop):Nat:=open Classical in if h: ∃n,p n then Classical.choose h else 0
theorem Zl7 {p:Nat->Prop} {m:Nat} (h:p m) (hu: ∀k,p k->k=m):theN p=m:=by
  unfold theN;rw [dif_pos ⟨m,h⟩];exact hu _ (Classical.choose_spec _)
theorem Zg2 (w:World) (K:Nat) (hK:DivK K) (hK2:K<=400000) (a1 a2:Option Addr) (n1 n2 c1 c2:Nat) (l1 l2:List Nat) (m1 m2:Nat) (h1:DlR w (.slice a1 n1 c1) l1 m1) (h2:DlR w (.slice a2 n2 c2) l2 m2) (hb1:l1.length<=400000) (hb2:l2.length<=K):
    Calls Tryz.prog 81 #[.slice a1 n1 c1,.slice a2 n2 c2] w (RetDl w (Nat.gcd m1 m2)):=by
 have HK:=Zh hK;obtain ⟨G,hG⟩: ∃G,Nat.gcd m1 m2=G:=⟨_,rfl⟩;rw [hG];have H1:=Zh h1;have H2:=Zh h2;clear hK h1 h2;go_enter Tryz.func81,Tryz.ntmps81;go_wp2_with fail
 go_loopw [0,1] (fun x y wr=> ∃ (a1 a2:Option Addr) (n1 n2 c1 c2:Nat) (l1 l2:List Nat) (m1 m2:Nat),x= .slice a1 n1 c1/\y= .slice a2 n2 c2/\DlR wr (.slice a1 n1 c1) l1 m1/\DlR wr (.slice a2 n2 c2) l2 m2/\l1.length<=400000/\l2.length<=K/\Nat.gcd m1 m2=G/\Below w.heap.size w wr) (fun _ y wr=>theN fun m=> ∃l,DlR wr y l m)
 case atStart=>exact ⟨_,_,_,_,_,_,l1,l2,m1,m2,rfl,rfl,H1.out,H2.out,hb1,hb2,hG,Below.refl _ _⟩
 case round=>
   clear H1 H2 hb1 hb2 hG;obtain ⟨a1,a2,n1,n2,c1,c2,l1,l2,m1,m2,rfl,rfl,h1,h2,hb1,hb2,hg,hbe⟩:=hrel;have H1:=Zh h1;have H2:=Zh h2;have HB:=Zh hbe;have HG:=Zh hg;have hn2:=h2.size;have hl9:l2.length<=400000:=by omega
   subst hn2;obtain ⟨N,hN⟩: ∃N,l2.length=N:=⟨_,rfl⟩;rw [hN] at H2 hl9 ⊢;clear h1 h2 hbe hg
   rcases Nat.eq_zero_or_pos N with h0|h0
   ·subst h0;have HF:=Zh (show G=m1 by rw [<-HG.out,H2.zero hN];exact Nat.gcd_zero_right m1);clear hN;go_wp2_with fail;go_ret;exact ⟨_,_,_,_,rfl,by rw [HF.out];exact H1.out,HB.out⟩
   ·have k0:decide (0<N)=true:=Zt h0;have HC:=Zh (HK.out wr a1 a2 n1 N c1 c2 l1 l2 m1 m2 H1.out H2.out hb1 (by omega) hb2);have HM:=Zh (H2.pos (by omega));have HN:=Zh hN;have HL:=Zh (And.intro hb2 hl9);clear hN h0 hb1 hb2 hl9;go_wp2_with fail;refine HC.mono ?_;rintro e4 w4 ⟨a4,n4,c4,l4,a5,n5,c5,l5,rfl,hq,hr,hb⟩;have HR:=Zh hr;have HQ:=Zh (H2.later hb);have HB4:=Zh (HB.Zg hb);clear hq hr hb;go_wp2_with fail;go_roundw
    case rel=>exact ⟨_,_,_,_,_,_,l2,l5,m2,_,rfl,rfl,HQ.out,HR.out,by rw [HN.out];exact HL.out.2,HR.lt HQ.out HL.out.1 (Nat.le_of_lt (Nat.mod_lt _ HM.out)),by rw [<-HG.out,Nat.gcd_comm m1 m2,Nat.gcd_rec m2 m1,Nat.gcd_comm],HB4.out⟩
    case measure=>
      show theN (fun m=> ∃l,DlR _ _ l m)<theN (fun m=> ∃l,DlR _ _ l m);rw [Zl7 ⟨l5,HR.out⟩ (fun k ⟨l,h⟩=>h.uniq HR.out),Zl7 ⟨l2,H2.out⟩ (fun k ⟨l,h⟩=>h.uniq H2.out)];exact Nat.mod_lt _ HM.out
theorem Zgi {K m:Nat} (h:m<1000000000^K):(Lib.decDigits m).length<=9* K+1:=
  (Zan (k:=9* K+1) (by omega)).2 (by
    have e:(1000000000:Nat)^K=10^ (9* K):=by rw [Nat.pow_mul]
    have:(10:Nat)^ (9* K)<=10^ (9* K+1):=Nat.pow_le_pow_right (by decide) (by omega);omega)
theorem Zck {K:Nat} {z:Int} (h:Nd K z):(txz z).size<=9* K+2:=by
  unfold txz;rw [Zag];have h1:=Zgi h.lt
  rcases Int.lt_or_le z 0 with h0|h0
  ·rw [Zbd h0,List.length_cons];omega
  ·rw [Zaz h0,Zda h0];omega
theorem Zkd (n:Int) (g:Nat):Zay (decide (n<0)) (n.natAbs / g)=n.tdiv (g:Int):=by
  unfold Zay
  by_cases h:n<0
  ·rw [if_pos (Zt h)];obtain ⟨m,hm⟩: ∃m:Nat,n= -(m:Int):=⟨n.natAbs,by omega⟩;subst hm;rw [Int.neg_tdiv,Int.natAbs_neg,Int.natAbs_natCast,Int.tdiv_eq_ediv_of_nonneg (by omega),Int.natCast_ediv]
  ·rw [if_neg (by simpa using h),Int.tdiv_eq_ediv_of_nonneg (by omega),Int.natCast_ediv,show ((n.natAbs:Nat):Int)=n by omega]
theorem Nd.mono {K:Nat} {z z':Int} (h:Nd K z) (hz:z'.natAbs<=z.natAbs):Nd K z':=⟨Nat.lt_of_le_of_lt hz h.lt⟩
theorem Nd.up {K K':Nat} {z:Int} (h:Nd K z) (hk:K<=K'):Nd K' z:=⟨Nat.lt_of_lt_of_le h.lt (Nat.pow_le_pow_right (by decide) hk)⟩
theorem Ziu (w:World) (K:Nat) (hK:DivK K) (hK2:K<=400000) (vn vd:Value) (n d:Int) (hn:IgR w vn n) (hd:IgR w vd d) (hd0:0<d) (b1:Nd 400000 n) (b2:Nd K d):
    Calls Tryz.prog 61 #[vn,vd] w (Ret (.string (txq (mkRat n d.natAbs))) w):=by
 obtain ⟨a1,n1,c1,l1,rfl,h1⟩:=hn.dl;obtain ⟨a2,n2,c2,l2,rfl,h2⟩:=hd.dl;have hl1:=h1.le b1;have hl2:=h2.le b2;have hdn:0<d.natAbs:=by omega
 have hgp:0<Nat.gcd n.natAbs d.natAbs:=Nat.gcd_pos_of_pos_right _ hdn;have hgd:Nat.gcd n.natAbs d.natAbs<=d.natAbs:=Nat.gcd_le_right _ hdn;obtain ⟨e1,e2⟩:=Zjm n d.natAbs hdn;have HG:=Zh (fun (u:World) (hb:Below w.heap.size w u)=>Zg2 u K hK hK2 a1 a2 n1 n2 c1 c2 l1 l2 _ _ (h1.later hb) (h2.later hb) hl1 hl2);have hgl: ∀ (u:World) (a:Option Addr) (m c:Nat) (l:List Nat),DlR u (.slice a m c) l (Nat.gcd n.natAbs d.natAbs)->0<l.length/\l.length<=K:=fun u a m c l hg=>by
   refine ⟨?_,hg.lt h2 hl2 hgd⟩
   rcases Nat.eq_zero_or_pos l.length with h|h
   ·have:=hg.zero h;omega
   ·exact h
 have HQ1:=Zh (fun (u:World) (hb:Below w.heap.size w u) (a:Option Addr) (m c:Nat) (l:List Nat) (hg:DlR u (.slice a m c) l (Nat.gcd n.natAbs d.natAbs))=>hK u a1 a n1 m c1 c l1 l _ _ (h1.later hb) hg hl1 (hgl u a m c l hg).1 (hgl u a m c l hg).2);have HQ2:=Zh (fun (u:World) (hb:Below w.heap.size w u) (a:Option Addr) (m c:Nat) (l:List Nat) (hg:DlR u (.slice a m c) l (Nat.gcd n.natAbs d.natAbs))=>hK u a2 a n2 m c2 c l2 l _ _ (h2.later hb) hg (by omega) (hgl u a m c l hg).1 (hgl u a m c l hg).2);have eden:d.natAbs / Nat.gcd n.natAbs d.natAbs=(mkRat n d.natAbs).den:=by
   rw [Int.tdiv_eq_ediv_of_nonneg (by omega),<-Int.natCast_ediv] at e2;exact Int.ofNat.inj e2
 have enum:Zay (decide (n<0)) (n.natAbs / Nat.gcd n.natAbs d.natAbs)=(mkRat n d.natAbs).num:=by rw [Zkd,e1]
 have hgn:=Nat.div_le_self n.natAbs (Nat.gcd n.natAbs d.natAbs);have hgd2:=Nat.div_le_self d.natAbs (Nat.gcd n.natAbs d.natAbs);have hp2:decide (d<0)=false:=Zf (by omega);obtain ⟨p1,hp1⟩: ∃p,decide (n<0)=p:=⟨_,rfl⟩;rw [hp1] at enum ⊢;rw [hp2];obtain ⟨q,hq⟩: ∃q,mkRat n d.natAbs=q:=⟨_,rfl⟩;rw [hq] at eden enum ⊢;obtain ⟨G,hG⟩: ∃G,Nat.gcd n.natAbs d.natAbs=G:=⟨_,rfl⟩;rw [hG] at HG HQ1 HQ2 eden enum hgn hgd2;have hqn:Nd 400000 q.num:=b1.mono (by rw [<-enum];rw [Zgh];exact hgn);have hqd:Nd 400000 (q.den:Int):=(b2.up hK2).mono (by rw [Int.natAbs_natCast,<-eden];exact hgd2);obtain ⟨P,hP⟩: ∃P,n.natAbs / G=P:=⟨_,rfl⟩;rw [hP] at HQ1 enum;rw [eden] at HQ2;have HEN:=Zh enum;have HND:=Zh (And.intro hqn hqd);have HZ1:=Zh (Zck hqn);have HZ2:=Zh (Zck hqd);have HF1:=Zh (show q.den=1->txz q.num=txq q from fun e=>by
   unfold txz txq;rw [Zis];unfold Zcz;rw [if_pos e,List.append_nil])
 have HF2:=Zh (show q.den≠1->txz q.num++⟨#[47]⟩++txz (q.den:Int)=txq q from fun e=>by
   unfold txz txq;rw [Zis];unfold Zcz;rw [if_neg e,show Lib.itoa (q.den:Int)=Lib.decDigits q.den from by rw [Zaz (Int.natCast_nonneg _),Int.toNat_natCast]];rw [show (⟨#[47]⟩:ByteArray)=tx [47] from rfl,Zcv,Zcv];simp)
 have HDP:=Zh q.den_pos;have HB_0:=Zh ((Below.refl w.heap.size w).alloc (Nat.le_refl _) (.cells #[.bool p1,.slice a1 n1 c1] 114));have HB:=Zh (HB_0.alloc HB_0.size (.cells #[.bool false,.slice a2 n2 c2] 114));have HX:=Zh ((Box.new w #[.bool p1,.slice a1 n1 c1] 114).alloc (.cells #[.bool false,.slice a2 n2 c2] 114));have HY:=Zh (Box.newAt (w.alloc (.cells #[.bool p1,.slice a1 n1 c1] 114)) #[.bool false,.slice a2 n2 c2] 114 (n:=w.heap.size+1) (by simp));obtain ⟨x0,x1,xf,xz⟩:=HX.v2;obtain ⟨y0,y1,yf,yz⟩:=HY.v2;clear HB_0 hn hd h1 h2 hl1 hl2 hdn hgp hgd e1 e2 hgl eden enum hgn hgd2 hp1 hp2 hq hG hqn hqd hP b1 b2 hd0;go_enter Tryz.func61,Tryz.ntmps61;go_wp2_with fail;refine (HG.out _ HB.out).mono ?_;rintro e4 w4 ⟨a4,n4,c4,l4,rfl,hg4,hb⟩;have HG4:=Zh hg4;clear hg4;replace HB:=Zh (HB.Zg hb);replace HX:=Zh (HX.later hb);replace HY:=Zh (HY.later hb);clear hb x0 x1 xf xz y0 y1 yf yz;obtain ⟨x0,x1,xf,xz⟩:=HX.v2;obtain ⟨y0,y1,yf,yz⟩:=HY.v2;go_wp2_with fail;refine (HQ1.out _ HB.out _ _ _ _ HG4.out).mono ?_;rintro e5 w5 ⟨a5,n5,c5,l5,a6,n6,c6,l6,rfl,hq5,_,hb⟩;have HP5:=Zh hq5;replace HG4:=Zh (HG4.later hb);clear hq5;replace HB:=Zh (HB.Zg hb);replace HX:=Zh (HX.later hb);replace HY:=Zh (HY.later hb);clear hb x0 x1 xf xz y0 y1 yf yz;obtain ⟨x0,x1,xf,xz⟩:=HX.v2;obtain ⟨y0,y1,yf,yz⟩:=HY.v2;go_wp2_with fail;refine (HQ2.out _ HB.out _ _ _ _ HG4.out).mono ?_;rintro e7 w7 ⟨a7,n7,c7,l7,a8,n8,c8,l8,rfl,hq7,_,hb⟩;have HD7:=Zh hq7;replace HP5:=Zh (HP5.later hb);clear hq7;replace HB:=Zh (HB.Zg hb);replace HX:=Zh (HX.later hb);replace HY:=Zh (HY.later hb);clear hb x0 x1 xf xz y0 y1 yf yz;obtain ⟨x0,x1,xf,xz⟩:=HX.v2;obtain ⟨y0,y1,yf,yz⟩:=HY.v2;have HS:=Zh (by
   have h:=Zcm w7 p1 a5 n5 c5 l5 HP5.sc HP5.dg;rw [HP5.eq,HEN.out] at h;exact h:Calls Tryz.prog 140 #[.bool p1,.slice a5 n5 c5] w7 (RetG w7 q.num))
 go_wp2_with fail;refine HS.mono ?_;rintro e9 w9 ⟨v9,rfl,hi9,hb⟩;have HT:=Zh (Zl4 w9 v9 q.num hi9 400000 HND.out.1 (by decide));replace HD7:=Zh (HD7.later hb);clear hi9;replace HB:=Zh (HB.Zg hb);replace HX:=Zh (HX.later hb);replace HY:=Zh (HY.later hb);clear hb x0 x1 xf xz y0 y1 yf yz;obtain ⟨x0,x1,xf,xz⟩:=HX.v2;obtain ⟨y0,y1,yf,yz⟩:=HY.v2;go_wp2_with fail;refine HT.mono ?_;rintro e10 w10 ⟨rfl,hb⟩;replace HD7:=Zh (HD7.later hb);replace HB:=Zh (HB.Zg hb);replace HX:=Zh (HX.later hb);replace HY:=Zh (HY.later hb);clear hb x0 x1 xf xz y0 y1 yf yz;obtain ⟨x0,x1,xf,xz⟩:=HX.v2;obtain ⟨y0,y1,yf,yz⟩:=HY.v2;have HSZ7:=Zh (HD7.size);obtain ⟨N,hN⟩: ∃N,n7=N:=⟨_,rfl⟩;have s1:=HZ1.out;have s2:=HZ2.out
 by_cases h1:l7.length=1
 ·obtain ⟨b,off,rfl,hbb,rfl,hcell,_,hm9⟩:=HD7.one h1
  by_cases h2:q.den=1
  ·have HF:=Zh (HF1.out h2);rw [h2] at hcell;generalize txz q.num=S at *;generalize txz (q.den:Int)=T at *;clear h1 hm9 h2 hN;go_wp2_with fail;go_ret;exact ⟨by rw [<-HF.out];rfl,HB.out⟩
  ·have HF:=Zh (HF2.out h2);have k1:((q.den:Int)==1)=false:=beq_eq_false_iff_ne.2 (by omega);have k1':(q.den==1)=false:=beq_eq_false_iff_ne.2 h2;have HS8:=Zh (fun (u:World) (hb:Below w10.heap.size w10 u)=>(by
     have k:=HD7.later hb;have h:=Zcm u false _ _ _ l7 k.sc k.dg;rw [k.eq] at h;exact h:Calls Tryz.prog 140 #[.bool false,.slice (some ⟨b,off,none⟩) 1 c7] u (RetG u (q.den:Int))))
   have HT8:=Zh (fun (u:World) (v:Value) (h:IgR u v (q.den:Int))=>Zl4 u v _ h 400000 HND.out.2 (by decide));have HBT:=Zh HB.out;clear h1 h2 hN HZ1 HZ2;obtain ⟨S,hS⟩: ∃S,txz q.num=S:=⟨_,rfl⟩;obtain ⟨T,hT⟩: ∃T,txz (q.den:Int)=T:=⟨_,rfl⟩;rw [hS,hT] at HF;rw [hT] at HT8 s2;rw [hS] at s1 ⊢;have s3:(⟨#[47]⟩:ByteArray).size=1:=rfl;have s4:(S++⟨#[47]⟩:ByteArray).size<=8100003:=by rw [ByteArray.size_append];omega
   clear hS hT;go_wp2_with fail;refine (HS8.out _ (Below.refl _ _)).mono ?_;rintro e11 w11 ⟨v11,rfl,hi11,hb⟩;have HT11:=Zh (HT8.out _ _ hi11);have HB11:=Zh (HB.Zg hb);clear hi11 hb;go_wp2_with fail;refine HT11.mono ?_;rintro e12 w12 ⟨rfl,hb⟩;have HB12:=Zh (HB11.Zg hb);clear hb;go_wp2_with fail;go_ret;exact ⟨by rw [<-HF.out];rfl,HB12.out⟩
 ·have h2:q.den≠1:=fun h=>h1 (by
    have hp:=HD7.out;rw [h] at hp;have e1:l7.length<=1:=Zd7 (B:=1000000000) (by decide) hp.tr (by rw [hp.eq];decide);have e2:l7.length≠0:=fun e=>by have:=hp.zero e;omega
    omega)
  have HF:=Zh (HF2.out h2);have e7:=HSZ7.out;have k1:((n7:Int)==1)=false:=beq_eq_false_iff_ne.2 (by omega);have k1':(n7==1)=false:=beq_eq_false_iff_ne.2 (by omega);clear e7;have HS8:=Zh (fun (u:World) (hb:Below w10.heap.size w10 u)=>(by
    have k:=HD7.later hb;have h:=Zcm u false _ _ _ l7 k.sc k.dg;rw [k.eq] at h;exact h:Calls Tryz.prog 140 #[.bool false,.slice a7 n7 c7] u (RetG u (q.den:Int))))
  have HT8:=Zh (fun (u:World) (v:Value) (h:IgR u v (q.den:Int))=>Zl4 u v _ h 400000 HND.out.2 (by decide));have HBT:=Zh HB.out;clear h1 h2 hN HZ1 HZ2;obtain ⟨S,hS⟩: ∃S,txz q.num=S:=⟨_,rfl⟩;obtain ⟨T,hT⟩: ∃T,txz (q.den:Int)=T:=⟨_,rfl⟩;rw [hS,hT] at HF;rw [hT] at HT8 s2;rw [hS] at s1 ⊢;have s3:(⟨#[47]⟩:ByteArray).size=1:=rfl;have s4:(S++⟨#[47]⟩:ByteArray).size<=8100003:=by rw [ByteArray.size_append];omega
  clear hS hT;go_wp2_with fail;refine (HS8.out _ (Below.refl _ _)).mono ?_;rintro e11 w11 ⟨v11,rfl,hi11,hb⟩;have HT11:=Zh (HT8.out _ _ hi11);have HB11:=Zh (HB.Zg hb);clear hi11 hb;go_wp2_with fail;refine HT11.mono ?_;rintro e12 w12 ⟨rfl,hb⟩;have HB12:=Zh (HB11.Zg hb);clear hb;go_wp2_with fail;go_ret;exact ⟨by rw [<-HF.out];rfl,HB12.out⟩
end Go.Proofs.YtijajkfmlghgkaaGreatDoor.Nu
