/- Lemmas on the way to the law TopMirrored: Fb Fc Fd Fe Ff Fg Ta Dd -/
import Derived.Test.YtijajkfmlghgkaaGreatDoorTopMirroredP06
import Derived.Lib.ItoaNum
set_option linter.unusedVariables false
set_option linter.unusedSimpArgs false
set_option maxRecDepth 100000
set_option maxHeartbeats 4000000
namespace Go.Proofs
theorem YtijajkfmlghgkaaGreatDoor.Box.v4 {w:World} {b:Nat} {e:TypeId} {x y z u:Value} (h:YtijajkfmlghgkaaGreatDoor.Box w b e [x,y,z,u]):w.cell? ⟨b,0,none⟩=some x/\w.cell? ⟨b,1,none⟩=some y/\w.cell? ⟨b,2,none⟩=some z/\w.cell? ⟨b,3,none⟩=some u/\(∀o,w.frozen? ⟨b,o,none⟩=false)/\b<w.heap.size:=
  ⟨h.cell 0,h.cell 1,h.cell 2,h.cell 3,h.frozen,h.lt⟩
end Go.Proofs
namespace Go.Proofs.YtijajkfmlghgkaaGreatDoor.Nu
open Go Go.Proofs Go.RowKit Go.Proofs.YtijajkfmlghgkaaGreatDoor
def FrR (w:World) (v:Value) (q:Rat):Prop:=∃ (s1:Int) (a1:Option Addr) (n1 c1:Nat) (s2:Int) (a2:Option Addr) (n2 c2:Nat),v= .agg #[.int .i64 s1,.slice a1 n1 c1,.int .i64 s2,.slice a2 n2 c2]/\IntR w (.agg #[.int .i64 s1,.slice a1 n1 c1]) q.num/\IntR w (.agg #[.int .i64 s2,.slice a2 n2 c2]) (q.den:Int)
theorem FrR.later {w w':World} {v:Value} {q:Rat} (h:FrR w v q) (hb:Below w.heap.size w w'):FrR w' v q:=by
  obtain ⟨s1,a1,n1,c1,s2,a2,n2,c2,e,h1,h2⟩:=h;exact ⟨s1,a1,n1,c1,s2,a2,n2,c2,e,h1.later hb,h2.later hb⟩
theorem IntR.put4 {w:World} {v:Value} {z:Int} (h:IntR w v z) {k:Nat} {e:TypeId} {s t:Int} {a b:Option Addr} {n c n' c':Nat} (hB:Box w k e [.int .i64 s,.slice a n c,.int .i64 t,.slice b n' c']) (s1 s2:Int) (a1 a2:Option Addr) (n1 c1 n2 c2:Nat):
    IntR ((((w.setCell ⟨k,0,none⟩ (.int .i64 s1)).setCell ⟨k,1,none⟩ (.slice a1 n1 c1)).setCell ⟨k,2,none⟩ (.int .i64 s2)).setCell ⟨k,3,none⟩ (.slice a2 n2 c2)) v z:=
 ((((h.box hB (by simp) 0 _).box (hB.set 0 (.int .i64 s1)) (by simp) 1 _).box ((hB.set 0 (.int .i64 s1)).set 1 (.slice a1 n1 c1)) (by simp) 2 _).box (((hB.set 0 (.int .i64 s1)).set 1 (.slice a1 n1 c1)).set 2 (.int .i64 s2)) (by simp) 3 _)
def RetF (w:World) (q:Rat) (e:Ending) (w':World):Prop:=∃v,e= .returned v/\FrR w' v q/\Below w.heap.size w w'
theorem RetF.mk {w w':World} {q:Rat} {v v':Value} (h:v=v') (h1:FrR w' v' q) (hb:Below w.heap.size w w'):RetF w q (.returned v) w':=⟨v,rfl,h ▸ h1,hb⟩
theorem Zo7 {z1 z2:Int} (h0:0<z2):(mkRat z1 z2.natAbs).num=z1 / ((Nat.gcd z1.natAbs z2.natAbs:Nat):Int)/\((mkRat z1 z2.natAbs).den:Int)=z2 / ((Nat.gcd z1.natAbs z2.natAbs:Nat):Int):=by
  have h:z2.natAbs≠0:=by omega
  rw [<-Rat.normalize_eq_mkRat h,Rat.normalize_eq];refine ⟨rfl,?_⟩;show ((z2.natAbs / Nat.gcd z1.natAbs z2.natAbs:Nat):Int)=_;rw [Int.natCast_ediv,show (z2.natAbs:Int)=z2 by omega]
theorem Ziu (w:World) (v1 v2:Value) (z1 z2:Int) (h1:IntR w v1 z1) (h2:IntR w v2 z2) (hw1:Wds 1000000 z1) (hw2:Wds 1000000 z2) (h0:0<z2):Calls Tryz.prog 233 #[v1,v2] w (RetF w (mkRat z1 z2.natAbs)):=by
  obtain ⟨s1,a1,n1,c1,rfl,_,hs1,hs1',hf1⟩:=h1.form;obtain ⟨s2,a2,n2,c2,rfl,_,hs2,hs2',hf2⟩:=h2.form;have hq:=fun (w:World) (a:Option Addr) (n c:Nat)=>Lib.run_eql_slice_nil w 131 345 a n c 0 0 Tryz.underlying131;have HI1:=Zh (fun (w1:World) (hb:Below w.heap.size w w1)=>h1.later hb);have HI2:=Zh (fun (w1:World) (hb:Below w.heap.size w w1)=>h2.later hb);have HSG:=Zh (fun (w1:World) (hb:Below w.heap.size w w1)=>(by have h:=Zd9 w1 _ z2 (h2.later hb);rwa [Int.sign_eq_one_of_pos h0] at h:Calls Tryz.prog 250 #[.agg #[.int .i64 s2,.slice a2 n2 c2]] w1 (Ret (.int .i64 1) w1)));have HGC:=Zh (fun (w1:World) (hb:Below w.heap.size w w1)=>Zre w1 _ _ z1 z2 (h1.later hb) (h2.later hb) hw1 hw2);have HB0:=Zh ((Below.refl w.heap.size w).alloc (Nat.le_refl _) (.cells #[.int .i64 s1,.slice a1 n1 c1] 133));have HB1:=Zh (HB0.alloc HB0.size (.cells #[.int .i64 s2,.slice a2 n2 c2] 133));have HB:=Zh (HB1.alloc HB1.size (.cells #[.int .i64 0,.slice none 0 0,.int .i64 0,.slice none 0 0] 135));have HX:=Zh (((Box.new w #[.int .i64 s1,.slice a1 n1 c1] 133).alloc (.cells #[.int .i64 s2,.slice a2 n2 c2] 133)).alloc (.cells #[.int .i64 0,.slice none 0 0,.int .i64 0,.slice none 0 0] 135));have HY:=Zh ((Box.newAt (w.alloc (.cells #[.int .i64 s1,.slice a1 n1 c1] 133)) #[.int .i64 s2,.slice a2 n2 c2] 133 (n:=w.heap.size+1) (by simp)).alloc (.cells #[.int .i64 0,.slice none 0 0,.int .i64 0,.slice none 0 0] 135));have HZ:=Zh (Box.newAt ((w.alloc (.cells #[.int .i64 s1,.slice a1 n1 c1] 133)).alloc (.cells #[.int .i64 s2,.slice a2 n2 c2] 133)) #[.int .i64 0,.slice none 0 0,.int .i64 0,.slice none 0 0] 135 (n:=w.heap.size+1+1) (by simp));obtain ⟨y0,y1,yf,yz⟩:=HY.v2;obtain ⟨hmn,hmd⟩:=Zo7 h0 (z1:=z1);obtain ⟨q,hqq⟩: ∃q,mkRat z1 z2.natAbs=q:=⟨_,rfl⟩;rw [hqq] at hmn hmd;rw [hqq];have hone:a2=none->s2=1->q.num=z1/\(q.den:Int)=z2:=fun ha hs=>by
    rcases hf2 with ⟨_,e,_⟩|h
    ·have e2:z2=1:=by omega
     subst e2;rw [hmn,hmd];simp
    ·rw [ha] at h;cases h
  have HGP:=Zh (show 0<Nat.gcd z1.natAbs z2.natAbs from Nat.gcd_pos_of_pos_right _ (by omega));have HGW:=Zh (hw2.le (show ((Nat.gcd z1.natAbs z2.natAbs:Nat):Int).natAbs<=z2.natAbs by have:=Nat.gcd_le_right z1.natAbs (show 0<z2.natAbs by omega);omega));obtain ⟨g,hg⟩: ∃g,Nat.gcd z1.natAbs z2.natAbs=g:=⟨_,rfl⟩;rw [hg] at HGC HGP HGW hmn hmd;have HMN:=Zh (And.intro hmn hmd);have HW1:=Zh hw1;have HW2:=Zh hw2;have hway:(a2=none/\s2=1)∨(a2=none/\(s2==1)=false)∨∃b,a2=some b:=by
    rcases a2 with _|b
    ·by_cases h:s2=1
     ·exact .inl ⟨rfl,h⟩
     ·exact .inr (.inl ⟨rfl,beq_eq_false_iff_ne.2 h⟩)
    ·exact .inr (.inr ⟨b,rfl⟩)
  have HONE:=Zh hone;clear h0 h1 h2 hw1 hw2 hf1 hf2 hs1 hs1' hs2 hs2' HB0 HB1 hmn hmd hqq hone hg;go_enter Tryz.func233,Tryz.ntmps233;go_wp2_with fail;refine (HSG.out _ HB.out).mono ?_;rintro e4 w4 ⟨rfl,hb⟩;have HB4:=Zh (HB.Zg hb);have HX4:=Zh (HX.later hb);have HY4:=Zh (HY.later hb);have HZ4:=Zh (HZ.later hb);clear hb y0 y1 yf yz HX HY HZ HB;obtain ⟨x0,x1,xf,xz⟩:=HX4.v2;obtain ⟨y0,y1,yf,yz⟩:=HY4.v2
  rcases hway with ⟨rfl,rfl⟩|hway
  ·have HFN:=Zh (HONE.out rfl rfl);obtain ⟨z0,zb,zc,zd,zf,zz⟩:=HZ4.v4;go_wp2_with fail;refine bodyPost_ret (v:= .agg #[.int .i64 s1,.slice a1 n1 c1,.int .i64 1,.slice none n2 c2]) (by simp [results,Tryz.results233,go_sem, *]) rfl ?_;have k1:IntR w4 (.agg #[.int .i64 s1,.slice a1 n1 c1]) q.num:=(HI1.out _ HB4.out).cong HFN.out.1.symm;have k2:IntR w4 (.agg #[.int .i64 1,.slice none n2 c2]) (q.den:Int):=(HI2.out _ HB4.out).cong HFN.out.2.symm;refine RetF.mk rfl ⟨_,_,_,_,_,_,_,_,rfl,k1.put4 HZ4.out _ _ _ _ _ _ _ _,k2.put4 HZ4.out _ _ _ _ _ _ _ _⟩ ?_
   repeat (first|with_reducible exact HB4.out|with_reducible exact Below.refl _ _|refine .Zs ?_ _|refine .Za ?_ _|refine .drew ?_)
  ·clear HONE
   rcases hway with ⟨rfl,d2⟩|⟨b,rfl⟩
   all_goals
     go_wp2_with fail;refine (HGC.out _ HB4.out).mono ?_;rintro e5 w5 ⟨v5,rfl,hi5,hb⟩;obtain ⟨sg,ag,ng,cg,rfl,_,_,_,_⟩:=hi5.form;have hbl:Below w5.heap.size w5 (w5.alloc (.cells #[.int .i64 sg,.slice ag ng cg] 133)):=(Below.refl _ _).alloc (Nat.le_refl _) _;have hb6:=hb.trans (hbl.mono hb.size);have HB6:=Zh (HB4.Zg hb6);have HX6:=Zh (HX4.later hb6);have HY6:=Zh (HY4.later hb6);have HZ6:=Zh (HZ4.later hb6);have HG6:=Zh (Box.new w5 #[.int .i64 sg,.slice ag ng cg] 133);have HI6:=Zh (hi5.later hbl);clear hi5 hb hbl hb6 x0 x1 xf xz y0 y1 yf yz;go_wp2_with fail;generalize hw6:w5.alloc (.cells #[.int .i64 sg,.slice ag ng cg] 133)=w6 at *;clear hw6;generalize w5.heap.size=gb at *;refine Zap 6 (fun j v u=>IntR u v ([z1,(g:Int),q.num,z2,(g:Int),(q.den:Int)].getD j 0)) (by kernel_rfl) (by kernel_rfl) (fun j v u u' h hb=>h.later hb) ?_ ?_
     ·refine ⟨?_,?_,?_,?_,?_,?_,trivial⟩
      all_goals
        intro vs u hu hR;simp only [Zac,Z2,Z6,Act.put,Z1,Z4,Z5]
      ·obtain ⟨x0,x1,xf,xz⟩:=(HX6.later hu).v2;have HI:=Zh (HI1.out u (HB6.Zg hu));clear hR hu;go_wp2_with fail;exact ⟨rfl,rfl,_,_,rfl,rfl,Below.refl _ _,HI.out⟩
      ·obtain ⟨x0,x1,xf,xz⟩:=(HG6.later hu).v2;have HI:=Zh (HI6.later hu);clear hR hu;go_wp2_with fail;exact ⟨rfl,rfl,_,_,rfl,rfl,Below.refl _ _,HI.out⟩
      ·have k0:IntR u (vs 0) _:=Zr hR 0;have k1:IntR u (vs 1) _:=Zr hR 1;have HS:=Zh (Zo6 u _ _ z1 (g:Int) k0 k1 HW1.out HGW.out (by have:=HGP.out;omega));rw [<-HMN.out.1] at HS;clear hR hu k0 k1;go_wp2_with fail;refine HS.mono ?_;rintro e11 w11 ⟨v11,rfl,hi11,hb⟩;go_wp2_with fail;exact ⟨rfl,rfl,_,_,rfl,rfl,hb,hi11⟩
      ·obtain ⟨x0,x1,xf,xz⟩:=(HY6.later hu).v2;have HI:=Zh (HI2.out u (HB6.Zg hu));clear hR hu;go_wp2_with fail;exact ⟨rfl,rfl,_,_,rfl,rfl,Below.refl _ _,HI.out⟩
      ·obtain ⟨x0,x1,xf,xz⟩:=(HG6.later hu).v2;have HI:=Zh (HI6.later hu);clear hR hu;go_wp2_with fail;exact ⟨rfl,rfl,_,_,rfl,rfl,Below.refl _ _,HI.out⟩
      ·have k0:IntR u (vs 3) _:=Zr hR 3;have k1:IntR u (vs 4) _:=Zr hR 4;have HS:=Zh (Zo6 u _ _ z2 (g:Int) k0 k1 HW2.out HGW.out (by have:=HGP.out;omega));rw [<-HMN.out.2] at HS;clear hR hu k0 k1;go_wp2_with fail;refine HS.mono ?_;rintro e11 w11 ⟨v11,rfl,hi11,hb⟩;go_wp2_with fail;exact ⟨rfl,rfl,_,_,rfl,rfl,hb,hi11⟩
     ·intro vs u hu hR;have k2:IntR u (vs 2) _:=hR 2 (by decide);have k5:IntR u (vs 5) _:=hR 5 (by decide);obtain ⟨s11,a11,n11,c11,e11,_,_,_,_⟩:=k2.form;obtain ⟨s12,a12,n12,c12,e12,_,_,_,_⟩:=k5.form;rw [e11] at k2;rw [e12] at k5;have HZu:=Zh (HZ6.later hu);obtain ⟨z0,zb,zc,zd,zf,zz⟩:=HZu.v4;have HK2:=Zh k2;have HK5:=Zh k5;have HBu:=Zh (HB6.Zg hu);simp only [Zac,Z3,Z7,Z2,Z6,Act.put,Z1,Z4,Z5,e11,e12];clear hR hu k2 k5 e11 e12;go_wp2_with fail;refine bodyPost_ret (v:= .agg #[.int .i64 s11,.slice a11 n11 c11,.int .i64 s12,.slice a12 n12 c12]) (by simp [results,Tryz.results233,go_sem, *]) rfl ?_;refine RetF.mk rfl ⟨_,_,_,_,_,_,_,_,rfl,HK2.put4 HZu.out _ _ _ _ _ _ _ _,HK5.put4 HZu.out _ _ _ _ _ _ _ _⟩ ?_
      repeat (first|with_reducible exact HBu.out|with_reducible exact Below.refl _ _|refine .Zs ?_ _|refine .Za ?_ _|refine .drew ?_)
inductive Kd where
  | is (x:Value)
  | int (z:Int)
  | frac (q:Rat)
def Kd.R:Kd->Value->World->Prop
  | .is x,v,_=>v=x
  | .int z,v,w=>IntR w v z
  | .frac q,v,w=>FrR w v q
theorem Kd.later {k:Kd} {v:Value} {w w':World} (h:k.R v w) (hb:Below w.heap.size w w'):k.R v w':=by
  cases k with
  | is x=>exact h
  | int z=>exact IntR.later h hb
  | frac q=>exact FrR.later h hb
def Zhi (l:List Kd) (j:Nat) (v:Value) (w:World):Prop:=(l.getD j (.int 0)).R v w
theorem Zh8 (w:World) (v:Value) (z:Int) (h:IntR w v z):Calls Tryz.prog 197 #[v] w (RetF w (z:Rat)):=by
  obtain ⟨s1,a1,n1,c1,rfl,_,hs1,hs1',hf1⟩:=h.form;have HI1:=Zh (fun (w1:World) (hb:Below w.heap.size w w1)=>h.later hb);have HB0:=Zh ((Below.refl w.heap.size w).alloc (Nat.le_refl _) (.cells #[.int .i64 s1,.slice a1 n1 c1] 133));have HB:=Zh (HB0.alloc HB0.size (.cells #[.int .i64 0,.slice none 0 0,.int .i64 0,.slice none 0 0] 135));have HX:=Zh ((Box.new w #[.int .i64 s1,.slice a1 n1 c1] 133).alloc (.cells #[.int .i64 0,.slice none 0 0,.int .i64 0,.slice none 0 0] 135));have HZ:=Zh (Box.newAt (w.alloc (.cells #[.int .i64 s1,.slice a1 n1 c1] 133)) #[.int .i64 0,.slice none 0 0,.int .i64 0,.slice none 0 0] 135 (n:=w.heap.size+1) (by simp));obtain ⟨q,hq⟩: ∃q:Rat,(z:Rat)=q:=⟨_,rfl⟩;have HQ:=Zh (show q.num=z/\(q.den:Int)=1 by rw [<-hq];exact ⟨Rat.num_intCast z,by rw [Rat.den_intCast];rfl⟩);rw [hq];clear h hs1 hs1' hf1 hq HB0;go_enter Tryz.func197,Tryz.ntmps197;go_wp2_with fail;refine Zap 2 (Zhi [.int z,.int 1]) (by kernel_rfl) (by kernel_rfl) (fun j v u u' h hb=>Kd.later h hb) ?_ ?_
  ·refine ⟨?_,?_,trivial⟩
   all_goals
     intro vs u hu hR;simp only [Zac,Z2,Z6,Act.put,Z1,Z4,Z5]
   ·obtain ⟨x0,x1,xf,xz⟩:=(HX.later hu).v2;have HI:=Zh (HI1.out u (HB.Zg hu));clear hR hu;go_wp2_with fail;exact ⟨rfl,rfl,_,_,rfl,rfl,Below.refl _ _,HI.out⟩
   ·clear hR hu;go_wp2_with fail;refine (of94 1 u).mono ?_;rintro e11 w11 ⟨rfl,hb⟩;go_wp2_with fail;exact ⟨rfl,rfl,_,_,rfl,rfl,hb,IntR.small _ (by decide) (by decide)⟩
  ·intro vs u hu hR;have k0:IntR u (vs 0) q.num:=(show IntR u (vs 0) z from hR 0 (by decide)).cong HQ.out.1.symm;have k1:IntR u (vs 1) (q.den:Int):=(show IntR u (vs 1) 1 from hR 1 (by decide)).cong HQ.out.2.symm;obtain ⟨s11,a11,n11,c11,e11,_,_,_,_⟩:=k0.form;obtain ⟨s12,a12,n12,c12,e12,_,_,_,_⟩:=k1.form;rw [e11] at k0;rw [e12] at k1;have HZu:=Zh (HZ.later hu);obtain ⟨z0,zb,zc,zd,zf,zz⟩:=HZu.v4;have HK2:=Zh k0;have HK5:=Zh k1;have HBu:=Zh (HB.Zg hu);simp only [Zac,Z3,Z7,Z2,Z6,Act.put,Z1,Z4,Z5,e11,e12];clear hR hu k0 k1 e11 e12;go_wp2_with fail;refine bodyPost_ret (v:= .agg #[.int .i64 s11,.slice a11 n11 c11,.int .i64 s12,.slice a12 n12 c12]) (by simp [results,Tryz.results197,go_sem, *]) rfl ?_;refine RetF.mk rfl ⟨_,_,_,_,_,_,_,_,rfl,HK2.put4 HZu.out _ _ _ _ _ _ _ _,HK5.put4 HZu.out _ _ _ _ _ _ _ _⟩ ?_
   repeat (first|with_reducible exact HBu.out|with_reducible exact Below.refl _ _|refine .Zs ?_ _|refine .Za ?_ _|refine .drew ?_)
theorem Zrf (w:World) (v:Value) (q0:Rat) (h:FrR w v q0):Calls Tryz.prog 195 #[v] w (RetF w (-q0)):=by
  obtain ⟨s1,a1,n1,c1,s2,a2,n2,c2,rfl,h1,h2⟩:=h;have HI1:=Zh (fun (w1:World) (hb:Below w.heap.size w w1)=>h1.later hb);have HI2:=Zh (fun (w1:World) (hb:Below w.heap.size w w1)=>h2.later hb);have HB0:=Zh ((Below.refl w.heap.size w).alloc (Nat.le_refl _) (.cells #[.int .i64 s1,.slice a1 n1 c1,.int .i64 s2,.slice a2 n2 c2] 135));have HB:=Zh (HB0.alloc HB0.size (.cells #[.int .i64 0,.slice none 0 0,.int .i64 0,.slice none 0 0] 135));have HX:=Zh ((Box.new w #[.int .i64 s1,.slice a1 n1 c1,.int .i64 s2,.slice a2 n2 c2] 135).alloc (.cells #[.int .i64 0,.slice none 0 0,.int .i64 0,.slice none 0 0] 135));have HZ:=Zh (Box.newAt (w.alloc (.cells #[.int .i64 s1,.slice a1 n1 c1,.int .i64 s2,.slice a2 n2 c2] 135)) #[.int .i64 0,.slice none 0 0,.int .i64 0,.slice none 0 0] 135 (n:=w.heap.size+1) (by simp));obtain ⟨q,hq⟩: ∃q:Rat,-q0=q:=⟨_,rfl⟩;have HQ:=Zh (show q.num= -q0.num/\(q.den:Int)=(q0.den:Int) by rw [<-hq];exact ⟨by simp,by simp⟩);rw [hq];clear h1 h2 hq HB0;go_enter Tryz.func195,Tryz.ntmps195;go_wp2_with fail;refine Zap 5 (Zhi [.is (.pointer (some ⟨w.heap.size,0,none⟩)),.int q0.num,.int (-q0.num),.is (.pointer (some ⟨w.heap.size,2,none⟩)),.int (q0.den:Int)]) (by kernel_rfl) (by kernel_rfl) (fun j v u u' h hb=>Kd.later h hb) ?_ ?_
  ·refine ⟨?_,?_,?_,?_,?_,trivial⟩
   all_goals
     intro vs u hu hR;simp only [Zac,Z2,Z6,Act.put,Z1,Z4,Z5]
   rotate_left;have e0:vs 0=_:=Zr hR 0;obtain ⟨x0,x1,x2,x3,xf,xz⟩:=(HX.later hu).v4;have HI:=Zh (HI1.out u (HB.Zg hu));rotate_left;have k0:IntR u (vs 1) _:=Zr hR 1;have HS:=Zh (Ziq u _ _ k0);clear k0;rotate_left;rotate_left;have e0:vs 3=_:=Zr hR 3;obtain ⟨x0,x1,x2,x3,xf,xz⟩:=(HX.later hu).v4;have HI:=Zh (HI2.out u (HB.Zg hu));rotate_left
   all_goals
     clear hR
     try clear hu
     go_wp2_with fail
     first|exact ⟨rfl,rfl,_,_,rfl,rfl,Below.refl _ _,rfl⟩|exact ⟨rfl,rfl,_,_,rfl,rfl,Below.refl _ _,HI.out⟩|(refine HS.mono ?_;rintro e11 w11 ⟨v11,rfl,hi11,hb⟩;go_wp2_with fail;exact ⟨rfl,rfl,_,_,rfl,rfl,hb,hi11⟩)
  ·intro vs u hu hR;have k0:IntR u (vs 2) q.num:=(show IntR u (vs 2) (-q0.num) from hR 2 (by decide)).cong HQ.out.1.symm;have k1:IntR u (vs 4) (q.den:Int):=(show IntR u (vs 4) (q0.den:Int) from hR 4 (by decide)).cong HQ.out.2.symm;obtain ⟨s11,a11,n11,c11,e11,_,_,_,_⟩:=k0.form;obtain ⟨s12,a12,n12,c12,e12,_,_,_,_⟩:=k1.form;rw [e11] at k0;rw [e12] at k1;have HZu:=Zh (HZ.later hu);obtain ⟨z0,zb,zc,zd,zf,zz⟩:=HZu.v4;have HK2:=Zh k0;have HK5:=Zh k1;have HBu:=Zh (HB.Zg hu);simp only [Zac,Z3,Z7,Z2,Z6,Act.put,Z1,Z4,Z5,e11,e12];clear hR hu k0 k1 e11 e12;go_wp2_with fail;refine bodyPost_ret (v:= .agg #[.int .i64 s11,.slice a11 n11 c11,.int .i64 s12,.slice a12 n12 c12]) (by simp [results,Tryz.results195,go_sem, *]) rfl ?_;refine RetF.mk rfl ⟨_,_,_,_,_,_,_,_,rfl,HK2.put4 HZu.out _ _ _ _ _ _ _ _,HK5.put4 HZu.out _ _ _ _ _ _ _ _⟩ ?_
   repeat (first|with_reducible exact HBu.out|with_reducible exact Below.refl _ _|refine .Zs ?_ _|refine .Za ?_ _|refine .drew ?_)
theorem Zfg (w:World) (v:Value) (q:Rat) (h:FrR w v q):Calls Tryz.prog 200 #[v] w (Ret (.bool (decide (q.den=1))) w):=by
  obtain ⟨s1,a1,n1,c1,s2,a2,n2,c2,rfl,h1,h2⟩:=h;have hq:=fun (w:World) (a:Option Addr) (n c:Nat)=>Lib.run_eql_slice_nil w 131 345 a n c 0 0 Tryz.underlying131;have HB:=Zh ((Below.refl w.heap.size w).alloc (Nat.le_refl _) (.cells #[.int .i64 s1,.slice a1 n1 c1,.int .i64 s2,.slice a2 n2 c2] 135));have HX:=Zh (Box.new w #[.int .i64 s1,.slice a1 n1 c1,.int .i64 s2,.slice a2 n2 c2] 135);obtain ⟨x0,x1,x2,x3,xf,xz⟩:=HX.v4;have hway:(a2=none/\s2=1/\decide (q.den=1)=true)∨(a2=none/\(s2==1)=false/\decide (q.den=1)=false)∨((∃b,a2=some b)/\decide (q.den=1)=false):=by
    rcases h2 with ⟨e,_,_⟩|⟨s,b,off,n,c,l,e,_,_,_,_,_,hbig,hs⟩
    ·simp at e;obtain ⟨e1,e2,_,_⟩:=e
     by_cases h:q.den=1
     ·exact .inl ⟨e2,by omega,Zt h⟩
     ·exact .inr (.inl ⟨e2,beq_eq_false_iff_ne.2 (by omega),Zf h⟩)
    ·simp at e;exact .inr (.inr ⟨⟨_,e.2.1⟩,Zf (by omega)⟩)
  clear h1 h2
  rcases hway with ⟨rfl,rfl,hd⟩|⟨rfl,d2,hd⟩|⟨⟨b,rfl⟩,hd⟩
  all_goals
    rw [hd];clear hd;go_enter Tryz.func200,Tryz.ntmps200;go_wp2_with fail;go_ret;exact ⟨rfl,HB.out⟩
theorem Zrg (w:World) (v1 v2:Value) (q1 q2:Rat) (h1:FrR w v1 q1) (h2:FrR w v2 q2) (w1:Wds 400000 q1.num) (w2:Wds 400000 (q1.den:Int)) (w3:Wds 400000 q2.num) (w4:Wds 400000 (q2.den:Int)):Calls Tryz.prog 164 #[v1,v2] w (RetF w (q1+q2)):=by
  have HF1:=Zh (fun (u:World) (hb:Below w.heap.size w u)=>h1.later hb);have HF2:=Zh (fun (u:World) (hb:Below w.heap.size w u)=>h2.later hb);obtain ⟨s1,a1,n1,c1,t1,b1,m1,d1,rfl,h11,h12⟩:=h1;obtain ⟨s2,a2,n2,c2,t2,b2,m2,d2,rfl,h21,h22⟩:=h2;have HI11:=Zh (fun (u:World) (hb:Below w.heap.size w u)=>h11.later hb);have HI12:=Zh (fun (u:World) (hb:Below w.heap.size w u)=>h12.later hb);have HI21:=Zh (fun (u:World) (hb:Below w.heap.size w u)=>h21.later hb);have HI22:=Zh (fun (u:World) (hb:Below w.heap.size w u)=>h22.later hb);have HB0:=Zh ((Below.refl w.heap.size w).alloc (Nat.le_refl _) (.cells #[.int .i64 s1,.slice a1 n1 c1,.int .i64 t1,.slice b1 m1 d1] 135));have HB1:=Zh (HB0.alloc HB0.size (.cells #[.int .i64 s2,.slice a2 n2 c2,.int .i64 t2,.slice b2 m2 d2] 135));have HBs:=Zh (HB1.alloc HB1.size (.cells #[.int .i64 0,.slice none 0 0,.int .i64 0,.slice none 0 0] 135));have HXs:=Zh (((Box.new w #[.int .i64 s1,.slice a1 n1 c1,.int .i64 t1,.slice b1 m1 d1] 135).alloc (.cells #[.int .i64 s2,.slice a2 n2 c2,.int .i64 t2,.slice b2 m2 d2] 135)).alloc (.cells #[.int .i64 0,.slice none 0 0,.int .i64 0,.slice none 0 0] 135));have HYs:=Zh ((Box.newAt (w.alloc (.cells #[.int .i64 s1,.slice a1 n1 c1,.int .i64 t1,.slice b1 m1 d1] 135)) #[.int .i64 s2,.slice a2 n2 c2,.int .i64 t2,.slice b2 m2 d2] 135 (n:=w.heap.size+1) (by simp)).alloc (.cells #[.int .i64 0,.slice none 0 0,.int .i64 0,.slice none 0 0] 135));have HZs:=Zh (Box.newAt ((w.alloc (.cells #[.int .i64 s1,.slice a1 n1 c1,.int .i64 t1,.slice b1 m1 d1] 135)).alloc (.cells #[.int .i64 s2,.slice a2 n2 c2,.int .i64 t2,.slice b2 m2 d2] 135)) #[.int .i64 0,.slice none 0 0,.int .i64 0,.slice none 0 0] 135 (n:=w.heap.size+1+1) (by simp));obtain ⟨x0,x1,x2,x3,xf,xz⟩:=HXs.v4;obtain ⟨y0,y1,y2,y3,yf,yz⟩:=HYs.v4;have HWS:=Zh (And.intro (w1.mono (show 400000<=1000000 by decide)) (And.intro (w2.mono (show 400000<=1000000 by decide)) (And.intro (w3.mono (show 400000<=1000000 by decide)) (w4.mono (show 400000<=1000000 by decide)))));have HWM:=Zh (And.intro ((w1.mul w4).mono (show 400000+400000<=1000000 by decide)) (And.intro ((w3.mul w2).mono (show 400000+400000<=1000000 by decide)) (And.intro ((w2.mul w4).mono (show 400000+400000<=1000000 by decide)) (Wds.add (w1.mul w4) (w3.mul w2) (show 400000+400000<1000000 by decide) (show 400000+400000<1000000 by decide)))));have HPOS:=Zh (show 0<(q1.den:Int) * (q2.den:Int) from Int.mul_pos (by have:=q1.den_pos;omega) (by have:=q2.den_pos;omega));have HMK:=Zh (show mkRat (q1.num* (q2.den:Int)+q2.num* (q1.den:Int)) ((q1.den:Int) * (q2.den:Int)).natAbs=q1+q2 by
    rw [Int.natAbs_mul,Int.natAbs_natCast,Int.natAbs_natCast,Rat.add_def'])
  have HSUM:=Zh (show q1.den=1->q2.den=1->((q1.num+q2.num:Int):Rat)=q1+q2 from fun e1 e2=>by
    rw [Rat.add_def',e1,e2];simp [Rat.mkRat_one,Rat.intCast_add])
  obtain ⟨p1,hp1⟩: ∃p,decide (q1.den=1)=p:=⟨_,rfl⟩;obtain ⟨p2,hp2⟩: ∃p,decide (q2.den=1)=p:=⟨_,rfl⟩;have HW1:=Zh (fun (u:World) (hb:Below w.heap.size w u)=>(by have h:=Zfg u _ q1 (HF1.out u hb);rwa [hp1] at h:Calls Tryz.prog 200 #[.agg #[.int .i64 s1,.slice a1 n1 c1,.int .i64 t1,.slice b1 m1 d1]] u (Ret (.bool p1) u)));have HW2:=Zh (fun (u:World) (hb:Below w.heap.size w u)=>(by have h:=Zfg u _ q2 (HF2.out u hb);rwa [hp2] at h:Calls Tryz.prog 200 #[.agg #[.int .i64 s2,.slice a2 n2 c2,.int .i64 t2,.slice b2 m2 d2]] u (Ret (.bool p2) u)));obtain ⟨q,hqq⟩: ∃q,q1+q2=q:=⟨_,rfl⟩;rw [hqq] at HMK HSUM ⊢;have HP:=Zh (show (p1=true->q1.den=1)/\(p2=true->q2.den=1) from ⟨fun h=>of_decide_eq_true (hp1.trans h),fun h=>of_decide_eq_true (hp2.trans h)⟩);clear hp1 hp2 hqq w1 w2 w3 w4 h11 h12 h21 h22 HB0 HB1;have hway:(p1=true/\p2=true)∨(p1=true/\p2=false)∨p1=false:=by cases p1 <;> cases p2 <;> simp
  rcases hway with ⟨rfl,rfl⟩|⟨rfl,rfl⟩|rfl
  ·have HS0:=Zh (HSUM.out (HP.out.1 rfl) (HP.out.2 rfl));go_enter Tryz.func164,Tryz.ntmps164;go_wp2_with fail;refine (HW1.out _ HBs.out).mono ?_;rintro e4 w4 ⟨rfl,hb⟩;have HB4:=Zh (HBs.Zg hb);have HX4:=Zh (HXs.later hb);have HY4:=Zh (HYs.later hb);have HZ4:=Zh (HZs.later hb);clear hb x0 x1 x2 x3 xf xz y0 y1 y2 y3 yf yz;obtain ⟨y0,y1,y2,y3,yf,yz⟩:=HY4.v4;go_wp2_with fail;refine (HW2.out _ HB4.out).mono ?_;rintro e5 w5 ⟨rfl,hb⟩;have HB5:=Zh (HB4.Zg hb);have HX5:=Zh (HX4.later hb);have HY5:=Zh (HY4.later hb);have HZ5:=Zh (HZ4.later hb);clear hb y0 y1 y2 y3 yf yz;obtain ⟨x0,x1,x2,x3,xf,xz⟩:=HX5.v4;obtain ⟨y0,y1,y2,y3,yf,yz⟩:=HY5.v4;go_wp2_with fail;refine (Zjs w5 _ _ _ _ (HI11.out _ HB5.out) (HI21.out _ HB5.out) HWS.out.1 HWS.out.2.2.1).mono ?_;rintro e6 w6 ⟨v6,rfl,hi6,hb⟩;have HB6:=Zh (HB5.Zg hb);have HZ6:=Zh (HZ5.later hb);have HI6:=Zh hi6;clear hb hi6 x0 x1 x2 x3 xf xz y0 y1 y2 y3 yf yz;go_wp2_with fail;refine (Zh8 w6 _ _ HI6.out).mono ?_;rintro e7 w7 ⟨v7,rfl,hf7,hb⟩;rw [HS0.out] at hf7;have HB7:=Zh (HB6.Zg hb);have HZ7:=Zh (HZ6.later hb);obtain ⟨s7,a7,n7,c7,t7,b7,m7,d7,rfl,k1,k2⟩:=hf7;have HK1:=Zh k1;have HK2:=Zh k2;clear hb k1 k2;obtain ⟨z0,zb,zc,zd,zf,zz⟩:=HZ7.v4;go_wp2_with fail;refine bodyPost_ret (v:= .agg #[.int .i64 s7,.slice a7 n7 c7,.int .i64 t7,.slice b7 m7 d7]) (by simp [results,Tryz.results164,go_sem, *]) rfl ?_;refine RetF.mk rfl ⟨_,_,_,_,_,_,_,_,rfl,HK1.put4 HZ7.out _ _ _ _ _ _ _ _,HK2.put4 HZ7.out _ _ _ _ _ _ _ _⟩ ?_
   repeat (first|with_reducible exact HB7.out|with_reducible exact Below.refl _ _|refine .Zs ?_ _|refine .Za ?_ _|refine .drew ?_)
  ·clear HSUM HP;go_enter Tryz.func164,Tryz.ntmps164;go_wp2_with fail;refine (HW1.out _ HBs.out).mono ?_;rintro e4 w4 ⟨rfl,hb⟩;have HB4:=Zh (HBs.Zg hb);have HX4:=Zh (HXs.later hb);have HY4:=Zh (HYs.later hb);have HZ4:=Zh (HZs.later hb);clear hb x0 x1 x2 x3 xf xz y0 y1 y2 y3 yf yz;obtain ⟨y0,y1,y2,y3,yf,yz⟩:=HY4.v4;go_wp2_with fail;refine (HW2.out _ HB4.out).mono ?_;rintro e5 w5 ⟨rfl,hb⟩;have HB:=Zh (HB4.Zg hb);have HX:=Zh (HX4.later hb);have HY:=Zh (HY4.later hb);have HZ:=Zh (HZ4.later hb);clear hb y0 y1 y2 y3 yf yz;go_wp2_with fail;refine Zap 17 (Zhi [.is (.pointer (some ⟨w.heap.size,0,none⟩)),.int q1.num,.is (.pointer (some ⟨w.heap.size+1,2,none⟩)),.int (q2.den:Int),.int (q1.num* (q2.den:Int)),.is (.pointer (some ⟨w.heap.size+1,0,none⟩)),.int q2.num,.is (.pointer (some ⟨w.heap.size,2,none⟩)),.int (q1.den:Int),.int (q2.num* (q1.den:Int)),.int (q1.num* (q2.den:Int)+q2.num* (q1.den:Int)),.is (.pointer (some ⟨w.heap.size,2,none⟩)),.int (q1.den:Int),.is (.pointer (some ⟨w.heap.size+1,2,none⟩)),.int (q2.den:Int),.int ((q1.den:Int) * (q2.den:Int)),.frac q]) (by kernel_rfl) (by kernel_rfl) (fun j v u u' h hb=>Kd.later h hb) ?_ ?_
   ·refine ⟨?_,?_,?_,?_,?_,?_,?_,?_,?_,?_,?_,?_,?_,?_,?_,?_,?_,trivial⟩
    all_goals
      intro vs u hu hR;simp only [Zac,Z2,Z6,Act.put,Z1,Z4,Z5]
    rotate_left;have e0:vs 0=_:=Zr hR 0;obtain ⟨x0,x1,x2,x3,xf,xz⟩:=(HX.later hu).v4;have HI:=Zh (HI11.out u (HB.Zg hu));rotate_left;rotate_left;have e0:vs 2=_:=Zr hR 2;obtain ⟨x0,x1,x2,x3,xf,xz⟩:=(HY.later hu).v4;have HI:=Zh (HI22.out u (HB.Zg hu));rotate_left;have k0:IntR u (vs 1) _:=Zr hR 1;have k1:IntR u (vs 3) _:=Zr hR 3;have HS:=Zh (Zfb u _ _ _ _ k0 k1 HWS.out.1 HWS.out.2.2.2);clear k0 k1;rotate_left;rotate_left;have e0:vs 5=_:=Zr hR 5;obtain ⟨x0,x1,x2,x3,xf,xz⟩:=(HY.later hu).v4;have HI:=Zh (HI21.out u (HB.Zg hu));rotate_left;rotate_left;have e0:vs 7=_:=Zr hR 7;obtain ⟨x0,x1,x2,x3,xf,xz⟩:=(HX.later hu).v4;have HI:=Zh (HI12.out u (HB.Zg hu));rotate_left;have k0:IntR u (vs 6) _:=Zr hR 6;have k1:IntR u (vs 8) _:=Zr hR 8;have HS:=Zh (Zfb u _ _ _ _ k0 k1 HWS.out.2.2.1 HWS.out.2.1);clear k0 k1;rotate_left;have k0:IntR u (vs 4) _:=Zr hR 4;have k1:IntR u (vs 9) _:=Zr hR 9;have HS:=Zh (Zjs u _ _ _ _ k0 k1 HWM.out.1 HWM.out.2.1);clear k0 k1;rotate_left;rotate_left;have e0:vs 11=_:=Zr hR 11;obtain ⟨x0,x1,x2,x3,xf,xz⟩:=(HX.later hu).v4;have HI:=Zh (HI12.out u (HB.Zg hu));rotate_left;rotate_left;have e0:vs 13=_:=Zr hR 13;obtain ⟨x0,x1,x2,x3,xf,xz⟩:=(HY.later hu).v4;have HI:=Zh (HI22.out u (HB.Zg hu));rotate_left;have k0:IntR u (vs 12) _:=Zr hR 12;have k1:IntR u (vs 14) _:=Zr hR 14;have HS:=Zh (Zfb u _ _ _ _ k0 k1 HWS.out.2.1 HWS.out.2.2.2);clear k0 k1;rotate_left;have k0:IntR u (vs 10) _:=Zr hR 10;have k1:IntR u (vs 15) _:=Zr hR 15;have HS:=Zh ((by have h:=Ziu u _ _ _ _ k0 k1 HWM.out.2.2.2 HWM.out.2.2.1 HPOS.out;rwa [HMK.out] at h:Calls Tryz.prog 233 #[vs 10,vs 15] u (RetF u q)));clear k0 k1;rotate_left
    all_goals
      clear hR
      try clear hu
      go_wp2_with fail
      first|exact ⟨rfl,rfl,_,_,rfl,rfl,Below.refl _ _,rfl⟩|exact ⟨rfl,rfl,_,_,rfl,rfl,Below.refl _ _,HI.out⟩|(refine HS.mono ?_;rintro e11 w11 ⟨v11,rfl,hi11,hb⟩;go_wp2_with fail;exact ⟨rfl,rfl,_,_,rfl,rfl,hb,hi11⟩)
   ·intro vs u hu hR;have k0:FrR u (vs 16) _:=hR 16 (by decide);obtain ⟨s7,a7,n7,c7,t7,b7,m7,d7,e7,k1,k2⟩:=k0;have HZu:=Zh (HZ.later hu);obtain ⟨z0,zb,zc,zd,zf,zz⟩:=HZu.v4;have HK1:=Zh k1;have HK2:=Zh k2;have HBu:=Zh (HB.Zg hu);simp only [Zac,Z3,Z7,Z2,Z6,Act.put,Z1,Z4,Z5,e7];clear hR hu k1 k2 e7;go_wp2_with fail;refine bodyPost_ret (v:= .agg #[.int .i64 s7,.slice a7 n7 c7,.int .i64 t7,.slice b7 m7 d7]) (by simp [results,Tryz.results164,go_sem, *]) rfl ?_;refine RetF.mk rfl ⟨_,_,_,_,_,_,_,_,rfl,HK1.put4 HZu.out _ _ _ _ _ _ _ _,HK2.put4 HZu.out _ _ _ _ _ _ _ _⟩ ?_
    repeat (first|with_reducible exact HBu.out|with_reducible exact Below.refl _ _|refine .Zs ?_ _|refine .Za ?_ _|refine .drew ?_)
  ·clear HSUM HP;go_enter Tryz.func164,Tryz.ntmps164;go_wp2_with fail;refine (HW1.out _ HBs.out).mono ?_;rintro e4 w4 ⟨rfl,hb⟩;have HB4:=Zh (HBs.Zg hb);have HX4:=Zh (HXs.later hb);have HY4:=Zh (HYs.later hb);have HZ4:=Zh (HZs.later hb);clear hb x0 x1 x2 x3 xf xz y0 y1 y2 y3 yf yz;have HB:=HB4;have HX:=HX4;have HY:=HY4;have HZ:=HZ4;go_wp2_with fail;refine Zap 17 (Zhi [.is (.pointer (some ⟨w.heap.size,0,none⟩)),.int q1.num,.is (.pointer (some ⟨w.heap.size+1,2,none⟩)),.int (q2.den:Int),.int (q1.num* (q2.den:Int)),.is (.pointer (some ⟨w.heap.size+1,0,none⟩)),.int q2.num,.is (.pointer (some ⟨w.heap.size,2,none⟩)),.int (q1.den:Int),.int (q2.num* (q1.den:Int)),.int (q1.num* (q2.den:Int)+q2.num* (q1.den:Int)),.is (.pointer (some ⟨w.heap.size,2,none⟩)),.int (q1.den:Int),.is (.pointer (some ⟨w.heap.size+1,2,none⟩)),.int (q2.den:Int),.int ((q1.den:Int) * (q2.den:Int)),.frac q]) (by kernel_rfl) (by kernel_rfl) (fun j v u u' h hb=>Kd.later h hb) ?_ ?_
   ·refine ⟨?_,?_,?_,?_,?_,?_,?_,?_,?_,?_,?_,?_,?_,?_,?_,?_,?_,trivial⟩
    all_goals
      intro vs u hu hR;simp only [Zac,Z2,Z6,Act.put,Z1,Z4,Z5]
    rotate_left;have e0:vs 0=_:=Zr hR 0;obtain ⟨x0,x1,x2,x3,xf,xz⟩:=(HX.later hu).v4;have HI:=Zh (HI11.out u (HB.Zg hu));rotate_left;rotate_left;have e0:vs 2=_:=Zr hR 2;obtain ⟨x0,x1,x2,x3,xf,xz⟩:=(HY.later hu).v4;have HI:=Zh (HI22.out u (HB.Zg hu));rotate_left;have k0:IntR u (vs 1) _:=Zr hR 1;have k1:IntR u (vs 3) _:=Zr hR 3;have HS:=Zh (Zfb u _ _ _ _ k0 k1 HWS.out.1 HWS.out.2.2.2);clear k0 k1;rotate_left;rotate_left;have e0:vs 5=_:=Zr hR 5;obtain ⟨x0,x1,x2,x3,xf,xz⟩:=(HY.later hu).v4;have HI:=Zh (HI21.out u (HB.Zg hu));rotate_left;rotate_left;have e0:vs 7=_:=Zr hR 7;obtain ⟨x0,x1,x2,x3,xf,xz⟩:=(HX.later hu).v4;have HI:=Zh (HI12.out u (HB.Zg hu));rotate_left;have k0:IntR u (vs 6) _:=Zr hR 6;have k1:IntR u (vs 8) _:=Zr hR 8;have HS:=Zh (Zfb u _ _ _ _ k0 k1 HWS.out.2.2.1 HWS.out.2.1);clear k0 k1;rotate_left;have k0:IntR u (vs 4) _:=Zr hR 4;have k1:IntR u (vs 9) _:=Zr hR 9;have HS:=Zh (Zjs u _ _ _ _ k0 k1 HWM.out.1 HWM.out.2.1);clear k0 k1;rotate_left;rotate_left;have e0:vs 11=_:=Zr hR 11;obtain ⟨x0,x1,x2,x3,xf,xz⟩:=(HX.later hu).v4;have HI:=Zh (HI12.out u (HB.Zg hu));rotate_left;rotate_left;have e0:vs 13=_:=Zr hR 13;obtain ⟨x0,x1,x2,x3,xf,xz⟩:=(HY.later hu).v4;have HI:=Zh (HI22.out u (HB.Zg hu));rotate_left;have k0:IntR u (vs 12) _:=Zr hR 12;have k1:IntR u (vs 14) _:=Zr hR 14;have HS:=Zh (Zfb u _ _ _ _ k0 k1 HWS.out.2.1 HWS.out.2.2.2);clear k0 k1;rotate_left;have k0:IntR u (vs 10) _:=Zr hR 10;have k1:IntR u (vs 15) _:=Zr hR 15;have HS:=Zh ((by have h:=Ziu u _ _ _ _ k0 k1 HWM.out.2.2.2 HWM.out.2.2.1 HPOS.out;rwa [HMK.out] at h:Calls Tryz.prog 233 #[vs 10,vs 15] u (RetF u q)));clear k0 k1;rotate_left
    all_goals
      clear hR
      try clear hu
      go_wp2_with fail
      first|exact ⟨rfl,rfl,_,_,rfl,rfl,Below.refl _ _,rfl⟩|exact ⟨rfl,rfl,_,_,rfl,rfl,Below.refl _ _,HI.out⟩|(refine HS.mono ?_;rintro e11 w11 ⟨v11,rfl,hi11,hb⟩;go_wp2_with fail;exact ⟨rfl,rfl,_,_,rfl,rfl,hb,hi11⟩)
   ·intro vs u hu hR;have k0:FrR u (vs 16) _:=hR 16 (by decide);obtain ⟨s7,a7,n7,c7,t7,b7,m7,d7,e7,k1,k2⟩:=k0;have HZu:=Zh (HZ.later hu);obtain ⟨z0,zb,zc,zd,zf,zz⟩:=HZu.v4;have HK1:=Zh k1;have HK2:=Zh k2;have HBu:=Zh (HB.Zg hu);simp only [Zac,Z3,Z7,Z2,Z6,Act.put,Z1,Z4,Z5,e7];clear hR hu k1 k2 e7;go_wp2_with fail;refine bodyPost_ret (v:= .agg #[.int .i64 s7,.slice a7 n7 c7,.int .i64 t7,.slice b7 m7 d7]) (by simp [results,Tryz.results164,go_sem, *]) rfl ?_;refine RetF.mk rfl ⟨_,_,_,_,_,_,_,_,rfl,HK1.put4 HZu.out _ _ _ _ _ _ _ _,HK2.put4 HZu.out _ _ _ _ _ _ _ _⟩ ?_
    repeat (first|with_reducible exact HBu.out|with_reducible exact Below.refl _ _|refine .Zs ?_ _|refine .Za ?_ _|refine .drew ?_)
theorem sub44 (w:World) (v1 v2:Value) (q1 q2:Rat) (h1:FrR w v1 q1) (h2:FrR w v2 q2) (w1:Wds 400000 q1.num) (w2:Wds 400000 (q1.den:Int)) (w3:Wds 400000 q2.num) (w4:Wds 400000 (q2.den:Int)):Calls Tryz.prog 113 #[v1,v2] w (RetF w (q1-q2)):=by
  have HF1:=Zh (fun (u:World) (hb:Below w.heap.size w u)=>h1.later hb);have HF2:=Zh (fun (u:World) (hb:Below w.heap.size w u)=>h2.later hb);obtain ⟨s1,a1,n1,c1,t1,b1,m1,d1,rfl,h11,h12⟩:=h1;obtain ⟨s2,a2,n2,c2,t2,b2,m2,d2,rfl,h21,h22⟩:=h2;have HB0:=Zh ((Below.refl w.heap.size w).alloc (Nat.le_refl _) (.cells #[.int .i64 s1,.slice a1 n1 c1,.int .i64 t1,.slice b1 m1 d1] 135));have HB1:=Zh (HB0.alloc HB0.size (.cells #[.int .i64 s2,.slice a2 n2 c2,.int .i64 t2,.slice b2 m2 d2] 135));have HB:=Zh (HB1.alloc HB1.size (.cells #[.int .i64 0,.slice none 0 0,.int .i64 0,.slice none 0 0] 135));have HX:=Zh (((Box.new w #[.int .i64 s1,.slice a1 n1 c1,.int .i64 t1,.slice b1 m1 d1] 135).alloc (.cells #[.int .i64 s2,.slice a2 n2 c2,.int .i64 t2,.slice b2 m2 d2] 135)).alloc (.cells #[.int .i64 0,.slice none 0 0,.int .i64 0,.slice none 0 0] 135));have HY:=Zh ((Box.newAt (w.alloc (.cells #[.int .i64 s1,.slice a1 n1 c1,.int .i64 t1,.slice b1 m1 d1] 135)) #[.int .i64 s2,.slice a2 n2 c2,.int .i64 t2,.slice b2 m2 d2] 135 (n:=w.heap.size+1) (by simp)).alloc (.cells #[.int .i64 0,.slice none 0 0,.int .i64 0,.slice none 0 0] 135));have HZ:=Zh (Box.newAt ((w.alloc (.cells #[.int .i64 s1,.slice a1 n1 c1,.int .i64 t1,.slice b1 m1 d1] 135)).alloc (.cells #[.int .i64 s2,.slice a2 n2 c2,.int .i64 t2,.slice b2 m2 d2] 135)) #[.int .i64 0,.slice none 0 0,.int .i64 0,.slice none 0 0] 135 (n:=w.heap.size+1+1) (by simp));have HAD:=Zh (show∀ (u:World) (x y:Value),FrR u x q1->FrR u y (-q2)->Calls Tryz.prog 164 #[x,y] u (RetF u (q1-q2)) from fun u x y k0 k1=>by
    have h:=Zrg u x y q1 (-q2) k0 k1 w1 w2 (by rw [Rat.neg_num];exact w3.neg) (by rw [Rat.neg_den];exact w4)
    rwa [<-Rat.sub_eq_add_neg] at h)
  obtain ⟨q,hqq⟩: ∃q,q1-q2=q:=⟨_,rfl⟩;rw [hqq] at HAD ⊢;clear hqq w1 w2 w3 w4 h11 h12 h21 h22 HB0 HB1;go_enter Tryz.func113,Tryz.ntmps113;go_wp2_with fail;refine Zap 4 (Zhi [.frac q1,.frac q2,.frac (-q2),.frac q]) (by kernel_rfl) (by kernel_rfl) (fun j v u u' h hb=>Kd.later h hb) ?_ ?_
  ·refine ⟨?_,?_,?_,?_,trivial⟩
   all_goals
     intro vs u hu hR;simp only [Zac,Z2,Z6,Act.put,Z1,Z4,Z5]
   obtain ⟨x0,x1,x2,x3,xf,xz⟩:=(HX.later hu).v4;have HI:=Zh (HF1.out u (HB.Zg hu));rotate_left;obtain ⟨x0,x1,x2,x3,xf,xz⟩:=(HY.later hu).v4;have HI:=Zh (HF2.out u (HB.Zg hu));rotate_left;have k0:FrR u (vs 1) _:=Zr hR 1;have HS:=Zh (Zrf u _ _ k0);clear k0;rotate_left;have k0:FrR u (vs 0) _:=Zr hR 0;have k1:FrR u (vs 2) _:=Zr hR 2;have HS:=Zh (HAD.out u _ _ k0 k1);clear k0 k1;rotate_left
   all_goals
     clear hR
     try clear hu
     go_wp2_with fail
     first|exact ⟨rfl,rfl,_,_,rfl,rfl,Below.refl _ _,HI.out⟩|(refine HS.mono ?_;rintro e11 w11 ⟨v11,rfl,hi11,hb⟩;go_wp2_with fail;exact ⟨rfl,rfl,_,_,rfl,rfl,hb,hi11⟩)
  ·intro vs u hu hR;have k0:FrR u (vs 3) _:=hR 3 (by decide);obtain ⟨s7,a7,n7,c7,t7,b7,m7,d7,e7,k1,k2⟩:=k0;have HZu:=Zh (HZ.later hu);obtain ⟨z0,zb,zc,zd,zf,zz⟩:=HZu.v4;have HK1:=Zh k1;have HK2:=Zh k2;have HBu:=Zh (HB.Zg hu);simp only [Zac,Z3,Z7,Z2,Z6,Act.put,Z1,Z4,Z5,e7];clear hR hu k1 k2 e7;go_wp2_with fail;refine bodyPost_ret (v:= .agg #[.int .i64 s7,.slice a7 n7 c7,.int .i64 t7,.slice b7 m7 d7]) (by simp [results,Tryz.results113,go_sem, *]) rfl ?_;refine RetF.mk rfl ⟨_,_,_,_,_,_,_,_,rfl,HK1.put4 HZu.out _ _ _ _ _ _ _ _,HK2.put4 HZu.out _ _ _ _ _ _ _ _⟩ ?_
   repeat (first|with_reducible exact HBu.out|with_reducible exact Below.refl _ _|refine .Zs ?_ _|refine .Za ?_ _|refine .drew ?_)
def rcmp (a b:Rat):Int:=if a<b then -1 else if b<a then 1 else 0
theorem Zkz (a b:Rat):icmp (a.num* (b.den:Int)) (b.num* (a.den:Int))=rcmp a b:=by
  unfold icmp rcmp;simp only [Rat.lt_iff]
theorem cmp54 (w:World) (v1 v2:Value) (q1 q2:Rat) (h1:FrR w v1 q1) (h2:FrR w v2 q2) (w1:Wds 400000 q1.num) (w2:Wds 400000 (q1.den:Int)) (w3:Wds 400000 q2.num) (w4:Wds 400000 (q2.den:Int)):Calls Tryz.prog 196 #[v1,v2] w (Ret (.int .i64 (rcmp q1 q2)) w):=by
  rw [<-Zkz];obtain ⟨s1,a1,n1,c1,t1,b1,m1,d1,rfl,h11,h12⟩:=h1;obtain ⟨s2,a2,n2,c2,t2,b2,m2,d2,rfl,h21,h22⟩:=h2;have HI11:=Zh (fun (u:World) (hb:Below w.heap.size w u)=>h11.later hb);have HI12:=Zh (fun (u:World) (hb:Below w.heap.size w u)=>h12.later hb);have HI21:=Zh (fun (u:World) (hb:Below w.heap.size w u)=>h21.later hb);have HI22:=Zh (fun (u:World) (hb:Below w.heap.size w u)=>h22.later hb);have HB0:=Zh ((Below.refl w.heap.size w).alloc (Nat.le_refl _) (.cells #[.int .i64 s1,.slice a1 n1 c1,.int .i64 t1,.slice b1 m1 d1] 135));have HB:=Zh (HB0.alloc HB0.size (.cells #[.int .i64 s2,.slice a2 n2 c2,.int .i64 t2,.slice b2 m2 d2] 135));have HX:=Zh ((Box.new w #[.int .i64 s1,.slice a1 n1 c1,.int .i64 t1,.slice b1 m1 d1] 135).alloc (.cells #[.int .i64 s2,.slice a2 n2 c2,.int .i64 t2,.slice b2 m2 d2] 135));have HY:=Zh (Box.newAt (w.alloc (.cells #[.int .i64 s1,.slice a1 n1 c1,.int .i64 t1,.slice b1 m1 d1] 135)) #[.int .i64 s2,.slice a2 n2 c2,.int .i64 t2,.slice b2 m2 d2] 135 (n:=w.heap.size+1) (by simp));have HWS:=Zh (And.intro (w1.mono (show 400000<=1000000 by decide)) (And.intro (w2.mono (show 400000<=1000000 by decide)) (And.intro (w3.mono (show 400000<=1000000 by decide)) (w4.mono (show 400000<=1000000 by decide)))));have HWM:=Zh (And.intro ((w1.mul w4).mono (show 400000+400000<=1000000 by decide)) ((w3.mul w2).mono (show 400000+400000<=1000000 by decide)));obtain ⟨ic,hic⟩: ∃x,icmp (q1.num* (q2.den:Int)) (q2.num* (q1.den:Int))=x:=⟨_,rfl⟩;have HIC:=Zh hic;rw [hic];clear hic w1 w2 w3 w4 h11 h12 h21 h22 HB0;go_enter Tryz.func196,Tryz.ntmps196;go_wp2_with fail;refine Zap 11 (Zhi [.is (.pointer (some ⟨w.heap.size,0,none⟩)),.int q1.num,.is (.pointer (some ⟨w.heap.size+1,2,none⟩)),.int (q2.den:Int),.int (q1.num* (q2.den:Int)),.is (.pointer (some ⟨w.heap.size+1,0,none⟩)),.int q2.num,.is (.pointer (some ⟨w.heap.size,2,none⟩)),.int (q1.den:Int),.int (q2.num* (q1.den:Int)),.is (.int .i64 ic)]) (by kernel_rfl) (by kernel_rfl) (fun j v u u' h hb=>Kd.later h hb) ?_ ?_
  ·refine ⟨?_,?_,?_,?_,?_,?_,?_,?_,?_,?_,?_,trivial⟩
   all_goals
     intro vs u hu hR;simp only [Zac,Z2,Z6,Act.put,Z1,Z4,Z5]
   rotate_left;have e0:vs 0=_:=Zr hR 0;obtain ⟨x0,x1,x2,x3,xf,xz⟩:=(HX.later hu).v4;have HI:=Zh (HI11.out u (HB.Zg hu));rotate_left;rotate_left;have e0:vs 2=_:=Zr hR 2;obtain ⟨x0,x1,x2,x3,xf,xz⟩:=(HY.later hu).v4;have HI:=Zh (HI22.out u (HB.Zg hu));rotate_left;have k0:IntR u (vs 1) _:=Zr hR 1;have k1:IntR u (vs 3) _:=Zr hR 3;have HS:=Zh (Zfb u _ _ _ _ k0 k1 HWS.out.1 HWS.out.2.2.2);clear k0 k1;rotate_left;rotate_left;have e0:vs 5=_:=Zr hR 5;obtain ⟨x0,x1,x2,x3,xf,xz⟩:=(HY.later hu).v4;have HI:=Zh (HI21.out u (HB.Zg hu));rotate_left;rotate_left;have e0:vs 7=_:=Zr hR 7;obtain ⟨x0,x1,x2,x3,xf,xz⟩:=(HX.later hu).v4;have HI:=Zh (HI12.out u (HB.Zg hu));rotate_left;have k0:IntR u (vs 6) _:=Zr hR 6;have k1:IntR u (vs 8) _:=Zr hR 8;have HS:=Zh (Zfb u _ _ _ _ k0 k1 HWS.out.2.2.1 HWS.out.2.1);clear k0 k1;rotate_left;have k0:IntR u (vs 4) _:=Zr hR 4;have k1:IntR u (vs 9) _:=Zr hR 9;have HS:=Zh ((by have h:=cmp83 u _ _ _ _ k0 k1 HWM.out.1 HWM.out.2;rwa [HIC.out] at h:Calls Tryz.prog 262 #[vs 4,vs 9] u (Ret (.int .i64 ic) u)));clear k0 k1;rotate_left
   all_goals
     clear hR
     try clear hu
     go_wp2_with fail
     first|exact ⟨rfl,rfl,_,_,rfl,rfl,Below.refl _ _,rfl⟩|exact ⟨rfl,rfl,_,_,rfl,rfl,Below.refl _ _,HI.out⟩|(refine HS.mono ?_;rintro e11 w11 ⟨v11,rfl,hi11,hb⟩;go_wp2_with fail;exact ⟨rfl,rfl,_,_,rfl,rfl,hb,hi11⟩)|(refine HS.mono ?_;rintro e11 w11 ⟨rfl,hb⟩;go_wp2_with fail;exact ⟨rfl,rfl,_,_,rfl,rfl,hb,rfl⟩)
  ·intro vs u hu hR;have e7:vs 10=_:=hR 10 (by decide);have HBu:=Zh (HB.Zg hu);simp only [Zac,Z3,Z7,Z2,Z6,Act.put,Z1,Z4,Z5,e7];clear hR hu e7;go_wp2_with fail;go_ret;exact ⟨rfl,HBu.out⟩
def Cln (w:World) (g:Nat):Prop:=∀o u,w.cell? ⟨g,o,none⟩=some u->∀y:Int,u≠ .int .u64 y
theorem Sc.grown {w w':World} {B:Nat} {v:Value} {l:List Nat} {row:Option Nat} (h:Sc encW 1 w B v l) (hg:w.grownBy w' row) (hc: ∀g,row=some g->Cln w g):Sc encW 1 w' B v l:=by
  obtain ⟨a,c,rfl,h1,h2,h⟩:=h;refine ⟨a,c,rfl,h1,h2,fun h0=> ?_⟩;obtain ⟨b,off,rfl,hb,hcells⟩:=h h0;refine ⟨b,off,rfl,hb,fun i hi j u hu=> ?_⟩;have h3:=hcells i hi j u hu;refine hg.cell h3 (fun e=> ?_);have h4:=hc b e.symm _ _ h3
  rcases j with _|j
  ·simp [encW] at hu;exact h4 _ hu.symm
  ·simp [encW] at hu
theorem IntR.grown {w w':World} {v:Value} {z:Int} {row:Option Nat} (h:IntR w v z) (hg:w.grownBy w' row) (hc: ∀g,row=some g->Cln w g):IntR w' v z:=by
  rcases h with h|⟨s,b,off,n,c,l,h1,h2,h3⟩
  ·exact .inl h
  ·exact .inr ⟨s,b,off,n,c,l,h1,(h2.grown hg hc).mono hg.size,h3⟩
theorem FrR.grown {w w':World} {v:Value} {q:Rat} {row:Option Nat} (h:FrR w v q) (hg:w.grownBy w' row) (hc: ∀g,row=some g->Cln w g):FrR w' v q:=by
  obtain ⟨s1,a1,n1,c1,s2,a2,n2,c2,e,h1,h2⟩:=h;exact ⟨s1,a1,n1,c1,s2,a2,n2,c2,e,h1.grown hg hc,h2.grown hg hc⟩
structure F4 where
  s:Int
  a:Option Addr
  n:Nat
  c:Nat
  t:Int
  b:Option Addr
  m:Nat
  d:Nat
def F4.enc (x:F4):List Value:=[.int .i64 x.s,.slice x.a x.n x.c,.int .i64 x.t,.slice x.b x.m x.d]
theorem F4.enc_len (x:F4):x.enc.length=4:=rfl
abbrev F4.v (x:F4):Value:= .agg #[.int .i64 x.s,.slice x.a x.n x.c,.int .i64 x.t,.slice x.b x.m x.d]
theorem F4.enc_one (x:F4): ∀u∈x.enc,u.oneCell'=true:=by intro u hu;simp [F4.enc] at hu;rcases hu with rfl|rfl|rfl|rfl <;> rfl
theorem F4.enc_no (x:F4): ∀u∈x.enc,∀y:Int,u≠ .int .u64 y:=by intro u hu y;simp [F4.enc] at hu;rcases hu with rfl|rfl|rfl|rfl <;> simp
theorem FrR.f4 {w:World} {v:Value} {q:Rat} (h:FrR w v q): ∃x:F4,v=x.v/\FrR w x.v q:=by
  have h':=h;obtain ⟨s1,a1,n1,c1,s2,a2,n2,c2,rfl,_,_⟩:=h;exact ⟨⟨s1,a1,n1,c1,s2,a2,n2,c2⟩,rfl,h'⟩
def SlF (w:World) (v:Value) (qs:List Rat):Prop:=∃l:List F4,Sc F4.enc 4 w w.heap.size v l/\l.length=qs.length/\∀i (h:i<l.length) (h':i<qs.length),FrR w l[i].v qs[i]
theorem SlF.later {w w':World} {v:Value} {qs:List Rat} (h:SlF w v qs) (hb:Below w.heap.size w w'):SlF w' v qs:=by
  obtain ⟨l,h1,h2,h3⟩:=h;exact ⟨l,h1.later hb,h2,fun i hi hi'=>(h3 i hi hi').later hb⟩
theorem SlF.shape {w:World} {v:Value} {qs:List Rat} (h:SlF w v qs): ∃a c,v= .slice a qs.length c/\qs.length<=c:=by
  obtain ⟨l,h1,h2,h3⟩:=h;obtain ⟨a,c,e,_,h4⟩:=h1.shape;rw [h2] at e h4;exact ⟨a,c,e,h4⟩
theorem SlF.take {w:World} {a:Option Addr} {n c:Nat} {qs:List Rat} (h:SlF w (.slice a n c) qs) (k:Nat) (hk:k<=qs.length):SlF w (.slice a k c) (qs.take k):=by
  obtain ⟨l,h1,h2,h3⟩:=h;refine ⟨l.take k,h1.take k (by omega),by simp [h2],fun i hi hi'=> ?_⟩;rw [List.getElem_take,List.getElem_take];exact h3 i _ _
theorem SlF.at {w:World} {a:Option Addr} {n c:Nat} {qs:List Rat} (h:SlF w (.slice a n c) qs) (i:Nat) (hi:i<qs.length): ∃ (b off:Nat) (x:F4),a=some ⟨b,off,none⟩/\b<w.heap.size/\At w b (off+i* 4) x.enc/\FrR w x.v qs[i]:=by
  obtain ⟨l,h1,h2,h3⟩:=h;obtain ⟨a',c',e,h4,h5,hA⟩:=h1;injection e with e1 e2 e3
  subst e1;obtain ⟨b,off,rfl,hb,hc⟩:=hA (by omega);exact ⟨b,off,l[i]'(by omega),rfl,hb,hc i (by omega),h3 i _ _⟩
def OwnF (w:World) (base:Nat) (v:Value) (qs:List Rat):Prop:=∃l:List F4,Own F4.enc 4 135 w base v l/\(∀g,v.ownBlock=some g->Cln w g)/\l.length=qs.length/\∀i (h:i<l.length) (h':i<qs.length),FrR w l[i].v qs[i]
theorem OwnF.nil (w:World) (base:Nat):OwnF w base (.slice none 0 0) []:=⟨[],Own.nil _ _ _ _ _,fun g h=>by simp [Value.ownBlock] at h,rfl,fun i h=>by simp at h⟩
theorem OwnF.grown {w w':World} {base:Nat} {v:Value} {qs:List Rat} {row:Option Nat} (h:OwnF w base v qs) (hg:w.grownBy w' row) (hne:v.ownBlock=none∨v.ownBlock≠row) (hc: ∀g,row=some g->Cln w g):OwnF w' base v qs:=by
  obtain ⟨l,h1,h2,h3,h4⟩:=h;refine ⟨l,h1.kept hg hne,fun g hv o u hu=> ?_,h3,fun i hi hi'=>(h4 i hi hi').grown hg hc⟩;have hlt:=(World.ownsRow.lt h1 g hv).2;rw [World.cell?_of_block (a:=⟨g,o,none⟩) (hg.block g hlt (fun e=>hne.elim (fun h5=>by rw [hv] at h5;cases h5) (fun h5=>h5 (hv.trans e))))] at hu;exact h2 g hv o u hu
theorem OwnF.later {w w':World} {base:Nat} {v:Value} {qs:List Rat} (h:OwnF w base v qs) (hb:Below w.heap.size w w'):OwnF w' base v qs:=by
  refine h.grown (row:=none) ⟨hb.os,hb.tape,hb.output,hb.size,fun k hk _=>hb.block k hk⟩ ?_ (fun g h=>by cases h);cases v.ownBlock <;> simp
theorem OwnF.toSlF {w:World} {base:Nat} {v:Value} {qs:List Rat} (h:OwnF w base v qs) (hl:qs.length<=1000000000):SlF w v qs:=by
  obtain ⟨l,h1,h2,h3,h4⟩:=h;exact ⟨l,Sc.of_own F4.enc_len (by omega) h1,h3,h4⟩
theorem OwnF.lt {w:World} {base:Nat} {v:Value} {qs:List Rat} (h:OwnF w base v qs): ∀k,v.ownBlock=some k->base<=k/\k<w.heap.size:=by
  obtain ⟨l,h1,_⟩:=h;exact World.ownsRow.lt h1
theorem OwnF.shape {w:World} {base:Nat} {v:Value} {qs:List Rat} (h:OwnF w base v qs): ∃a c,v= .slice a qs.length c:=by
  obtain ⟨l,h1,_,h3,_⟩:=h;obtain ⟨a,c,e⟩:=h1.shape;exact ⟨a,c,by rw [<-h3];exact e⟩
theorem OwnF.cln {w:World} {base:Nat} {v:Value} {qs:List Rat} (h:OwnF w base v qs): ∀g,v.ownBlock=some g->Cln w g:=by
  obtain ⟨l,_,h2,_⟩:=h;exact h2
theorem Zau {w:World} {g:Nat} {e:TypeId} {vs:List Value} (h:Box w g e vs) (hv: ∀u∈vs,∀y:Int,u≠ .int .u64 y):Cln w g:=fun o u hu=>by
  rw [h.cell o] at hu;exact hv u (List.mem_of_getElem? hu)
theorem Zgf {z:Array Value} {n:Nat} {u:Value} (hz:0<z.size) (h:u∈ (Builtin.zeroCells z n).toList):u∈z.toList:=by
  simp only [Builtin.zeroCells,Array.toList_map,List.mem_map] at h;obtain ⟨i,_,rfl⟩:=h;have hm:=Nat.mod_lt i hz;rw [getElem!_pos z _ hm];exact Array.getElem_mem_toList hm
theorem Zc4 {P:Program} (w:World) (base:Nat) (t ty e:TypeId) (i:TypeInfo) (z:Value) (size bytes:Nat) (ht:P.underlying t=some (.slice e)) (hi:P.info? e=some i) (hz:i.zero=some z)
    (hsize:i.size=size) (hby:i.bytes=bytes) (hzs:z.cells.size=size) (hsz:0<size)
    (v:Value) (n:Nat) (xs:List Value) (hown:w.ownsRow base e size v n xs) (hcl: ∀g,v.ownBlock=some g->Cln w g)
    (a:Addr) (m c:Nat) (news:List Value) (hl:news.length=m* size) (hnews: ∀j u,news[j]?=some u->w.cell? (a.add j)=some u) (h1: ∀u∈news,u.oneCell'=true) (hm:0<m)
    (hno: ∀u∈news,∀y:Int,u≠ .int .u64 y) (hnz: ∀u∈z.cells.toList,∀y:Int,u≠ .int .u64 y)
    (h63:n+m<=maxLen) (hbytes:(n+m) * bytes<=140737488355328) (hbase:base<=w.heap.size):
    ∃v' w',(Builtin.append_ #[t,t] ty #[v,.slice (some a) m c]).run P w= .ok v' w'/\w'.ownsRow base e size v' (n+m) (xs++news)/\w.grownBy w' v.ownBlock/\(∀g,v'.ownBlock=some g->Cln w' g):=by
 obtain ⟨v',w',hr,h2,h3,_⟩:=run_append_own (P:=P) w base t ty e i z size bytes ht hi hz hsize hby hzs hsz v n xs hown a m c news hl hnews h1 h63 hbytes hbase;refine ⟨v',w',hr,h2,h3,?_⟩;subst hsize;subst hby
 have hsmall:n+m<=9223372036854775807:=by simp only [maxLen] at h63;omega
 have hzz: ∀k,∀u∈ (Builtin.zeroCells z.cells k).toList,∀y:Int,u≠ .int .u64 y:=fun k u hu=>hnz u (Zgf (by omega) hu);have fin: ∀ (w0:World) (cs:Array Value),(∀u∈cs.toList,∀y:Int,u≠ .int .u64 y)->∀n' cap,∀g,(Value.slice (some ⟨w0.heap.size,0,none⟩) n' cap).ownBlock=some g->Cln (w0.alloc (.cells cs e)) g:=fun w0 cs hcs n' cap g hg o u hu=>by
   simp [Value.ownBlock] at hg;subst hg;rw [cell_of_row _ w0.heap.size o cs e (0,0) (heap_alloc_new w0 _)] at hu;refine hcs u ?_;have:=List.mem_of_getElem? (l:=cs.toList) (i:=o) (a:=u) (by simpa using hu);exact this
 rcases hown.2 with ⟨rfl,rfl⟩|⟨g,cap,cur,rfl,hbg,hg,hnc,hcm,hcs,htake⟩
 ·have hr2:=run_append_nil (P:=P) w t ty e i z ht hi hz a m c news hl hnews (by omega) (by omega) (by have hb:=hbytes;simp only [Nat.zero_add] at hb;omega);rw [hr] at hr2;injection hr2 with e1 e2
  subst e1 e2;refine fin w.drew _ (fun u hu=> ?_) _ _;simp only [Array.toList_append,List.mem_append] at hu
  rcases hu with hu|hu
  ·exact hno u (by simpa using hu)
  ·exact hzz _ u hu
 ·by_cases hroom:n+m<=cap
  ·have hfit:n* i.size+news.length<=cur.size:=by rw [hl,hcs,<-Nat.add_mul];exact Nat.mul_le_mul_right _ hroom
   have hr2:=run_append_room (P:=P) w t ty e i ht hi g n cap cur hg a m c news hl hnews h1 hroom hfit;rw [hr] at hr2;injection hr2 with e1 e2
   subst e1 e2;intro g' hg' o u hu;simp [Value.ownBlock] at hg';subst hg';rw [cell_setRow_same w g o cur _ e (0,0) hg] at hu;have hcur: ∀u∈cur.toList,∀y:Int,u≠ .int .u64 y:=fun u hu=>by
     obtain ⟨o',ho'⟩:=List.mem_iff_getElem?.1 hu;refine hcl g (by simp [Value.ownBlock]) o' u ?_;rw [cell_of_row w g o' cur e (0,0) hg];simpa using ho'
   have hmem:u∈cur.toList.take (n* i.size)++news++cur.toList.drop (n* i.size+news.length):=List.mem_of_getElem? (by simpa using hu);simp only [List.mem_append] at hmem
   rcases hmem with (hu|hu)|hu
   ·exact hcur u (List.mem_of_mem_take hu)
   ·exact hno u hu
   ·exact hcur u (List.mem_of_mem_drop hu)
  ·have holds: ∀j u,xs[j]?=some u->w.cell? ((⟨g,0,none⟩:Addr).add j)=some u:=hown.cells (g:=g) rfl;have hr2:=run_append_grow (P:=P) w t ty e i z ht hi hz ⟨g,0,none⟩ n cap xs hown.1 holds a m c news hl hnews (by omega) (by omega) (growslice_fits (by omega) hbytes);rw [hr] at hr2;injection hr2 with e1 e2
   subst e1 e2;refine fin w.drew _ (fun u hu=> ?_) _ _;simp only [Array.toList_append,List.mem_append] at hu
   rcases hu with (hu|hu)|hu
   ·obtain ⟨o',ho'⟩:=List.mem_iff_getElem?.1 (show u∈xs by simpa using hu);exact hcl g (by simp [Value.ownBlock]) (0+o') u (by have:=holds o' u ho';rwa [Addr.add_lit] at this)
   ·exact hno u (by simpa using hu)
   ·exact hzz _ u hu
theorem Znd {P:Program} (t:TypeId) (z:Value) (bytes:Nat) (hT:P.underlying t=some (.slice 135)) (hI:(P.info? 135).map (fun i=>(i.zero,i.size,i.bytes))=some (some z,4,bytes))
    (hzs:z.cells.size=4) (hby:bytes<=1000) (hnz: ∀u∈z.cells.toList,∀y:Int,u≠ .int .u64 y)
    (qs:List Rat) (q:Rat) (x:F4) (base:Nat) (w:World) (g:Nat) (cs:Array Value) (e':TypeId) (hg:w.heap[g]?=some (.cells cs e' (0,0))) (hcs:cs.toList=x.enc) (hx:FrR w x.v q)
    (v:Value) (hown:OwnF w base v qs) (hbase:base<=w.heap.size) (hlen:qs.length<=1000000)
    {o:Oper} {a:Act} {K:Act->World->Prop} {Q:Exit->Act->World->Prop} (s y:Operand)
    (ho:o.op= .call { callee:= .builtin .append,args:= #[s,y],argTypes:= #[t,t] }) (hs:a.eval s=v) (hy:a.eval y= .slice (some ⟨g,0,none⟩) 1 1)
    (h: ∀v' w',OwnF w' base v' (qs++ [q])->w.grownBy w' v.ownBlock->K (a.put o.dst v') w'):o.wp P a w K Q:=by
 obtain ⟨i,hi,hz0,hz1,hz2⟩:=info_parts hI;obtain ⟨l,hw1,hw2,hw3,hw4⟩:=hown;have hmul:(l.length+1) * bytes<=1000001* 1000:=Nat.mul_le_mul (by omega) hby
 obtain ⟨v',w',hr,h2,h3,h4⟩:=Zc4 (P:=P) w base t o.type 135 i z 4 bytes hT hi hz0 hz1 hz2 hzs (by decide) v l.length (l.flatMap F4.enc) hw1 hw2 ⟨g,0,none⟩ 1 1 x.enc (by rfl) (fun j u hu=>by
   rw [Addr.add_lit,Nat.zero_add,cell_of_row _ g j cs e' (0,0) hg];rw [<-hcs] at hu;simpa using hu) (F4.enc_one x) (by decide) (F4.enc_no x) hnz (by simp [maxLen];omega) (by omega) hbase
 unfold Oper.wp execOp;simp only [ho,resolve,invoke,builtin,Sem.run_bind,Sem.run_pure,Result.andThen_ok,List.map_toArray,List.map_cons,List.map_nil,hs,hy,hr];refine h v' w' ⟨l++ [x],?_,h4,by simp [hw3],fun i hi hi'=> ?_⟩ h3
 ·unfold Own;rw [List.length_append,List.length_singleton,List.flatMap_append,List.flatMap_singleton];exact h2
 ·rcases Nat.lt_or_ge i l.length with h5|h5
  ·rw [List.getElem_append_left h5,List.getElem_append_left (by omega)];exact (hw4 i h5 (by omega)).grown h3 hw2
  ·have e1:i=l.length:=by simp at hi;omega
   subst e1;rw [List.getElem_append_right (Nat.le_refl _),List.getElem_append_right (by omega)];simp only [Nat.sub_self,List.getElem_singleton];exact hx.grown h3 hw2
theorem Zc5 {P:Program} (t:TypeId) (z:Value) (bytes:Nat) (hT:P.underlying t=some (.slice 135)) (hI:(P.info? 135).map (fun i=>(i.zero,i.size,i.bytes))=some (some z,4,bytes))
    (hzs:z.cells.size=4) (hby:bytes<=1000) (hnz: ∀u∈z.cells.toList,∀y:Int,u≠ .int .u64 y)
    (qs:List Rat) (q:Rat) (x:F4) (base:Nat) (w:World) (g:Nat) (cs:Array Value) (e':TypeId) (hg:w.heap[g]?=some (.cells cs e' (0,0))) (hcs:cs.toList=x.enc) (hx:FrR w x.v q)
    (v:Value) (hown:OwnF w base v qs) (hbase:base<=w.heap.size) (hlen:qs.length<=1000000)
    {ops:Array Oper} {rest:List Oper} {o:Oper} {a:Act} {Q:Exit->Act->World->Prop} (hgd:o.guard=none) (s y:Operand)
    (ho:o.op= .call { callee:= .builtin .append,args:= #[s,y],argTypes:= #[t,t] }) (hs:a.eval s=v) (hy:a.eval y= .slice (some ⟨g,0,none⟩) 1 1)
    (h: ∀v' w',OwnF w' base v' (qs++ [q])->w.grownBy w' v.ownBlock->wpList P ops Q rest (a.put o.dst v') w'):wpList P ops Q (o::rest) a w:=
 wpList_plain hgd fun _ hK=>Znd t z bytes hT hI hzs hby hnz qs q x base w g cs e' hg hcs hx v hown hbase hlen s y ho hs hy fun v' w' h1 h2=>hK _ _ (h v' w' h1 h2)
theorem OwnF.set {w:World} {base g n cap:Nat} {qs:List Rat} (h:OwnF w base (.slice (some ⟨g,0,none⟩) n cap) qs) (hn:n=qs.length) (i:Nat) (hi:i<qs.length) (x:F4) (q:Rat) (hx:FrR w x.v q):
    OwnF ((((w.setCell ⟨g,i* 4+0,none⟩ (.int .i64 x.s)).setCell ⟨g,i* 4+1,none⟩ (.slice x.a x.n x.c)).setCell ⟨g,i* 4+2,none⟩ (.int .i64 x.t)).setCell ⟨g,i* 4+3,none⟩ (.slice x.b x.m x.d)) base (.slice (some ⟨g,0,none⟩) n cap) (qs.set i q):=by
 obtain ⟨l,h1,h2,h3,h4⟩:=h;have hil:i<l.length:=by omega
 have hnl:l.length=n:=by omega
 have hg0:g<w.heap.size:=(World.ownsRow.lt h1 g (by simp [Value.ownBlock])).2;have step: ∀ (w1:World) (l1:List F4) (j:Nat) (u:Value) (y:F4),Own F4.enc 4 135 w1 base (.slice (some ⟨g,0,none⟩) n cap) l1->l1.length=n->Cln w1 g->(hi1:i<l1.length)->j<4->(∀y:Int,u≠ .int .u64 y)->y.enc=(l1[i]).enc.set j u->
  Own F4.enc 4 135 (w1.setCell ⟨g,i* 4+j,none⟩ u) base (.slice (some ⟨g,0,none⟩) n cap) (l1.set i y)/\(l1.set i y).length=n/\Cln (w1.setCell ⟨g,i* 4+j,none⟩ u) g/\w1.grownBy (w1.setCell ⟨g,i* 4+j,none⟩ u) (some g):=by
  intro w1 l1 j u y ho hl1 hcl hi1 hj hu hy;have hb: ∃cur,w1.heap[g]?=some (.cells cur 135 (0,0)):=by
    rcases ho.2 with ⟨e,_⟩|⟨g',cap',cur,e,_,hh,_⟩
    ·cases e
    ·injection e with e _ _
     injection e with e
     injection e with e
     subst e;exact ⟨cur,hh⟩
  obtain ⟨cur,hcur⟩:=hb;have hsame:=heap_setCell_same w1 g (i* 4+j) cur 135 u hcur;refine ⟨Own.setN ho hl1 F4.enc_len i hi1 j hj u y hy,by rw [List.length_set];exact hl1,fun o u' hu'=> ?_,⟨rfl,rfl,rfl,by simp,fun k hk hne=>heap_setCell_other w1 ⟨g,i* 4+j,none⟩ k u (fun e=>hne (by rw [e]))⟩⟩;rw [cell_of_row _ g o _ 135 (0,0) hsame] at hu';have hm:=List.mem_of_getElem? (l:=(cur.setIfInBounds (i* 4+j) u).toList) (i:=o) (a:=u') (by rw [Array.getElem?_toList];exact hu');rw [Array.toList_setIfInBounds] at hm
  rcases List.mem_or_eq_of_mem_set hm with h5|h5
  ·obtain ⟨o',ho'⟩:=List.mem_iff_getElem?.1 h5;refine hcl o' u' ?_;rw [cell_of_row w1 g o' cur 135 (0,0) hcur];simpa using ho'
  ·rw [h5];exact hu
 have c0:=h2 g (by simp [Value.ownBlock]);obtain ⟨k1,k2,k3,k4⟩:=step w l 0 (.int .i64 x.s) ⟨x.s,l[i].a,l[i].n,l[i].c,l[i].t,l[i].b,l[i].m,l[i].d⟩ h1 hnl c0 hil (by decide) (fun y=>by simp) rfl;obtain ⟨m1,m2,m3,m4⟩:=step _ _ 1 (.slice x.a x.n x.c) ⟨x.s,x.a,x.n,x.c,l[i].t,l[i].b,l[i].m,l[i].d⟩ k1 k2 k3 (by rw [k2];omega) (by decide) (fun y=>by simp) (by simp [F4.enc]);obtain ⟨n1,n2,n3,n4⟩:=step _ _ 2 (.int .i64 x.t) ⟨x.s,x.a,x.n,x.c,x.t,l[i].b,l[i].m,l[i].d⟩ m1 m2 m3 (by rw [m2];omega) (by decide) (fun y=>by simp) (by simp [F4.enc]);obtain ⟨o1,o2,o3,o4⟩:=step _ _ 3 (.slice x.b x.m x.d) x n1 n2 n3 (by rw [n2];omega) (by decide) (fun y=>by simp) (by simp [F4.enc]);have keep: ∀ (v:Value) (q:Rat),FrR w v q->FrR _ v q:=fun v q h=>(((h.grown k4 (fun g' e=>by cases e;exact c0)).grown m4 (fun g' e=>by cases e;exact k3)).grown n4 (fun g' e=>by cases e;exact m3)).grown o4 (fun g' e=>by cases e;exact n3);refine ⟨_,o1,fun g' e=>by simp [Value.ownBlock] at e;subst e;exact o3,by rw [o2,List.length_set];omega,fun k hk hk'=> ?_⟩;simp only [List.set_set] at hk ⊢
 by_cases e:k=i
 ·subst e;rw [List.getElem_set_self,List.getElem_set_self];exact keep _ _ hx
 ·rw [List.getElem_set_ne (by omega),List.getElem_set_ne (by omega)];exact keep _ _ (h4 k _ _)
end Go.Proofs.YtijajkfmlghgkaaGreatDoor.Nu
namespace Go.Proofs.YtijajkfmlghgkaaGreatDoor
open Go.Lib
def Zcb (c:UInt8):Prop:=48<=c.toNat/\c.toNat<=57
instance (c:UInt8):Decidable (Zcb c):=by unfold Zcb;infer_instance
theorem Ziv {α:Type} {a b:List α} (h:a≠ []):(a++b).head?=a.head?:=by cases a with|nil=>exact absurd rfl h|cons x a=>rfl
theorem dgc {d:Nat} (h:d<10):(UInt8.ofNat (48+d)).toNat=48+d:=by
  rw [UInt8.toNat_ofNat'];omega
theorem Zb9 {n:Nat} (h:n<10):decDigits n=[UInt8.ofNat (48+n)]:=by rw [decDigits,dif_pos h]
theorem Zdr {n:Nat} (h: ¬n<10):decDigits n=decDigits (n / 10)++ [UInt8.ofNat (48+n % 10)]:=by rw [decDigits,dif_neg h]
theorem Zfh (n:Nat):decDigits n≠ []:=by
  by_cases h:n<10
  ·rw [Zb9 h];simp
  ·rw [Zdr h];simp
def padL:Nat->Nat->List UInt8
  | 0,_=> []
  | k+1,n=>padL k (n / 10)++ [UInt8.ofNat (48+n % 10)]
theorem Zgg (k n:Nat):(padL k n).length=k:=by
  induction k generalizing n with
  | zero=>rfl
  | succ k ih=>simp [padL,ih]
theorem Zk0: ∀ (k a b:Nat),0<a->b<10^k->decDigits (a* 10^k+b)=decDigits a++padL k b:=by
  intro k
  induction k with
  | zero=>intro a b ha hb;simp at hb;subst hb;simp [padL]
  | succ k ih=>
    intro a b ha hb;rw [Nat.pow_succ] at hb;have hp:1<=10^k:=Nat.one_le_pow _ _ (by decide);have e1:a* 10^ (k+1)=10* (a* 10^k):=by rw [Nat.pow_succ,<-Nat.mul_assoc,Nat.mul_comm]
    have h1:1* 1<=a* 10^k:=Nat.mul_le_mul ha hp;rw [Zdr (by omega),e1,show (10* (a* 10^k)+b) / 10=a* 10^k+b / 10 by omega,ih a (b / 10) ha (by omega),show (10* (a* 10^k)+b) % 10=b % 10 by omega,padL,List.append_assoc]
theorem Ziw: ∀ (k n:Nat),n<10^k->0<k->padL k n=List.replicate (k-(decDigits n).length) 48++decDigits n:=by
  intro k
  induction k with
  | zero=>intro n _ h;omega
  | succ k ih=>
    intro n hn _;rw [Nat.pow_succ] at hn
    by_cases h:n<10
    ·rw [Zb9 h,padL,show n / 10=0 by omega,show n % 10=n by omega];simp only [List.length_singleton,Nat.add_sub_cancel]
     congr 1
     clear ih hn h
     induction k with
     | zero=>rfl
     | succ k ih=>rw [padL,ih (by omega),List.replicate_succ'];rfl
    ·have hk:0<k:=by
       rcases Nat.eq_zero_or_pos k with rfl|h0
       ·simp at hn;omega
       ·exact h0
     rw [Zdr h,padL,ih (n / 10) (by omega) hk,List.length_append,List.length_singleton,List.append_assoc,show k+1-((decDigits (n / 10)).length+1)=k-(decDigits (n / 10)).length by omega]
def dval (l:List UInt8):Nat:=l.foldl (fun n c=>10* n+(c.toNat-48)) 0
theorem Zk1 (l:List UInt8): ∀a,l.foldl (fun n c=>10* n+(c.toNat-48)) a=a* 10^l.length+dval l:=by
  induction l with
  | nil=>intro a;simp [dval]
  | cons c l ih=>
    intro a;unfold dval;rw [List.foldl_cons,List.foldl_cons,ih,ih,List.length_cons,Nat.pow_succ];grind
theorem Zgh (a b:List UInt8):dval (a++b)=dval a* 10^b.length+dval b:=by
  rw [<-Zk1 b (dval a)];exact List.foldl_append
theorem Zgi (c:UInt8):dval [c]=c.toNat-48:=by simp [dval]
theorem Zd4 (l:List UInt8) (c:UInt8):dval (l++ [c])=10* dval l+(c.toNat-48):=by rw [Zgh,Zgi,List.length_singleton];omega
theorem Zbv (n:Nat):dval (decDigits n)=n:=by
  induction n using Nat.strongRecOn with
  | _ n ih=>
    by_cases h:n<10
    ·rw [Zb9 h,Zgi,dgc h];omega
    ·rw [Zdr h,Zd4,ih (n / 10) (by omega),dgc (by omega)];omega
theorem Zds {a b:Nat} (h:decDigits a=decDigits b):a=b:=by rw [<-Zbv a,h,Zbv]
theorem Zcl (n:Nat): ∀c∈decDigits n,Zcb c:=by
  induction n using Nat.strongRecOn with
  | _ n ih=>
    intro c hc
    by_cases h:n<10
    ·rw [Zb9 h,List.mem_singleton] at hc;subst hc;unfold Zcb;rw [dgc h];omega
    ·rw [Zdr h] at hc
     rcases List.mem_append.1 hc with hc|hc
     ·exact ih (n / 10) (by omega) c hc
     ·rw [List.mem_singleton] at hc;subst hc;unfold Zcb;rw [dgc (by omega)];omega
theorem Zix {n:Nat} (hn:0<n):(decDigits n).head?≠some 48:=by
  induction n using Nat.strongRecOn with
  | _ n ih=>
    by_cases h:n<10
    ·rw [Zb9 h];intro e;injection e with e
     have:=dgc h;rw [e] at this;simp at this;omega
    ·rw [Zdr h,Ziv (Zfh _)];exact ih (n / 10) (by omega) (by omega)
theorem Zb4:decDigits 0=[48]:=by rw [Zb9 (by omega)];rfl
theorem Zrh: ∀ (n:Nat) (l:List UInt8),l.length=n->l≠ []->(∀c∈l,Zcb c)->(l=[48]∨l.head?≠some 48)->l=decDigits (dval l):=by
  intro n
  induction n with
  | zero=>intro l hl hne;exact absurd (List.eq_nil_of_length_eq_zero hl) hne
  | succ n ih=>
    intro l hl hne hd hh;obtain ⟨l',c,rfl⟩: ∃l' c,l=l'++ [c]:=⟨l.dropLast,l.getLast hne,(List.dropLast_concat_getLast hne).symm⟩;have hc:Zcb c:=hd c (by simp);have hce:UInt8.ofNat (48+(c.toNat-48))=c:=by
      apply UInt8.toNat_inj.1;obtain ⟨h1,h2⟩:=hc;rw [dgc (by omega)];omega
    by_cases hl':l'=[]
    ·subst hl';rw [List.nil_append,Zgi,Zb9 (by obtain ⟨h1,h2⟩:=hc;omega),hce]
    ·have hh':l'.head?≠some 48:=by
       rcases hh with h|h
       ·have:=congrArg List.length h;simp at this;exact absurd this hl'
       ·rwa [Ziv hl'] at h
     have e:=ih l' (by simpa using hl) hl' (fun x hx=>hd x (by simp [hx])) (Or.inr hh');have hp:0<dval l':=by
       rcases Nat.eq_zero_or_pos (dval l') with h0|h0
       ·rw [h0,Zb4] at e;rw [e] at hh';exact absurd rfl hh'
       ·exact h0
     obtain ⟨h1,h2⟩:=hc;rw [Zd4,Zdr (by omega),show (10* dval l'+(c.toNat-48)) / 10=dval l' by omega,<-e,show (10* dval l'+(c.toNat-48)) % 10=c.toNat-48 by omega,hce]
theorem Zc0 {l:List UInt8} (h: ∀c∈l,Zcb c):dval l<10^l.length:=by
  induction hn:l.length generalizing l with
  | zero=>rw [List.eq_nil_of_length_eq_zero hn];decide
  | succ n ih=>
    have hne:l≠ []:=by intro e;rw [e] at hn;cases hn
    obtain ⟨l',c,rfl⟩: ∃l' c,l=l'++ [c]:=⟨l.dropLast,l.getLast hne,(List.dropLast_concat_getLast hne).symm⟩;have h1:=ih (l:=l') (fun x hx=>h x (by simp [hx])) (by simpa using hn);obtain ⟨h2,h3⟩:=h c (by simp);rw [Zd4,Nat.pow_succ];omega
theorem Zaw {n k:Nat} (hk:0<k):(decDigits n).length<=k↔n<10^k:=by
  constructor
  ·intro h;have h1:=Zc0 (Zcl n);rw [Zbv] at h1;exact Nat.lt_of_lt_of_le h1 (Nat.pow_le_pow_right (by decide) h)
  ·intro h;have e:=Ziw k n h hk;have:=congrArg List.length e;rw [Zgg,List.length_append,List.length_replicate] at this;omega
theorem Zdt (n:Nat):0<(decDigits n).length:=List.length_pos_iff.2 (Zfh n)
def ratL (q:Rat):List UInt8:=itoa q.num++(if q.den=1 then [] else 47::decDigits q.den)
theorem Zav {n:Int} (h:0<=n):itoa n=decDigits n.toNat:=by unfold itoa;rw [if_neg (by omega)]
theorem Zbc {n:Int} (h:n<0):itoa n=45::decDigits n.natAbs:=by unfold itoa;rw [if_pos h]
end Go.Proofs.YtijajkfmlghgkaaGreatDoor
