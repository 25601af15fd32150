/- Lemmas on the way to the law TopMirrored: Ej Ek El Dg Em En Eo -/
import Derived.Test.YtijajkfmlghgkaaGreatDoorTopMirroredP03
import Derived.Lib.EndianBits
set_option linter.unusedVariables false
set_option linter.unusedSimpArgs false
set_option maxRecDepth 100000
set_option maxHeartbeats 4000000
namespace Go.Proofs.YtijajkfmlghgkaaGreatDoor.Nu
open Go Go.Proofs Go.RowKit Go.Proofs.YtijajkfmlghgkaaGreatDoor
theorem Zm5 {a b:Int} (h1: -9223372036854775808<=a) (h2:a<=9223372036854775807) (h3: -9223372036854775808<=b) (h4:b<=9223372036854775807):
    (decide (a<IntKind.i64.wrap (a+b))==decide (0<b))=decide (-9223372036854775808<=a+b/\a+b<=9223372036854775807):=by
 rw [IntWalk.i64_left];unfold wrap64
 by_cases h: -9223372036854775808<=a+b/\a+b<=9223372036854775807
 ·rw [Zt h]
  by_cases hb:0<b
  ·rw [Zt hb,Zt (by omega)];rfl
  ·rw [Zf hb,Zf (by omega)];rfl
 ·rw [Zf h]
  by_cases hb:0<b
  ·rw [Zt hb,Zf (by omega)];rfl
  ·rw [Zf hb,Zt (by omega)];rfl
theorem Zck (m:Nat):Zbb true m= -(m:Int):=rfl
theorem Zb6 (m:Nat):Zbb false m=(m:Int):=rfl
theorem Zjr (z1 z2:Int) (p q:Bool) (hp:decide (z1<0)=p) (hq:decide (z2<0)=q):
    (p=q->Zbb p (z1.natAbs+z2.natAbs)=z1+z2)/\(p≠q->z2.natAbs<=z1.natAbs->Zbb p (z1.natAbs-z2.natAbs)=z1+z2)/\(p≠q->z1.natAbs<=z2.natAbs->Zbb q (z2.natAbs-z1.natAbs)=z1+z2):=by
 cases p <;> cases q <;> simp only [decide_eq_true_eq,decide_eq_false_iff_not] at hp hq <;> refine ⟨fun h=> ?_,fun h h2=> ?_,fun h h2=> ?_⟩ <;> (try cases h) <;> (try exact absurd rfl h) <;> simp only [Zck,Zb6] <;> omega
theorem Zjs (w:World) (v1 v2:Value) (z1 z2:Int) (h1:IntR w v1 z1) (h2:IntR w v2 z2) (hw1:Wds 1000000 z1) (hw2:Wds 1000000 z2):Calls Tryz.prog 236 #[v1,v2] w (RetI w (z1+z2)):=by
  obtain ⟨s1,a1,n1,c1,rfl,_,hs1,hs1',hf1⟩:=h1.form;obtain ⟨s2,a2,n2,c2,rfl,_,hs2,hs2',hf2⟩:=h2.form;have hq:=fun (w:World) (a:Option Addr) (n c:Nat)=>Lib.run_eql_slice_nil w 131 345 a n c 0 0 Tryz.underlying131;have HP1:=Zh (fun (w1:World) (hb:Below w.heap.size w w1)=>Zcz w1 _ z1 (h1.later hb));have HP2:=Zh (fun (w1:World) (hb:Below w.heap.size w w1)=>Zcz w1 _ z2 (h2.later hb));have HB0:=Zh ((Below.refl w.heap.size w).alloc (Nat.le_refl _) (.cells #[.int .i64 s1,.slice a1 n1 c1] 133));have HB1:=Zh (HB0.alloc HB0.size (.cells #[.int .i64 s2,.slice a2 n2 c2] 133));have HB:=Zh (HB1.alloc HB1.size (.cells #[.int .i64 0,.slice none 0 0] 133));have HX:=Zh (((Box.new w #[.int .i64 s1,.slice a1 n1 c1] 133).alloc (.cells #[.int .i64 s2,.slice a2 n2 c2] 133)).alloc (.cells #[.int .i64 0,.slice none 0 0] 133));have HY:=Zh ((Box.newAt (w.alloc (.cells #[.int .i64 s1,.slice a1 n1 c1] 133)) #[.int .i64 s2,.slice a2 n2 c2] 133 (n:=w.heap.size+1) (by simp)).alloc (.cells #[.int .i64 0,.slice none 0 0] 133));have HZ:=Zh (Box.newAt ((w.alloc (.cells #[.int .i64 s1,.slice a1 n1 c1] 133)).alloc (.cells #[.int .i64 s2,.slice a2 n2 c2] 133)) #[.int .i64 0,.slice none 0 0] 133 (n:=w.heap.size+1+1) (by simp));obtain ⟨x0,x1,xf,xz⟩:=HX.v2;obtain ⟨y0,y1,yf,yz⟩:=HY.v2;obtain ⟨z0,z1',zf,zz⟩:=HZ.v2;have HOV:=Zh (Zm5 hs1 hs1' hs2 hs2');obtain ⟨p1,hp1⟩: ∃p,decide (z1<0)=p:=⟨_,rfl⟩;obtain ⟨p2,hp2⟩: ∃p,decide (z2<0)=p:=⟨_,rfl⟩;have HS:=Zh (Zjr z1 z2 p1 p2 hp1 hp2);unfold Zdz at HP1 HP2;rw [hp1] at HP1;rw [hp2] at HP2;have HW1:=Zh hw1;have HW2:=Zh hw2;obtain ⟨z,hz⟩: ∃z,z1+z2=z:=⟨_,rfl⟩;rw [hz] at HS ⊢;have HZZ:=Zh hz;clear hp1 hp2 h1 h2 hw1 hw2 hz HB0 HB1
  by_cases hcase:a1=none/\a2=none/\(-9223372036854775808<=s1+s2/\s1+s2<=9223372036854775807)
  ·obtain ⟨rfl,rfl,hr⟩:=hcase
   rcases hf1 with ⟨_,rfl,rfl,rfl⟩|h
   rotate_left
   ·cases h
   rcases hf2 with ⟨_,rfl,rfl,rfl⟩|h
   rotate_left
   ·cases h
   have hwr:IntKind.i64.wrap (s1+s2)=z:=by rw [IntWalk.i64_in _ hr,HZZ.out]
   have HR:=Zh (show -9223372036854775808<=z/\z<=9223372036854775807 by rw [<-HZZ.out];exact hr);have k1:=HOV.out;rw [Zt hr,hwr] at k1;clear hr hs1 hs1' hs2 hs2' HOV;go_enter Tryz.func236,Tryz.ntmps236;go_wp2_with fail;refine bodyPost_ret (v:= .agg #[.int .i64 z,.slice none 0 0]) (by simp [results,Tryz.results236,go_sem, *]) rfl ?_;refine RetI.mk rfl (IntR.small _ HR.out.1 HR.out.2) ?_
   repeat (first|exact HB.out|exact Below.refl _ _|refine .Zs ?_ _|refine .Za ?_ _|refine .drew ?_)
  ·have hway:(∃q,a1=some q)∨(a1=none/\∃q,a2=some q)∨(a1=none/\a2=none/\(decide (s1<IntKind.i64.wrap (s1+s2))==decide (0<s2))=false):=by
     rcases a1 with _|q
     ·rcases a2 with _|q
      ·refine .inr (.inr ⟨rfl,rfl,?_⟩);rw [HOV.out];exact Zf (fun h=>hcase ⟨rfl,rfl,h⟩)
      ·exact .inr (.inl ⟨rfl,q,rfl⟩)
     ·exact .inl ⟨q,rfl⟩
   obtain ⟨sw,hsw⟩: ∃x,IntKind.i64.wrap (s1+s2)=x:=⟨_,rfl⟩;rw [hsw] at hway;clear hcase HOV hf1 hf2 hs1 hs1' hs2 hs2'
   rcases hway with ⟨q,rfl⟩|⟨rfl,q,rfl⟩|⟨rfl,rfl,k1⟩
   all_goals
     go_enter Tryz.func236,Tryz.ntmps236;go_wp2_with fail;refine (HP1.out _ HB.out).mono ?_;rintro e4 w4 ⟨a4,n4,c4,l4,rfl,hw4,hn4,hb⟩;have HB4:=Zh (HB.Zg hb);have HY4:=Zh (HY.later hb);have HZ4:=Zh (HZ.later hb);have HW4:=Zh hw4;clear hb hw4 hn4 x0 x1 xf xz y0 y1 yf yz z0 z1' zf zz;obtain ⟨y0,y1,yf,yz⟩:=HY4.v2;go_wp2_with fail;refine (HP2.out _ HB4.out).mono ?_;rintro e5 w5 ⟨a5,n5,c5,l5,rfl,hw5,hn5,hb⟩;have HB5:=Zh (HB4.Zg hb);have HZ5:=Zh (HZ4.later hb);have HW5:=Zh hw5;have HW4':=Zh (HW4.later hb);have hl4:=(HW4.len HW1.abs);have hl5:=(hw5.len HW2.abs);clear hb hw5 hn5 y0 y1 yf yz HW4;have HFIN:=Zh (fun (neg:Bool) (m:Nat) (hm:Zbb neg m=z) (w6:World) (a6:Option Addr) (n6 c6:Nat) (l6:List Nat) (hw6:WlR w6 (.slice a6 n6 c6) l6 m)=>(by have h:=Zf5 w6 neg a6 n6 c6 l6 m hw6;rw [hm] at h;exact h:Calls Tryz.prog 299 #[.bool neg,.slice a6 n6 c6] w6 (RetI w6 z)));have HADD:=Zh (fun _:Unit=>add97 w5 _ _ _ _ _ _ _ _ _ _ HW4'.out HW5.out (by omega) (by omega));have HCMP:=Zh (Zd0 w5 _ _ _ _ _ _ _ _ _ _ HW4'.out HW5.out);have HSB1:=Zh (fun (w':World) (hb:Below w5.heap.size w5 w') (h:z2.natAbs<=z1.natAbs)=>Zq9 w' _ _ _ _ _ _ _ _ _ _ (HW4'.later hb) (HW5.later hb) (by omega) h);have HSB2:=Zh (fun (w':World) (hb:Below w5.heap.size w5 w') (h:z1.natAbs<=z2.natAbs)=>Zq9 w' _ _ _ _ _ _ _ _ _ _ (HW5.later hb) (HW4'.later hb) (by omega) h);generalize hA:z1.natAbs=A at *;generalize hBB:z2.natAbs=B at *;obtain ⟨z0,z1',zf,zz⟩:=HZ5.v2
     by_cases hpq:p1=p2
     ·have kp:(p1==p2)=true:=beq_iff_eq.2 hpq;have HV:=Zh (HS.out.1 hpq);clear hpq;go_wp2_with fail;refine (HADD.out ()).mono ?_;rintro e6 w6 ⟨a6,n6,c6,l6,rfl,hw6,hb⟩;have HB6:=Zh (HB5.Zg hb);have HZ6:=Zh (HZ5.later hb);have HF:=Zh (HFIN.out p1 _ HV.out w6 _ _ _ _ hw6);clear hb hw6 z0 z1' zf zz;obtain ⟨z0,z1',zf,zz⟩:=HZ6.v2;go_wp2_with fail;refine HF.mono ?_;rintro e7 w7 ⟨v7,rfl,hi7,hb⟩;have HI:=Zh hi7;have HB7:=Zh (HB6.Zg hb);have HZ7:=Zh (HZ6.later hb);obtain ⟨s7,a7,n7,c7,rfl,_,_,_,_⟩:=hi7.form;clear hb hi7 z0 z1' zf zz;obtain ⟨z0,z1',zf,zz⟩:=HZ7.v2;go_wp2_with fail;refine bodyPost_ret (v:= .agg #[.int .i64 s7,.slice a7 n7 c7]) (by simp [results,Tryz.results236,go_sem, *]) rfl ?_;refine RetI.mk rfl (HI.put HZ7.out _ _) ?_
      repeat (first|exact HB7.out|exact Below.refl _ _|refine .Zs ?_ _|refine .Za ?_ _|refine .drew ?_)
     ·have kp:(p1==p2)=false:=beq_eq_false_iff_ne.2 hpq;have HV1:=Zh (HS.out.2.1 hpq);have HV2:=Zh (HS.out.2.2 hpq);clear hpq;go_wp2_with fail;refine HCMP.mono ?_;rintro e6 w6 ⟨rfl,hb⟩;have HB6:=Zh (HB5.Zg hb);have HZ6:=Zh (HZ5.later hb);have HBL:=Zh hb;clear hb z0 z1' zf zz;obtain ⟨z0,z1',zf,zz⟩:=HZ6.v2
      by_cases hAB:B<=A
      ·have HV:=Zh (HV1.out hAB);have kc:decide ((0:Int)<=icmp (A:Int) (B:Int))=true:=Zt (by unfold icmp;split;omega;split <;> omega)
       have HC:=Zh (HSB1.out w6 HBL.out hAB);generalize icmp (A:Int) (B:Int)=r at *;clear hAB;go_wp2_with fail;refine HC.mono ?_;rintro e6 w7 ⟨a6,n6,c6,l6,rfl,hw6,hb⟩;have HB7:=Zh (HB6.Zg hb);have HZ7:=Zh (HZ6.later hb);have HF:=Zh (HFIN.out p1 _ HV.out w7 _ _ _ _ hw6);clear hb hw6 z0 z1' zf zz;obtain ⟨z0,z1',zf,zz⟩:=HZ7.v2;go_wp2_with fail;refine HF.mono ?_;rintro e7 w8 ⟨v7,rfl,hi7,hb⟩;have HI:=Zh hi7;have HB8:=Zh (HB7.Zg hb);have HZ8:=Zh (HZ7.later hb);obtain ⟨s7,a7,n7,c7,rfl,_,_,_,_⟩:=hi7.form;clear hb hi7 z0 z1' zf zz;obtain ⟨z0,z1',zf,zz⟩:=HZ8.v2;go_wp2_with fail;refine bodyPost_ret (v:= .agg #[.int .i64 s7,.slice a7 n7 c7]) (by simp [results,Tryz.results236,go_sem, *]) rfl ?_;refine RetI.mk rfl (HI.put HZ8.out _ _) ?_
       repeat (first|exact HB8.out|exact Below.refl _ _|refine .Zs ?_ _|refine .Za ?_ _|refine .drew ?_)
      ·have HV:=Zh (HV2.out (by omega));have kc:decide ((0:Int)<=icmp (A:Int) (B:Int))=false:=Zf (by unfold icmp;rw [if_pos (by omega)];omega);have HC:=Zh (HSB2.out w6 HBL.out (by omega));generalize icmp (A:Int) (B:Int)=r at *;clear hAB;go_wp2_with fail;refine HC.mono ?_;rintro e6 w7 ⟨a6,n6,c6,l6,rfl,hw6,hb⟩;have HB7:=Zh (HB6.Zg hb);have HZ7:=Zh (HZ6.later hb);have HF:=Zh (HFIN.out p2 _ HV.out w7 _ _ _ _ hw6);clear hb hw6 z0 z1' zf zz;obtain ⟨z0,z1',zf,zz⟩:=HZ7.v2;go_wp2_with fail;refine HF.mono ?_;rintro e7 w8 ⟨v7,rfl,hi7,hb⟩;have HI:=Zh hi7;have HB8:=Zh (HB7.Zg hb);have HZ8:=Zh (HZ7.later hb);obtain ⟨s7,a7,n7,c7,rfl,_,_,_,_⟩:=hi7.form;clear hb hi7 z0 z1' zf zz;obtain ⟨z0,z1',zf,zz⟩:=HZ8.v2;go_wp2_with fail;refine bodyPost_ret (v:= .agg #[.int .i64 s7,.slice a7 n7 c7]) (by simp [results,Tryz.results236,go_sem, *]) rfl ?_;refine RetI.mk rfl (HI.put HZ8.out _ _) ?_
       repeat (first|exact HB8.out|exact Below.refl _ _|refine .Zs ?_ _|refine .Za ?_ _|refine .drew ?_)
theorem Zo1 (w:World) (v1 v2:Value) (z1 z2:Int) (h1:IntR w v1 z1) (h2:IntR w v2 z2) (hw1:Wds 1000000 z1) (hw2:Wds 1000000 z2):Calls Tryz.prog 317 #[v1,v2] w (RetI w (z1-z2)):=by
  obtain ⟨s1,a1,n1,c1,rfl,_,_,_,_⟩:=h1.form;obtain ⟨s2,a2,n2,c2,rfl,_,_,_,_⟩:=h2.form;have HN:=Zh (fun (w1:World) (hb:Below w.heap.size w w1)=>Ziq w1 _ z2 (h2.later hb));have HI1:=Zh (fun (w1:World) (hb:Below w.heap.size w w1)=>h1.later hb);have HB0:=Zh ((Below.refl w.heap.size w).alloc (Nat.le_refl _) (.cells #[.int .i64 s1,.slice a1 n1 c1] 133));have HB1:=Zh (HB0.alloc HB0.size (.cells #[.int .i64 s2,.slice a2 n2 c2] 133));have HB:=Zh (HB1.alloc HB1.size (.cells #[.int .i64 0,.slice none 0 0] 133));have HX:=Zh (((Box.new w #[.int .i64 s1,.slice a1 n1 c1] 133).alloc (.cells #[.int .i64 s2,.slice a2 n2 c2] 133)).alloc (.cells #[.int .i64 0,.slice none 0 0] 133));have HY:=Zh ((Box.newAt (w.alloc (.cells #[.int .i64 s1,.slice a1 n1 c1] 133)) #[.int .i64 s2,.slice a2 n2 c2] 133 (n:=w.heap.size+1) (by simp)).alloc (.cells #[.int .i64 0,.slice none 0 0] 133));have HZ:=Zh (Box.newAt ((w.alloc (.cells #[.int .i64 s1,.slice a1 n1 c1] 133)).alloc (.cells #[.int .i64 s2,.slice a2 n2 c2] 133)) #[.int .i64 0,.slice none 0 0] 133 (n:=w.heap.size+1+1) (by simp));obtain ⟨x0,x1,xf,xz⟩:=HX.v2;obtain ⟨y0,y1,yf,yz⟩:=HY.v2;have HADD:=Zh (fun (w1:World) (v:Value) (hb:Below w.heap.size w w1) (h:IntR w1 v (-z2))=>Zjs w1 _ v z1 (-z2) (h1.later hb) h hw1 hw2.neg);have HZZ:=Zh (show z1+ -z2=z1-z2 by omega);obtain ⟨z,hz⟩: ∃z,z1-z2=z:=⟨_,rfl⟩;rw [hz] at HZZ ⊢;rw [HZZ.out] at HADD;clear h1 h2 hw1 hw2 hz HB0 HB1;go_enter Tryz.func317,Tryz.ntmps317;go_wp2_with fail;generalize hW1:((w.alloc (.cells #[.int .i64 s1,.slice a1 n1 c1] 133)).alloc (.cells #[.int .i64 s2,.slice a2 n2 c2] 133)).alloc (.cells #[.int .i64 0,.slice none 0 0] 133)=W1 at *;clear hW1;refine Zdy 3 2 _ (fun v u=>IntR u v (-z2)) (by kernel_rfl) (by kernel_rfl) rfl (fun v u u' h hb=>h.later hb) ?_;apply Exists.intro;refine ⟨fun Y=> ?_,fun wa hwa=> ?_,fun vl w2 hb hD=> ?_⟩
  ·simp only [Zat,Z2,Z3,Z6,Z7,Nat.reduceSub,List.cons_append,List.nil_append]
   repeat go_big_quiet_step (fail)
   exact wpQuiet_nil rfl
  ·have hbw:=HB.Zg hwa;refine ⟨260,_,?_,(HN.out wa hbw).mono ?_⟩
   ·go_simp
    first|done|rfl
   ·rintro e w6 ⟨v6,rfl,hi6,hb6⟩;exact ⟨v6,rfl,hi6,hb6⟩
  simp only [Act.put,Z1,Z4,Z5,Z3,Z7];have HB2:=Zh (HB.Zg hb);have HZ2:=Zh (HZ.later hb);have HD:=Zh hD;clear hb hD x0 x1 xf xz y0 y1 yf yz;obtain ⟨z0,z1',zf,zz⟩:=HZ2.v2;go_wp2_with fail;refine (HADD.out w2 _ HB2.out HD.out).mono ?_;rintro e7 w7 ⟨v7,rfl,hi7,hb⟩;have HI:=Zh hi7;have HB7:=Zh (HB2.Zg hb);have HZ7:=Zh (HZ2.later hb);obtain ⟨s7,a7,n7,c7,rfl,_,_,_,_⟩:=hi7.form;clear hb hi7 z0 z1' zf zz;obtain ⟨z0,z1',zf,zz⟩:=HZ7.v2;go_wp2_with fail;refine bodyPost_ret (v:= .agg #[.int .i64 s7,.slice a7 n7 c7]) (by simp [results,Tryz.results317,go_sem, *]) rfl ?_;refine RetI.mk rfl (HI.put HZ7.out _ _) ?_
  repeat (first|exact HB7.out|exact Below.refl _ _|refine .Zs ?_ _|refine .Za ?_ _|refine .drew ?_)
theorem Zm6 (a b:Int):(a-b).sign=icmp a b:=by
  unfold icmp
  rcases Int.lt_trichotomy a b with h|h|h
  ·rw [if_pos h,Int.sign_eq_neg_one_of_neg (by omega)]
  ·rw [if_neg (by omega),if_neg (by omega),h,Int.sub_self];rfl
  ·rw [if_neg (by omega),if_pos h,Int.sign_eq_one_of_pos (by omega)]
theorem cmp83 (w:World) (v1 v2:Value) (z1 z2:Int) (h1:IntR w v1 z1) (h2:IntR w v2 z2) (hw1:Wds 1000000 z1) (hw2:Wds 1000000 z2):Calls Tryz.prog 262 #[v1,v2] w (Ret (.int .i64 (icmp z1 z2)) w):=by
  obtain ⟨s1,a1,n1,c1,rfl,_,hs1,hs1',hf1⟩:=h1.form;obtain ⟨s2,a2,n2,c2,rfl,_,hs2,hs2',hf2⟩:=h2.form;have hq:=fun (w:World) (a:Option Addr) (n c:Nat)=>Lib.run_eql_slice_nil w 131 345 a n c 0 0 Tryz.underlying131;have HSUB:=Zh (fun (w1:World) (hb:Below w.heap.size w w1)=>Zo1 w1 _ _ z1 z2 (h1.later hb) (h2.later hb) hw1 hw2);have HB0:=Zh ((Below.refl w.heap.size w).alloc (Nat.le_refl _) (.cells #[.int .i64 s1,.slice a1 n1 c1] 133));have HB:=Zh (HB0.alloc HB0.size (.cells #[.int .i64 s2,.slice a2 n2 c2] 133));have HX:=Zh ((Box.new w #[.int .i64 s1,.slice a1 n1 c1] 133).alloc (.cells #[.int .i64 s2,.slice a2 n2 c2] 133));have HY:=Zh (Box.newAt (w.alloc (.cells #[.int .i64 s1,.slice a1 n1 c1] 133)) #[.int .i64 s2,.slice a2 n2 c2] 133 (n:=w.heap.size+1) (by simp));obtain ⟨x0,x1,xf,xz⟩:=HX.v2;obtain ⟨y0,y1,yf,yz⟩:=HY.v2;clear HB0 h1 h2 hw1 hw2
  by_cases hcase:a1=none/\a2=none
  ·obtain ⟨rfl,rfl⟩:=hcase
   rcases hf1 with ⟨_,rfl,rfl,rfl⟩|h
   rotate_left
   ·cases h
   rcases hf2 with ⟨_,rfl,rfl,rfl⟩|h
   rotate_left
   ·cases h
   clear hs1 hs1' hs2 hs2' HSUB
   rcases Int.lt_trichotomy s1 s2 with h|h|h
   ·have k1:decide (s1<s2)=true:=Zt h;have HV:=Zh (show icmp s1 s2= -1 by unfold icmp;rw [if_pos h]);clear h;go_enter Tryz.func262,Tryz.ntmps262;go_wp2_with fail;go_ret;exact ⟨by rw [HV.out];rfl,HB.out⟩
   ·have k1:decide (s1<s2)=false:=Zf (by omega);have k2:decide (s2<s1)=false:=Zf (by omega);have HV:=Zh (show icmp s1 s2=0 by unfold icmp;rw [if_neg (by omega),if_neg (by omega)]);clear h;go_enter Tryz.func262,Tryz.ntmps262;go_wp2_with fail;go_ret;exact ⟨by rw [HV.out];rfl,HB.out⟩
   ·have k1:decide (s1<s2)=false:=Zf (by omega);have k2:decide (s2<s1)=true:=Zt h;have HV:=Zh (show icmp s1 s2=1 by unfold icmp;rw [if_neg (by omega),if_pos h]);clear h;go_enter Tryz.func262,Tryz.ntmps262;go_wp2_with fail;go_ret;exact ⟨by rw [HV.out];rfl,HB.out⟩
  ·have hway:(∃q,a1=some q)∨(a1=none/\∃q,a2=some q):=by
     rcases a1 with _|q
     ·rcases a2 with _|q
      ·exact absurd ⟨rfl,rfl⟩ hcase
      ·exact .inr ⟨rfl,q,rfl⟩
     ·exact .inl ⟨q,rfl⟩
   rw [<-Zm6];obtain ⟨z,hz⟩: ∃z,z1-z2=z:=⟨_,rfl⟩;rw [hz] at HSUB ⊢;clear hcase hf1 hf2 hs1 hs1' hs2 hs2' hz
   rcases hway with ⟨q,rfl⟩|⟨rfl,q,rfl⟩
   all_goals
     go_enter Tryz.func262,Tryz.ntmps262;go_wp2_with fail;refine (HSUB.out _ HB.out).mono ?_;rintro e4 w4 ⟨v4,rfl,hi4,hb⟩;have HB4:=Zh (HB.Zg hb);have HSG:=Zh (Zd9 w4 v4 z hi4);obtain ⟨s4,a4,n4,c4,rfl,_,_,_,_⟩:=hi4.form;clear hb hi4 x0 x1 xf xz y0 y1 yf yz;go_wp2_with fail;refine HSG.mono ?_;rintro e5 w5 ⟨rfl,hb⟩;have HB5:=Zh (HB4.Zg hb);clear hb;go_wp2_with fail;go_ret;exact ⟨rfl,HB5.out⟩
theorem Zjt (z1 z2:Int) (p q:Bool) (hp:decide (z1<0)=p) (hq:decide (z2<0)=q):Zbb (p !=q) (z1.natAbs* z2.natAbs)=z1* z2:=by
  have e:((z1.natAbs* z2.natAbs:Nat):Int)=(z1.natAbs:Int) * (z2.natAbs:Int):=Int.natCast_mul _ _;cases p <;> cases q <;> simp only [decide_eq_true_eq,decide_eq_false_iff_not] at hp hq
  ·rw [show (false !=false)=false from rfl,Zb6,e,show (z1.natAbs:Int)=z1 by omega,show (z2.natAbs:Int)=z2 by omega]
  ·rw [show (false !=true)=true from rfl,Zck,e,show (z1.natAbs:Int)=z1 by omega,show (z2.natAbs:Int)= -z2 by omega,Int.mul_neg,Int.neg_neg]
  ·rw [show (true !=false)=true from rfl,Zck,e,show (z1.natAbs:Int)= -z1 by omega,show (z2.natAbs:Int)=z2 by omega,Int.neg_mul,Int.neg_neg]
  ·rw [show (true !=true)=false from rfl,Zb6,e,show (z1.natAbs:Int)= -z1 by omega,show (z2.natAbs:Int)= -z2 by omega,Int.neg_mul_neg]
theorem IntR.cong {w:World} {v:Value} {z z':Int} (h:IntR w v z) (e:z=z'):IntR w v z':=e ▸ h
theorem Zfb (w:World) (v1 v2:Value) (z1 z2:Int) (h1:IntR w v1 z1) (h2:IntR w v2 z2) (hw1:Wds 1000000 z1) (hw2:Wds 1000000 z2):Calls Tryz.prog 234 #[v1,v2] w (RetI w (z1* z2)):=by
  obtain ⟨s1,a1,n1,c1,rfl,_,hs1,hs1',hf1⟩:=h1.form;obtain ⟨s2,a2,n2,c2,rfl,_,hs2,hs2',hf2⟩:=h2.form;have hq:=fun (w:World) (a:Option Addr) (n c:Nat)=>Lib.run_eql_slice_nil w 131 345 a n c 0 0 Tryz.underlying131;have HP1:=Zh (fun (w1:World) (hb:Below w.heap.size w w1)=>Zcz w1 _ z1 (h1.later hb));have HP2:=Zh (fun (w1:World) (hb:Below w.heap.size w w1)=>Zcz w1 _ z2 (h2.later hb));have HB0:=Zh ((Below.refl w.heap.size w).alloc (Nat.le_refl _) (.cells #[.int .i64 s1,.slice a1 n1 c1] 133));have HB1:=Zh (HB0.alloc HB0.size (.cells #[.int .i64 s2,.slice a2 n2 c2] 133));have HB:=Zh (HB1.alloc HB1.size (.cells #[.int .i64 0,.slice none 0 0] 133));have HX:=Zh (((Box.new w #[.int .i64 s1,.slice a1 n1 c1] 133).alloc (.cells #[.int .i64 s2,.slice a2 n2 c2] 133)).alloc (.cells #[.int .i64 0,.slice none 0 0] 133));have HY:=Zh ((Box.newAt (w.alloc (.cells #[.int .i64 s1,.slice a1 n1 c1] 133)) #[.int .i64 s2,.slice a2 n2 c2] 133 (n:=w.heap.size+1) (by simp)).alloc (.cells #[.int .i64 0,.slice none 0 0] 133));have HZ:=Zh (Box.newAt ((w.alloc (.cells #[.int .i64 s1,.slice a1 n1 c1] 133)).alloc (.cells #[.int .i64 s2,.slice a2 n2 c2] 133)) #[.int .i64 0,.slice none 0 0] 133 (n:=w.heap.size+1+1) (by simp));obtain ⟨x0,x1,xf,xz⟩:=HX.v2;obtain ⟨y0,y1,yf,yz⟩:=HY.v2;obtain ⟨z0,z1',zf,zz⟩:=HZ.v2;obtain ⟨p1,hp1⟩: ∃p,decide (z1<0)=p:=⟨_,rfl⟩;obtain ⟨p2,hp2⟩: ∃p,decide (z2<0)=p:=⟨_,rfl⟩;have HS:=Zh (Zjt z1 z2 p1 p2 hp1 hp2);have HSZ:=Zh (fun (w:World) (s:Int) (h:s=s1∨s=s2)=>Zh3 s (by omega) (by omega) w);have HML:=Zh (fun (h1:a1=none) (h2:a2=none) (w:World)=>Tryz.bits_Mul64 s1.natAbs s2.natAbs (by omega) (by omega) w);unfold Zdz at HP1 HP2;rw [hp1] at HP1;rw [hp2] at HP2;have HW1:=Zh hw1;have HW2:=Zh hw2;have HPP:=Zh (show (a1=none->decide (s1<0)=p1)/\(a2=none->decide (s2<0)=p2) from
    ⟨fun h=>(by rcases hf1 with ⟨_,e,_⟩|e;rw [e,hp1];rw [h] at e;cases e),fun h=>(by rcases hf2 with ⟨_,e,_⟩|e;rw [e,hp2];rw [h] at e;cases e)⟩)
  have HZ1:=Zh (show a1=none->s1=z1/\n1=0/\c1=0 from fun h=>by rcases hf1 with ⟨_,e⟩|e;exact e;rw [h] at e;cases e);have HZ2:=Zh (show a2=none->s2=z2/\n2=0/\c2=0 from fun h=>by rcases hf2 with ⟨_,e⟩|e;exact e;rw [h] at e;cases e);obtain ⟨z,hz⟩: ∃z,z1* z2=z:=⟨_,rfl⟩;rw [hz] at HS ⊢;clear hp1 hp2 h1 h2 hw1 hw2 hz HB0 HB1 hs1 hs1' hs2 hs2' hf1 hf2
  by_cases hcase:a1=none/\a2=none/\s1.natAbs* s2.natAbs<=9223372036854775807
  ·obtain ⟨rfl,rfl,hr⟩:=hcase;obtain ⟨rfl,rfl,rfl⟩:=HZ1.out rfl;obtain ⟨rfl,rfl,rfl⟩:=HZ2.out rfl;have k1:=HPP.out.1 rfl;have k2:=HPP.out.2 rfl;have HM:=Zh (HML.out rfl rfl);generalize s1.natAbs* s2.natAbs=m at *;rw [show m / 18446744073709551616=0 by omega,show m % 18446744073709551616=m by omega] at HM;have k3:decide ((m:Int)<=9223372036854775807)=true:=Zt (by omega);have hfour:(p1=true/\p2=false/\IntKind.i64.wrap (m:Int)=(m:Int)/\IntKind.i64.wrap (-(m:Int))=z)∨(p1=false/\p2=true/\IntKind.i64.wrap (m:Int)=(m:Int)/\IntKind.i64.wrap (-(m:Int))=z)∨(p1=true/\p2=true/\IntKind.i64.wrap (m:Int)=z)∨(p1=false/\p2=false/\IntKind.i64.wrap (m:Int)=z):=by
     have k4:IntKind.i64.wrap (m:Int)=m:=IntWalk.i64_in _ (by omega);have k5:IntKind.i64.wrap (-(m:Int))= -m:=IntWalk.i64_in _ (by omega);rw [k4,k5];have h:=HS.out;cases p1 <;> cases p2
     ·exact .inr (.inr (.inr ⟨rfl,rfl,h⟩))
     ·exact .inr (.inl ⟨rfl,rfl,rfl,h⟩)
     ·exact .inl ⟨rfl,rfl,rfl,h⟩
     ·exact .inr (.inr (.inl ⟨rfl,rfl,h⟩))
   have HR:=Zh (show -9223372036854775808<=z/\z<=9223372036854775807 by
     have h:=HS.out;cases hpq:(p1 !=p2) <;> rw [hpq] at h <;> simp only [Zck,Zb6] at h <;> omega)
   clear hr HZ1 HZ2 HPP HML HP1 HP2 HS
   rcases hfour with ⟨rfl,rfl,k4,k5⟩|⟨rfl,rfl,k4,k5⟩|⟨rfl,rfl,k4⟩|⟨rfl,rfl,k4⟩
   all_goals
     go_enter Tryz.func234,Tryz.ntmps234;go_wp2_with fail;refine Zah (by kernel_rfl) (by kernel_rfl) ?_
     repeat go_big_quiet_step ((first|(go_at_call 298;exact Calls.later_same (HSZ.out _ _ (by first|exact .inl rfl|exact .inr rfl)))|(go_at_call 297;exact Calls.later_same ((HM.out _).mono (fun e w' h=>⟨h.1,h.2.symm⟩)))))
     refine wpQuiet_nil ?_;rintro w4 ⟨⟨_,hb⟩,rfl⟩;have HB4:=Zh (HB.Zg hb);have HX4:=Zh (HX.later hb);have HY4:=Zh (HY.later hb);have HZ4:=Zh (HZ.later hb);clear hb x0 x1 xf xz y0 y1 yf yz z0 z1' zf zz;obtain ⟨x0,x1,xf,xz⟩:=HX4.v2;obtain ⟨y0,y1,yf,yz⟩:=HY4.v2;obtain ⟨z0,z1',zf,zz⟩:=HZ4.v2;go_wp2_with fail;refine bodyPost_ret (v:= .agg #[.int .i64 z,.slice none 0 0]) (by simp [results,Tryz.results234,go_sem, *]) rfl ?_;refine RetI.mk rfl (IntR.small _ HR.out.1 HR.out.2) ?_
     repeat (first|exact HB4.out|exact Below.refl _ _|refine .Zs ?_ _|refine .Za ?_ _|refine .drew ?_)
  ·have hway:(∃q,a1=some q)∨(a1=none/\∃q,a2=some q)∨(a1=none/\a2=none/\¬s1.natAbs* s2.natAbs<=9223372036854775807):=by
     rcases a1 with _|q
     ·rcases a2 with _|q
      ·exact .inr (.inr ⟨rfl,rfl,fun h=>hcase ⟨rfl,rfl,h⟩⟩)
      ·exact .inr (.inl ⟨rfl,q,rfl⟩)
     ·exact .inl ⟨q,rfl⟩
   have hway2:(∃q,a1=some q)∨(a1=none/\∃q,a2=some q)∨(a1=none/\a2=none/\∃hi lo:Nat,(∀w:World,Calls Tryz.prog 297 #[.int .u64 (s1.natAbs:Int),.int .u64 (s2.natAbs:Int)] w fun e w'=>e= .returned (.tuple #[.int .u64 (hi:Int),.int .u64 (lo:Int)])/\w=w')/\(0<hi∨(hi=0/\decide ((lo:Int)<=9223372036854775807)=false))):=by
     rcases hway with h|h|⟨h1,h2,h3⟩
     ·exact .inl h
     ·exact .inr (.inl h)
     ·refine .inr (.inr ⟨h1,h2,_,_,fun w=>(HML.out h1 h2 w).mono (fun e w' h=>⟨h.1,h.2.symm⟩),?_⟩);generalize s1.natAbs* s2.natAbs=m at *
      rcases Nat.eq_zero_or_pos (m / 18446744073709551616) with h0|h0
      ·exact .inr ⟨h0,Zf (by omega)⟩
      ·exact .inl h0
   clear hcase HPP HZ1 HZ2 HML hway;have HTAIL:=Zh (fun (w4:World) (v4:Value) (hi4:IntR w4 v4 z)=>hi4.form)
   rcases hway2 with ⟨q,rfl⟩|⟨rfl,q,rfl⟩|⟨rfl,rfl,hi,lo,hM,hhl⟩
   rotate_left 2
   ·have HM:=Zh hM;clear hM;have hthree:((hi:Int)==0)=false∨(hi=0/\decide ((lo:Int)<=9223372036854775807)=false):=by
      rcases hhl with h|h
      ·exact .inl (beq_eq_false_iff_ne.2 (by omega))
      ·exact .inr h
    clear hhl
    rcases hthree with k3|⟨rfl,k3⟩
    all_goals
      go_enter Tryz.func234,Tryz.ntmps234;go_wp2_with fail;refine Zah (by kernel_rfl) (by kernel_rfl) ?_
      repeat go_big_quiet_step ((first|(go_at_call 298;exact Calls.later_same (HSZ.out _ _ (by first|exact .inl rfl|exact .inr rfl)))|(go_at_call 297;exact Calls.later_same (HM.out _))))
      refine wpQuiet_nil ?_;rintro w3 ⟨⟨_,hb⟩,rfl⟩;have HB3:=Zh (HB.Zg hb);have HX3:=Zh (HX.later hb);have HY3:=Zh (HY.later hb);have HZ3:=Zh (HZ.later hb);clear hb x0 x1 xf xz y0 y1 yf yz z0 z1' zf zz;obtain ⟨x0,x1,xf,xz⟩:=HX3.v2;obtain ⟨y0,y1,yf,yz⟩:=HY3.v2;obtain ⟨z0,z1',zf,zz⟩:=HZ3.v2;go_wp2_with fail;refine (HP1.out _ HB3.out).mono ?_;rintro e4 w4 ⟨a4,n4,c4,l4,rfl,hw4,hn4,hb⟩;have HB4:=Zh (HB3.Zg hb);have HY4:=Zh (HY3.later hb);have HZ4:=Zh (HZ3.later hb);have HW4:=Zh hw4;clear hb hw4 hn4 x0 x1 xf xz y0 y1 yf yz z0 z1' zf zz;obtain ⟨y0,y1,yf,yz⟩:=HY4.v2;go_wp2_with fail;refine (HP2.out _ HB4.out).mono ?_;rintro e5 w5 ⟨a5,n5,c5,l5,rfl,hw5,hn5,hb⟩;have HB5:=Zh (HB4.Zg hb);have HZ5:=Zh (HZ4.later hb);have HMUL:=Zh (Zo0 w5 _ _ _ _ _ _ _ _ _ _ (HW4.later hb) hw5 (by have:=HW4.len HW1.abs;omega) (by have:=hw5.len HW2.abs;omega));have HFIN:=Zh (fun (w6:World) (a6:Option Addr) (n6 c6:Nat) (l6:List Nat) (hw6:WlR w6 (.slice a6 n6 c6) l6 (z1.natAbs* z2.natAbs))=>(by have h:=Zf5 w6 (p1 !=p2) a6 n6 c6 l6 _ hw6;rw [HS.out] at h;exact h:Calls Tryz.prog 299 #[.bool (p1 !=p2),.slice a6 n6 c6] w6 (RetI w6 z)));clear hb hw5 hn5 y0 y1 yf yz HW4;obtain ⟨z0,z1',zf,zz⟩:=HZ5.v2;go_wp2_with fail;refine HMUL.mono ?_;rintro e6 w6 ⟨a6,n6,c6,l6,rfl,hw6,hb⟩;have HB6:=Zh (HB5.Zg hb);have HZ6:=Zh (HZ5.later hb);have HF:=Zh (HFIN.out w6 _ _ _ _ hw6);clear hb hw6 z0 z1' zf zz;obtain ⟨z0,z1',zf,zz⟩:=HZ6.v2;go_wp2_with fail;refine HF.mono ?_;rintro e7 w7 ⟨v7,rfl,hi7,hb⟩;have HI:=Zh hi7;have HB7:=Zh (HB6.Zg hb);have HZ7:=Zh (HZ6.later hb);obtain ⟨s7,a7,n7,c7,rfl,_,_,_,_⟩:=hi7.form;clear hb hi7 z0 z1' zf zz;obtain ⟨z0,z1',zf,zz⟩:=HZ7.v2;go_wp2_with fail;refine bodyPost_ret (v:= .agg #[.int .i64 s7,.slice a7 n7 c7]) (by simp [results,Tryz.results234,go_sem, *]) rfl ?_;refine RetI.mk rfl (HI.put HZ7.out _ _) ?_
      repeat (first|exact HB7.out|exact Below.refl _ _|refine .Zs ?_ _|refine .Za ?_ _|refine .drew ?_)
   all_goals
     have HB3:=Zh HB.out;have HX3:=Zh HX.out;have HY3:=Zh HY.out;have HZ3:=Zh HZ.out;go_enter Tryz.func234,Tryz.ntmps234;go_wp2_with fail;refine (HP1.out _ HB3.out).mono ?_;rintro e4 w4 ⟨a4,n4,c4,l4,rfl,hw4,hn4,hb⟩;have HB4:=Zh (HB3.Zg hb);have HY4:=Zh (HY3.later hb);have HZ4:=Zh (HZ3.later hb);have HW4:=Zh hw4;clear hb hw4 hn4 x0 x1 xf xz y0 y1 yf yz z0 z1' zf zz;obtain ⟨y0,y1,yf,yz⟩:=HY4.v2;go_wp2_with fail;refine (HP2.out _ HB4.out).mono ?_;rintro e5 w5 ⟨a5,n5,c5,l5,rfl,hw5,hn5,hb⟩;have HB5:=Zh (HB4.Zg hb);have HZ5:=Zh (HZ4.later hb);have HMUL:=Zh (Zo0 w5 _ _ _ _ _ _ _ _ _ _ (HW4.later hb) hw5 (by have:=HW4.len HW1.abs;omega) (by have:=hw5.len HW2.abs;omega));have HFIN:=Zh (fun (w6:World) (a6:Option Addr) (n6 c6:Nat) (l6:List Nat) (hw6:WlR w6 (.slice a6 n6 c6) l6 (z1.natAbs* z2.natAbs))=>(by have h:=Zf5 w6 (p1 !=p2) a6 n6 c6 l6 _ hw6;rw [HS.out] at h;exact h:Calls Tryz.prog 299 #[.bool (p1 !=p2),.slice a6 n6 c6] w6 (RetI w6 z)));clear hb hw5 hn5 y0 y1 yf yz HW4;obtain ⟨z0,z1',zf,zz⟩:=HZ5.v2;go_wp2_with fail;refine HMUL.mono ?_;rintro e6 w6 ⟨a6,n6,c6,l6,rfl,hw6,hb⟩;have HB6:=Zh (HB5.Zg hb);have HZ6:=Zh (HZ5.later hb);have HF:=Zh (HFIN.out w6 _ _ _ _ hw6);clear hb hw6 z0 z1' zf zz;obtain ⟨z0,z1',zf,zz⟩:=HZ6.v2;go_wp2_with fail;refine HF.mono ?_;rintro e7 w7 ⟨v7,rfl,hi7,hb⟩;have HI:=Zh hi7;have HB7:=Zh (HB6.Zg hb);have HZ7:=Zh (HZ6.later hb);obtain ⟨s7,a7,n7,c7,rfl,_,_,_,_⟩:=hi7.form;clear hb hi7 z0 z1' zf zz;obtain ⟨z0,z1',zf,zz⟩:=HZ7.v2;go_wp2_with fail;refine bodyPost_ret (v:= .agg #[.int .i64 s7,.slice a7 n7 c7]) (by simp [results,Tryz.results234,go_sem, *]) rfl ?_;refine RetI.mk rfl (HI.put HZ7.out _ _) ?_
     repeat (first|exact HB7.out|exact Below.refl _ _|refine .Zs ?_ _|refine .Za ?_ _|refine .drew ?_)
end Go.Proofs.YtijajkfmlghgkaaGreatDoor.Nu
namespace Go.Proofs.YtijajkfmlghgkaaGreatDoor
structure HfI (T u Y v1 t r:Nat):Prop where
  top:t* v1+r=T
  ge:T* 4294967296+u<(t+1) * Y
  rB:r<4294967296
structure HfC (T u Y v1 v0:Nat):Prop where
  hy:Y=v1* 4294967296+v0
  hv0:v0<4294967296
  hv1:2147483648<=v1
  hv1':v1<4294967296
  hlt:T<Y
  hu:u<4294967296
theorem HfC.start {T u Y v1 v0:Nat} (h:HfC T u Y v1 v0):HfI T u Y v1 (T / v1) (T % v1):=by
  have h1:=h.hv1;have h2:=h.hv1';have hm:T % v1<v1:=Nat.mod_lt _ (by omega);have hd:=Nat.div_add_mod T v1;refine ⟨by rw [Nat.mul_comm];exact hd,?_,by omega⟩;have e:(T / v1+1) * Y=(v1* (T / v1)+v1) * 4294967296+(T / v1+1) * v0:=by rw [h.hy];grind
  have:=h.hu;omega
theorem HfI.step {T u Y v1 v0 t r:Nat} (hc:HfC T u Y v1 v0) (h:HfI T u Y v1 t r) (ht:4294967296<=t∨r* 4294967296+u<t* v0):0<t/\(t-1) * v1+(r+v1)=T/\T* 4294967296+u<(t-1+1) * Y:=by
  have h1:=Zkl (B:=4294967296) (T:=T) (u2:=u) (v1:=v1) (v2:=v0) h.top (by
    rw [<-hc.hy];have:=hc.hlt;have:4294967296* (T+1)<=4294967296* Y:=Nat.mul_le_mul_left _ hc.hlt;have:=hc.hu;omega) ht
  rw [<-hc.hy] at h1;exact h1
theorem HfC.done {T u Y v1 v0 t r:Nat} (hc:HfC T u Y v1 v0) (top:t* v1+r=T) (ge:T* 4294967296+u<(t+1) * Y) (he:4294967296<=r∨t* v0<=r* 4294967296+u):t=(T* 4294967296+u) / Y/\t* Y<=T* 4294967296+u/\t<4294967296:=by
  have hlt:=hc.hlt;have hy:=hc.hy;have hv0:=hc.hv0;have htB:4294967296<=r->t<=4294967296:=fun hr=>by
    rcases Nat.lt_or_ge 4294967296 t with h|h
    ·have:4294967297* v1<=t* v1:=Nat.mul_le_mul_right _ h;omega
    ·exact h
  have h1:=Zkk (B:=4294967296) (T:=T) (u2:=u) (v1:=v1) (v2:=v0) top (by rw [<-hy];exact ge) hv0 (by
    rcases he with he|he
    ·exact .inl ⟨he,htB he⟩
    ·exact .inr he)
  rw [<-hy] at h1;refine ⟨h1.1,h1.2,?_⟩;rw [h1.1];apply Nat.div_lt_of_lt_mul;have:=hc.hu;have:4294967296* (T+1)<=4294967296* Y:=Nat.mul_le_mul_left _ hlt;rw [Nat.mul_comm Y];omega
theorem Zko {x y S Y q1 q0 T u1 u0 R1:Nat} (hS:0<S) (hy:0<y) (hY:Y=y* S) (hx:x* S=(T* 4294967296+u1) * 4294967296+u0) (h1:q1=(T* 4294967296+u1) / Y) (hR:R1=T* 4294967296+u1-q1* Y) (h0:q0=(R1* 4294967296+u0) / Y):
    q1* 4294967296+q0=x / y/\(R1* 4294967296+u0-q0* Y) / S=x % y:=by
 have hYp:0<Y:=by rw [hY];exact Nat.mul_pos hy hS
 have e1:q1* Y+R1=T* 4294967296+u1:=by
   have:=Nat.div_mul_le_self (T* 4294967296+u1) Y;rw [<-h1] at this;omega
 have e2:=Nat.div_mul_le_self (R1* 4294967296+u0) Y;have e3:=Nat.mod_add_div (R1* 4294967296+u0) Y;have e4:(R1* 4294967296+u0) % Y<Y:=Nat.mod_lt _ hYp;rw [<-h0] at e2 e3;obtain ⟨R2,hR2⟩: ∃R2,R1* 4294967296+u0-q0* Y=R2:=⟨_,rfl⟩;rw [hR2];rw [Nat.mul_comm Y] at e3;have e5:R2<Y:=by omega
 have e6:x* S=(q1* 4294967296+q0) * Y+R2:=by
   rw [hx,<-e1];have:R1* 4294967296+u0=q0* Y+R2:=by omega
   grind
 rw [hY] at e5 e6;have e7:S ∣ R2:=by
  refine (Nat.dvd_add_right (show S ∣ (q1* 4294967296+q0) * (y* S) from ⟨(q1* 4294967296+q0) * y,by rw [<-Nat.mul_assoc,Nat.mul_comm S]⟩)).1 ?_;rw [<-e6];exact ⟨x,Nat.mul_comm _ _⟩
 obtain ⟨r,rfl⟩:=e7;rw [Nat.mul_div_cancel_left _ hS];have e8:r<y:=by
   rw [Nat.mul_comm S] at e5;exact Nat.lt_of_mul_lt_mul_right e5
 have e9:x=(q1* 4294967296+q0) * y+r:=by
   apply Nat.eq_of_mul_eq_mul_right hS;rw [e6];grind
 obtain ⟨q,hq⟩: ∃q,q1* 4294967296+q0=q:=⟨_,rfl⟩;rw [hq] at e9 ⊢;rw [e9,Nat.mul_comm q,Nat.mul_add_div hy,Nat.mul_add_mod,Nat.div_eq_of_lt e8,Nat.mod_eq_of_lt e8];exact ⟨by omega,by trivial⟩
end Go.Proofs.YtijajkfmlghgkaaGreatDoor
namespace Go.Proofs.YtijajkfmlghgkaaGreatDoor.Nu
open Go Go.Proofs Go.RowKit Go.Proofs.YtijajkfmlghgkaaGreatDoor
theorem Zra (y:Nat) (h0:0<y) (h1:y<2^64): ∃s:Nat,s<=63/\2^63<=y* 2^s/\y* 2^s<2^64/\∀w:World,Calls Tryz.prog 324 #[.int .u64 (y:Int)] w fun e w'=>e= .returned (.int .i64 (s:Int))/\w=w':=by
  obtain ⟨b1,b2,b3⟩:=Lib.bitLenAux_bounds 64 y h1 (by omega);have hb:Lib.bitLen y=Lib.bitLenAux 64 y:=rfl;rw [<-hb] at b1 b2 b3;generalize hB:Lib.bitLen y=b at *;have hb64:b<=64:=by
    rcases Nat.lt_or_ge 64 b with h|h
    ·have:2^64<=2^ (b-1):=Nat.pow_le_pow_right (by decide) (by omega);omega
    ·exact h
  have e1:2^ (b-1) * 2^ (64-b)=2^63:=by rw [<-Nat.pow_add,show b-1+(64-b)=63 by omega]
  have e2:2^b* 2^ (64-b)=2^64:=by rw [<-Nat.pow_add,show b+(64-b)=64 by omega]
  refine ⟨64-b,by omega,?_,?_,fun w=> ?_⟩
  ·rw [<-e1];exact Nat.mul_le_mul_right _ b2
  ·rw [<-e2];exact Nat.mul_lt_mul_of_pos_right b3 (Nat.pow_pos (by decide))
  ·refine (Tryz.bits_LeadingZeros64 (y:Int) w (by omega) (by omega)).mono ?_;rintro e w' ⟨rfl,rfl⟩;rw [Int.toNat_natCast,hB];exact ⟨by congr 2;omega,rfl⟩
theorem Zh5 (a b:Nat) (ha:a<2^64) (hb:b<2^64):bits .and .u64 (a:Int) (b:Int)=((a &&& b:Nat):Int)/\bits .or .u64 (a:Int) (b:Int)=((a ||| b:Nat):Int):=
  bits_nat .u64 64 (by decide) (fun n h0 h1=>wraps_u64 n h0 h1) a b ha hb
theorem Zkp (a:Nat) (ha:a<2^64):bits .and .u64 (a:Int) 4294967295=((a % 4294967296:Nat):Int):=by
  have h:=(Zh5 a 4294967295 ha (by decide)).1;rw [show (4294967295:Nat)=2^32-1 from rfl,Nat.and_two_pow_sub_one_eq_mod] at h;exact h
theorem Zps (s a b:Nat) (ha:a<2^64) (hb:b<2^s) (hs:s<=64) (hd:2^s ∣ a):bits .or .u64 (a:Int) (b:Int)=((a+b:Nat):Int):=by
  have hb':b<2^64:=Nat.lt_of_lt_of_le hb (Nat.pow_le_pow_right (by decide) hs);rw [(Zh5 a b ha hb').2];obtain ⟨k,rfl⟩:=hd;rw [Nat.two_pow_add_eq_or_of_lt hb]
theorem Zer (n:Int):IntKind.u64.wrap n=n % 18446744073709551616:=IntKind.wrap_u64 n
theorem Zkq {T u Y q R1:Nat} (hY:Y<2^64) (hq:q* Y<=T* 4294967296+u) (hR:R1=T* 4294967296+u-q* Y) (hR1:R1<Y): ∃A1 A2 A3:Int,IntKind.u64.wrap ((T:Int) * 4294967296)=A1/\IntKind.u64.wrap (A1+(u:Int))=A2/\IntKind.u64.wrap ((q:Int) * (Y:Int))=A3/\IntKind.u64.wrap (A2-A3)=(R1:Int):=by
  refine ⟨_,_,_,rfl,rfl,rfl,?_⟩;rw [show (q:Int) * (Y:Int)=((q* Y:Nat):Int) by simp];generalize q* Y=P at *;rw [Zer,Zer,Zer,Zer];omega
theorem Zfc {T v1:Nat} (h1:0<v1) (hT:T<2^64): ∃t0 p0 r0:Nat,IntKind.u64.wrap ((T:Int) / (v1:Int))=(t0:Int)/\IntKind.u64.wrap ((t0:Int) * (v1:Int))=(p0:Int)/\IntKind.u64.wrap ((T:Int)-(p0:Int))=(r0:Int)/\t0=T / v1/\r0=T % v1:=by
  have hd:=Nat.div_add_mod T v1;have hl:=Nat.div_le_self T v1;have e:(T:Int) / (v1:Int)=((T / v1:Nat):Int):=(Int.natCast_ediv T v1).symm;refine ⟨T / v1,T / v1* v1,T % v1,?_,?_,?_,rfl,rfl⟩
  ·rw [e];generalize T / v1=d at *;rw [IntWalk.u64_in _ (by omega)]
  ·clear e;generalize T / v1=d at *;generalize T % v1=r at *;rw [Nat.mul_comm v1 d] at hd;rw [show (d:Int) * (v1:Int)=((d* v1:Nat):Int) by simp];generalize d* v1=P at *;rw [IntWalk.u64_in _ (by omega)]
  ·clear e;generalize T / v1=d at *;generalize T % v1=r at *;rw [Nat.mul_comm v1 d] at hd;generalize d* v1=P at *;rw [IntWalk.u64_in _ (by omega)];omega
theorem Zju {t v0 r u:Nat} (ht:t<4294967296) (hv:v0<4294967296) (hr:r<4294967296) (hu:u<4294967296): ∃P A C:Int,IntKind.u64.wrap ((t:Int) * (v0:Int))=P/\IntKind.u64.wrap (4294967296* (r:Int))=A/\IntKind.u64.wrap (A+(u:Int))=C/\decide (C<P)=decide (r* 4294967296+u<t* v0):=by
  refine ⟨_,_,_,rfl,rfl,rfl,?_⟩;have:t* v0<=4294967295* 4294967295:=Nat.mul_le_mul (by omega) (by omega);rw [show (t:Int) * (v0:Int)=((t* v0:Nat):Int) by simp];generalize t* v0=P at *;rw [Zer,Zer,Zer]
  congr 1
  apply propext;omega
def HfD (T u Y q:Nat):Prop:=q=(T* 4294967296+u) / Y/\q* Y<=T* 4294967296+u/\q<4294967296
def HfT (t v0 r u:Nat) (b:Bool):Prop:=∃P A C:Int,IntKind.u64.wrap ((t:Int) * (v0:Int))=P/\IntKind.u64.wrap (4294967296* (r:Int))=A/\IntKind.u64.wrap (A+(u:Int))=C/\decide (C<P)=b
def HfN (T u Y v1 t r:Nat):Prop:=∃tq rq:Nat,IntKind.u64.wrap ((t:Int)-1)=(tq:Int)/\IntKind.u64.wrap ((r:Int)+(v1:Int))=(rq:Int)/\((decide ((4294967296:Int)<=(rq:Int))=true/\HfD T u Y tq)∨(decide ((4294967296:Int)<=(rq:Int))=false/\HfI T u Y v1 tq rq/\tq<t))
theorem Zha {T u Y v1 v0 t r:Nat} (hc:HfC T u Y v1 v0) (h:HfI T u Y v1 t r) (hY:Y<2^64) (ht:4294967296<=t∨r* 4294967296+u<t* v0):HfN T u Y v1 t r:=by
  obtain ⟨h1,h2,h3⟩:=h.step hc ht;have hr:=h.rB;have hv:=hc.hv1';have hv1:=hc.hv1;have htop:=h.top;have htl:t<=T:=by
    have:t* 1<=t* v1:=Nat.mul_le_mul_left _ (by omega);omega
  have hT:=hc.hlt;refine ⟨t-1,r+v1,?_,?_,?_⟩
  ·rw [IntWalk.u64_in _ (by omega)];omega
  ·rw [IntWalk.u64_in _ (by omega)];omega
  ·rcases Nat.lt_or_ge (r+v1) 4294967296 with h4|h4
   ·exact .inr ⟨Zf (by omega),⟨h2,h3,h4⟩,by omega⟩
   ·exact .inl ⟨Zt (by omega),hc.done h2 h3 (.inl h4)⟩
theorem Zhb {T u Y v1 v0 t r:Nat} (hc:HfC T u Y v1 v0) (h:HfI T u Y v1 t r) (hY:Y<2^64):
    (decide ((4294967296:Int)<=(t:Int))=false/\HfT t v0 r u false/\HfD T u Y t)∨(decide ((4294967296:Int)<=(t:Int))=true/\HfN T u Y v1 t r)∨(decide ((4294967296:Int)<=(t:Int))=false/\HfT t v0 r u true/\HfN T u Y v1 t r):=by
 rcases Nat.lt_or_ge t 4294967296 with h1|h1
 ·obtain ⟨P,A,C,q1,q2,q3,q4⟩:=Zju h1 hc.hv0 h.rB hc.hu
  rcases Nat.lt_or_ge (r* 4294967296+u) (t* v0) with h2|h2
  ·exact .inr (.inr ⟨Zf (by omega),⟨P,A,C,q1,q2,q3,q4.trans (Zt h2)⟩,Zha hc h hY (.inr h2)⟩)
  ·exact .inl ⟨Zf (by omega),⟨P,A,C,q1,q2,q3,q4.trans (Zf (by omega))⟩,hc.done h.top h.ge (.inr h2)⟩
 ·exact .inr (.inl ⟨Zt (by omega),Zha hc h hY (.inl h1)⟩)
theorem Zjv {q1 q0 Q:Nat} (h1:q1<4294967296) (h2:q0<4294967296) (hQ:q1* 4294967296+q0=Q): ∃B1:Int,IntKind.u64.wrap ((q1:Int) * 4294967296)=B1/\IntKind.u64.wrap (B1+(q0:Int))=(Q:Int):=by
  refine ⟨_,rfl,?_⟩;rw [Zer,Zer];omega
theorem Zhc {T u Y v1 v0 q:Nat} (hc:HfC T u Y v1 v0) (hY:Y<2^64) (h:HfD T u Y q): ∃R1:Nat,R1=T* 4294967296+u-q* Y/\R1<Y/\∃A1 A2 A3:Int,IntKind.u64.wrap ((T:Int) * 4294967296)=A1/\IntKind.u64.wrap (A1+(u:Int))=A2/\IntKind.u64.wrap ((q:Int) * (Y:Int))=A3/\IntKind.u64.wrap (A2-A3)=(R1:Int):=by
  obtain ⟨h1,h2,h3⟩:=h;have hYp:0<Y:=by have:=hc.hlt;omega
  have hm:T* 4294967296+u-q* Y<Y:=by
    have h4:=Nat.div_add_mod (T* 4294967296+u) Y;have h5:=Nat.mod_lt (T* 4294967296+u) hYp;rw [<-h1,Nat.mul_comm Y] at h4;omega
  exact ⟨_,rfl,hm,Zkq hY h2 rfl hm⟩
theorem Zo2 (w:World) (hi lo y:Nat) (h1:hi<y) (h2:lo<18446744073709551616) (h3:y<18446744073709551616):Calls Tryz.prog 322 #[.int .u64 (hi:Int),.int .u64 (lo:Int),.int .u64 (y:Int)] w (Ret (.tuple #[.int .u64 (((hi* 18446744073709551616+lo) / y:Nat):Int),.int .u64 (((hi* 18446744073709551616+lo) % y:Nat):Int)]) w):=by
  obtain ⟨Q,hQ⟩: ∃Q,(hi* 18446744073709551616+lo) / y=Q:=⟨_,rfl⟩;obtain ⟨R,hR⟩: ∃Q,(hi* 18446744073709551616+lo) % y=Q:=⟨_,rfl⟩;rw [hQ,hR];have k1:((y:Int)==0)=false:=beq_eq_false_iff_ne.2 (by omega);have k2:decide ((y:Int)<=(hi:Int))=false:=Zf (by omega);have k2':decide (y<=hi)=false:=Zf (by omega)
  by_cases hh:hi=0
  ·subst hh;have hQ':(lo:Int) / (y:Int)=(Q:Int):=by rw [<-hQ];simp
   have hR':(lo:Int) % (y:Int)=(R:Int):=by rw [<-hR];simp
   have hQ2:(lo:Int).tdiv (y:Int)=(Q:Int):=by rw [<-hQ',Int.tdiv_eq_ediv_of_nonneg (by omega)]
   have hR2:(lo:Int).tmod (y:Int)=(R:Int):=by rw [<-hR',Int.tmod_eq_emod_of_nonneg (by omega)]
   have hQw:IntKind.u64.wrap (Q:Int)=Q:=IntWalk.u64_in _ (by
     have:Q<=lo:=by rw [<-hQ];simp;exact Nat.div_le_self _ _
     omega)
   clear hQ hR;go_enter Tryz.func322,Tryz.ntmps322;go_wp2_with fail
   go_quiet (fail)
   go_wp2_with fail;refine bodyPost_ret (v:= .tuple #[.int .u64 (Q:Int),.int .u64 (R:Int)]) (by simp [results,Tryz.results322,go_sem, *]) rfl ?_;exact ⟨rfl,below_drewN (Below.refl _ _) _⟩
  have k3:((hi:Int)==0)=false:=beq_eq_false_iff_ne.2 (by omega);obtain ⟨s,hs,hs1,hs2,hlz⟩:=Zra y (by omega) h3;have k4:IntKind.u64.wrap (s:Int)=s:=IntWalk.u64_in _ (by omega);have k5:IntKind.u64.wrap (64-(s:Int))=((64-s:Nat):Int):=by rw [IntWalk.u64_in _ (by omega)];omega
  have HLZ:=Zh hlz;obtain ⟨S,hS⟩: ∃S,2^s=S:=⟨_,rfl⟩;obtain ⟨K,hK⟩: ∃K,2^ (64-s)=K:=⟨_,rfl⟩;have hSK:S* K=18446744073709551616:=by rw [<-hS,<-hK,<-Nat.pow_add,show s+(64-s)=64 by omega]
  have hSp:0<S:=by rw [<-hS];exact Nat.pow_pos (by decide)
  have hKp:0<K:=by rw [<-hK];exact Nat.pow_pos (by decide)
  rw [hS] at hs1 hs2;obtain ⟨Y,hY⟩: ∃Y,y* S=Y:=⟨_,rfl⟩;rw [hY] at hs1 hs2;have hH:hi* S<Y:=by rw [<-hY];exact Nat.mul_lt_mul_of_pos_right h1 hSp
  have hHS:hi* S+S<=Y:=by rw [<-hY,<-Nat.succ_mul];exact Nat.mul_le_mul_right _ h1
  have hL:lo / K<S:=Nat.div_lt_of_lt_mul (by rw [Nat.mul_comm,hSK];exact h2);have hlo:lo* S=lo / K* 18446744073709551616+lo % K* S:=by
    have:=Nat.div_add_mod lo K;rw [<-hSK]
    calc lo* S=(K* (lo / K)+lo % K) * S:=by rw [this]
      _=lo / K* (S* K)+lo % K* S:=by grind
  have hlK:lo % K* S<18446744073709551616:=by
    rw [<-hSK,Nat.mul_comm S K];exact Nat.mul_lt_mul_of_pos_right (Nat.mod_lt _ hKp) hSp
  obtain ⟨L,hLe⟩: ∃L,lo / K=L:=⟨_,rfl⟩;obtain ⟨U,hU⟩: ∃U,lo % K* S=U:=⟨_,rfl⟩;rw [hLe] at hL hlo;rw [hU] at hlo hlK;obtain ⟨H,hHe⟩: ∃H,hi* S=H:=⟨_,rfl⟩;have hdvd:2^s ∣ H:=by rw [hS,<-hHe];exact ⟨hi,Nat.mul_comm _ _⟩
  rw [hHe] at hH hHS;have e1:IntKind.u64.wrap ((y:Int) * 2^s)=(Y:Int):=by
   rw [show (y:Int) * 2^s=((y* 2^s:Nat):Int) by simp,hS,hY,IntWalk.u64_in _ (by omega)]
  have e2:(Y:Int) / 4294967296=((Y / 4294967296:Nat):Int):=by omega
  have e3:=Zkp Y (by omega);have e4:IntKind.u64.wrap ((hi:Int) * 2^s)=(H:Int):=by
    rw [show (hi:Int) * 2^s=((hi* 2^s:Nat):Int) by simp,hS,hHe,IntWalk.u64_in _ (by omega)]
  have e5:(lo:Int) / 2^ (64-s)=(L:Int):=by
    rw [show (2:Int)^ (64-s)=((2^ (64-s):Nat):Int) by simp,hK,<-hLe];exact (Int.natCast_ediv lo K).symm
  have e6:bits .or .u64 (H:Int) (L:Int)=((H+L:Nat):Int):=Zps s H L (by omega) (by rw [hS];exact hL) (by omega) hdvd;have e7:IntKind.u64.wrap ((lo:Int) * 2^s)=(U:Int):=by
    rw [show (lo:Int) * 2^s=((lo* 2^s:Nat):Int) by simp,hS,hlo,Zer];omega
  have e8:(U:Int) / 4294967296=((U / 4294967296:Nat):Int):=by omega
  have e9:=Zkp U (by omega);have HX:=Zh (show (hi* 18446744073709551616+lo) * S=(((H+L) * 4294967296+U / 4294967296) * 4294967296+U % 4294967296) by
    rw [Nat.add_mul,hlo,show hi* 18446744073709551616* S=H* 18446744073709551616 by rw [<-hHe];grind];omega)
  obtain ⟨T,hT⟩: ∃T,H+L=T:=⟨_,rfl⟩;obtain ⟨v1,hv1⟩: ∃v,Y / 4294967296=v:=⟨_,rfl⟩;obtain ⟨v0,hv0⟩: ∃v,Y % 4294967296=v:=⟨_,rfl⟩;obtain ⟨u1,hu1⟩: ∃v,U / 4294967296=v:=⟨_,rfl⟩;obtain ⟨u0,hu0⟩: ∃v,U % 4294967296=v:=⟨_,rfl⟩;rw [hT] at e6 HX;rw [hv1] at e2;rw [hv0] at e3;rw [hu1] at e8 HX;rw [hu0] at e9 HX;have HC1:=Zh (show HfC T u1 Y v1 v0 from ⟨by omega,by omega,by omega,by omega,by omega,by omega⟩);have HSS:=Zh hSp;have HYS:=Zh hY;have HQ:=Zh hQ;have HRR:=Zh hR;have HYB:=Zh (show 2^63<=Y/\Y<2^64 from ⟨hs1,hs2⟩);have HU0:=Zh (show u0<4294967296/\u1<4294967296/\T<Y by omega);have hv1p:1<=v1:=by omega
  have hTB:T<18446744073709551616:=by omega
  have kv1:((v1:Int)==0)=false:=beq_eq_false_iff_ne.2 (by omega);have kv2: ¬v1=0:=by omega
  obtain ⟨t0,p0,r0,e10,e11,e12,ht0,hr0⟩:=Zfc (T:=T) (v1:=v1) (by omega) (by omega);have hST:=HC1.start;rw [<-ht0,<-hr0] at hST;have HST:=Zh hST;have HV1:=Zh (show 0<v1/\v0<4294967296 by omega);have HS2:=Zh hS;have HY0:=Zh (show 0<y by omega);clear hST ht0 hr0 hv1p hTB hlz h1 hh h2 h3 hQ hR hs1 hs2 hSK hSp hKp hH hHS hL hlo hlK hLe hU hHe hdvd hT hv1 hv0 hu1 hu0 hY hK hS;go_enter Tryz.func322,Tryz.ntmps322;go_wp2_with (go_at_call 324;refine (HLZ.out _).mono ?_;rintro e w' ⟨rfl,rfl⟩)
  go_loop [15,16] (fun t r=> ∃tn rn:Nat,t= .int .u64 (tn:Int)/\r= .int .u64 (rn:Int)/\HfI T u1 Y v1 tn rn) (fun t _=>(intOf t).toNat)
  case atStart=>exact ⟨_,_,rfl,rfl,HST.out⟩
  case round=>
    obtain ⟨t,r,rfl,rfl,hin⟩:=hrel;have HIN:=Zh hin;have HRB:=Zh hin.rB;have hway:=Zhb HC1.out hin HYB.out.2;clear hin e1 e2 e3 e4 e5 e6 e7 e8 e9 e10 e11 e12 k1 k2 k2' k3 k4 k5 HST HRB HIN
    rcases hway with ⟨d1,⟨P,A,C,q1,q2,q3,q4⟩,hd⟩|⟨d1,tq,rq,q5,q6,⟨q7,hd⟩|⟨q7,hi2,q8⟩⟩|⟨d1,⟨P,A,C,q1,q2,q3,q4⟩,tq,rq,q5,q6,⟨q7,hd⟩|⟨q7,hi2,q8⟩⟩
    rotate_left 2
    ·have HI2:=Zh hi2;have HQ8:=Zh q8;clear hi2 q8;go_wp2_with fail
     go_round
     case rel=>exact ⟨tq,rq,rfl,rfl,HI2.out⟩
     case measure=>have:=HQ8.out;simp [intOf];omega
    rotate_left 1
    ·have HI2:=Zh hi2;have HQ8:=Zh q8;clear hi2 q8;go_wp2_with fail
     go_round
     case rel=>exact ⟨tq,rq,rfl,rfl,HI2.out⟩
     case measure=>have:=HQ8.out;simp [intOf];omega
    case' inl=>obtain ⟨tq,rfl⟩: ∃q,q=t:=⟨_,rfl⟩
    all_goals
      obtain ⟨R1,hR1,hR1Y,A1,A2,A3,f1,f2,f3,f4⟩:=Zhc HC1.out HYB.out.2 hd;obtain ⟨t1,p1,r1,g1,g2,g3,ht1,hr1⟩:=Zfc (T:=R1) (v1:=v1) HV1.out.1 (by have:=HYB.out;omega);have hC2:HfC R1 u0 Y v1 v0:=⟨HC1.hy,HC1.hv0,HC1.hv1,HC1.hv1',hR1Y,HU0.out.1⟩;have hst2:=hC2.start;rw [<-ht1,<-hr1] at hst2;have HST2:=Zh hst2;have HC2:=Zh hC2;have HD1:=Zh hd;have HR1:=Zh hR1;clear hst2 hC2 hd hR1 hR1Y ht1 hr1;go_wp2_with fail
      go_loop [18,16] (fun t r=> ∃tn rn:Nat,t= .int .u64 (tn:Int)/\r= .int .u64 (rn:Int)/\HfI R1 u0 Y v1 tn rn) (fun t _=>(intOf t).toNat)
      case atStart=>exact ⟨_,_,rfl,rfl,HST2.out⟩
      case round=>
        clear f1 f2 f3 f4 g1 g2 g3 HST2 d1
        try clear q1 q2 q3 q4
        try clear q5 q6 q7
        obtain ⟨aq,haq⟩: ∃q,q=tq:=⟨_,rfl⟩;subst haq;obtain ⟨t,r,rfl,rfl,hin⟩:=hrel;have hway:=Zhb HC2.out hin HYB.out.2;clear hin
        rcases hway with ⟨d1,⟨P,A,C,q1,q2,q3,q4⟩,hd⟩|⟨d1,tq,rq,q5,q6,⟨q7,hd⟩|⟨q7,hi2,q8⟩⟩|⟨d1,⟨P,A,C,q1,q2,q3,q4⟩,tq,rq,q5,q6,⟨q7,hd⟩|⟨q7,hi2,q8⟩⟩
        rotate_left 2
        ·have HI2:=Zh hi2;have HQ8:=Zh q8;clear hi2 q8;go_wp2_with fail
         go_round
         case rel=>exact ⟨tq,rq,rfl,rfl,HI2.out⟩
         case measure=>have:=HQ8.out;simp [intOf];omega
        rotate_left 1
        ·have HI2:=Zh hi2;have HQ8:=Zh q8;clear hi2 q8;go_wp2_with fail
         go_round
         case rel=>exact ⟨tq,rq,rfl,rfl,HI2.out⟩
         case measure=>have:=HQ8.out;simp [intOf];omega
        case' inl=>obtain ⟨tq,rfl⟩: ∃q,q=t:=⟨_,rfl⟩
        all_goals
          obtain ⟨R2,hR2,hR2Y,A1,A2,A3,f1,f2,f3,f4⟩:=Zhc HC2.out HYB.out.2 hd;obtain ⟨hfq,hfr⟩:=Zko HSS.out HY0.out HYS.symm HX.out HD1.out.1 HR1.out hd.1;rw [<-hR2] at hfr;obtain ⟨B1,b1,b2⟩:=Zjv HD1.out.2.2 hd.2.2 hfq;have b3:(R2:Int) / 2^s=(R:Int):=by
            rw [show (2:Int)^s=((2^s:Nat):Int) by simp,HS2.out,show (R2:Int) / (S:Int)=((R2 / S:Nat):Int) from (Int.natCast_ediv R2 S).symm,hfr,HRR.out]
          rw [HQ.out] at b2;clear hR2 hR2Y hfq hfr hd;go_wp2_with fail;refine bodyPost_ret (v:= .tuple #[.int .u64 (Q:Int),.int .u64 (R:Int)]) (by simp [results,Tryz.results322,go_sem, *]) rfl ?_;exact ⟨rfl,Below.refl _ _⟩
theorem Zfd (s a b:Nat) (ha:a<2^64) (hb:b<2^s) (hs:s<=64) (hd:2^s ∣ a):bits .or .u64 (b:Int) (a:Int)=((b+a:Nat):Int):=by
  have hb':b<2^64:=Nat.lt_of_lt_of_le hb (Nat.pow_le_pow_right (by decide) hs);rw [(Zh5 b a hb' ha).2,Nat.or_comm];obtain ⟨k,rfl⟩:=hd;rw [Nat.add_comm b,Nat.two_pow_add_eq_or_of_lt hb]
def RetO (w:World) (m:Nat) (k:Nat) (e:Ending) (w':World):Prop:=∃g L,e= .returned (.slice (some ⟨g,0,none⟩) k k)/\Own encW 1 345 w' w.heap.size (.slice (some ⟨g,0,none⟩) k k) L/\L.length=k/\Dg (2^64) L/\val (2^64) L=m/\Below w.heap.size w w'
theorem Zkr (d:List Nat) (n k c y:Nat) (hd:d.length=k) (hn:k<=n):(d++c::List.replicate (n-k) 0).set k y=d++y::List.replicate (n-k) 0:=by
  subst hd;rw [List.set_append_right _ _ (Nat.le_refl _),Nat.sub_self];rfl
theorem Zjw (d:List Nat) (n k y z:Nat) (hd:d.length=k) (hn:k<n):(d++y::List.replicate (n-k) 0).set (k+1) z=(d++ [y])++z::List.replicate (n-(k+1)) 0:=by
  subst hd;obtain ⟨m,hm⟩: ∃m,n-d.length=m+1:=⟨n-d.length-1,by omega⟩;rw [hm,List.set_append_right _ _ (by omega),show n-(d.length+1)=m by omega,show d.length+1-d.length=1 by omega,List.replicate_succ,List.append_assoc];rfl
theorem Zir (w:World) (a1:Option Addr) (n1 c1:Nat) (lx:List Nat) (m1 s:Nat) (h1:WlR w (.slice a1 n1 c1) lx m1) (hb1:lx.length<=10000000) (hs:s<=63):
    Calls Tryz.prog 325 #[.slice a1 n1 c1,.int .i64 (s:Int)] w (RetO w (2^s* m1) (n1+1)):=by
 obtain ⟨⟨a1',c1',e,hl1,hl1',hA1⟩,hd1,ht1,hv1⟩:=h1;injection e with e1 e2 e3
 subst e1 e2 e3;have HAX:=Zh hA1;have HDX:=Zh hd1;obtain ⟨S,hS⟩: ∃S,2^s=S:=⟨_,rfl⟩;obtain ⟨K,hK⟩: ∃K,2^ (64-s)=K:=⟨_,rfl⟩;have hSK:2^64=S* K:=by rw [<-hS,<-hK,<-Nat.pow_add,show s+(64-s)=64 by omega]
 have hSp:0<S:=by rw [<-hS];exact Nat.pow_pos (by decide)
 have HSK:=Zh hSK;have HSP:=Zh hSp;have HS:=Zh hS;have HK:=Zh hK;rw [hS];have HVX:=Zh (show S* val (2^64) lx=S* m1 by rw [hv1]);have HQ:Hid (∀e w',RetO w (S* m1) (lx.length+1) e w'↔∃g L,e= .returned (.slice (some ⟨g,0,none⟩) (lx.length+1) (lx.length+1))/\Own encW 1 345 w' w.heap.size (.slice (some ⟨g,0,none⟩) (lx.length+1) (lx.length+1)) L/\L.length=lx.length+1/\Dg (2^64) L/\val (2^64) L=S* m1/\Below w.heap.size w w'):=Zh (fun _ _=>Iff.rfl);obtain ⟨Q,hQ⟩: ∃Q,RetO w (S* m1) (lx.length+1)=Q:=⟨_,rfl⟩;rw [hQ] at HQ ⊢;obtain ⟨X,hN⟩: ∃N,lx.length=N:=⟨_,rfl⟩;have HNX:=Zh hN;rw [hN] at hb1 hl1' HQ ⊢;have HINFO:=Zh Zea;have k1:IntKind.i64.wrap ((X:Int)+1)=((X+1:Nat):Int):=by rw [IntWalk.i64_in _ (by omega)];omega
 have k2:IntKind.i64.wrap (64-(s:Int))=((64-s:Nat):Int):=by rw [IntWalk.i64_in _ (by omega)];omega
 clear hA1 hN hQ hS hK hSK hSp hv1 hd1 ht1 hl1;go_enter Tryz.func325,Tryz.ntmps325;go_wp2_with (at_make;refine mk1 encW 0 (.int .u64 0) rfl 131 345 8 Tryz.underlying131 HINFO.out rfl (by decide) w.heap.size w (X+1) (by omega) (Nat.le_refl _) rfl _ _ rfl .i64 .i64 rfl rfl ?_;intro w3 ho3 hg3);have HB3:=Zh (Zbk hg3);have HO3:=Zh ho3;clear ho3 hg3
 go_loopw [14] (fun i wr=> ∃ (k c:Nat) (d:List Nat),k<=X/\i= .int .i64 k/\ShI (2^64) S lx d c k/\Below w.heap.size w wr/\Own encW 1 345 wr w.heap.size (.slice (some ⟨w.heap.size,0,none⟩) (X+1) (X+1)) (d++c::List.replicate (X-k) 0)) (fun i _=>X-(intOf i).toNat)
 case atStart=>exact ⟨0,0,[],Nat.zero_le _,rfl,ShI.start HSP.out _,HB3.out,by simpa [List.replicate_succ] using HO3.out⟩
 case round=>
   obtain ⟨k,c,d,hk,rfl,hai,hbe,hown⟩:=hrel;have HAI:=Zh hai;have HB:=Zh hbe;have HO:=Zh hown;have hdl:=hai.len;have HLL:=Zh (show (d++c::List.replicate (X-k) 0).length=X+1 by simp;omega);clear hai hown hbe
   by_cases hkX:k<X
   ·have d2:decide ((k:Int)<(X:Int))=true:=Zt (by omega);have d2':decide (k<X)=true:=Zt (by omega);have hkx:k<lx.length:=by rw [HNX.out];exact hkX
    obtain ⟨b1,o1,rfl,hbb1,hcells1⟩:=HAX.out (by omega);have g1:=((hcells1 k hkx).below HB.out hbb1).c1;rw [Nat.mul_one] at g1;have hz1:b1<wr.heap.size:=by have:=HB.size;omega
    have hz2:w.heap.size<wr.heap.size:=Zaz HO.out;have hfz:=Own.frozenN HO.out HLL.out k;have hck:(d++c::List.replicate (X-k) 0)[k]?=some c:=by rw [<-hdl];simp
    obtain ⟨hq1,hq2⟩:=List.getElem?_eq_some_iff.1 hck;have g0:=Zam HO.out HLL.out Zae k hq1 (.int .u64 (c:Int)) (by rw [hq2];rfl);clear hck hq1 hq2;obtain ⟨hc1,hc2,hst⟩:=HAI.step (K:=K) HSK.out HDX.out hkx;have HST:=Zh hst;have HCS:=Zh HAI.carry;have hxB:=HDX.get k hkx;have k3:IntKind.i64.wrap ((k:Int)+1)=((k+1:Nat):Int):=by rw [IntWalk.i64_in _ (by omega)];omega
    clear hcells1 hst;generalize lx[k]=x at *;have k4:IntKind.u64.wrap ((x:Int) * 2^s)=((x* S % 2^64:Nat):Int):=by
      rw [show (x:Int) * 2^s=((x* 2^s:Nat):Int) by simp,HS.out,Zer];omega
    have k5:bits .or .u64 (c:Int) ((x* S % 2^64:Nat):Int)=((c+x* S % 2^64:Nat):Int):=
      Zfd s (x* S % 2^64) c (Nat.mod_lt _ (by decide)) (by rw [HS.out];exact HCS.out) (by omega) (by
        rw [HS.out,Nat.mul_comm x S,HSK.out,Nat.mul_mod_mul_left];exact ⟨_,rfl⟩)
    have k6:(x:Int) / 2^ (64-s)=((x / K:Nat):Int):=by
      rw [show (2:Int)^ (64-s)=((2^ (64-s):Nat):Int) by simp,HK.out];exact (Int.natCast_ediv x K).symm
    obtain ⟨y,hy⟩: ∃y,c+x* S % 2^64=y:=⟨_,rfl⟩;obtain ⟨xs,hxs⟩: ∃y,x* S % 2^64=y:=⟨_,rfl⟩;rw [hy] at HST hc1 k5;rw [hxs] at k4 k5;have HXK:=Zh (show s=0->x / K=0 from fun h=>by
      have:K=2^64:=by rw [<-HK.out,h]
      rw [this];exact Nat.div_eq_of_lt hxB)
    obtain ⟨z,hz⟩: ∃y,x / K=y:=⟨_,rfl⟩;rw [hz] at HST hc2 k6 HXK;have hkX1:k<X+1:=by omega
    have HY:=Zh hy;clear hy hxs hz hxB hc1 hc2;go_wp2_with fail;refine Za1 9 (by kernel_rfl) (by kernel_rfl) ?_;simp only [Z2,Z6,Z3,Z7]
    repeat go_big_quiet_step (fail)
    refine wpQuiet_nil ?_;rintro _ ⟨nq,rfl⟩;have HOU:=Zh (HO.drewN nq);have HBU:=Zh (below_drewN HB.out nq);generalize wr.drewN nq=U at *;clear g0 g1 hz1 hz2 hfz;have hz2:w.heap.size<U.heap.size:=Zaz HOU.out;have hfz:=Own.frozenN HOU.out HLL.out k;have hck:(d++c::List.replicate (X-k) 0)[k]?=some c:=by rw [<-hdl];simp
    obtain ⟨hq1,hq2⟩:=List.getElem?_eq_some_iff.1 hck;have g0:=Zam HOU.out HLL.out Zae k hq1 (.int .u64 (c:Int)) (by rw [hq2];rfl);have hnew:=Zaq HOU.out HLL.out Zae k (by omega) y (.int .u64 (y:Int)) rfl;rw [Zkr d X k c y hdl hk] at hnew;have HNEW:=Zh hnew;clear hck hq1 hq2 hnew
    by_cases hs0:s=0
    ·have hz0:=HXK.out hs0;subst hz0;have d3:decide ((0:Int)<(s:Int))=false:=Zf (by omega);have d3':decide (0<s)=false:=Zf (by omega);clear hs0;go_wp2_with fail;go_roundw
     case rel=>
       refine ⟨k+1,0,d++ [y],by omega,by go_num,HST.out,HBU.setCell (Nat.le_refl _) _,?_⟩;have h:=HNEW.out;obtain ⟨m,hm⟩: ∃m,X-k=m+1:=⟨X-k-1,by omega⟩;rw [hm,List.replicate_succ] at h;rw [show X-(k+1)=m by omega,List.append_assoc];exact h
     case measure=>simp [intOf];omega
    ·have d3:decide ((0:Int)<(s:Int))=true:=Zt (by omega);have d3':decide (0<s)=true:=Zt (by omega);have HLL2:=Zh (show (d++y::List.replicate (X-k) 0).length=X+1 by have:=HLL.out;simpa using this);have hz3:w.heap.size<(U.setCell ⟨w.heap.size,k,none⟩ (.int .u64 (y:Int))).heap.size:=Zaz HNEW.out;have hfz2:=Own.frozenN HNEW.out HLL2.out (k+1);have hck:(d++y::List.replicate (X-k) 0)[k+1]?=some 0:=by
       obtain ⟨m,hm⟩: ∃m,X-k=m+1:=⟨X-k-1,by omega⟩;rw [hm,<-hdl];simp
     obtain ⟨hq1,hq2⟩:=List.getElem?_eq_some_iff.1 hck;have g2:=Zam HNEW.out HLL2.out Zae (k+1) hq1 (.int .u64 0) (by rw [hq2];rfl);have hnew2:=Zaq HNEW.out HLL2.out Zae (k+1) (by omega) z (.int .u64 (z:Int)) rfl;rw [Zjw d X k y z hdl hkX] at hnew2;have HNEW2:=Zh hnew2;have hkX2:k+1<X+1:=by omega
     clear hs0 hck hq1 hq2 hnew2;go_wp2_with fail;go_roundw
     case rel=>exact ⟨k+1,z,d++ [y],by omega,by go_num,HST.out,(HBU.setCell (Nat.le_refl _) _).setCell (Nat.le_refl _) _,HNEW2.out⟩
     case measure=>simp [intOf];omega
   ·obtain rfl:X=k:=by omega
    have HVL:=Zh (show val (2^64) (d++c::List.replicate (X-X) 0)=S* m1 by
      rw [Nat.sub_self,List.replicate_zero,Zcj,Zbr,hdl];have h1:=HAI.eq;rw [List.take_of_length_le (by rw [HNX.out];exact Nat.le_refl _),HVX.out] at h1;exact h1)
    have HDG:=Zh (show Dg (2^64) (d++c::List.replicate (X-X) 0) by
      rw [Nat.sub_self,List.replicate_zero];refine HAI.dg.app (Dg.one ?_);have h1:=HAI.carry;have h2:S* 1<=S* K:=Nat.mul_le_mul_left _ (by
       rcases Nat.eq_zero_or_pos K with h0|h0
       ·have:=HSK.out;rw [h0] at this;cases this
       ·exact h0)
      have h3:=HSK.out;omega)
    go_wp2_with fail;exact (HQ.out _ _).2 ⟨_,_,rfl,HO.out,HLL.out,HDG.out,HVL.out,HB.out⟩
theorem Zbh {α:Type} (l:List α) (k i:Nat) (y:α):(l.set (k+i) y).drop k=(l.drop k).set i y:=by
  rw [List.drop_set,if_neg (by omega),Nat.add_sub_cancel_left]
theorem Zb7 {α:Type} (l:List α) (k i:Nat) (y:α):(l.set (k+i) y).take k=l.take k:=List.take_set_of_le (by omega)
structure GuD (W0 v:List Nat) (t:Nat):Prop where
  ge:val (2^64) W0<(t+1) * val (2^64) v
  le:t* val (2^64) v<=val (2^64) W0+val (2^64) v
  lt:t<2^64
structure GuT (W0 v:List Nat) (un u1 v1 t r o:Nat):Prop where
  g:Gue (2^64) W0 v un u1 v1 t (r+2^64* o)
  o1:o<=1
  rB:r<2^64
  tB:t<2^64
def GuN (W0 v:List Nat) (un u1 v1 t r:Nat):Prop:=∃tq r2 o2:Nat,IntKind.u64.wrap ((t:Int)-1)=(tq:Int)/\
  (∀w:World,(callFunc 342 #[.int .u64 (r:Int),.int .u64 (v1:Int),.int .u64 0]).run Tryz.prog w= .ok (.value (.tuple #[.int .u64 (r2:Int),.int .u64 (o2:Int)])) w)/\GuT W0 v un u1 v1 tq r2 o2/\tq<t
structure WinN (W0 v:List Nat) (n un u1 u2 v1 v2:Nat):Prop where
  win:Win (2^64) W0 v
  hn:v.length=n
  hun:W0[v.length]'win.len=un
  hu1:W0[v.length-1]'(by have:=win.len;omega)=u1
  hu2:W0[v.length-2]'(by have:=win.len;omega)=u2
  hv1:v[v.length-1]'(by have:=win.two;omega)=v1
  hv2:v[v.length-2]'(by have:=win.two;omega)=v2
theorem Zga (x y:Nat) (w:World):(callFunc 342 #[.int .u64 (x:Int),.int .u64 (y:Int),.int .u64 0]).run Tryz.prog w=
      .ok (.value (.tuple #[.int .u64 (((x+y) % 18446744073709551616:Nat):Int),.int .u64 (((x+y) / 18446744073709551616:Nat):Int)])) w:=Zf6 x y 0 (by omega) w
theorem Zm7 {W0 v:List Nat} {n un u1 u2 v1 v2 t r:Nat} (hw:WinN W0 v n un u1 u2 v1 v2) (h:GuT W0 v un u1 v1 t r 0) (hc:r* 2^64+u2<t* v2):GuN W0 v un u1 v1 t r:=by
  obtain ⟨win,hn,hun,hu1,hu2,hv1,hv2⟩:=hw;obtain ⟨g,o1,rB,tB⟩:=h;have hv1B:=win.dv.get (v.length-1) (by have:=win.two;omega);rw [Nat.mul_zero,Nat.add_zero,<-hun,<-hu1,<-hv1] at g;obtain ⟨h1,h2⟩:=g.step win (.inr (by rw [hu2,hv2];exact hc));rw [hun,hu1,hv1] at h2;rw [hv1] at hv1B;refine ⟨t-1,_,_,?_,fun w=>Zga r v1 w,⟨?_,by omega,by omega,by omega⟩,by omega⟩
  ·rw [IntWalk.u64_in _ (by omega)];omega
  ·have e:(r+v1) % 18446744073709551616+2^64* ((r+v1) / 18446744073709551616)=r+v1:=by omega
   rw [e];exact h2
theorem Zis {W0 v:List Nat} {n un u1 u2 v1 v2 t r o:Nat} (hw:WinN W0 v n un u1 u2 v1 v2) (h:GuT W0 v un u1 v1 t r o) (hc:o=1∨(o=0/\t* v2<=r* 2^64+u2)):GuD W0 v t:=by
  obtain ⟨win,hn,hun,hu1,hu2,hv1,hv2⟩:=hw;obtain ⟨g,o1,rB,tB⟩:=h;rw [<-hun,<-hu1,<-hv1] at g;refine ⟨g.ge,g.done win (by omega) ?_,tB⟩
  rcases hc with rfl|⟨rfl,hc⟩
  ·exact .inl (by omega)
  ·right;rw [hu2,hv2];omega
theorem Zm8 {W0 v:List Nat} {n un u1 u2 v1 v2 t r o:Nat} (hw:WinN W0 v n un u1 u2 v1 v2) (h:GuT W0 v un u1 v1 t r o) (hu2:u2<2^64) (hv2:v2<2^64):
    (((o:Int)==0)=false/\GuD W0 v t)∨(o=0/\∃hi lo:Nat,(∀w:World,Calls Tryz.prog 297 #[.int .u64 (t:Int),.int .u64 (v2:Int)] w fun e w'=>e= .returned (.tuple #[.int .u64 (hi:Int),.int .u64 (lo:Int)])/\w'=w)/\
      ((decide (hi<r)=true/\GuD W0 v t)∨(decide (hi<r)=false/\hi=r/\decide (lo<=u2)=true/\GuD W0 v t)∨
       (decide (hi<r)=false/\((hi:Int)==(r:Int))=false/\GuN W0 v un u1 v1 t r)∨(decide (hi<r)=false/\hi=r/\decide (lo<=u2)=false/\GuN W0 v un u1 v1 t r))):=by
 have ho:=h.o1
 rcases (show o=1∨o=0 by omega) with rfl|rfl
 ·exact .inl ⟨rfl,Zis hw h (.inl rfl)⟩
 ·refine .inr ⟨rfl,_,_,fun w=>Tryz.bits_Mul64 t v2 h.tB hv2 w,?_⟩;have hN:=fun hc=>Zm7 hw h hc;have hD:=fun hc=>Zis hw h (.inr ⟨rfl,hc⟩);generalize t* v2=p at *
  rcases Nat.lt_trichotomy (p / 18446744073709551616) r with h1|h1|h1
  ·exact .inl ⟨Zt h1,hD (by omega)⟩
  ·rcases Nat.lt_or_ge u2 (p % 18446744073709551616) with h2|h2
   ·exact .inr (.inr (.inr ⟨Zf (by omega),h1,Zf (by omega),hN (by omega)⟩))
   ·exact .inr (.inl ⟨Zf (by omega),h1,Zt h2,hD (by omega)⟩)
  ·exact .inr (.inr (.inl ⟨Zf (by omega),beq_eq_false_iff_ne.2 (by omega),hN (by omega)⟩))
theorem Zks {W0 v:List Nat} {n un u1 u2 v1 v2:Nat} (hw:WinN W0 v n un u1 u2 v1 v2) (hlt:un<v1) (hu1:u1<2^64) (hv1:v1<2^64):GuT W0 v un u1 v1 ((un* 18446744073709551616+u1) / v1) ((un* 18446744073709551616+u1) % v1) 0:=by
  have hm:(un* 18446744073709551616+u1) % v1<v1:=Nat.mod_lt _ (by omega);have ht:(un* 18446744073709551616+u1) / v1<2^64:=by
    apply Nat.div_lt_of_lt_mul;have:(un+1) * 2^64<=v1* 2^64:=Nat.mul_le_mul_right _ hlt;omega
  have hd:=Nat.div_add_mod (un* 18446744073709551616+u1) v1;obtain ⟨win,hn,hun,hu1',hu2,hv1',hv2⟩:=hw;generalize (un* 18446744073709551616+u1) / v1=t at *;generalize (un* 18446744073709551616+u1) % v1=r at *;rw [Nat.mul_comm v1 t] at hd;refine ⟨?_,by omega,by omega,ht⟩;have g:=Gue.start win (t:=t) (r:=r) (by rw [hv1',hun,hu1'];omega) (by rw [hv1'];exact hm);rw [hun,hu1',hv1'] at g;rw [Nat.mul_zero,Nat.add_zero];exact g
theorem Zhd {W0 v:List Nat} {n un u1 u2 v1 v2:Nat} (hw:WinN W0 v n un u1 u2 v1 v2) (hge:v1<=un) (hu1:u1<2^64) (hv1:v1<2^64): ∃r o:Nat,(∀w:World,(callFunc 342 #[.int .u64 (u1:Int),.int .u64 (v1:Int),.int .u64 0]).run Tryz.prog w= .ok (.value (.tuple #[.int .u64 (r:Int),.int .u64 (o:Int)])) w)/\GuT W0 v un u1 v1 18446744073709551615 r o:=by
  obtain ⟨win,hn,hun,hu1',hu2,hv1',hv2⟩:=hw;have hle:=win.un_le;rw [hun,hv1'] at hle;obtain rfl:un=v1:=by omega
  refine ⟨_,_,fun w=>Zga u1 un w,⟨Gue.startMax win (by decide) ?_,by omega,by omega,by decide⟩⟩;have e:(u1+un) % 18446744073709551616+2^64* ((u1+un) / 18446744073709551616)=u1+un:=by omega
  rw [e];omega
end Go.Proofs.YtijajkfmlghgkaaGreatDoor.Nu
