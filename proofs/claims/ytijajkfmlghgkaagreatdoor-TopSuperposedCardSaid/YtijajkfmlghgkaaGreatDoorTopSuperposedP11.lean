/- Lemmas on the way to the law TopSuperposed: Tl Hb Hc Hd He Hf Hg Hh Hi Ka -/
import Derived.Test.YtijajkfmlghgkaaGreatDoorTopSuperposedP10
import Derived.RegionTactic
import Derived.BigRegion
set_option linter.unusedVariables false
set_option linter.unusedSimpArgs false
set_option maxRecDepth 100000
set_option maxHeartbeats 4000000
namespace Go.Proofs.YtijajkfmlghgkaaGreatDoor.Nu
open Go Go.Proofs Go.RowKit Go.Proofs.YtijajkfmlghgkaaGreatDoor
theorem Zly {z:Int} {k:Nat} (hk:0<k) (h:Zb k z):(txz z).size<=k+1:=by rw [Zck];exact Zd0 hk h.lt
theorem Zn0 {q:Rat} (e:q.den≠1):txz q.num++⟨#[47]⟩++txz (q.den:Int)=txq q:=by
  unfold txz txq ratL;rw [if_neg e,Zaz (Int.natCast_nonneg _),Int.toNat_natCast];rw [show (⟨#[47]⟩:ByteArray)=tx [47] from rfl,Zcv,Zcv];simp
theorem Zlz {q:Rat} (e:q.den=1):txz q.num=txq q:=by
  unfold txz txq ratL;rw [if_pos e,List.append_nil]
theorem Zqq (w:World) (hw:TbR w) (v:Value) (q:Rat) (h:FrR w v q) (hq:Dn 1000 q):Calls Tryz.prog 118 #[v] w (Ret (.string (txq q)) w):=by
  have HIW:=Zh (fun (u:World) (hb:Below w.heap.size w u)=>Zfs u v q (h.later hb));have HSN:=Zh (fun (u:World) (hb:Below w.heap.size w u) (v:Value) (h:IntR u v q.num)=>Zfw u (hw.later hb) v _ h (hq.zn.mono (by decide)));have HSD:=Zh (fun (u:World) (hb:Below w.heap.size w u) (v:Value) (h:IntR u v (q.den:Int))=>Zfw u (hw.later hb) v _ h (hq.zd.mono (by decide)));have HTW:=Zh (fun (e:q.den=1)=>Zlz e);have HTF:=Zh (fun (e:q.den≠1)=>Zn0 e);have HZ1:=Zh (Zly (by decide) hq.zn);have HZ2:=Zh (Zly (by decide) hq.zd);obtain ⟨s1,a1,n1,c1,t1,b1,m1,d1,rfl,h11,h12⟩:=h;have HI1:=Zh (fun (u:World) (hb:Below w.heap.size w u)=>h11.later hb);have HI2:=Zh (fun (u:World) (hb:Below w.heap.size w u)=>h12.later hb);obtain ⟨N,hN⟩: ∃N,txz q.num=N:=⟨_,rfl⟩;obtain ⟨M,hM⟩: ∃N,txz (q.den:Int)=N:=⟨_,rfl⟩;obtain ⟨X,hX⟩: ∃N,txq q=N:=⟨_,rfl⟩;rw [hN] at HSN HTW HTF HZ1;rw [hM] at HSD HTF HZ2;rw [hX] at HTW HTF ⊢;clear hN hM hX hw hq h11 h12;have HB:=Zh ((Below.refl w.heap.size w).alloc (Nat.le_refl _) (.cells #[.int .i64 s1,.slice a1 n1 c1,.int .i64 t1,.slice b1 m1 d1] 135));have HX:=Zh (Box.new w #[.int .i64 s1,.slice a1 n1 c1,.int .i64 t1,.slice b1 m1 d1] 135);obtain ⟨x0,x1,x2,x3,xf,xz⟩:=HX.w4
  by_cases hd:q.den=1
  ·rw [Zt hd] at HIW;have HE:=Zh (HTW.out hd);clear hd HTW HTF;go_enter Tryz.func118,Tryz.ntmps118;go_wp2_with fail;refine (HIW.out _ HB.out).mono ?_;rintro e3 w3 ⟨rfl,hb⟩;replace HB:=Zh (HB.Zg hb);replace HX:=Zh (HX.later hb);clear hb x0 x1 x2 x3 xf xz;obtain ⟨x0,x1,x2,x3,xf,xz⟩:=HX.w4;go_wp2_with fail;refine (HSN.out _ HB.out _ (HI1.out _ HB.out)).mono ?_;rintro e4 w4 ⟨rfl,hb⟩;replace HB:=Zh (HB.Zg hb);clear hb;go_wp2_with fail;go_ret;exact ⟨by rw [HE.out];rfl,HB.out⟩
  ·rw [Zf hd] at HIW;have hE:=HTF.out hd;obtain ⟨Y,hY⟩: ∃N',N++⟨#[47]⟩=N':=⟨_,rfl⟩;rw [hY] at hE;have hz1:=HZ1.out;have hz2:=HZ2.out;have hz3:Y.size<=1002:=by rw [<-hY,ByteArray.size_append];show N.size+1<=_;omega
   have hz4:(⟨#[47]⟩:ByteArray).size=1:=rfl;clear hd HTW HTF;go_enter Tryz.func118,Tryz.ntmps118;go_wp2_with fail;refine (HIW.out _ HB.out).mono ?_;rintro e3 w3 ⟨rfl,hb⟩;replace HB:=Zh (HB.Zg hb);replace HX:=Zh (HX.later hb);clear hb x0 x1 x2 x3 xf xz;obtain ⟨x0,x1,x2,x3,xf,xz⟩:=HX.w4;go_wp2_with fail;refine Zao 8 (fun j=>false) (kxs [.is (.pointer (some ⟨w.heap.size,0,none⟩)),.int q.num,.is (.string N),.is (.string Y),.is (.pointer (some ⟨w.heap.size,2,none⟩)),.int (q.den:Int),.is (.string M),.is (.string X)]) (by kernel_rfl) (by kernel_rfl) (fun j v u u' h hb=>Kx.later h hb) ?_ ?_
   ·refine ⟨?_,?_,?_,?_,?_,?_,?_,?_,trivial⟩
    all_goals
      first|intro vs u hu hR|intro vs u hR
      simp only [Zac,Z2,Z6,Act.put,Z1,Z4,Z5]
    rotate_left;have e0:vs 0=_:=Zr hR 0;obtain ⟨x0,x1,x2,x3,xf,xz⟩:=(HX.later hu).w4;have HI:=Zh (HI1.out u (HB.Zg hu));rotate_left;have k1:IntR u (vs 1) _:=Zr hR 1;have HS:=Zh (HSN.out u (HB.Zg hu) _ k1);clear k1;rotate_left;have e2:vs 2=_:=Zr hR 2;rotate_left;rotate_left;have e4:vs 4=_:=Zr hR 4;obtain ⟨x0,x1,x2,x3,xf,xz⟩:=(HX.later hu).w4;have HI:=Zh (HI2.out u (HB.Zg hu));rotate_left;have k5:IntR u (vs 5) _:=Zr hR 5;have HS:=Zh (HSD.out u (HB.Zg hu) _ k5);clear k5;rotate_left;have e3:vs 3=_:=Zr hR 3;have e6:vs 6=_:=Zr hR 6;rotate_left
    all_goals
      clear hR
      try clear hu
      go_wp2_with fail
      first|exact ⟨rfl,rfl,_,_,rfl,rfl,Below.refl _ _,rfl,fun h=>absurd h (by decide)⟩|exact ⟨rfl,rfl,_,_,rfl,rfl,Below.refl _ _,HI.out,fun h=>absurd h (by decide)⟩|(refine HS.mono ?_;rintro e11 w11 ⟨rfl,hb⟩;go_wp2_with fail;exact ⟨rfl,rfl,_,_,rfl,rfl,hb,rfl,fun h=>absurd h (by decide)⟩)
   ·intro vs u hu hR hsep;have e7:vs 7=_:=hR 7 (by decide);simp only [Zac,Z3,Z7,Z2,Z6,Act.put,Z1,Z4,Z5,e7];have HBu:=Zh (HB.Zg hu);clear hR hu hsep e7;go_wp2_with fail;go_ret;exact ⟨rfl,HBu.out⟩
theorem Zl0 (w:World) (hw:TbR w) (v:Value) (z:Int) (h:IntR w v z) (hz:Zb 600 z):Calls Tryz.prog 225 #[v] w (Ret (.bool false) w):=by
  have HBI:=Zh (fun (u:World) (hb:Below w.heap.size w u)=>Zp9 u v z (h.later hb) (hz.wdsN (by decide)));have HST:=Zh (fun (u:World) (hb:Below w.heap.size w u)=>Zfw u (hw.later hb) v z (h.later hb) (hz.mono (by decide)));have HTP:=Zh (fun (w1:World)=>(by
    have h:=Tryz.strings_TrimPrefix (txz z) ⟨#[45]⟩ w1;rw [Zfd,show (⟨#[45]⟩:ByteArray).data.toList=[45] from rfl,Zcq] at h;exact h.mono (fun e w' h=>⟨h.1,h.2.symm⟩):Calls Tryz.prog 188 #[.string (txz z),.string ⟨#[45]⟩] w1 fun e w'=>e= .returned (.string (tx (Lib.decDigits z.natAbs)))/\w1=w'))
  have hsz:(tx (Lib.decDigits z.natAbs)).size<=600:=by rw [Zag];exact Zdl (by decide) hz
  obtain ⟨s1,a1,n1,c1,rfl,_,_,_,_⟩:=h.form;generalize txz z=X at *;generalize tx (Lib.decDigits z.natAbs)=D at *;generalize Zlf z.natAbs=n at *;clear hw hz h;have HB:=Zh ((Below.refl w.heap.size w).alloc (Nat.le_refl _) (.cells #[.int .i64 s1,.slice a1 n1 c1] 133));have HX:=Zh (Box.new w #[.int .i64 s1,.slice a1 n1 c1] 133);obtain ⟨x0,x1,xf,xz⟩:=HX.v2;have d3:decide (600<D.size)=false:=Zf (by omega);have d4:decide ((600:Int)<(D.size:Int))=false:=Zf (by omega);go_enter Tryz.func225,Tryz.ntmps225;go_wp2_with fail;refine (HBI.out _ HB.out).mono ?_;rintro e3 w3 ⟨rfl,hb⟩;replace HB:=Zh (HB.Zg hb);replace HX:=Zh (HX.later hb);clear hb x0 x1 xf xz;obtain ⟨x0,x1,xf,xz⟩:=HX.v2
  by_cases hn:1800<n
  ·have d1:decide (1800<n)=true:=Zt hn;have d2:decide ((1800:Int)<(n:Int))=true:=Zt (by omega);go_wp2_with fail;refine (HST.out _ HB.out).mono ?_;rintro e4 w4 ⟨rfl,hb⟩;replace HB:=Zh (HB.Zg hb);clear hb;go_wp2_with fail;refine (HTP.out _).mono ?_;rintro e5 w5 ⟨rfl,rfl⟩;go_wp2_with fail;go_ret;exact ⟨rfl,HB.out⟩
  ·have d1:decide (1800<n)=false:=Zf hn;have d2:decide ((1800:Int)<(n:Int))=false:=Zf (by omega);go_wp2_with fail;go_ret;exact ⟨rfl,HB.out⟩
theorem Zn1 (w:World) (hw:TbR w) (v:Value) (q:Rat) (h:FrR w v q) (hq:Dn 600 q):Calls Tryz.prog 152 #[v] w (Ret (.bool false) w):=by
  obtain ⟨s1,a1,n1,c1,t1,b1,m1,d1,rfl,h11,h12⟩:=h;have HL1:=Zh (fun (u:World) (hb:Below w.heap.size w u)=>Zl0 u (hw.later hb) _ _ (h11.later hb) hq.zn);have HL2:=Zh (fun (u:World) (hb:Below w.heap.size w u)=>Zl0 u (hw.later hb) _ _ (h12.later hb) hq.zd);clear hw hq h11 h12;have HB:=Zh ((Below.refl w.heap.size w).alloc (Nat.le_refl _) (.cells #[.int .i64 s1,.slice a1 n1 c1,.int .i64 t1,.slice b1 m1 d1] 135));have HX:=Zh (Box.new w #[.int .i64 s1,.slice a1 n1 c1,.int .i64 t1,.slice b1 m1 d1] 135);obtain ⟨x0,x1,x2,x3,xf,xz⟩:=HX.w4;go_enter Tryz.func152,Tryz.ntmps152;go_wp2_with fail;refine (HL1.out _ HB.out).mono ?_;rintro e3 w3 ⟨rfl,hb⟩;replace HB:=Zh (HB.Zg hb);replace HX:=Zh (HX.later hb);clear hb x0 x1 x2 x3 xf xz;obtain ⟨x0,x1,x2,x3,xf,xz⟩:=HX.w4;go_wp2_with fail;refine (HL2.out _ HB.out).mono ?_;rintro e4 w4 ⟨rfl,hb⟩;replace HB:=Zh (HB.Zg hb);clear hb;go_wp2_with fail;go_ret;exact ⟨rfl,HB.out⟩
theorem Zpl (w:World) (n:Nat) (hl:(Lib.decDigits n).length<1000000):Calls Tryz.prog 189 #[.string (tx (Lib.decDigits n))] w (Ret (.bool true) w):=by
  have HT:=Zh (fun (w1:World)=>Zlm w1 _ (Zee n) (by omega) (Zbw n));have hlt:0<(Lib.decDigits n).length:=Zbr n;have hi: ∀ (w:World),(Instr.index 9 (.string (tx (Lib.decDigits n))) (.int .i64 0)).run Tryz.prog w= .ok (.int .u8 ((Lib.decDigits n)[0].toNat:Int)) w:=fun w=>Zby (P:=Tryz.prog) (t:=9) Tryz.underlying9 _ 0 hlt w;have hway:(((tx (Lib.decDigits n)).toList==[48])=true)∨(((tx (Lib.decDigits n)).toList==[48])=false/\(((Lib.decDigits n)[0].toNat:Int)==48)=false):=by
    rw [Zeh]
    by_cases h:n=0
    ·subst h;exact .inl (Zt Zbx)
    ·refine .inr ⟨Zf fun e=>h (Zdy (by rw [e,Zbx])),beq_eq_false_iff_ne.2 fun e=> ?_⟩;have h1:=Zjc (n:=n) (by omega);rw [List.head?_eq_getElem?,List.getElem?_eq_getElem hlt] at h1;exact h1 (congrArg some (UInt8.toNat_inj.1 (by rw [show (48:UInt8).toNat=48 from rfl];omega)))
  generalize ((Lib.decDigits n)[0].toNat:Int)=c at *;have hsz:(tx (Lib.decDigits n)).size=(Lib.decDigits n).length:=Zag _;generalize tx (Lib.decDigits n)=X at *;generalize (Lib.decDigits n).length=m at *
  rcases hway with d0|⟨d0,d1⟩
  ·clear hi;go_enter Tryz.func189,Tryz.ntmps189;go_wp2_with fail;refine (HT.out _).mono ?_;rintro e4 w4 ⟨rfl,hb⟩;have HB:=Zh hb;clear hb;go_wp2_with fail;go_ret;exact ⟨rfl,HB.out⟩
  ·have d2:(c !=48)=true:=by rw [bne,d1];rfl
   go_enter Tryz.func189,Tryz.ntmps189;go_wp2_with fail;refine (HT.out _).mono ?_;rintro e4 w4 ⟨rfl,hb⟩;have HB:=Zh hb;clear hb;go_wp2_with fail;go_ret;exact ⟨rfl,HB.out⟩
theorem Zn2 (w:World) (z:Int):Calls Tryz.prog 192 #[.agg #[.int .i64 z,.slice none 0 0]] w (Ret (.tuple #[.int .i64 z,.bool true]) w):=by
  have hq:=fun (w:World) (a:Option Addr) (n c:Nat)=>Lib.run_eql_slice_nil w 131 345 a n c 0 0 Tryz.underlying131;have HB:=Zh ((Below.refl w.heap.size w).alloc (Nat.le_refl _) (.cells #[.int .i64 z,.slice none 0 0] 133));have HX:=Zh (Box.new w #[.int .i64 z,.slice none 0 0] 133);obtain ⟨x0,x1,xf,xz⟩:=HX.v2;go_enter Tryz.func192,Tryz.ntmps192;go_wp2_with fail
  go_quiet (fail)
  go_wp2_with fail;refine bodyPost_ret (v:= .tuple #[.int .i64 z,.bool true]) (by simp [results,Tryz.results192,go_sem, *]) rfl ?_;exact ⟨rfl,below_drewN HB.out _⟩
theorem Zn3 (w:World) (hw:TbR w) (q:Rat) (hq:Dn 600 q):Calls Tryz.prog 109 #[.string (txq q)] w (Ret (.int .i64 0) w):=by
  have HC:=Zh (Zpj w hw q (hq.mono (by decide)));have HTP:=Zh (fun (w1:World)=>(by
    have h:=Tryz.strings_TrimPrefix (txz q.num) ⟨#[45]⟩ w1;rw [Zfd,show (⟨#[45]⟩:ByteArray).data.toList=[45] from rfl,Zcq] at h;exact h.mono (fun e w' h=>⟨h.1,h.2.symm⟩):Calls Tryz.prog 188 #[.string (txz q.num),.string ⟨#[45]⟩] w1 fun e w'=>e= .returned (.string (tx (Lib.decDigits q.num.natAbs)))/\w1=w'))
  have hl1:(Lib.decDigits q.num.natAbs).length<=600:=Zdl (by decide) hq.zn;have hl2:(Lib.decDigits q.den).length<=600:=by have:=Zdl (z:=(q.den:Int)) (by decide) hq.zd;rwa [Int.natAbs_natCast] at this
  have HP1:=Zh (fun (w1:World)=>Zpl w1 q.num.natAbs (by omega));have HP2:=Zh (fun (w1:World)=>Zpl w1 q.den (by omega));have d0:((txz q.num).toList==[45,48])=false:=by
    unfold txz;rw [Zeh];refine Zf fun e=> ?_
    by_cases h:q.num<0
    ·rw [Zbd h] at e;injection e with _ e
     have:q.num.natAbs=0:=Zdy (by rw [e,Zbx]);omega
    ·exact Zez (z:=q.num) (by omega) (by rw [e];rfl)
  have hsz:(tx (Lib.decDigits q.num.natAbs)).size<=600:=by rw [Zag];exact hl1
  have hsz2:(⟨#[]⟩:ByteArray).size=0:=rfl
  by_cases hd:q.den=1
  ·rw [if_pos hd,Zt hd] at HC;generalize tx (Lib.decDigits q.num.natAbs)=D at *;generalize txz q.num=N at *;generalize txq q=X at *;have d1:decide (600<D.size)=false:=Zf (by omega);have d2:decide ((600:Int)<(D.size:Int))=false:=Zf (by omega);clear hq hw hl1 hl2 hd HP2;go_enter Tryz.func109,Tryz.ntmps109;go_wp2_with fail;refine HC.mono ?_;rintro e3 w3 ⟨rfl,hb⟩;have HB:=Zh hb;clear hb;go_wp2_with fail;refine (HTP.out _).mono ?_;rintro e4 w4 ⟨rfl,rfl⟩;go_wp2_with fail;refine (HP1.out _).mono ?_;rintro e5 w5 ⟨rfl,hb⟩;replace HB:=Zh (HB.Zg hb);clear hb;go_wp2_with fail;go_ret;exact ⟨rfl,HB.out⟩
  ·rw [if_neg hd,Zf hd] at HC;have e2:txz (q.den:Int)=tx (Lib.decDigits q.den):=by unfold txz;rw [Zaz (Int.natCast_nonneg _),Int.toNat_natCast]
   have e1:txz ((q.num.natAbs:Nat):Int)=tx (Lib.decDigits q.num.natAbs):=by unfold txz;rw [Zaz (Int.natCast_nonneg _),Int.toNat_natCast]
   have hza:Zb 600 ((q.num.natAbs:Nat):Int):=⟨by rw [Int.natAbs_natCast];exact hq.zn.lt⟩;have HR1:=Zh (fun (u:World)=>(by rw [<-e1];exact Zgz u _ (hza.mono (by decide)):Calls Tryz.prog 191 #[.string (tx (Lib.decDigits q.num.natAbs))] u (RetI u ((q.num.natAbs:Nat):Int))));have HR2:=Zh (fun (u:World)=>(by rw [<-e2];exact Zgz u _ (hq.zd.mono (by decide)):Calls Tryz.prog 191 #[.string (tx (Lib.decDigits q.den))] u (RetI u (q.den:Int))));have HG:=Zh (fun (u:World) (v1 v2:Value) (h1:IntR u v1 ((q.num.natAbs:Nat):Int)) (h2:IntR u v2 (q.den:Int))=>(by
     have h:=Zrn u v1 v2 _ _ h1 h2 (hza.wdsN (by decide)) (hq.zd.wdsN (by decide));rw [Int.natAbs_natCast,Int.natAbs_natCast,show Nat.gcd q.num.natAbs q.den=1 from q.reduced] at h;exact h:Calls Tryz.prog 190 #[v1,v2] u (RetI u 1)))
   have d5:((tx (Lib.decDigits q.den)).toList==[48])=false:=by
     rw [Zeh];exact Zf fun e=>by have:q.den=0:=Zdy (by rw [e,Zbx]);exact q.den_nz this
   have d6:((tx (Lib.decDigits q.den)).toList==[49])=false:=by
     rw [Zeh];exact Zf fun e=>hd (Zdy (by rw [e];decide+kernel))
   have hszd:(tx (Lib.decDigits q.den)).size<=600:=by rw [Zag];exact hl2
   rw [e2] at HC;generalize tx (Lib.decDigits q.num.natAbs)=D at *;generalize tx (Lib.decDigits q.den)=E at *;generalize txz q.num=N at *;generalize txq q=X at *;have d1:decide (600<D.size)=false:=Zf (by omega);have d2:decide ((600:Int)<(D.size:Int))=false:=Zf (by omega);have d3:decide (600<E.size)=false:=Zf (by omega);have d4:decide ((600:Int)<(E.size:Int))=false:=Zf (by omega);clear hq hw hl1 hl2 hd e1 e2 hza;go_enter Tryz.func109,Tryz.ntmps109;go_wp2_with fail;refine HC.mono ?_;rintro e3 w3 ⟨rfl,hb⟩;have HB:=Zh hb;clear hb;go_wp2_with fail;refine (HTP.out _).mono ?_;rintro e4 w4 ⟨rfl,rfl⟩;go_wp2_with fail;refine (HP1.out _).mono ?_;rintro e5 w5 ⟨rfl,hb⟩;replace HB:=Zh (HB.Zg hb);clear hb;go_wp2_with fail;refine (HP2.out _).mono ?_;rintro e6 w6 ⟨rfl,hb⟩;replace HB:=Zh (HB.Zg hb);clear hb;go_wp2_with fail;refine (HR1.out _).mono ?_;rintro e7 w7 ⟨v7,rfl,hi7,hb⟩;replace HB:=Zh (HB.Zg hb);have HI7:=Zh hi7;clear hb hi7;go_wp2_with fail;refine (HR2.out _).mono ?_;rintro e8 w8 ⟨v8,rfl,hi8,hb⟩;replace HB:=Zh (HB.Zg hb);replace HI7:=Zh (HI7.later hb);have HI8:=Zh hi8;clear hb hi8;go_wp2_with fail;refine (HG.out _ _ _ HI7.out HI8.out).mono ?_;rintro e9 w9 ⟨v9,rfl,hi9,hb⟩;obtain rfl:=hi9.exact (by decide) (by decide);replace HB:=Zh (HB.Zg hb);clear hb hi9 HI7 HI8;go_wp2_with fail;refine (Zn2 _ 1).mono ?_;rintro e10 w10 ⟨rfl,hb⟩;replace HB:=Zh (HB.Zg hb);clear hb;go_wp2_with fail;go_ret;exact ⟨rfl,HB.out⟩
theorem Zl1: ∀ (k n:Nat),padL (k+1) n=UInt8.ofNat (48+n / 10^k % 10)::padL k n:=by
  intro k
  induction k with
  | zero=>intro n;simp [padL]
  | succ k ih=>
    intro n;rw [padL,ih (n / 10),Nat.div_div_eq_div_mul,show 10* 10^k=10^ (k+1) by rw [Nat.pow_succ,Nat.mul_comm]];rfl
theorem Zsc (d:Nat) (h:d<10):(⟨#[48,49,50,51,52,53,54,55,56,57]⟩:ByteArray).extract d (d+1)=tx [UInt8.ofNat (48+d)]:=by
  have: ∀d:Nat,d<10->((digT.take (d+1)).drop d)=[UInt8.ofNat (48+d)]:=by decide
  have h1:=Zaw digT d (d+1);rw [this d h] at h1;exact h1
theorem Zqr (c:UInt8) (l:List UInt8):tx [c]++tx l=tx (c::l):=Zcv [c] l
theorem Zhx (w:World) (n L:Nat) (hn:n<=9223372036854775807) (hL:0<L) (hL2:L<=100):Calls Tryz.prog 124 #[.int .i64 (n:Int),.int .i64 (L:Int)] w fun e w'=>e= .returned (.string (tx (Zeu L (Lib.decDigits n))))/\w=w':=by
  have HEN:=Zh (fun (k:Nat) (h1:n / 10^k=0) (h2:L<=k) (h3:k<=L∨10^ (k-1)<=n)=>(show padL k n=Zeu L (Lib.decDigits n) from
    Zno (by rcases Nat.lt_or_ge n (10^k) with h|h;exact h;have:=Nat.div_pos h (Nat.pow_pos (by decide));omega) h2 hL (by omega)))
  have HD:=Zh (fun (m:Nat)=>Zsc (m % 10) (Nat.mod_lt _ (by decide)));have HPH:=Zh (fun (k:Nat)=>Zl1 k n);have HDV:=Zh (fun (k:Nat)=>(show n / 10^k / 10=n / 10^ (k+1) by rw [Nat.div_div_eq_div_mul,Nat.pow_succ]));have HLE:=Zh (fun (k:Nat)=>Nat.div_le_self n (10^k));have HPW:=Zh (fun (k:Nat) (h:0<n / 10^k)=>(show 10^ (k+1-1)<=n by
    rw [Nat.add_sub_cancel]
    rcases Nat.lt_or_ge n (10^k) with h1|h1
    ·rw [Nat.div_eq_of_lt h1] at h;omega
    ·exact h1))
  have HTX:=Zh (fun (k:Nat)=>(show (tx (padL k n)).size=k by rw [Zag,Zfb]));obtain ⟨R,hR⟩: ∃R,Zeu L (Lib.decDigits n)=R:=⟨_,rfl⟩;rw [hR] at HEN ⊢;clear hR;go_enter Tryz.func124,Tryz.ntmps124;go_wp2_with fail
  go_loop [0,5] (fun i s=> ∃k:Nat,i= .int .i64 ((n / 10^k:Nat):Int)/\s= .string (tx (padL k n))/\(k<=L∨10^ (k-1)<=n)) (fun i s=>(intOf i).toNat+(L-slen s))
  case atStart=>exact ⟨0,by simp,rfl,.inl (by omega)⟩
  case round=>
    obtain ⟨k,rfl,rfl,hk⟩:=hrel;have hle:=HLE.out k;have HK:=Zh hk;have hk100:k<=100:=by
      rcases hk with h|h
      ·omega
      ·rcases Nat.lt_or_ge (k-1) 19 with h1|h1
       ·omega
       ·have h2:=Nat.pow_le_pow_right (show 0<10 by decide) h1;have h3:(10:Nat)^19=10000000000000000000:=by decide
        omega
    have hsz:=HTX.out k;have HX:=Zh (HEN.out k);have HS1:=Zh (HPH.out k);have HV1:=Zh (HDV.out k);have HW1:=Zh (HPW.out k);obtain ⟨m,hm⟩: ∃m,n / 10^k=m:=⟨_,rfl⟩;rw [hm] at hle HX HS1 HV1 HW1 ⊢;have HDG:=Zh (HD.out m);obtain ⟨S,hS⟩: ∃S,tx (padL k n)=S:=⟨_,rfl⟩;have HTC:=Zh (fun (c:UInt8)=>(by rw [<-hS];exact Zqr c _:tx [c]++S=tx (c::padL k n)));rw [hS] at hsz ⊢;have HSZ2:=Zh (HTX.out (k+1));have HSS:=Zh hS;clear hm hk hS;have km:(m:Int).tmod 10=((m % 10:Nat):Int):=by rw [Int.tmod_eq_emod_of_nonneg (by omega)];omega
    have kd:(m:Int).tdiv 10=((m / 10:Nat):Int):=by rw [Int.tdiv_eq_ediv_of_nonneg (by omega)];omega
    have hd10:m % 10<10:=Nat.mod_lt _ (by decide);have hmd:m / 10<=m:=Nat.div_le_self _ _;have hmd2:0<m->m / 10<m:=fun h=>Nat.div_lt_self h (by decide)
    by_cases hc:0<m∨k<L
    ·have HC:=Zh hc;have hway:(decide (0<m)=true)∨(decide (0<m)=false/\decide (k<L)=true):=by
       rcases Nat.eq_zero_or_pos m with h|h
       ·exact .inr ⟨Zf (by omega),Zt (by omega)⟩
       ·exact .inl (Zt h)
     generalize m % 10=d at *;generalize m / 10=v at *;have k1:IntKind.i64.wrap ((d:Int)+1)=((d+1:Nat):Int):=by rw [IntWalk.i64_in _ (by omega)];omega
     have HS2:=Zh (show padL (k+1) n=UInt8.ofNat (48+d)::padL k n from HS1.out);have hds:(⟨#[48,49,50,51,52,53,54,55,56,57]⟩:ByteArray).extract d (d+1)=tx [UInt8.ofNat (48+d)]:=HDG.out;generalize UInt8.ofNat (48+d)=c at *;have htc:=HTC.out c;have hsc:(tx [c]).size=1:=Zag _;obtain ⟨C,hC⟩: ∃C,tx [c]=C:=⟨_,rfl⟩;rw [hC] at hds htc hsc;obtain ⟨E,hE⟩: ∃E,tx (c::padL k n)=E:=⟨_,rfl⟩;rw [hE] at htc;have HE2:=Zh (show tx (padL (k+1) n)=E by rw [HS2.out,hE]);have hse:E.size=k+1:=by rw [<-HE2.out];exact HSZ2.out
     have HMD2:=Zh hmd2;clear hmd2 hc hC hE
     rcases hway with d0|⟨d0,d1⟩
     ·have h0:0<m:=of_decide_eq_true d0;go_wp2_with fail
      go_round
      case rel=>exact ⟨k+1,by rw [HV1.out],by rw [HE2.out],.inr (HW1.out h0)⟩
      case measure=>
        have:=HMD2.out h0;simp only [intOf,slen,Int.toNat_natCast];omega
     ·have h0:k<L:=of_decide_eq_true d1;have h1:=of_decide_eq_false d0;go_wp2_with fail
      go_round
      case rel=>exact ⟨k+1,by rw [HV1.out],by rw [HE2.out],.inl (by omega)⟩
      case measure=>
        simp only [intOf,slen,Int.toNat_natCast];omega
    ·have h0:m=0:=by omega
     subst h0;have HF:=Zh (show S=tx R by rw [<-HSS.out,HX.out rfl (by omega) HK.out]);have d1:decide (k<L)=false:=Zf (by omega);have d2:decide ((k:Int)<(L:Int))=false:=Zf (by omega);clear hc hmd2 hmd hd10 km kd;go_wp2_with fail;go_ret;exact ⟨by rw [<-HF.out];rfl,rfl⟩
def IgR (w:World) (v:Value) (z:Int):Prop:=∃ (a:Option Addr) (n c:Nat) (l:List Nat),v= .agg #[.bool (decide (z<0)),.slice a n c]/\Sc encD 1 w w.heap.size (.slice a n c) l/\n=l.length/\Dg 1000000000 l/\Tr l/\val 1000000000 l=z.natAbs
theorem IgR.later {w w':World} {v:Value} {z:Int} (h:IgR w v z) (hb:Below w.heap.size w w'):IgR w' v z:=by
  obtain ⟨a,n,c,l,h1,h2,h3⟩:=h;exact ⟨a,n,c,l,h1,h2.later hb,h3⟩
def RetG (w:World) (z:Int) (e:Ending) (w':World):Prop:=∃v,e= .returned v/\IgR w' v z/\Below w.heap.size w w'
theorem IgR.box {w:World} {v:Value} {z:Int} (h:IgR w v z) {k:Nat} {e:TypeId} {vs:List Value} (hB:Box w k e vs) (hv: ∀y,Value.int .i64 y∉vs) (j:Nat) (u:Value):IgR (w.setCell ⟨k,j,none⟩ u) v z:=by
  obtain ⟨a,n,c,l,h1,⟨a',c',e1,h2,h3,h4⟩,h5⟩:=h;refine ⟨a,n,c,l,h1,⟨a',c',e1,h2,h3,fun h0=> ?_⟩,h5⟩;obtain ⟨b,off,rfl,hb,hc⟩:=h4 h0;refine ⟨b,off,rfl,by simpa using hb,fun i hi=> ?_⟩;have hne:b≠k:=fun e=>by
    subst e;have h1:=(hc i hi).c1;rw [hB.cell] at h1;exact hv _ (List.mem_of_getElem? h1)
  intro q y hq;rw [World.cell?_setCell_other _ _ _ _ (by intro e;injection e with e1;exact absurd e1 (by omega))];exact hc i hi q y hq
theorem IgR.put {w:World} {v:Value} {z:Int} (h:IgR w v z) {k:Nat} {e:TypeId} {s:Bool} {a:Option Addr} {n c:Nat} (hB:Box w k e [.bool s,.slice a n c]) (s1:Bool) (v2:Value):IgR ((w.setCell ⟨k,0,none⟩ (.bool s1)).setCell ⟨k,1,none⟩ v2) v z:=
  (h.box hB (by simp) 0 _).box (hB.set 0 (.bool s1)) (by simp) 1 _
theorem Zd4 (w:World) (a:Option Addr) (n c:Nat) (l:List Nat) (h:Sc encD 1 w w.heap.size (.slice a n c) l):Calls Tryz.prog 213 #[.slice a n c] w fun e w'=>e= .returned (.slice a (Zbf l) c)/\w=w':=by
  obtain ⟨a',c',e,hl1,hl2,hA⟩:=h;injection e with e1 e2 e3
  subst e1 e2 e3;have HA:=Zh hA;obtain ⟨N,hN⟩: ∃N,l.length=N:=⟨_,rfl⟩;have HN:=Zh hN;rw [hN] at hl1 hl2 ⊢;have HEN:=Zh (fun (k:Nat) (hk:k<=l.length) (ht:Tr (l.take k)) (hz: ∀x∈l.drop k,x=0)=>(Zgq hk ht hz).symm);obtain ⟨T,hT⟩: ∃T,Zbf l=T:=⟨_,rfl⟩;rw [hT] at HEN ⊢;clear hA hN hT;go_enter Tryz.func213,Tryz.ntmps213;go_wp2_with fail
  go_loop [0] (fun i=> ∃k:Nat,k<=N/\i= .slice a k c/\∀x∈l.drop k,x=0) (fun i=>match i with | .slice _ k _=>k|_=>0)
  case atStart=>exact ⟨N,Nat.le_refl _,rfl,by rw [<-HN.out,List.drop_length];simp⟩
  case round=>
    obtain ⟨k,hk,rfl,hz⟩:=hrel;have HZ:=Zh hz;clear hz
    by_cases h0:k=0
    ·subst h0;have HT0:=Zh (HEN.out 0 (by omega) (by simp [Tr]) HZ.out);go_wp2_with fail;go_ret;exact ⟨by rw [HT0.out];rfl,rfl⟩
    ·obtain ⟨j,rfl⟩: ∃j,k=j+1:=⟨k-1,by omega⟩;have hj:j<l.length:=by rw [HN.out];omega
     obtain ⟨b,off,rfl,hbb,hcells⟩:=HA.out (by omega);have c0:=(hcells j hj).c1;rw [Nat.mul_one] at c0;have HD:=Zh (List.drop_eq_getElem_cons hj);have HT:=Zh (show∀hx:l[j]≠0,Tr (l.take (j+1)) from fun hx=>Tr.of_last (fun hn=>by
       rw [List.getElem_take];have e:(l.take (j+1)).length-1=j:=by rw [List.length_take];omega
       have e2:l[(l.take (j+1)).length-1]'(by omega)=l[j]:=by congr 1
       rw [e2];exact hx))
     clear hcells;generalize l[j]=x at *;have k1:IntKind.i64.wrap (((j+1:Nat):Int)-1)=(j:Int):=by rw [IntWalk.i64_in _ (by omega)];omega
     have k2:decide ((0:Int)<((j+1:Nat):Int))=true:=Zt (by omega);have k3:decide (((j+1:Nat):Int)<=(j:Int))=false:=Zf (by omega)
     by_cases hx:x=0
     ·subst hx;have HZ2:=Zh (show∀x∈l.drop j,x=0 by rw [HD.out];intro x hx;rcases List.mem_cons.1 hx with h|h;exact h;exact HZ.out x h);clear h0;go_wp2_with fail
      go_round
      case rel=>exact ⟨j,by omega,rfl,HZ2.out⟩
      case measure=>simp
     ·have k4:((x:Int)==0)=false:=beq_eq_false_iff_ne.2 (by omega);have HT0:=Zh (HEN.out (j+1) (by rw [HN.out];exact hk) (HT.out hx) HZ.out);clear hx h0;go_wp2_with fail;go_ret;exact ⟨by rw [HT0.out];rfl,rfl⟩
theorem Zl2 (neg:Bool) (m:Nat):decide (Zay neg m<0)=(neg && decide (0<m)):=by
  cases neg
  ·simp [Zay]
  ·simp only [Zay,if_true,Bool.true_and]
   by_cases h:0<m
   ·rw [Zt h,Zt (by omega)]
   ·rw [Zf h,Zf (by omega)]
theorem Zgh (neg:Bool) (m:Nat):(Zay neg m).natAbs=m:=by
  cases neg <;> simp [Zay]
theorem Zcb (l:List Nat):val 1000000000 (l.take (Zbf l))=val 1000000000 l:=Zax (Zam l).1 (Zam l).2.2
theorem Zl3 {l:List Nat} (hl:0<val 1000000000 l):0<Zbf l:=by
  rcases Nat.eq_zero_or_pos (Zbf l) with h|h
  ·have:=Zcb l;rw [h] at this;simp [val] at this;omega
  ·exact h
theorem Zka {l:List Nat} (hl:val 1000000000 l=0):Zbf l=0:=by
  have h1:=Zcb l;have h2:=Tr.zero (B:=1000000000) (by decide) (Zam l).2.1 (by rw [h1];exact hl);have:=congrArg List.length h2;rw [List.length_take,List.length_nil] at this;have:=(Zam l).1;omega
theorem Zcm (w:World) (neg:Bool) (a:Option Addr) (n c:Nat) (l:List Nat) (h:Sc encD 1 w w.heap.size (.slice a n c) l) (hd:Dg 1000000000 l):Calls Tryz.prog 140 #[.bool neg,.slice a n c] w (RetG w (Zay neg (val 1000000000 l))):=by
  have HTR:=Zh (fun (w1:World) (hb:Below w.heap.size w w1)=>Zd4 w1 a n c l (h.later hb));have hsp:=Zam l;have HI:=Zh (fun (w1:World) (hb:Below w.heap.size w w1)=>(⟨a,Zbf l,c,l.take (Zbf l),by rw [Zl2],(h.later hb).take _ hsp.1,by rw [List.length_take];omega,hd.take _,hsp.2.1,by rw [Zcb,Zgh]⟩:IgR w1 (.agg #[.bool (neg && decide (0<val 1000000000 l)),.slice a (Zbf l) c]) (Zay neg (val 1000000000 l))));have hq:(neg && decide (0<val 1000000000 l))=(neg && decide (0<Zbf l)):=by
    rcases Nat.eq_zero_or_pos (val 1000000000 l) with h0|h0
    ·rw [h0,Zka h0]
    ·rw [Zt h0,Zt (Zl3 h0)]
  rw [hq] at HI;obtain ⟨z,hz⟩: ∃z,Zay neg (val 1000000000 l)=z:=⟨_,rfl⟩;rw [hz] at HI ⊢;obtain ⟨T,hT⟩: ∃T,Zbf l=T:=⟨_,rfl⟩;rw [hT] at HI HTR;clear hz hT hsp hd h hq;have HB:=Zh ((Below.refl w.heap.size w).alloc (Nat.le_refl _) (.cells #[.bool false,.slice none 0 0] 114));have HZ:=Zh (Box.new w #[.bool false,.slice none 0 0] 114);obtain ⟨z0,z1,zf,zz⟩:=HZ.v2;obtain ⟨p,hp⟩: ∃p,decide (0<T)=p:=⟨_,rfl⟩;have hp2:decide ((0:Int)<(T:Int))=p:=by rw [<-hp];by_cases h:0<T <;> simp [h]
  rw [hp] at HI;cases neg with
  | true=>
    simp only [Bool.true_and] at HI;go_enter Tryz.func140,Tryz.ntmps140;go_wp2_with fail;refine (HTR.out _ HB.out).mono ?_;rintro e4 w4 ⟨rfl,rfl⟩;go_wp2_with fail;refine bodyPost_ret (v:= .agg #[.bool p,.slice a T c]) (by simp [results,Tryz.results140,go_sem, *]) rfl ?_;refine ⟨_,rfl,?_,?_⟩
    ·exact HI.out _ ((Below.refl w.heap.size w).alloc (Nat.le_refl _) _)
    ·exact (Below.refl w.heap.size w).alloc (Nat.le_refl _) _
  | false=>
    simp only [Bool.false_and] at HI;go_enter Tryz.func140,Tryz.ntmps140;go_wp2_with fail;refine (HTR.out _ HB.out).mono ?_;rintro e4 w4 ⟨rfl,rfl⟩;go_wp2_with fail;refine bodyPost_ret (v:= .agg #[.bool false,.slice a T c]) (by simp [results,Tryz.results140,go_sem, *]) rfl ?_;refine ⟨_,rfl,?_,?_⟩
    ·exact HI.out _ ((Below.refl w.heap.size w).alloc (Nat.le_refl _) _)
    ·exact (Below.refl w.heap.size w).alloc (Nat.le_refl _) _
theorem Zdp:(Tryz.prog.info? 3).map (fun i=>(i.zero,i.size,i.bytes))=some (some (.int .i64 0),1,8):=by kernel_rfl
theorem Zqs (w:World) (z:Int) (h1: -9223372036854775808<=z) (h2:z<=9223372036854775807):Calls Tryz.prog 65 #[.int .i64 z] w (RetG w z):=by
  obtain ⟨p,hp⟩: ∃p,decide (z<0)=p:=⟨_,rfl⟩;have HZS:=Zh (show Zay p z.natAbs=z by rw [<-hp];unfold Zay;by_cases h:z<0 <;> simp [h] <;> omega)
  have HSG:=Zh (fun (w1:World) (v:Value) (l:List Nat) (h:Sc encD 1 w1 w1.heap.size v l) (hd:Dg 1000000000 l)=>(by
    obtain ⟨a,c,rfl,_⟩:=h.shape;exact ⟨a,l.length,c,rfl,Zcm w1 p a _ c l h hd⟩: ∃a n c,v= .slice a n c/\Calls Tryz.prog 140 #[.bool p,.slice a n c] w1 (RetG w1 (Zay p (val 1000000000 l)))))
  have HB:=Zh ((Below.refl w.heap.size w).alloc (Nat.le_refl _) (.cells #[.bool false,.slice none 0 0] 114));have HZ:=Zh (Box.new w #[.bool false,.slice none 0 0] 114);obtain ⟨z0,z1,zf,zz⟩:=HZ.v2;have HP:=Zh hp;go_enter Tryz.func65,Tryz.ntmps65;go_wp2_with fail
  go_loopw [0,3] (fun i s wr=> ∃ (t:Int) (v:Value) (l:List Nat),i= .int .i64 t/\v=s/\Below w.heap.size w wr/\Box wr w.heap.size 114 [.bool false,.slice none 0 0]/\w.heap.size+1<=wr.heap.size/\Own encD 1 3 wr (w.heap.size+1) v l/\Dg 1000000000 l/\l.length<=3/\(t<0->z<0)/\(0<t->0<z)/\val 1000000000 l+1000000000^l.length* t.natAbs=z.natAbs) (fun i _ _=>(intOf i).natAbs)
  case atStart=>exact ⟨z,_,[],rfl,rfl,HB.out,HZ.out,by simp,Own.nil _ _ _ _ _,Dg.nil _,by simp,id,id,by simp [val]⟩
  case round=>
    obtain ⟨t,v,l,rfl,rfl,hbe,hbz,hsz,hown,hdg,hl3,ht1,ht2,hv⟩:=hrel;clear HB HZ z0 z1 zf zz;have HB:=Zh hbe;have HZ:=Zh hbz;have HO:=Zh hown;have HDG:=Zh hdg;clear hbe hbz hown hdg
    by_cases h0:t=0
    ·subst h0;have hval:val 1000000000 l=z.natAbs:=by simpa using hv
     have hsc:=Sc.of_own Zai (by omega) HO.out;obtain ⟨a,n,c,e,hcall⟩:=HSG.out wr v l hsc HDG.out;subst e;have HCL:=Zh (by rw [hval,HZS.out] at hcall;exact hcall:Calls Tryz.prog 140 #[.bool p,.slice a n c] wr (RetG wr z));clear hcall hsc hv hval HO HSG ht1 ht2;go_wp2_with fail;refine HCL.mono ?_;rintro e4 w4 ⟨v4,rfl,hi4,hb⟩;have HI4:=Zh hi4;obtain ⟨a4,n4,c4,l4,rfl,_⟩:=hi4;replace HZ:=Zh (HZ.later hb);replace HB:=Zh (HB.Zg hb);clear hb;obtain ⟨z0,z1,zf,zz⟩:=HZ.v2;go_wp2_with fail;refine bodyPost_ret (v:= .agg #[.bool (decide (z<0)),.slice a4 n4 c4]) (by simp [results,Tryz.results65,go_sem, *]) rfl ?_;refine ⟨_,rfl,IgR.put HI4.out HZ.out _ _,?_⟩
     repeat (first|with_reducible exact HB.out|with_reducible exact Below.refl _ _|refine .Zs ?_ _|refine .Za ?_ _|refine .drew ?_)
    ·have hl2:l.length<=2:=by
       rcases Nat.lt_or_ge l.length 3 with h|h
       ·omega
       ·have e3:l.length=3:=by omega
        rw [e3] at hv;have:(1000000000:Nat)^3=1000000000000000000000000000:=by decide
        rw [this] at hv;have:0<t.natAbs:=by omega
        omega
     obtain ⟨d,hd⟩: ∃d,t.natAbs % 1000000000=d:=⟨_,rfl⟩;obtain ⟨m,hm⟩: ∃m,t.natAbs / 1000000000=m:=⟨_,rfl⟩;have hd9:d<1000000000:=by omega
     have htb: -9223372036854775808<=t/\t<=9223372036854775807:=by
       have:t.natAbs<=1000000000^l.length* t.natAbs:=Nat.le_mul_of_pos_left _ (Nat.pow_pos (by decide))
       rcases Int.lt_trichotomy t 0 with h|h|h
       ·have:=ht1 h;omega
       ·omega
       ·have:=ht2 h;omega
     have HNV:=Zh (show val 1000000000 (l++ [d])+1000000000^ (l++ [d]).length* m=z.natAbs by
       rw [Zcd,Zbo,List.length_append,List.length_singleton,Nat.pow_succ,Nat.add_assoc,Nat.mul_assoc,<-Nat.mul_add,show d+1000000000* m=t.natAbs by omega];exact hv)
     have HDN:=Zh (HDG.app (Dg.one hd9));have HT1:=Zh ht1;have HT2:=Zh ht2;have HBA:=Zh (HB.alloc HB.size (.cells #[.int .i64 (d:Int)] 3));have HOA:=Zh (HO.alloc (.cells #[.int .i64 (d:Int)] 3));have HZA:=Zh (HZ.alloc (.cells #[.int .i64 (d:Int)] 3));have HSZ:=Zh (show w.heap.size+1<=(wr.alloc (.cells #[.int .i64 (d:Int)] 3)).heap.size by simp;omega);have HLE:=Zh (show l.length<=1000000 by omega);have HRH:=Zh (Box.new wr #[.int .i64 (d:Int)] 3);have HL2:=Zh hl2;have hway: ∃r q:Int,t.tmod 1000000000=r/\t.tdiv 1000000000=q/\q.natAbs=m/\(q<0->z<0)/\(0<q->0<z)/\((decide (r<0)=true/\IntKind.i64.wrap (0-r)=(d:Int))∨(decide (r<0)=false/\r=(d:Int))):=by
       refine ⟨_,_,rfl,rfl,?_⟩
       rcases Int.lt_trichotomy t 0 with h|h|h
       ·have e:t= -(t.natAbs:Int):=by omega
        have e1:t.tmod 1000000000= -(d:Int):=by rw [e,Int.neg_tmod,Int.tmod_eq_emod_of_nonneg (by omega)];omega
        have e2:t.tdiv 1000000000= -(m:Int):=by rw [e,Int.neg_tdiv,Int.tdiv_eq_ediv_of_nonneg (by omega)];omega
        rw [e1,e2];refine ⟨by omega,fun _=>ht1 h,fun h=>by omega,?_⟩
        by_cases hd0:0<d
        ·exact .inl ⟨Zt (by omega),by rw [IntWalk.i64_in _ (by omega)];omega⟩
        ·exact .inr ⟨Zf (by omega),by omega⟩
       ·exact absurd h h0
       ·have e1:t.tmod 1000000000=(d:Int):=by rw [Int.tmod_eq_emod_of_nonneg (by omega)];omega
        have e2:t.tdiv 1000000000=(m:Int):=by rw [Int.tdiv_eq_ediv_of_nonneg (by omega)];omega
        rw [e1,e2];exact ⟨by omega,fun h=>by omega,fun _=>ht2 h,.inr ⟨Zf (by omega),rfl⟩⟩
     obtain ⟨r,q,kr,kq,hqm,hq1,hq2,hway⟩:=hway;have k0:((t:Int)==0)=false:=beq_eq_false_iff_ne.2 h0;have k0':((t:Int) !=0)=true:=by rw [bne,k0];rfl
     have HQ:=Zh (show q.natAbs<t.natAbs by omega);have HQM:=Zh hqm;have HQ1:=Zh hq1;have HQ2:=Zh hq2;have kqw:IntKind.i64.wrap q=q:=IntWalk.i64_in _ (by omega);clear hv hl3 HB HO HZ HDG HSG HZS HP ht1 ht2 hqm hq1 hq2 h0
     rcases hway with ⟨d1,k1⟩|⟨d1,k1⟩
     ·have k2:IntKind.i64.wrap (-r)=(d:Int):=by rw [show -r=0-r by omega];exact k1
      go_wp2_with (at_builtin;(refine Zat encD 1 8 27 3 _ Tryz.underlying27 Zdp rfl (by decide) (by decide) Zai Zbl l d (w.heap.size+1) _ _ _ _ HRH.out rfl _ HOA.out HSZ.out HLE.out rfl _ _ rfl rfl rfl ?_);intro v' w' hown' hg');go_roundw
      case rel=>exact ⟨q,v',_,rfl,rfl,HBA.grown hg' (by have:=HBA.size;omega) (fun k hk=>by have:=HOA.lt' k hk;omega),HZA.kept hg' (fun e=>by have:=HOA.lt' _ e.symm;omega),Nat.le_trans HSZ.out hg'.size,hown',HDN.out,by simp;have:=HL2.out;omega,HQ1.out,HQ2.out,by rw [HQM.out];exact HNV.out⟩
      case measure=>exact HQ.out
     ·subst k1;go_wp2_with (at_builtin;(refine Zat encD 1 8 27 3 _ Tryz.underlying27 Zdp rfl (by decide) (by decide) Zai Zbl l d (w.heap.size+1) _ _ _ _ HRH.out rfl _ HOA.out HSZ.out HLE.out rfl _ _ rfl rfl rfl ?_);intro v' w' hown' hg');go_roundw
      case rel=>exact ⟨q,v',_,rfl,rfl,HBA.grown hg' (by have:=HBA.size;omega) (fun k hk=>by have:=HOA.lt' k hk;omega),HZA.kept hg' (fun e=>by have:=HOA.lt' _ e.symm;omega),Nat.le_trans HSZ.out hg'.size,hown',HDN.out,by simp;have:=HL2.out;omega,HQ1.out,HQ2.out,by rw [HQM.out];exact HNV.out⟩
      case measure=>exact HQ.out
theorem Zhy {l:List Nat} (hd:Dg 1000000000 l) (ht:Tr l) (k:Nat) (hk:k+1<l.length):Lib.decDigits (val 1000000000 (l.drop k))=Lib.decDigits (val 1000000000 (l.drop (k+1)))++Zeu 9 (Lib.decDigits (l[k]'(by omega))):=by
  have hx:=hd.get k (by omega);have hpos:0<val 1000000000 (l.drop (k+1)):=by
    have h1:Tr (l.drop (k+1)):=by
      unfold Tr at ht ⊢;rw [List.getLast?_drop,if_neg (by omega)];exact ht
    rcases Nat.eq_zero_or_pos (val 1000000000 (l.drop (k+1))) with h|h
    ·have h2:=Tr.zero (B:=1000000000) (by decide) h1 h;have:=congrArg List.length h2;rw [List.length_drop,List.length_nil] at this;omega
    ·exact h
  rw [Zbv _ _ _ (by omega),show l[k]+1000000000* val 1000000000 (l.drop (k+1))=val 1000000000 (l.drop (k+1)) * 10^9+l[k] by rw [show (10:Nat)^9=1000000000 by decide];omega,Zhs 9 _ _ hpos (by rw [show (10:Nat)^9=1000000000 by decide];exact hx),Zlc (by rw [show (10:Nat)^9=1000000000 by decide];exact hx) (by decide)]
theorem Zda {z:Int} (h:0<=z):z.toNat=z.natAbs:=by omega
theorem Zir {l:List Nat} (hd:Dg 1000000000 l) (hl:l.length<=1000000):(Lib.decDigits (val 1000000000 l)).length<=9* l.length+1:=by
  have h:=Zbi hd;rw [show (1000000000:Nat)=10^9 by decide,<-Nat.pow_mul] at h
  rcases Nat.eq_zero_or_pos l.length with h0|h0
  ·rw [h0] at h;have:=(Zan (k:=1) (by decide)).2 (Nat.lt_of_lt_of_le h (by decide));rw [show (1000000000:Nat)=10^9 by decide];omega
  ·have:=(Zan (by omega)).2 h;rw [show (1000000000:Nat)=10^9 by decide];omega
structure Nd (k:Nat) (z:Int):Prop where
  lt:z.natAbs<1000000000^k
theorem Zl4 (w:World) (v:Value) (z:Int) (h:IgR w v z) (K:Nat) (hz:Nd K z) (hK:K<=1000000):Calls Tryz.prog 64 #[v] w (Ret (.string (txz z)) w):=by
  obtain ⟨a,n,c,l,rfl,⟨a',c',e,hl1,hl2,hA⟩,hnl,hd,ht,hv⟩:=h;injection e with e1 e2 e3
  subst e1 e3;clear e2;have hlm:l.length<=1000000:=Nat.le_trans (Zd7 (B:=1000000000) (by decide) ht (by rw [hv];exact hz.lt)) hK;subst hnl;obtain ⟨p,hp⟩: ∃p,decide (z<0)=p:=⟨_,rfl⟩;have HST:=Zh (fun (k:Nat) (hk:k+1<l.length)=>Zhy hd ht k hk);have HLA:=Zh (fun (hk:0<l.length)=>(show val 1000000000 (l.drop (l.length-1))=l[l.length-1]'(by omega) by
    rw [Zbv _ _ _ (by omega),show l.length-1+1=l.length by omega,List.drop_length];simp [val]))
  have HSZ:=Zh (fun (k:Nat)=>(by
    have h:=Zir (l:=l.drop k) (hd.drop k) (by rw [List.length_drop];omega);rw [List.length_drop] at h;rw [Zag];omega:(tx (Lib.decDigits (val 1000000000 (l.drop k)))).size<=9000001))
  have HDG:=Zh (fun (k:Nat) (hk:k<l.length)=>hd.get k hk);have HFP:=Zh (show p=true->tx (45::Lib.decDigits (val 1000000000 l))=txz z from fun e=>by
    have:=of_decide_eq_true (hp.trans e);unfold txz;rw [Zbd this,hv])
  have HFN:=Zh (show p=false->tx (Lib.decDigits (val 1000000000 l))=txz z from fun e=>by
    have h0:=of_decide_eq_false (hp.trans e);unfold txz;rw [Zaz (Int.not_lt.1 h0),Zda (Int.not_lt.1 h0),hv])
  have HP0:=Zh (show p=true->l≠ [] from fun e h=>by
    have:=of_decide_eq_true (hp.trans e);rw [h] at hv;simp [val] at hv;omega)
  have HD:=Zh (fun (w1:World) (n L:Nat) (hn:n<=9223372036854775807) (hL:0<L) (hL2:L<=100)=>Zhx w1 n L hn hL hL2);have HA:=Zh hA;rw [hp];clear hv hz hd ht hA hp;have HB:=Zh ((Below.refl w.heap.size w).alloc (Nat.le_refl _) (.cells #[.bool p,.slice a l.length c] 114));have HX:=Zh (Box.new w #[.bool p,.slice a l.length c] 114);obtain ⟨x0,x1,xf,xz⟩:=HX.v2;obtain ⟨N,hN⟩: ∃N,l.length=N:=⟨_,rfl⟩;have HN:=Zh hN;rw [hN] at hl1 hl2 hlm HB HX x1 ⊢;clear hN
  rcases Nat.eq_zero_or_pos N with h0|h0
  ·subst h0;have e:l=[]:=List.eq_nil_of_length_eq_zero HN.out;have hz0:txz z=⟨#[48]⟩:=by
     cases p with
     | true=>
       exact absurd e (HP0.out rfl)
     | false=>rw [<-HFN.out rfl,e];show tx (Lib.decDigits 0)=_;rw [Zbx];rfl
   rw [hz0];go_enter Tryz.func64,Tryz.ntmps64;go_wp2_with fail;go_ret;exact ⟨rfl,HB.out⟩
  ·obtain ⟨b,off,rfl,hbb,hcells⟩:=HA.out (by rw [HN.out];exact h0);have HC:=Zh (fun (w1:World) (hb:Below w.heap.size w w1) (k:Nat) (hk:k<l.length)=>((hcells k hk).below hb hbb).c1);have hbz:b<w.heap.size+1:=by omega
   have hla:=HLA.out (by rw [HN.out];exact h0);obtain ⟨M,hM⟩: ∃M,N=M+1:=⟨N-1,by omega⟩;subst hM;have c0:=HC.out _ HB.out (l.length-1) (by rw [HN.out];omega);have hx:=HDG.out (l.length-1) (by rw [HN.out];omega);obtain ⟨y,hy⟩: ∃y,(l[l.length-1]'(by rw [HN.out];omega))=y:=⟨_,rfl⟩;rw [hy] at c0 hx hla;have HD0:=Zh (fun (w1:World)=>(by
     have h:=HD.out w1 y 1 (by omega) (by decide) (by decide);rw [Zhu] at h;rw [hla];exact h:Calls Tryz.prog 124 #[.int .i64 (y:Int),.int .i64 1] w1 fun e w'=>e= .returned (.string (tx (Lib.decDigits (val 1000000000 (l.drop (l.length-1))))))/\w1=w'))
   clear hy hx;have HL1:=Zh (show l.length-1=M by rw [HN.out];omega);rw [HL1.out] at HD0 c0;rw [Nat.mul_one] at c0;clear hla hcells;have k0:((M+1:Nat)==0)=false:=beq_eq_false_iff_ne.2 (by omega);have k1:IntKind.i64.wrap (((M+1:Nat):Int)-1)=(M:Int):=by rw [IntWalk.i64_in _ (by omega)];omega
   have k2:IntKind.i64.wrap (((M+1:Nat):Int)-2)=(M:Int)-1:=by rw [IntWalk.i64_in _ (by omega)];omega
   obtain ⟨t,ht⟩: ∃t:Int,(M:Int)-1=t:=⟨_,rfl⟩;rw [ht] at k2;have HT:=Zh ht;clear ht;go_enter Tryz.func64,Tryz.ntmps64;go_wp2_with fail;refine (HD0.out _).mono ?_;rintro e4 w4 ⟨rfl,rfl⟩;go_wp2_with fail;clear HD0 HLA c0
   go_loop [3,4] (fun s i=> ∃ (k:Nat) (t:Int),k<=M/\t+1=(k:Int)/\i= .int .i64 t/\s= .string (tx (Lib.decDigits (val 1000000000 (l.drop k))))) (fun _ i=>(intOf i+1).toNat)
   case atStart=>exact ⟨M,(M:Int)+1-2,Nat.le_refl _,by omega,rfl,rfl⟩
   case round=>
     obtain ⟨k,t,hk,htk,rfl,rfl⟩:=hrel
     rcases Nat.eq_zero_or_pos k with hk0|hk0
     ·subst hk0;have d0:decide (0<=t)=false:=Zf (by omega);have hd0:l.drop 0=l:=rfl;rw [hd0];have HS:=Zh (HSZ.out 0);rw [hd0] at HS;have hs0:=HS.out;obtain ⟨S,hS⟩: ∃S,tx (Lib.decDigits (val 1000000000 l))=S:=⟨_,rfl⟩;have HC5:=Zh (show ⟨#[45]⟩++S=tx (45::Lib.decDigits (val 1000000000 l)) by rw [<-hS];exact Zcv [45] _);have HSS:=Zh hS;rw [hS] at hs0 ⊢;have hs1:(⟨#[45]⟩:ByteArray).size=1:=rfl;clear hS hd0 htk;cases p with
      | true=>
        have hc5:⟨#[45]⟩++S=txz z:=by rw [HC5.out,HFP.out rfl]
        generalize txz z=Z at *;go_wp2_with fail;go_ret;exact ⟨rfl,HB.out⟩
      | false=>
        have hc5:S=txz z:=by rw [<-HSS.out,HFN.out rfl]
        have HC6:=Zh hc5;clear hc5;go_wp2_with fail;go_ret;exact ⟨by rw [<-HC6.out];rfl,HB.out⟩
     ·obtain ⟨j,rfl⟩: ∃j,k=j+1:=⟨k-1,by omega⟩;obtain rfl:t=(j:Int):=by omega
      have hjl:j<l.length:=by rw [HN.out];omega
      have c0:=HC.out _ HB.out j hjl;rw [Nat.mul_one] at c0;have hx:=HDG.out j hjl;have HSS:=Zh (HST.out j (by rw [HN.out];omega));obtain ⟨y,hy⟩: ∃y,l[j]=y:=⟨_,rfl⟩;rw [hy] at c0 hx HSS;have HDJ:=Zh (HD.out (w.alloc (.cells #[.bool p,.slice (some ⟨b,off,none⟩) (M+1) c] 114)) y 9 (by omega) (by decide) (by decide));have hs0:=HSZ.out (j+1);have hs1:(tx (Zeu 9 (Lib.decDigits y))).size<=100:=by
        rw [Zag];unfold Zeu;rw [List.length_append,List.length_replicate];have:=(Zan (n:=y) (k:=9) (by decide)).2 (by rw [show (10:Nat)^9=1000000000 by decide];exact hx);omega
      have HTA:=Zh (Zcv (Lib.decDigits (val 1000000000 (l.drop (j+1)))) (Zeu 9 (Lib.decDigits y)));rw [<-HSS.out] at HTA;have hta:=HTA.out;obtain ⟨S,hS⟩: ∃S,tx (Lib.decDigits (val 1000000000 (l.drop (j+1))))=S:=⟨_,rfl⟩;obtain ⟨E,hE⟩: ∃E,tx (Zeu 9 (Lib.decDigits y))=E:=⟨_,rfl⟩;rw [hS] at hs0 hta ⊢;rw [hE] at hs1 hta HDJ;obtain ⟨G,hG⟩: ∃G,tx (Lib.decDigits (val 1000000000 (l.drop j)))=G:=⟨_,rfl⟩;rw [hG] at hta;have HGG:=Zh hG;have k3:decide ((0:Int)<=(j:Int))=true:=Zt (by omega);have k4:IntKind.i64.wrap ((j:Int)-1)=(j:Int)-1:=IntWalk.i64_in _ (by omega);obtain ⟨t,ht⟩: ∃t:Int,(j:Int)-1=t:=⟨_,rfl⟩;rw [ht] at k4;have HT2:=Zh ht;have HDJ2:=Zh (show Calls Tryz.prog 124 #[.int .i64 (y:Int),.int .i64 9] _ _ from HDJ.out);clear hS hE hG hy hx HTA ht HDJ htk k1 k2 k0;go_wp2_with fail;refine HDJ2.mono ?_;rintro e5 w5 ⟨rfl,rfl⟩;go_wp2_with fail
      go_round
      case rel=>exact ⟨j,(j:Int)-1,by omega,by omega,rfl,by rw [HGG.out]⟩
      case measure=>simp only [intOf];omega
theorem Zsd (w:World) (a b:Nat) (ha:a<=9223372036854775807) (hb:b<=9223372036854775807):Calls Tryz.prog 123 #[.int .i64 (a:Int),.int .i64 (b:Int)] w (Ret (.int .i64 ((Nat.gcd a b:Nat):Int)) w):=by
  obtain ⟨G,hG⟩: ∃G,Nat.gcd a b=G:=⟨_,rfl⟩;rw [hG];go_enter Tryz.func123,Tryz.ntmps123;go_wp2_with fail
  go_loopw [0,1] (fun x y wr=> ∃m k:Nat,x= .int .i64 (m:Int)/\y= .int .i64 (k:Int)/\m<=9223372036854775807/\k<=9223372036854775807/\Nat.gcd m k=G/\Below w.heap.size w wr) (fun _ y _=>(intOf y).toNat)
  case atStart=>exact ⟨a,b,rfl,rfl,ha,hb,hG,Below.refl _ _⟩
  case round=>
    obtain ⟨m,k,rfl,rfl,hm,hk,hg,hbe⟩:=hrel;have HB:=Zh hbe;have HG:=Zh hg;clear hbe hg hG ha hb
    by_cases h0:k=0
    ·subst h0;have e:m=G:=by have:=HG.out;rwa [Nat.gcd_zero_right] at this
     subst e;go_wp2_with fail;go_ret;exact ⟨rfl,HB.out⟩
    ·have HR:=Zh (show Nat.gcd k (m % k)=G by rw [<-HG.out,Nat.gcd_comm m k,Nat.gcd_rec k m,Nat.gcd_comm]);have hlt:=Nat.mod_lt m (show 0<k by omega);have d0:decide (0<k)=true:=Zt (by omega);have d1:decide ((0:Int)<(k:Int))=true:=Zt (by omega);have d2:((k:Int)==0)=false:=beq_eq_false_iff_ne.2 (by omega);have km:(m:Int).tmod (k:Int)=((m % k:Nat):Int):=by rw [Int.tmod_eq_emod_of_nonneg (by omega)];exact (Int.natCast_emod m k).symm
     generalize m % k=r at *;have HK:=Zh (show 0<k by omega);go_wp2_with fail;refine Zaf (by kernel_rfl) (by kernel_rfl) ?_
     repeat go_big_quiet_step (fail)
     refine wpQuiet_nil ?_;rintro w2 ⟨⟨_,hb2⟩,rfl⟩;replace HB:=Zh (HB.Zg hb2);clear hb2;go_wp2_with fail;go_roundw
     case rel=>exact ⟨k,r,rfl,rfl,hk,by omega,HR.out,HB.out⟩
     case measure=>simp [intOf];omega
theorem Zjm (n:Int) (d:Nat) (hd:0<d):n.tdiv ((Nat.gcd n.natAbs d:Nat):Int)=(mkRat n d).num/\(d:Int).tdiv ((Nat.gcd n.natAbs d:Nat):Int)=((mkRat n d).den:Int):=by
  have h:=Zk8 (z1:=n) (z2:=(d:Int)) (by omega);simp only [Int.natAbs_natCast] at h;rw [h.1,h.2];refine ⟨Int.tdiv_eq_ediv_of_dvd ?_,Int.tdiv_eq_ediv_of_dvd ?_⟩
  ·exact Int.ofNat_dvd_left.2 (Nat.gcd_dvd_left _ _)
  ·exact Int.natCast_dvd_natCast.2 (Nat.gcd_dvd_right _ _)
def Zcz (d:Nat):List UInt8:=if d=1 then [] else 47::Lib.decDigits d
theorem Zis (q:Rat):ratL q=Lib.itoa q.num++Zcz q.den:=rfl
theorem of138 (w:World) (n:Int) (d:Nat) (h1: -4000000000000000000<=n) (h2:n<=4000000000000000000) (hd:0<d) (hd2:d<=4000000000000000000):Calls Tryz.prog 51 #[.int .i64 n,.int .i64 (d:Int)] w (Ret (.string (txq (mkRat n d))) w):=by
  have HG:=Zh (fun (w1:World)=>Zsd w1 n.natAbs d (by omega) (by omega));obtain ⟨kq,ke⟩:=Zjm n d hd;have hg0:0<Nat.gcd n.natAbs d:=Nat.gcd_pos_of_pos_right _ hd;have hqa:(mkRat n d).num.natAbs<=n.natAbs:=by
    rw [<-kq,Int.natAbs_tdiv];exact Nat.div_le_self _ _
  have hea:(mkRat n d).den<=d:=by
    have:=congrArg Int.natAbs ke;rw [Int.natAbs_tdiv,Int.natAbs_natCast,Int.natAbs_natCast,Int.natAbs_natCast] at this;rw [<-this];exact Nat.div_le_self _ _
  have he0:0<(mkRat n d).den:=(mkRat n d).den_pos;have HR:=Zh (show txq (mkRat n d)=tx (Lib.itoa (mkRat n d).num++Zcz (mkRat n d).den) from rfl);generalize (mkRat n d).num=q at *;generalize (mkRat n d).den=e at *;generalize txq (mkRat n d)=R at *;generalize Nat.gcd n.natAbs d=g at *;have hq1: -4000000000000000000<=q/\q<=4000000000000000000:=by omega
  have he1:e<=4000000000000000000:=by omega
  have HD:=Zh (fun (w1:World) (m:Nat) (hm:m<=9223372036854775807)=>(by
    have h:=Zhx w1 m 1 hm (by decide) (by decide);rw [Zhu] at h;exact h:Calls Tryz.prog 124 #[.int .i64 (m:Int),.int .i64 1] w1 fun e w'=>e= .returned (.string (tx (Lib.decDigits m)))/\w1=w'))
  have HDQ:=Zh (fun (w1:World)=>HD.out w1 q.natAbs (by omega));have HDE:=Zh (fun (w1:World)=>HD.out w1 e (by omega));have d1:decide (n < -4000000000000000000)=false:=Zf (by omega);have d2:decide (4000000000000000000<n)=false:=Zf (by omega);have d3:decide ((d:Int) < -4000000000000000000)=false:=Zf (by omega);have d4:decide ((4000000000000000000:Int)<(d:Int))=false:=Zf (by omega);have d5:decide (4000000000000000000<d)=false:=Zf (by omega);have d6:decide ((d:Int)<0)=false:=Zf (by omega);have k1:IntKind.i64.wrap (-n)= -n:=IntWalk.i64_in _ (by omega);have k2:max n (-n)=(n.natAbs:Int):=by omega
  have k8: ¬g=0:=by omega
  have k3:((g:Int)==0)=false:=beq_eq_false_iff_ne.2 (by omega);have k4:IntKind.i64.wrap (-q)= -q:=IntWalk.i64_in _ (by omega);have k5:max q (-q)=(q.natAbs:Int):=by omega
  have k6:IntKind.i64.wrap q=q:=IntWalk.i64_in _ (by omega);have k7:IntKind.i64.wrap (e:Int)=e:=IntWalk.i64_in _ (by omega);have hlq:(Lib.decDigits q.natAbs).length<=19:=(Zan (by decide)).2 (by rw [show (10:Nat)^19=10000000000000000000 by decide];omega);have hle:(Lib.decDigits e).length<=19:=(Zan (by decide)).2 (by rw [show (10:Nat)^19=10000000000000000000 by decide];omega);have hway: ∃ (p r:Bool) (sg fr:List UInt8),decide (q<0)=p/\decide (1<e)=r/\decide ((1:Int)<(e:Int))=r/\Lib.itoa q=sg++Lib.decDigits q.natAbs/\Zcz e=fr/\((p=true/\sg=[45])∨(p=false/\sg=[]))/\((r=true/\fr=47::Lib.decDigits e)∨(r=false/\fr=[])):=by
    refine ⟨_,_,(if q<0 then [45] else []),_,rfl,rfl,?_,?_,rfl,?_,?_⟩
    ·by_cases h:1<e
     ·rw [Zt h,Zt (by omega)]
     ·rw [Zf h,Zf (by omega)]
    ·by_cases h:q<0
     ·rw [if_pos h,Zbd h];rfl
     ·rw [if_neg h,Zaz (Int.not_lt.1 h),Zda (Int.not_lt.1 h)];rfl
    ·by_cases h:q<0
     ·exact .inl ⟨Zt h,if_pos h⟩
     ·exact .inr ⟨Zf h,if_neg h⟩
    ·unfold Zcz
     by_cases h:1<e
     ·exact .inl ⟨Zt h,if_neg (by omega)⟩
     ·exact .inr ⟨Zf h,if_pos (by omega)⟩
  obtain ⟨p,r,sg,fr,d7,d8,d9,e1,e2,hp,hr⟩:=hway;rw [e1,e2] at HR;have hs1:=Zag (Lib.decDigits q.natAbs);have hs2:=Zag (Lib.decDigits e);obtain ⟨A,hA⟩: ∃A,Lib.decDigits q.natAbs=A:=⟨_,rfl⟩;obtain ⟨E,hE⟩: ∃E,Lib.decDigits e=E:=⟨_,rfl⟩;rw [hA] at HR HDQ hs1 hlq;rw [hE] at HDE hs2 hle hr;generalize q.natAbs=m at *;generalize n.natAbs=nn at *;clear h1 h2 hd hd2 hqa hea hq1 he1 e1 e2 HD hA hE hg0 he0;have HSA:=Zh (show∀X:List UInt8,X=sg->tx X++tx A=tx (sg++A) from fun X h=>by rw [h,Zcv]);have hsz1:(tx (sg++A)).size<=30:=by
    rw [Zag,List.length_append]
    rcases hp with ⟨_,rfl⟩|⟨_,rfl⟩ <;> simp <;> omega
  have HS2:=Zh (Zcv (sg++A) [47]);have HS3:=Zh (Zcv (sg++A++ [47]) E);have hsz2:(tx (sg++A++ [47])).size<=31:=by
    rw [Zag] at hsz1 ⊢;rw [List.length_append,List.length_singleton];omega
  have hs47:(⟨#[47]⟩:ByteArray).size=1:=rfl;have hs45:(⟨#[45]⟩:ByteArray).size=1:=rfl;have hs0:(⟨#[]⟩:ByteArray).size=0:=rfl;have c2:tx (sg++A)++⟨#[47]⟩=tx (sg++A++ [47]):=HS2.out;have c3:=HS3.out;have HR1:=Zh (show r=true->tx (sg++A++ [47]++E)=R from fun h=>by
    rcases hr with ⟨_,h2⟩|⟨h2,_⟩
    ·rw [HR.out,h2];simp
    ·rw [h] at h2;cases h2)
  have HR2:=Zh (show r=false->tx (sg++A)=R from fun h=>by
    rcases hr with ⟨h2,_⟩|⟨_,h2⟩
    ·rw [h] at h2;cases h2
    ·rw [HR.out,h2];simp)
  have HC1:=Zh (show (p=true->⟨#[45]⟩++tx A=tx (sg++A))/\(p=false->⟨#[]⟩++tx A=tx (sg++A)) from by
    rcases hp with ⟨h,h2⟩|⟨h,h2⟩
    ·exact ⟨fun _=>HSA.out [45] h2.symm,fun h3=>(by rw [h] at h3;cases h3)⟩
    ·exact ⟨fun h3=>(by rw [h] at h3;cases h3),fun _=>HSA.out [] h2.symm⟩)
  generalize tx (sg++A++ [47]++E)=S3 at *;generalize tx (sg++A++ [47])=S2 at *;generalize tx (sg++A)=S1 at *;generalize tx A=SA at *;generalize tx E=SE at *;clear HSA HS2 HS3 HR hp hr;cases p with
  | true=>
    have c1:=HC1.out.1 rfl;clear HC1;cases r with
    | true=>
      have hR:=HR1.out rfl;subst hR;clear HR1 HR2;go_enter Tryz.func51,Tryz.ntmps51;go_wp2_with fail;refine (HG.out _).mono ?_;rintro e4 w4 ⟨rfl,hb⟩;have HB:=Zh hb;clear hb;go_wp2_with fail;refine Zaf (by kernel_rfl) (by kernel_rfl) ?_
      repeat go_big_quiet_step (fail)
      refine wpQuiet_nil ?_;rintro w2 ⟨⟨_,hb2⟩,rfl⟩;replace HB:=Zh (HB.Zg hb2);clear hb2;go_wp2_with fail;refine (HDQ.out _).mono ?_;rintro e5 w5 ⟨rfl,rfl⟩;go_wp2_with fail;refine (HDE.out _).mono ?_;rintro e6 w6 ⟨rfl,rfl⟩;go_wp2_with fail;go_ret;exact ⟨rfl,HB.out⟩
    | false=>
      have hR:=HR2.out rfl;subst hR;clear HR1 HR2;go_enter Tryz.func51,Tryz.ntmps51;go_wp2_with fail;refine (HG.out _).mono ?_;rintro e4 w4 ⟨rfl,hb⟩;have HB:=Zh hb;clear hb;go_wp2_with fail;refine Zaf (by kernel_rfl) (by kernel_rfl) ?_
      repeat go_big_quiet_step (fail)
      refine wpQuiet_nil ?_;rintro w2 ⟨⟨_,hb2⟩,rfl⟩;replace HB:=Zh (HB.Zg hb2);clear hb2;go_wp2_with fail;refine (HDQ.out _).mono ?_;rintro e5 w5 ⟨rfl,rfl⟩;go_wp2_with fail;go_ret;exact ⟨rfl,HB.out⟩
  | false=>
    have c1:=HC1.out.2 rfl;clear HC1;cases r with
    | true=>
      have hR:=HR1.out rfl;subst hR;clear HR1 HR2;go_enter Tryz.func51,Tryz.ntmps51;go_wp2_with fail;refine (HG.out _).mono ?_;rintro e4 w4 ⟨rfl,hb⟩;have HB:=Zh hb;clear hb;go_wp2_with fail;refine Zaf (by kernel_rfl) (by kernel_rfl) ?_
      repeat go_big_quiet_step (fail)
      refine wpQuiet_nil ?_;rintro w2 ⟨⟨_,hb2⟩,rfl⟩;replace HB:=Zh (HB.Zg hb2);clear hb2;go_wp2_with fail;refine (HDQ.out _).mono ?_;rintro e5 w5 ⟨rfl,rfl⟩;go_wp2_with fail;refine (HDE.out _).mono ?_;rintro e6 w6 ⟨rfl,rfl⟩;go_wp2_with fail;go_ret;exact ⟨rfl,HB.out⟩
    | false=>
      have hR:=HR2.out rfl;subst hR;clear HR1 HR2;go_enter Tryz.func51,Tryz.ntmps51;go_wp2_with fail;refine (HG.out _).mono ?_;rintro e4 w4 ⟨rfl,hb⟩;have HB:=Zh hb;clear hb;go_wp2_with fail;refine Zaf (by kernel_rfl) (by kernel_rfl) ?_
      repeat go_big_quiet_step (fail)
      refine wpQuiet_nil ?_;rintro w2 ⟨⟨_,hb2⟩,rfl⟩;replace HB:=Zh (HB.Zg hb2);clear hb2;go_wp2_with fail;refine (HDQ.out _).mono ?_;rintro e5 w5 ⟨rfl,rfl⟩;go_wp2_with fail;go_ret;exact ⟨rfl,HB.out⟩
theorem Zqt {q:Rat} (h:q<0):q.num.sign= -1:=by
  have:=Rat.num_nonneg (q:=q);exact Int.sign_eq_neg_one_of_neg (by grind)
theorem Zqu {q:Rat} (h:0<q):q.num.sign=1:=by
  have h1:=Rat.num_nonneg (q:=q);have h2:q.num≠0:=fun e=>by
    have:=Rat.num_eq_zero.1 e;grind
  exact Int.sign_eq_one_of_pos (by grind)
theorem Zqv (w:World) (q:Rat) (hl:(ratL q).length<=1000000000):Calls Tryz.prog 82 #[.string (txq q)] w fun e w'=>e= .returned (.int .i64 q.num.sign)/\w=w':=by
  have hsz:(txq q).size=(ratL q).length:=Zag _;have hlt:0<(ratL q).length:=List.length_pos_iff.2 (Zp5 q);have hi: ∀ (w:World),(Instr.index 32 (.string (txq q)) (.int .i64 0)).run Tryz.prog w= .ok (.int .u8 ((ratL q)[0].toNat:Int)) w:=fun w=>Zby (P:=Tryz.prog) (t:=32) Tryz.underlying32 _ 0 hlt w;have hway:(((txq q).toList==[48])=true/\q.num.sign=0)∨(((txq q).toList==[48])=false/\(((ratL q)[0].toNat:Int)==45)=true/\q.num.sign= -1)∨(((txq q).toList==[48])=false/\(((ratL q)[0].toNat:Int)==45)=false/\q.num.sign=1):=by
    unfold txq;rw [Zeh]
    by_cases h0:q=0
    ·subst h0;exact .inl ⟨Zt Zfu,rfl⟩
    ·have h1:decide (ratL q=[48])=false:=Zf (fun h=>h0 (Zht.1 h));have hh:(ratL q).head?=some (ratL q)[0]:=by rw [List.head?_eq_getElem?,List.getElem?_eq_getElem hlt]
     by_cases hn:q<0
     ·refine .inr (.inl ⟨h1,?_,Zqt hn⟩);have:(ratL q)[0]=45:=by
        have e:(ratL q).head?=some 45:=by rw [Znn hn];rfl
        rw [hh] at e;injection e
      rw [this];rfl
     ·refine .inr (.inr ⟨h1,?_,Zqu (by grind)⟩);refine beq_eq_false_iff_ne.2 (fun e=> ?_);have h2:=Zlb (q:=q) (by grind);rw [hh] at h2;exact h2 (congrArg some (UInt8.toNat_inj.1 (by rw [show (45:UInt8).toNat=45 from rfl];omega)))
  generalize ((ratL q)[0].toNat:Int)=c at *;generalize (ratL q).length=n at *;generalize txq q=X at *;generalize q.num.sign=s at *
  rcases hway with ⟨d0,rfl⟩|⟨d0,d1,rfl⟩|⟨d0,d1,rfl⟩
  all_goals
    go_enter Tryz.func82,Tryz.ntmps82;go_wp2_with fail;go_ret;exact ⟨rfl,rfl⟩
structure Qk (q:Rat):Prop where
  num:q.num.natAbs<1000000000
  den:q.den<1000000000
def Zar (q:Rat):List UInt8:=Lib.decDigits q.num.natAbs++Zcz q.den
theorem Zel (q:Rat):ratL q=(if q.num<0 then 45::Zar q else Zar q):=by
  rw [Zis];unfold Zar
  by_cases h:q.num<0
  ·rw [if_pos h,Zbd h];rfl
  ·rw [if_neg h,Zaz (Int.not_lt.1 h),Zda (Int.not_lt.1 h)]
theorem Zfy (q:Rat):Za6 (Zar q)=(Lib.decDigits q.num.natAbs).length:=by
  have hno:(47:UInt8)∉Lib.decDigits q.num.natAbs:=fun h=>absurd (Zbw _ _ h) (by decide);unfold Zar Zcz
  by_cases h:q.den=1
  ·rw [if_pos h,List.append_nil,Zdi hno]
  ·rw [if_neg h,Zeg hno]
theorem Zdb (w:World) (q:Rat) (hq:Qk q):Calls Tryz.prog 59 #[.string (txq q)] w fun e w'=>e= .returned (.tuple #[.int .i64 q.num,.int .i64 (q.den:Int),.bool true])/\w=w':=by
  have hln:(Lib.decDigits q.num.natAbs).length<=9:=(Zan (by decide)).2 (by rw [show (10:Nat)^9=1000000000 by decide];exact hq.num);have hld:(Lib.decDigits q.den).length<=9:=(Zan (by decide)).2 (by rw [show (10:Nat)^9=1000000000 by decide];exact hq.den);have hln0:=Zbr q.num.natAbs;have hfr:(q.den=1/\Zcz q.den=[])∨(Zcz q.den=47::Lib.decDigits q.den):=by
    unfold Zcz
    by_cases h:q.den=1
    ·exact .inl ⟨h,if_pos h⟩
    ·exact .inr (if_neg h)
  have hbl:(Zar q).length=(Lib.decDigits q.num.natAbs).length+(Zcz q.den).length:=by unfold Zar;rw [List.length_append]
  have hfl:(Zcz q.den).length<=10:=by rcases hfr with ⟨_,h⟩|h <;> rw [h] <;> simp;omega
  have HSL:=Zh (fun (w1:World)=>(by
    have h:=Zd2 w1 (Zar q) (by omega)
    rwa [Zfy] at h:Calls Tryz.prog 79 #[.string (tx (Zar q))] w1 fun e w'=>e= .returned (.int .i64 (((Lib.decDigits q.num.natAbs).length:Nat):Int))/\w1=w'))
  have HVN:=Zh (fun (w1:World)=>(by
    have h:=Zdk w1 (Lib.decDigits q.num.natAbs) (by omega) (Zbw _)
    rwa [Zbn] at h:Calls Tryz.prog 136 #[.string (tx (Lib.decDigits q.num.natAbs))] w1 fun e w'=>e= .returned (.int .i64 ((q.num.natAbs:Nat):Int))/\w1=w'))
  have HVD:=Zh (fun (w1:World)=>(by
    have h:=Zdk w1 (Lib.decDigits q.den) (by omega) (Zbw _)
    rwa [Zbn] at h:Calls Tryz.prog 136 #[.string (tx (Lib.decDigits q.den))] w1 fun e w'=>e= .returned (.int .i64 ((q.den:Nat):Int))/\w1=w'))
  have hx1:(tx (Zar q)).extract 0 (Lib.decDigits q.num.natAbs).length=tx (Lib.decDigits q.num.natAbs):=by
    rw [Zaw];unfold Zar;simp
  have hsb:(tx (Zar q)).size=(Zar q).length:=Zag _;have hsg:(q.num<0/\txq q=tx (45::Zar q))∨(0<=q.num/\txq q=tx (Zar q)):=by
    have h:=Zel q
    by_cases hn:q.num<0
    ·rw [if_pos hn] at h;exact .inl ⟨hn,by unfold txq;rw [h]⟩
    ·rw [if_neg hn] at h;exact .inr ⟨Int.not_lt.1 hn,by unfold txq;rw [h]⟩
  have hb0:0<(Zar q).length:=by omega
  have hh0:(Zar q).head?≠some 45:=by
    unfold Zar;rw [Zgg (Zee _)];intro e;exact Zfe _ (List.mem_of_mem_head? e)
  have hi0: ∀ (w:World),(Instr.index 9 (.string (tx (Zar q))) (.int .i64 0)).run Tryz.prog w= .ok (.int .u8 ((Zar q)[0].toNat:Int)) w:=fun w=>Zby (P:=Tryz.prog) (t:=9) Tryz.underlying9 _ 0 hb0 w;have hc0:(((Zar q)[0].toNat:Int)==45)=false:=beq_eq_false_iff_ne.2 (fun e=>by
    rw [List.head?_eq_getElem?,List.getElem?_eq_getElem hb0] at hh0;exact hh0 (congrArg some (UInt8.toNat_inj.1 (by rw [show (45:UInt8).toNat=45 from rfl];omega))))
  have hi1: ∀ (w:World),(Instr.index 9 (.string (tx (45::Zar q))) (.int .i64 0)).run Tryz.prog w= .ok (.int .u8 45) w:=fun w=>Zby (P:=Tryz.prog) (t:=9) Tryz.underlying9 (45::Zar q) 0 (by simp) w;have hx0:(tx (45::Zar q)).extract 1 ((Zar q).length+1)=tx (Zar q):=by
    rw [Zaw];simp
  have hs1:(tx (45::Zar q)).size=(Zar q).length+1:=Zag _;have hway:(q.den=1/\(Lib.decDigits q.num.natAbs).length=(Zar q).length)∨((Lib.decDigits q.num.natAbs).length<(Zar q).length/\(tx (Zar q)).extract ((Lib.decDigits q.num.natAbs).length+1) (Zar q).length=tx (Lib.decDigits q.den)):=by
    rcases hfr with ⟨h1,h2⟩|h2
    ·exact .inl ⟨h1,by rw [hbl,h2];rfl⟩
    ·refine .inr ⟨by rw [hbl,h2];simp,?_⟩;rw [Zaw,List.take_length];unfold Zar;rw [h2,<-List.drop_drop];simp
  have hqn:(q.num<0->IntKind.i64.wrap (0-(q.num.natAbs:Int))=q.num)/\(q.num<0->IntKind.i64.wrap (-(q.num.natAbs:Int))=q.num)/\(0<=q.num->(q.num.natAbs:Int)=q.num):=by
    have:=hq.num;refine ⟨fun h=> ?_,fun h=> ?_,fun h=>by omega⟩ <;> rw [IntWalk.i64_in _ (by omega)] <;> omega
  clear hfr hh0 hq;obtain ⟨X,hX⟩: ∃X,txq q=X:=⟨_,rfl⟩;rw [hX] at hsg ⊢;clear hX;generalize (Zar q)[0].toNat=c at *;generalize tx (45::Zar q)=X1 at *;generalize (Zcz q.den).length=fl at *;generalize tx (Zar q)=B at *;generalize (Zar q).length=n at *;generalize tx (Lib.decDigits q.num.natAbs)=D at *;generalize tx (Lib.decDigits q.den)=E at *;generalize (Lib.decDigits q.num.natAbs).length=k at *;generalize (Lib.decDigits q.den).length=el at *;generalize q.den=d at *;generalize q.num=z at *;generalize z.natAbs=m at *;have d1:decide (20<n)=false:=Zf (by omega);have d2:decide ((20:Int)<(n:Int))=false:=Zf (by omega);have d3:decide (20<n+1)=false:=Zf (by omega);have d4:decide ((20:Int)<((n+1:Nat):Int))=false:=Zf (by omega);have d5:decide (9<k)=false:=Zf (by omega);have d6:decide ((9:Int)<(k:Int))=false:=Zf (by omega);have k1:IntKind.i64.wrap ((n:Int)-(k:Int))=(n:Int)-(k:Int):=IntWalk.i64_in _ (by omega);have d7:decide ((10:Int)<(n:Int)-(k:Int))=false:=Zf (by omega);have k2:IntKind.i64.wrap ((k:Int)+1)=((k+1:Nat):Int):=by rw [IntWalk.i64_in _ (by omega)];omega
  have hkn:k<=n:=by omega
  have hnk:n-k<=10:=by omega
  clear hbl hfl hld
  rcases hsg with ⟨hz,rfl⟩|⟨hz,rfl⟩
  ·have HQ:=Zh (hqn.1 hz);have k3:=hqn.1 hz;have k4:=hqn.2.1 hz;clear hi0 hqn
   rcases hway with ⟨rfl,rfl⟩|⟨hlt,hx2⟩
   ·go_enter Tryz.func59,Tryz.ntmps59;go_wp2_with fail;refine (HSL.out _).mono ?_;rintro e4 w4 ⟨rfl,rfl⟩;go_wp2_with fail;refine (HVN.out _).mono ?_;rintro e5 w5 ⟨rfl,rfl⟩;go_wp2_with fail;refine bodyPost_ret (v:= .tuple #[.int .i64 z,.int .i64 1,.bool true]) (by simp [results,Tryz.results59,go_sem, *]) rfl ?_;exact ⟨rfl,rfl⟩
   ·go_enter Tryz.func59,Tryz.ntmps59;go_wp2_with fail;refine (HSL.out _).mono ?_;rintro e4 w4 ⟨rfl,rfl⟩;go_wp2_with fail;refine (HVN.out _).mono ?_;rintro e5 w5 ⟨rfl,rfl⟩;go_wp2_with fail;refine (HVD.out _).mono ?_;rintro e6 w6 ⟨rfl,rfl⟩;go_wp2_with fail;refine bodyPost_ret (v:= .tuple #[.int .i64 z,.int .i64 (d:Int),.bool true]) (by simp [results,Tryz.results59,go_sem, *]) rfl ?_;exact ⟨rfl,rfl⟩
  ·have hzz:=hqn.2.2 hz;have HZ:=Zh hzz;clear hi1 hqn hzz
   rcases hway with ⟨rfl,rfl⟩|⟨hlt,hx2⟩
   ·go_enter Tryz.func59,Tryz.ntmps59;go_wp2_with fail;refine (HSL.out _).mono ?_;rintro e4 w4 ⟨rfl,rfl⟩;go_wp2_with fail;refine (HVN.out _).mono ?_;rintro e5 w5 ⟨rfl,rfl⟩;go_wp2_with fail;refine bodyPost_ret (v:= .tuple #[.int .i64 (m:Int),.int .i64 1,.bool true]) (by simp [results,Tryz.results59,go_sem, *]) rfl ?_;exact ⟨by rw [HZ.out];rfl,rfl⟩
   ·go_enter Tryz.func59,Tryz.ntmps59;go_wp2_with fail;refine (HSL.out _).mono ?_;rintro e4 w4 ⟨rfl,rfl⟩;go_wp2_with fail;refine (HVN.out _).mono ?_;rintro e5 w5 ⟨rfl,rfl⟩;go_wp2_with fail;refine (HVD.out _).mono ?_;rintro e6 w6 ⟨rfl,rfl⟩;go_wp2_with fail;refine bodyPost_ret (v:= .tuple #[.int .i64 (m:Int),.int .i64 (d:Int),.bool true]) (by simp [results,Tryz.results59,go_sem, *]) rfl ?_;exact ⟨by rw [HZ.out],rfl⟩
structure DlR (w:World) (v:Value) (l:List Nat) (m:Nat):Prop where
  sc:Sc encD 1 w w.heap.size v l
  dg:Dg 1000000000 l
  tr:Tr l
  eq:val 1000000000 l=m
theorem DlR.later {w w':World} {v:Value} {l:List Nat} {m:Nat} (h:DlR w v l m) (hb:Below w.heap.size w w'):DlR w' v l m:=⟨h.sc.later hb,h.dg,h.tr,h.eq⟩
def RetDl (w:World) (m:Nat) (e:Ending) (w':World):Prop:=∃a n c l,e= .returned (.slice a n c)/\DlR w' (.slice a n c) l m/\Below w.heap.size w w'
theorem Zkb {w:World} {b o x:Nat} (h:At w b o (encD x)):w.cell? ⟨b,o,none⟩=some (.int .i64 (x:Int)):=h.c1
theorem Zg1 (w:World) (a:Option Addr) (n c:Nat) (l:List Nat) (h:Sc encD 1 w w.heap.size (.slice a n c) l) (i:Nat) (hi:i<=1000000000):Calls Tryz.prog 215 #[.slice a n c,.int .i64 (i:Int)] w fun e w'=>e= .returned (.int .i64 ((dig l i:Nat):Int))/\w=w':=by
  obtain ⟨a',c',e,hl,hl',hA⟩:=h;injection e with e1 e2 e3
  subst e1 e2 e3;obtain ⟨R,hR⟩: ∃R,dig l i=R:=⟨_,rfl⟩;rw [hR]
  by_cases h0:i<l.length
  ·obtain ⟨b,off,rfl,hbb,hcells⟩:=hA (by omega);have g1:=Zkb (hcells i h0);rw [<-Zbh h0,hR,Nat.mul_one] at g1;have k1:decide ((i:Int)<(l.length:Int))=true:=Zt (by omega);have k1':decide (i<l.length)=true:=Zt h0;have k3:decide ((l.length:Int)<=(i:Int))=false:=Zf (by omega);clear hcells hA hR;generalize l.length=N at *;go_enter Tryz.func215,Tryz.ntmps215;go_wp2_with fail;go_ret;exact ⟨rfl,rfl⟩
  ·rw [Zey (by omega)] at hR;subst hR;have k1:decide ((i:Int)<(l.length:Int))=false:=Zf (by omega);have k1':decide (i<l.length)=false:=Zf h0;clear hA h0;generalize l.length=N at *;go_enter Tryz.func215,Tryz.ntmps215;go_wp2_with fail;go_ret;exact ⟨rfl,rfl⟩
theorem Zdn (w:World) (a1 a2:Option Addr) (n1 n2 c1 c2:Nat) (l1 l2:List Nat) (m1 m2:Nat) (h1:DlR w (.slice a1 n1 c1) l1 m1) (h2:DlR w (.slice a2 n2 c2) l2 m2):Calls Tryz.prog 142 #[.slice a1 n1 c1,.slice a2 n2 c2] w (Ret (.int .i64 (icmp m1 m2)) w):=by
  obtain ⟨⟨a1',c1',e,hl1,hl1',hA1⟩,hd1,ht1,hv1⟩:=h1;injection e with e1 e2 e3
  subst e1 e2 e3;obtain ⟨⟨a2',c2',e,hl2,hl2',hA2⟩,hd2,ht2,hv2⟩:=h2;injection e with e1 e2 e3
  subst e1 e2 e3;have HA1:=Zh hA1;have HA2:=Zh hA2;obtain ⟨R,hR⟩: ∃R,icmp m1 m2=R:=⟨_,rfl⟩;rw [hR];have HLT:=Zh (show val 1000000000 l1<val 1000000000 l2->R= -1 from fun h=>by rw [<-hR];unfold icmp;rw [if_pos (by omega)]);have HGT:=Zh (show val 1000000000 l2<val 1000000000 l1->R=1 from fun h=>by rw [<-hR];unfold icmp;rw [if_neg (by omega),if_pos (by omega)]);have HEQ:=Zh (show val 1000000000 l1=val 1000000000 l2->R=0 from fun h=>by rw [<-hR];unfold icmp;rw [if_neg (by omega),if_neg (by omega)]);have HD1:=Zh hd1;have HD2:=Zh hd2;have HLA:=Zh (fun (h:l1.length<l2.length)=>Zbt (B:=1000000000) (by decide) hd1 ht2 h);have HLB:=Zh (fun (h:l2.length<l1.length)=>Zbt (B:=1000000000) (by decide) hd2 ht1 h);obtain ⟨N,hN⟩: ∃N,l1.length=N:=⟨_,rfl⟩;obtain ⟨M,hM⟩: ∃M,l2.length=M:=⟨_,rfl⟩;have HN:=Zh hN;have HM:=Zh hM;rw [hN] at hl1 hl1' HLA HLB ⊢;rw [hM] at hl2 hl2' HLA HLB ⊢;clear hA1 hA2 hN hM hR hv1 hv2 hd1 hd2 ht1 ht2
  by_cases h0:N=M
  rotate_left
  ·have k0:((N:Int) !=(M:Int))=true:=bne_iff_ne.2 (by omega)
   by_cases h1:N<M
   ·have k1:decide ((N:Int)<(M:Int))=true:=Zt (by omega);have k1':decide (N<M)=true:=Zt (by omega);have HV:=Zh (HLT.out (HLA.out h1));clear h0 h1;go_enter Tryz.func142,Tryz.ntmps142;go_wp2_with fail;go_ret;exact ⟨by rw [HV.out];rfl,Below.refl _ _⟩
   ·have k1:decide ((N:Int)<(M:Int))=false:=Zf (by omega);have k1':decide (N<M)=false:=Zf (by omega);have HV:=Zh (HGT.out (HLB.out (by omega)));clear h0 h1;go_enter Tryz.func142,Tryz.ntmps142;go_wp2_with fail;go_ret;exact ⟨by rw [HV.out];rfl,Below.refl _ _⟩
  subst h0;have k0:IntKind.i64.wrap ((N:Int)-1)=(N:Int)-1:=IntWalk.i64_in _ (by omega);have k00:((N:Int) !=(N:Int))=false:=by simp
  go_enter Tryz.func142,Tryz.ntmps142;go_wp2_with fail
  go_loopw [5] (fun i wr=> ∃k:Nat,k<=N/\i= .int .i64 ((k:Int)-1)/\l1.drop k=l2.drop k/\Below w.heap.size w wr) (fun i _=>(intOf i+1).toNat)
  case atStart=>exact ⟨N,Nat.le_refl _,rfl,by rw [List.drop_of_length_le (by rw [HN.out];omega),List.drop_of_length_le (by rw [HM.out];omega)],Below.refl _ _⟩
  case round=>
    obtain ⟨k,hk,rfl,hz,hbe⟩:=hrel;have HZ:=Zh hz;have HB:=Zh hbe;clear hz hbe k0 k00
    by_cases h0:k=0
    ·subst h0;have HV:=Zh (HEQ.out (by have:=HZ.out;simp only [Z7] at this;rw [this]));go_wp2_with fail;go_ret;exact ⟨by rw [HV.out];rfl,HB.out⟩
    ·obtain ⟨j,rfl⟩: ∃j,k=j+1:=⟨k-1,by omega⟩;have hj1:j<l1.length:=by rw [HN.out];omega
     have hj2:j<l2.length:=by rw [HM.out];omega
     obtain ⟨b1,off1,rfl,hbb1,hcells1⟩:=HA1.out (by omega);obtain ⟨b2,off2,rfl,hbb2,hcells2⟩:=HA2.out (by omega);have g1:=((hcells1 j hj1).below HB.out hbb1).c1;have g2:=((hcells2 j hj2).below HB.out hbb2).c1;rw [Nat.mul_one] at g1 g2;have hz1:b1<wr.heap.size:=by have:=HB.size;omega
     have hz2:b2<wr.heap.size:=by have:=HB.size;omega
     have HC1:=Zh (fun h=>Zd6 (B:=1000000000) HD1.out (by rw [HN.out,HM.out]) j hj1 HZ.out h);have HC2:=Zh (fun h=>Zd6 (B:=1000000000) HD2.out (by rw [HN.out,HM.out]) j hj2 HZ.symm h);have HDR:=Zh (show l1[j]=l2[j]->l1.drop j=l2.drop j from fun h=>by rw [List.drop_eq_getElem_cons hj1,List.drop_eq_getElem_cons hj2,h,HZ.out]);clear hcells1 hcells2;generalize l1[j]=x at *;generalize l2[j]=y at *;have k1:IntKind.i64.wrap ((j:Int)-1)=(j:Int)-1:=IntWalk.i64_in _ (by omega);have k5:(((j+1:Nat):Int)-1)=(j:Int):=by omega
     rw [k5];have k2:decide ((0:Int)<=(j:Int))=true:=Zt (by omega);have k2':decide (0<=j)=true:=Zt (by omega);have k3:decide (((N:Nat):Int)<=(j:Int))=false:=Zf (by omega)
     rcases Nat.lt_trichotomy x y with hx|hx|hx
     ·have k6:decide ((x:Int)<(y:Int))=true:=Zt (by omega);have k6':decide (x<y)=true:=Zt (by omega);have HV:=Zh (HLT.out (HC1.out hx));clear hx h0;go_wp2_with fail
      go_quiet (fail)
      go_wp2_with fail;go_ret;exact ⟨by rw [HV.out];rfl,below_drewN HB.out _⟩
     ·subst hx;have k6:decide ((x:Int)<(x:Int))=false:=Zf (by omega);have k6':decide (x<x)=false:=Zf (by omega);have HV:=Zh (HDR.out rfl);clear h0;go_wp2_with fail
      go_quiet (fail)
      go_wp2_with fail
      go_quiet (fail)
      go_wp2_with fail;go_roundw
      case rel=>exact ⟨j,by omega,by go_num,HV.out,by first|exact below_drewN HB.out _|exact below_drewN (below_drewN HB.out _) _⟩
      case measure=>simp [intOf];try omega
     ·have k6:decide ((x:Int)<(y:Int))=false:=Zf (by omega);have k6':decide (x<y)=false:=Zf (by omega);have k7:decide ((y:Int)<(x:Int))=true:=Zt (by omega);have k7':decide (y<x)=true:=Zt (by omega);have HV:=Zh (HGT.out (HC2.out hx));clear hx h0;go_wp2_with fail
      go_quiet (fail)
      go_wp2_with fail
      go_quiet (fail)
      go_wp2_with fail;go_ret;exact ⟨by rw [HV.out];rfl,by first|exact below_drewN HB.out _|exact below_drewN (below_drewN HB.out _) _⟩
end Go.Proofs.YtijajkfmlghgkaaGreatDoor.Nu
