/- Lemmas on the way to the law TopMirrored: Uc Rw Ud Ue Uf -/
import Derived.Test.YtijajkfmlghgkaaGreatDoorTopMirroredP16
import Derived.Laws.EntriesVeiled
set_option linter.unusedVariables false
set_option linter.unusedSimpArgs false
set_option maxRecDepth 100000
set_option maxHeartbeats 4000000
namespace Go.Proofs.YtijajkfmlghgkaaGreatDoor.Nu
open Go Go.Proofs Go.RowKit Go.Proofs.YtijajkfmlghgkaaGreatDoor
def Zhs (w:World) (qs:List Rat) (e:Ending) (w':World):Prop:=∃v,e= .returned v/\SlF w' v qs/\Below w.heap.size w w'
def buoL (s:Shp) (ms:List Int):List Rat:=(List.range s.wt.length).map (buoR (cF s) (lF s ms) s.wt.length)
def sheL (s:Shp) (ms:List Int):List Rat:=(List.range s.wt.length).map (sheR (cF s) (lF s ms) s.wt.length)
def benL (s:Shp) (ms:List Int):List Rat:=(List.range s.wt.length).map (benR (cF s) (lF s ms) s.wt.length)
theorem Zqu (w:World) (b:Nat) (x:ShV) (s:Shp) (vm:Value) (ms:List Int) (h:AfR w b x s vm ms):Calls Tryz.prog 77 #[.pointer (some ⟨b,0,none⟩)] w (Zhs w (buoL s ms)):=by
  obtain ⟨vl,vb,vs,vd,t,hB,hL,hU,hS,hD,hT⟩:=h;have c0:w.cell? ⟨b,8,none⟩=some vb:=hB.cell 8;have hb:=hB.lt;have HR:=Zh (show SlF w vb (buoL s ms) from hU);clear hB hL hU hS hD hT;go_enter Tryz.func77,Tryz.ntmps77;go_wp2_with fail;go_ret;exact ⟨_,rfl,HR.out,Below.refl _ _⟩
theorem Zqv (w:World) (b:Nat) (x:ShV) (s:Shp) (vm:Value) (ms:List Int) (h:AfR w b x s vm ms):Calls Tryz.prog 73 #[.pointer (some ⟨b,0,none⟩)] w (Zhs w (sheL s ms)):=by
  obtain ⟨vl,vb,vs,vd,t,hB,hL,hU,hS,hD,hT⟩:=h;have c0:w.cell? ⟨b,9,none⟩=some vs:=hB.cell 9;have hb:=hB.lt;have HR:=Zh (show SlF w vs (sheL s ms) from hS);clear hB hL hU hS hD hT;go_enter Tryz.func73,Tryz.ntmps73;go_wp2_with fail;go_ret;exact ⟨_,rfl,HR.out,Below.refl _ _⟩
theorem Zqw (w:World) (b:Nat) (x:ShV) (s:Shp) (vm:Value) (ms:List Int) (h:AfR w b x s vm ms):Calls Tryz.prog 74 #[.pointer (some ⟨b,0,none⟩)] w (Zhs w (benL s ms)):=by
  obtain ⟨vl,vb,vs,vd,t,hB,hL,hU,hS,hD,hT⟩:=h;have c0:w.cell? ⟨b,10,none⟩=some vd:=hB.cell 10;have hb:=hB.lt;have HR:=Zh (show SlF w vd (benL s ms) from hD);clear hB hL hU hS hD hT;go_enter Tryz.func74,Tryz.ntmps74;go_wp2_with fail;go_ret;exact ⟨_,rfl,HR.out,Below.refl _ _⟩
theorem Zqx (w:World) (b:Nat) (x:ShV) (s:Shp) (vm:Value) (ms:List Int) (h:AfR w b x s vm ms):Calls Tryz.prog 78 #[.pointer (some ⟨b,0,none⟩)] w (Zhs w [trmR (cF s) (lF s ms) s.wt.length]):=by
  obtain ⟨vl,vb,vs,vd,t,hB,hL,hU,hS,hD,hT⟩:=h;have c0:w.cell? ⟨b,11,none⟩=some (.int .i64 t.s):=hB.cell 11;have c1:w.cell? ⟨b,12,none⟩=some (.slice t.a t.n t.c):=hB.cell 12;have c2:w.cell? ⟨b,13,none⟩=some (.int .i64 t.t):=hB.cell 13;have c3:w.cell? ⟨b,14,none⟩=some (.slice t.b t.m t.d):=hB.cell 14;have hb:=hB.lt;have HR:=Zh hT;clear hB hL hU hS hD hT;go_enter Tryz.func78,Tryz.ntmps78;go_wp2_with fail;go_ret;have hb2:Below w.heap.size w (w.alloc (.cells #[.int .i64 t.s,.slice t.a t.n t.c,.int .i64 t.t,.slice t.b t.m t.d] 135)):=(Below.refl _ _).alloc (Nat.le_refl _) _;have hN:=Box.new w #[.int .i64 t.s,.slice t.a t.n t.c,.int .i64 t.t,.slice t.b t.m t.d] 135;have hT:=HR.later hb2;refine ⟨_,rfl,⟨[t],⟨_,1,rfl,by simp,Nat.le_refl _,fun _=>⟨w.heap.size,0,rfl,by simp,fun i hi=> ?_⟩⟩,rfl,fun i hi hi'=> ?_⟩,hb2⟩
  ·obtain rfl:i=0:=by simp at hi;omega
   exact fun j u hu=>by
     have h:=hN.cell (0+0* 4+j);rw [h,show 0+0* 4+j=j by omega];exact hu
  ·obtain rfl:i=0:=by simp at hi;omega
   exact hT
def Zb3 (w:World) (qs:List Rat) (e:Ending) (w':World):Prop:=∃v,e= .returned (.tuple #[v,.int .i64 0])/\Sl encQ 1 w' w'.heap.size v qs/\Below w.heap.size w w'
theorem Zl7 (w:World) (hw:TbR w) (x:ShV) (s:Shp) (vm:Value) (ms:List Int) (hs:ShR w x s) (hm:Sl encI 1 w w.heap.size vm ms) (ok:ShOk s) (cg:CgOk s ms) (qs:List Rat)
    (hn:qs.length<=24) (hd: ∀q∈qs,Dn 600 q) (hf: ∀u b,AfR u b x s vm ms->Calls Tryz.prog 73 #[.pointer (some ⟨b,0,none⟩)] u (Zhs u qs)):
    Calls Tryz.prog 72 #[x.v s.t,vm,.func (.func 73) #[] #[]] w (Zb3 w qs):=by
 have HCM:=Zh (fun (u:World) (hb:Below w.heap.size w u)=>(by exact Zbl u (hw.later hb) x s vm ms (hs.later hb) (hm.later hb) ok cg:Calls Tryz.prog 75 #[.agg #[.slice x.ah x.nh x.ch,.slice x.aw x.nw x.cw,.slice x.ac x.nc x.cc,.slice x.az x.ns x.cs,.slice x.ab x.nb x.cb,.string (txq s.t)],vm] u (Ret (.int .i64 0) u)));have HFL:=Zh (fun (u:World) (hb:Below w.heap.size w u)=>(by exact Zd6 u (hw.later hb) x s vm ms (hs.later hb) (hm.later hb) ok cg:Calls Tryz.prog 150 #[.agg #[.slice x.ah x.nh x.ch,.slice x.aw x.nw x.cw,.slice x.ac x.nc x.cc,.slice x.az x.ns x.cs,.slice x.ab x.nb x.cb,.string (txq s.t)],vm] u (fun e w'=> ∃b,e= .returned (.pointer (some ⟨b,0,none⟩))/\AfR w' b x s vm ms/\Below u.heap.size u w')));have HF:=Zh hf;have HCO:=Zh (fun (u:World) (hb:Below w.heap.size w u) (v:Value) (h:SlF u v qs)=>Zc1 u (hw.later hb) v qs h hn hd);have HTX:=Zh (fun (u:World) (hb:Below w.heap.size w u) (v:Value) (h:SlF u v qs)=>Ze0 u (hw.later hb) v qs h hn (fun q hq=>(hd q hq).mono (by decide)));clear hw hs hm ok cg hn hd hf;obtain ⟨ah,aw,ac,az,ab,nh,nw,nc,ns,nb,ch,cw,cc,cz,cb⟩:=x;dsimp only at HCM HFL;show Calls Tryz.prog 72 #[.agg #[.slice ah nh ch,.slice aw nw cw,.slice ac nc cc,.slice az ns cz,.slice ab nb cb,.string (txq s.t)],vm,.func (.func 73) #[] #[]] w _;generalize txq s.t=T at HCM HFL ⊢;have HB:=Zh ((Below.refl w.heap.size w).alloc (Nat.le_refl _) (.cells #[.slice ah nh ch,.slice aw nw cw,.slice ac nc cc,.slice az ns cz,.slice ab nb cb,.string T] 51));have HX:=Zh (Box.new w #[.slice ah nh ch,.slice aw nw cw,.slice ac nc cc,.slice az ns cz,.slice ab nb cb,.string T] 51);obtain ⟨x0,x1,x2,x3,x4,x5,xf,xz⟩:=HX.w6;have HS:=Zh (HCM.out _ HB.out);go_enter Tryz.func72,Tryz.ntmps72;go_wp2_with fail;refine HS.mono ?_;rintro e4 w4 ⟨rfl,hb⟩;replace HB:=Zh (HB.Zg hb);replace HX:=Zh (HX.later hb);clear hb x0 x1 x2 x3 x4 x5 xf xz;obtain ⟨x0,x1,x2,x3,x4,x5,xf,xz⟩:=HX.w6;have HS:=Zh (HFL.out _ HB.out);go_wp2_with fail;refine HS.mono ?_;rintro e5 w5 ⟨b,rfl,ha,hb⟩;replace HB:=Zh (HB.Zg hb);replace HX:=Zh (HX.later hb);clear hb x0 x1 x2 x3 x4 x5 xf xz;obtain ⟨x0,x1,x2,x3,x4,x5,xf,xz⟩:=HX.w6;have HS:=Zh (HF.out _ _ ha);clear ha;go_wp2_with fail;refine HS.mono ?_;rintro e6 w6 ⟨v,rfl,hv,hb⟩;replace HB:=Zh (HB.Zg hb);replace HX:=Zh (HX.later hb);clear hb x0 x1 x2 x3 x4 x5 xf xz;obtain ⟨x0,x1,x2,x3,x4,x5,xf,xz⟩:=HX.w6;have HV:=Zh hv;have HS:=Zh (HCO.out _ HB.out _ hv);clear hv;go_wp2_with fail;refine HS.mono ?_;rintro e7 w7 ⟨rfl,hb⟩;have HV7:=Zh (HV.later hb);replace HB:=Zh (HB.Zg hb);replace HX:=Zh (HX.later hb);clear hb x0 x1 x2 x3 x4 x5 xf xz;obtain ⟨x0,x1,x2,x3,x4,x5,xf,xz⟩:=HX.w6;have HS:=Zh (HTX.out _ HB.out _ HV7.out);go_wp2_with fail;refine HS.mono ?_;rintro e8 w8 ⟨v8,rfl,hv,hb⟩;have HV8:=Zh hv;replace HB:=Zh (HB.Zg hb);replace HX:=Zh (HX.later hb);clear hb x0 x1 x2 x3 x4 x5 xf xz;obtain ⟨x0,x1,x2,x3,x4,x5,xf,xz⟩:=HX.w6;clear hv;go_wp2_with fail;refine bodyPost_ret (v:= .tuple #[v8,.int .i64 0]) (by simp [results,Tryz.results72,go_sem, *]) rfl ?_;exact ⟨_,rfl,HV8.out,HB.out⟩
theorem Zl8 (w:World) (hw:TbR w) (x:ShV) (s:Shp) (vm:Value) (ms:List Int) (hs:ShR w x s) (hm:Sl encI 1 w w.heap.size vm ms) (ok:ShOk s) (cg:CgOk s ms) (qs:List Rat)
    (hn:qs.length<=24) (hd: ∀q∈qs,Dn 600 q) (hf: ∀u b,AfR u b x s vm ms->Calls Tryz.prog 74 #[.pointer (some ⟨b,0,none⟩)] u (Zhs u qs)):
    Calls Tryz.prog 72 #[x.v s.t,vm,.func (.func 74) #[] #[]] w (Zb3 w qs):=by
 have HCM:=Zh (fun (u:World) (hb:Below w.heap.size w u)=>(by exact Zbl u (hw.later hb) x s vm ms (hs.later hb) (hm.later hb) ok cg:Calls Tryz.prog 75 #[.agg #[.slice x.ah x.nh x.ch,.slice x.aw x.nw x.cw,.slice x.ac x.nc x.cc,.slice x.az x.ns x.cs,.slice x.ab x.nb x.cb,.string (txq s.t)],vm] u (Ret (.int .i64 0) u)));have HFL:=Zh (fun (u:World) (hb:Below w.heap.size w u)=>(by exact Zd6 u (hw.later hb) x s vm ms (hs.later hb) (hm.later hb) ok cg:Calls Tryz.prog 150 #[.agg #[.slice x.ah x.nh x.ch,.slice x.aw x.nw x.cw,.slice x.ac x.nc x.cc,.slice x.az x.ns x.cs,.slice x.ab x.nb x.cb,.string (txq s.t)],vm] u (fun e w'=> ∃b,e= .returned (.pointer (some ⟨b,0,none⟩))/\AfR w' b x s vm ms/\Below u.heap.size u w')));have HF:=Zh hf;have HCO:=Zh (fun (u:World) (hb:Below w.heap.size w u) (v:Value) (h:SlF u v qs)=>Zc1 u (hw.later hb) v qs h hn hd);have HTX:=Zh (fun (u:World) (hb:Below w.heap.size w u) (v:Value) (h:SlF u v qs)=>Ze0 u (hw.later hb) v qs h hn (fun q hq=>(hd q hq).mono (by decide)));clear hw hs hm ok cg hn hd hf;obtain ⟨ah,aw,ac,az,ab,nh,nw,nc,ns,nb,ch,cw,cc,cz,cb⟩:=x;dsimp only at HCM HFL;show Calls Tryz.prog 72 #[.agg #[.slice ah nh ch,.slice aw nw cw,.slice ac nc cc,.slice az ns cz,.slice ab nb cb,.string (txq s.t)],vm,.func (.func 74) #[] #[]] w _;generalize txq s.t=T at HCM HFL ⊢;have HB:=Zh ((Below.refl w.heap.size w).alloc (Nat.le_refl _) (.cells #[.slice ah nh ch,.slice aw nw cw,.slice ac nc cc,.slice az ns cz,.slice ab nb cb,.string T] 51));have HX:=Zh (Box.new w #[.slice ah nh ch,.slice aw nw cw,.slice ac nc cc,.slice az ns cz,.slice ab nb cb,.string T] 51);obtain ⟨x0,x1,x2,x3,x4,x5,xf,xz⟩:=HX.w6;have HS:=Zh (HCM.out _ HB.out);go_enter Tryz.func72,Tryz.ntmps72;go_wp2_with fail;refine HS.mono ?_;rintro e4 w4 ⟨rfl,hb⟩;replace HB:=Zh (HB.Zg hb);replace HX:=Zh (HX.later hb);clear hb x0 x1 x2 x3 x4 x5 xf xz;obtain ⟨x0,x1,x2,x3,x4,x5,xf,xz⟩:=HX.w6;have HS:=Zh (HFL.out _ HB.out);go_wp2_with fail;refine HS.mono ?_;rintro e5 w5 ⟨b,rfl,ha,hb⟩;replace HB:=Zh (HB.Zg hb);replace HX:=Zh (HX.later hb);clear hb x0 x1 x2 x3 x4 x5 xf xz;obtain ⟨x0,x1,x2,x3,x4,x5,xf,xz⟩:=HX.w6;have HS:=Zh (HF.out _ _ ha);clear ha;go_wp2_with fail;refine HS.mono ?_;rintro e6 w6 ⟨v,rfl,hv,hb⟩;replace HB:=Zh (HB.Zg hb);replace HX:=Zh (HX.later hb);clear hb x0 x1 x2 x3 x4 x5 xf xz;obtain ⟨x0,x1,x2,x3,x4,x5,xf,xz⟩:=HX.w6;have HV:=Zh hv;have HS:=Zh (HCO.out _ HB.out _ hv);clear hv;go_wp2_with fail;refine HS.mono ?_;rintro e7 w7 ⟨rfl,hb⟩;have HV7:=Zh (HV.later hb);replace HB:=Zh (HB.Zg hb);replace HX:=Zh (HX.later hb);clear hb x0 x1 x2 x3 x4 x5 xf xz;obtain ⟨x0,x1,x2,x3,x4,x5,xf,xz⟩:=HX.w6;have HS:=Zh (HTX.out _ HB.out _ HV7.out);go_wp2_with fail;refine HS.mono ?_;rintro e8 w8 ⟨v8,rfl,hv,hb⟩;have HV8:=Zh hv;replace HB:=Zh (HB.Zg hb);replace HX:=Zh (HX.later hb);clear hb x0 x1 x2 x3 x4 x5 xf xz;obtain ⟨x0,x1,x2,x3,x4,x5,xf,xz⟩:=HX.w6;clear hv;go_wp2_with fail;refine bodyPost_ret (v:= .tuple #[v8,.int .i64 0]) (by simp [results,Tryz.results72,go_sem, *]) rfl ?_;exact ⟨_,rfl,HV8.out,HB.out⟩
theorem Zl9 (w:World) (hw:TbR w) (x:ShV) (s:Shp) (vm:Value) (ms:List Int) (hs:ShR w x s) (hm:Sl encI 1 w w.heap.size vm ms) (ok:ShOk s) (cg:CgOk s ms) (qs:List Rat)
    (hn:qs.length<=24) (hd: ∀q∈qs,Dn 600 q) (hf: ∀u b,AfR u b x s vm ms->Calls Tryz.prog 77 #[.pointer (some ⟨b,0,none⟩)] u (Zhs u qs)):
    Calls Tryz.prog 72 #[x.v s.t,vm,.func (.func 77) #[] #[]] w (Zb3 w qs):=by
 have HCM:=Zh (fun (u:World) (hb:Below w.heap.size w u)=>(by exact Zbl u (hw.later hb) x s vm ms (hs.later hb) (hm.later hb) ok cg:Calls Tryz.prog 75 #[.agg #[.slice x.ah x.nh x.ch,.slice x.aw x.nw x.cw,.slice x.ac x.nc x.cc,.slice x.az x.ns x.cs,.slice x.ab x.nb x.cb,.string (txq s.t)],vm] u (Ret (.int .i64 0) u)));have HFL:=Zh (fun (u:World) (hb:Below w.heap.size w u)=>(by exact Zd6 u (hw.later hb) x s vm ms (hs.later hb) (hm.later hb) ok cg:Calls Tryz.prog 150 #[.agg #[.slice x.ah x.nh x.ch,.slice x.aw x.nw x.cw,.slice x.ac x.nc x.cc,.slice x.az x.ns x.cs,.slice x.ab x.nb x.cb,.string (txq s.t)],vm] u (fun e w'=> ∃b,e= .returned (.pointer (some ⟨b,0,none⟩))/\AfR w' b x s vm ms/\Below u.heap.size u w')));have HF:=Zh hf;have HCO:=Zh (fun (u:World) (hb:Below w.heap.size w u) (v:Value) (h:SlF u v qs)=>Zc1 u (hw.later hb) v qs h hn hd);have HTX:=Zh (fun (u:World) (hb:Below w.heap.size w u) (v:Value) (h:SlF u v qs)=>Ze0 u (hw.later hb) v qs h hn (fun q hq=>(hd q hq).mono (by decide)));clear hw hs hm ok cg hn hd hf;obtain ⟨ah,aw,ac,az,ab,nh,nw,nc,ns,nb,ch,cw,cc,cz,cb⟩:=x;dsimp only at HCM HFL;show Calls Tryz.prog 72 #[.agg #[.slice ah nh ch,.slice aw nw cw,.slice ac nc cc,.slice az ns cz,.slice ab nb cb,.string (txq s.t)],vm,.func (.func 77) #[] #[]] w _;generalize txq s.t=T at HCM HFL ⊢;have HB:=Zh ((Below.refl w.heap.size w).alloc (Nat.le_refl _) (.cells #[.slice ah nh ch,.slice aw nw cw,.slice ac nc cc,.slice az ns cz,.slice ab nb cb,.string T] 51));have HX:=Zh (Box.new w #[.slice ah nh ch,.slice aw nw cw,.slice ac nc cc,.slice az ns cz,.slice ab nb cb,.string T] 51);obtain ⟨x0,x1,x2,x3,x4,x5,xf,xz⟩:=HX.w6;have HS:=Zh (HCM.out _ HB.out);go_enter Tryz.func72,Tryz.ntmps72;go_wp2_with fail;refine HS.mono ?_;rintro e4 w4 ⟨rfl,hb⟩;replace HB:=Zh (HB.Zg hb);replace HX:=Zh (HX.later hb);clear hb x0 x1 x2 x3 x4 x5 xf xz;obtain ⟨x0,x1,x2,x3,x4,x5,xf,xz⟩:=HX.w6;have HS:=Zh (HFL.out _ HB.out);go_wp2_with fail;refine HS.mono ?_;rintro e5 w5 ⟨b,rfl,ha,hb⟩;replace HB:=Zh (HB.Zg hb);replace HX:=Zh (HX.later hb);clear hb x0 x1 x2 x3 x4 x5 xf xz;obtain ⟨x0,x1,x2,x3,x4,x5,xf,xz⟩:=HX.w6;have HS:=Zh (HF.out _ _ ha);clear ha;go_wp2_with fail;refine HS.mono ?_;rintro e6 w6 ⟨v,rfl,hv,hb⟩;replace HB:=Zh (HB.Zg hb);replace HX:=Zh (HX.later hb);clear hb x0 x1 x2 x3 x4 x5 xf xz;obtain ⟨x0,x1,x2,x3,x4,x5,xf,xz⟩:=HX.w6;have HV:=Zh hv;have HS:=Zh (HCO.out _ HB.out _ hv);clear hv;go_wp2_with fail;refine HS.mono ?_;rintro e7 w7 ⟨rfl,hb⟩;have HV7:=Zh (HV.later hb);replace HB:=Zh (HB.Zg hb);replace HX:=Zh (HX.later hb);clear hb x0 x1 x2 x3 x4 x5 xf xz;obtain ⟨x0,x1,x2,x3,x4,x5,xf,xz⟩:=HX.w6;have HS:=Zh (HTX.out _ HB.out _ HV7.out);go_wp2_with fail;refine HS.mono ?_;rintro e8 w8 ⟨v8,rfl,hv,hb⟩;have HV8:=Zh hv;replace HB:=Zh (HB.Zg hb);replace HX:=Zh (HX.later hb);clear hb x0 x1 x2 x3 x4 x5 xf xz;obtain ⟨x0,x1,x2,x3,x4,x5,xf,xz⟩:=HX.w6;clear hv;go_wp2_with fail;refine bodyPost_ret (v:= .tuple #[v8,.int .i64 0]) (by simp [results,Tryz.results72,go_sem, *]) rfl ?_;exact ⟨_,rfl,HV8.out,HB.out⟩
theorem Zma (w:World) (hw:TbR w) (x:ShV) (s:Shp) (vm:Value) (ms:List Int) (hs:ShR w x s) (hm:Sl encI 1 w w.heap.size vm ms) (ok:ShOk s) (cg:CgOk s ms) (qs:List Rat)
    (hn:qs.length<=24) (hd: ∀q∈qs,Dn 600 q) (hf: ∀u b,AfR u b x s vm ms->Calls Tryz.prog 78 #[.pointer (some ⟨b,0,none⟩)] u (Zhs u qs)):
    Calls Tryz.prog 72 #[x.v s.t,vm,.func (.func 78) #[] #[]] w (Zb3 w qs):=by
 have HCM:=Zh (fun (u:World) (hb:Below w.heap.size w u)=>(by exact Zbl u (hw.later hb) x s vm ms (hs.later hb) (hm.later hb) ok cg:Calls Tryz.prog 75 #[.agg #[.slice x.ah x.nh x.ch,.slice x.aw x.nw x.cw,.slice x.ac x.nc x.cc,.slice x.az x.ns x.cs,.slice x.ab x.nb x.cb,.string (txq s.t)],vm] u (Ret (.int .i64 0) u)));have HFL:=Zh (fun (u:World) (hb:Below w.heap.size w u)=>(by exact Zd6 u (hw.later hb) x s vm ms (hs.later hb) (hm.later hb) ok cg:Calls Tryz.prog 150 #[.agg #[.slice x.ah x.nh x.ch,.slice x.aw x.nw x.cw,.slice x.ac x.nc x.cc,.slice x.az x.ns x.cs,.slice x.ab x.nb x.cb,.string (txq s.t)],vm] u (fun e w'=> ∃b,e= .returned (.pointer (some ⟨b,0,none⟩))/\AfR w' b x s vm ms/\Below u.heap.size u w')));have HF:=Zh hf;have HCO:=Zh (fun (u:World) (hb:Below w.heap.size w u) (v:Value) (h:SlF u v qs)=>Zc1 u (hw.later hb) v qs h hn hd);have HTX:=Zh (fun (u:World) (hb:Below w.heap.size w u) (v:Value) (h:SlF u v qs)=>Ze0 u (hw.later hb) v qs h hn (fun q hq=>(hd q hq).mono (by decide)));clear hw hs hm ok cg hn hd hf;obtain ⟨ah,aw,ac,az,ab,nh,nw,nc,ns,nb,ch,cw,cc,cz,cb⟩:=x;dsimp only at HCM HFL;show Calls Tryz.prog 72 #[.agg #[.slice ah nh ch,.slice aw nw cw,.slice ac nc cc,.slice az ns cz,.slice ab nb cb,.string (txq s.t)],vm,.func (.func 78) #[] #[]] w _;generalize txq s.t=T at HCM HFL ⊢;have HB:=Zh ((Below.refl w.heap.size w).alloc (Nat.le_refl _) (.cells #[.slice ah nh ch,.slice aw nw cw,.slice ac nc cc,.slice az ns cz,.slice ab nb cb,.string T] 51));have HX:=Zh (Box.new w #[.slice ah nh ch,.slice aw nw cw,.slice ac nc cc,.slice az ns cz,.slice ab nb cb,.string T] 51);obtain ⟨x0,x1,x2,x3,x4,x5,xf,xz⟩:=HX.w6;have HS:=Zh (HCM.out _ HB.out);go_enter Tryz.func72,Tryz.ntmps72;go_wp2_with fail;refine HS.mono ?_;rintro e4 w4 ⟨rfl,hb⟩;replace HB:=Zh (HB.Zg hb);replace HX:=Zh (HX.later hb);clear hb x0 x1 x2 x3 x4 x5 xf xz;obtain ⟨x0,x1,x2,x3,x4,x5,xf,xz⟩:=HX.w6;have HS:=Zh (HFL.out _ HB.out);go_wp2_with fail;refine HS.mono ?_;rintro e5 w5 ⟨b,rfl,ha,hb⟩;replace HB:=Zh (HB.Zg hb);replace HX:=Zh (HX.later hb);clear hb x0 x1 x2 x3 x4 x5 xf xz;obtain ⟨x0,x1,x2,x3,x4,x5,xf,xz⟩:=HX.w6;have HS:=Zh (HF.out _ _ ha);clear ha;go_wp2_with fail;refine HS.mono ?_;rintro e6 w6 ⟨v,rfl,hv,hb⟩;replace HB:=Zh (HB.Zg hb);replace HX:=Zh (HX.later hb);clear hb x0 x1 x2 x3 x4 x5 xf xz;obtain ⟨x0,x1,x2,x3,x4,x5,xf,xz⟩:=HX.w6;have HV:=Zh hv;have HS:=Zh (HCO.out _ HB.out _ hv);clear hv;go_wp2_with fail;refine HS.mono ?_;rintro e7 w7 ⟨rfl,hb⟩;have HV7:=Zh (HV.later hb);replace HB:=Zh (HB.Zg hb);replace HX:=Zh (HX.later hb);clear hb x0 x1 x2 x3 x4 x5 xf xz;obtain ⟨x0,x1,x2,x3,x4,x5,xf,xz⟩:=HX.w6;have HS:=Zh (HTX.out _ HB.out _ HV7.out);go_wp2_with fail;refine HS.mono ?_;rintro e8 w8 ⟨v8,rfl,hv,hb⟩;have HV8:=Zh hv;replace HB:=Zh (HB.Zg hb);replace HX:=Zh (HX.later hb);clear hb x0 x1 x2 x3 x4 x5 xf xz;obtain ⟨x0,x1,x2,x3,x4,x5,xf,xz⟩:=HX.w6;clear hv;go_wp2_with fail;refine bodyPost_ret (v:= .tuple #[v8,.int .i64 0]) (by simp [results,Tryz.results72,go_sem, *]) rfl ?_;exact ⟨_,rfl,HV8.out,HB.out⟩
theorem Zbo {α:Type} (f:Nat->α) (n:Nat):((List.range n).map f).length=n:=by simp
theorem Zmb (s:Shp) (ms:List Int) (ok:ShOk s) (cg:CgOk s ms):(∀q∈buoL s ms,Dn 600 q)/\(∀q∈sheL s ms,Dn 600 q)/\(∀q∈benL s ms,Dn 600 q)/\∀q∈ [trmR (cF s) (lF s ms) s.wt.length],Dn 600 q:=by
  obtain ⟨h1,h2⟩:=Zi9 ok cg;refine ⟨?_,?_,?_,?_⟩
  ·rintro q hq;obtain ⟨k,hk,rfl⟩:=List.mem_map.1 hq;exact (h2 k (List.mem_range.1 hk)).1
  ·rintro q hq;obtain ⟨k,hk,rfl⟩:=List.mem_map.1 hq;exact (h2 k (List.mem_range.1 hk)).2.1
  ·rintro q hq;obtain ⟨k,hk,rfl⟩:=List.mem_map.1 hq;exact (h2 k (List.mem_range.1 hk)).2.2
  ·rintro q hq;obtain rfl:=List.mem_singleton.1 hq;exact h1
theorem Zka (w:World) (hw:TbR w) (x:ShV) (s:Shp) (vm:Value) (ms:List Int) (hs:ShR w x s) (hm:Sl encI 1 w w.heap.size vm ms) (ok:ShOk s) (cg:CgOk s ms):Calls Tryz.prog 27 #[x.v s.t,vm] w (Zb3 w (buoL s ms)):=by
  have HT:=Zh (fun (u:World) (hb:Below w.heap.size w u)=>(by exact Zl9 u (hw.later hb) x s vm ms (hs.later hb) (hm.later hb) ok cg (buoL s ms) (by have:=ok.n6;simp only [buoL,Zbo];omega) (Zmb s ms ok cg).1 (fun u b h=>Zqu u b x s vm ms h):Calls Tryz.prog 72 #[.agg #[.slice x.ah x.nh x.ch,.slice x.aw x.nw x.cw,.slice x.ac x.nc x.cc,.slice x.az x.ns x.cs,.slice x.ab x.nb x.cb,.string (txq s.t)],vm,.func (.func 77) #[] #[]] u (Zb3 u (buoL s ms))));clear hw hs hm ok cg;obtain ⟨ah,aw,ac,az,ab,nh,nw,nc,ns,nb,ch,cw,cc,cz,cb⟩:=x;dsimp only at HT;show Calls Tryz.prog 27 #[.agg #[.slice ah nh ch,.slice aw nw cw,.slice ac nc cc,.slice az ns cz,.slice ab nb cb,.string (txq s.t)],vm] w _;generalize txq s.t=T at HT ⊢;have HB:=Zh ((Below.refl w.heap.size w).alloc (Nat.le_refl _) (.cells #[.slice ah nh ch,.slice aw nw cw,.slice ac nc cc,.slice az ns cz,.slice ab nb cb,.string T] 51));have HX:=Zh (Box.new w #[.slice ah nh ch,.slice aw nw cw,.slice ac nc cc,.slice az ns cz,.slice ab nb cb,.string T] 51);obtain ⟨x0,x1,x2,x3,x4,x5,xf,xz⟩:=HX.w6;have HS:=Zh (HT.out _ HB.out);go_enter Tryz.func27,Tryz.ntmps27;go_wp2_with fail;refine HS.mono ?_;rintro e4 w4 ⟨v,rfl,hv,hb⟩;replace HB:=Zh (HB.Zg hb);replace HX:=Zh (HX.later hb);clear hb x0 x1 x2 x3 x4 x5 xf xz;obtain ⟨x0,x1,x2,x3,x4,x5,xf,xz⟩:=HX.w6;have HV:=Zh hv;clear hv;go_wp2_with fail;refine bodyPost_ret (v:= .tuple #[v,.int .i64 0]) (by simp [results,Tryz.results27,go_sem, *]) rfl ?_;exact ⟨_,rfl,HV.out,HB.out⟩
theorem Zmc (w:World) (hw:TbR w) (x:ShV) (s:Shp) (vm:Value) (ms:List Int) (hs:ShR w x s) (hm:Sl encI 1 w w.heap.size vm ms) (ok:ShOk s) (cg:CgOk s ms):Calls Tryz.prog 23 #[x.v s.t,vm] w (Zb3 w (sheL s ms)):=by
  have HT:=Zh (fun (u:World) (hb:Below w.heap.size w u)=>(by exact Zl7 u (hw.later hb) x s vm ms (hs.later hb) (hm.later hb) ok cg (sheL s ms) (by have:=ok.n6;simp only [sheL,Zbo];omega) (Zmb s ms ok cg).2.1 (fun u b h=>Zqv u b x s vm ms h):Calls Tryz.prog 72 #[.agg #[.slice x.ah x.nh x.ch,.slice x.aw x.nw x.cw,.slice x.ac x.nc x.cc,.slice x.az x.ns x.cs,.slice x.ab x.nb x.cb,.string (txq s.t)],vm,.func (.func 73) #[] #[]] u (Zb3 u (sheL s ms))));clear hw hs hm ok cg;obtain ⟨ah,aw,ac,az,ab,nh,nw,nc,ns,nb,ch,cw,cc,cz,cb⟩:=x;dsimp only at HT;show Calls Tryz.prog 23 #[.agg #[.slice ah nh ch,.slice aw nw cw,.slice ac nc cc,.slice az ns cz,.slice ab nb cb,.string (txq s.t)],vm] w _;generalize txq s.t=T at HT ⊢;have HB:=Zh ((Below.refl w.heap.size w).alloc (Nat.le_refl _) (.cells #[.slice ah nh ch,.slice aw nw cw,.slice ac nc cc,.slice az ns cz,.slice ab nb cb,.string T] 51));have HX:=Zh (Box.new w #[.slice ah nh ch,.slice aw nw cw,.slice ac nc cc,.slice az ns cz,.slice ab nb cb,.string T] 51);obtain ⟨x0,x1,x2,x3,x4,x5,xf,xz⟩:=HX.w6;have HS:=Zh (HT.out _ HB.out);go_enter Tryz.func23,Tryz.ntmps23;go_wp2_with fail;refine HS.mono ?_;rintro e4 w4 ⟨v,rfl,hv,hb⟩;replace HB:=Zh (HB.Zg hb);replace HX:=Zh (HX.later hb);clear hb x0 x1 x2 x3 x4 x5 xf xz;obtain ⟨x0,x1,x2,x3,x4,x5,xf,xz⟩:=HX.w6;have HV:=Zh hv;clear hv;go_wp2_with fail;refine bodyPost_ret (v:= .tuple #[v,.int .i64 0]) (by simp [results,Tryz.results23,go_sem, *]) rfl ?_;exact ⟨_,rfl,HV.out,HB.out⟩
theorem Zmd (w:World) (hw:TbR w) (x:ShV) (s:Shp) (vm:Value) (ms:List Int) (hs:ShR w x s) (hm:Sl encI 1 w w.heap.size vm ms) (ok:ShOk s) (cg:CgOk s ms):Calls Tryz.prog 24 #[x.v s.t,vm] w (Zb3 w (benL s ms)):=by
  have HT:=Zh (fun (u:World) (hb:Below w.heap.size w u)=>(by exact Zl8 u (hw.later hb) x s vm ms (hs.later hb) (hm.later hb) ok cg (benL s ms) (by have:=ok.n6;simp only [benL,Zbo];omega) (Zmb s ms ok cg).2.2.1 (fun u b h=>Zqw u b x s vm ms h):Calls Tryz.prog 72 #[.agg #[.slice x.ah x.nh x.ch,.slice x.aw x.nw x.cw,.slice x.ac x.nc x.cc,.slice x.az x.ns x.cs,.slice x.ab x.nb x.cb,.string (txq s.t)],vm,.func (.func 74) #[] #[]] u (Zb3 u (benL s ms))));clear hw hs hm ok cg;obtain ⟨ah,aw,ac,az,ab,nh,nw,nc,ns,nb,ch,cw,cc,cz,cb⟩:=x;dsimp only at HT;show Calls Tryz.prog 24 #[.agg #[.slice ah nh ch,.slice aw nw cw,.slice ac nc cc,.slice az ns cz,.slice ab nb cb,.string (txq s.t)],vm] w _;generalize txq s.t=T at HT ⊢;have HB:=Zh ((Below.refl w.heap.size w).alloc (Nat.le_refl _) (.cells #[.slice ah nh ch,.slice aw nw cw,.slice ac nc cc,.slice az ns cz,.slice ab nb cb,.string T] 51));have HX:=Zh (Box.new w #[.slice ah nh ch,.slice aw nw cw,.slice ac nc cc,.slice az ns cz,.slice ab nb cb,.string T] 51);obtain ⟨x0,x1,x2,x3,x4,x5,xf,xz⟩:=HX.w6;have HS:=Zh (HT.out _ HB.out);go_enter Tryz.func24,Tryz.ntmps24;go_wp2_with fail;refine HS.mono ?_;rintro e4 w4 ⟨v,rfl,hv,hb⟩;replace HB:=Zh (HB.Zg hb);replace HX:=Zh (HX.later hb);clear hb x0 x1 x2 x3 x4 x5 xf xz;obtain ⟨x0,x1,x2,x3,x4,x5,xf,xz⟩:=HX.w6;have HV:=Zh hv;clear hv;go_wp2_with fail;refine bodyPost_ret (v:= .tuple #[v,.int .i64 0]) (by simp [results,Tryz.results24,go_sem, *]) rfl ?_;exact ⟨_,rfl,HV.out,HB.out⟩
theorem Zpo (w:World) (hw:TbR w) (x:ShV) (s:Shp) (vm:Value) (ms:List Int) (hs:ShR w x s) (hm:Sl encI 1 w w.heap.size vm ms) (ok:ShOk s) (cg:CgOk s ms):Calls Tryz.prog 28 #[x.v s.t,vm] w (fun e w'=>e= .returned (.tuple #[.string (txq (trmR (cF s) (lF s ms) s.wt.length)),.int .i64 0])/\Below w.heap.size w w'):=by
  have HT:=Zh (fun (u:World) (hb:Below w.heap.size w u)=>(by exact Zma u (hw.later hb) x s vm ms (hs.later hb) (hm.later hb) ok cg [trmR (cF s) (lF s ms) s.wt.length] (by simp) (Zmb s ms ok cg).2.2.2 (fun u b h=>Zqx u b x s vm ms h):Calls Tryz.prog 72 #[.agg #[.slice x.ah x.nh x.ch,.slice x.aw x.nw x.cw,.slice x.ac x.nc x.cc,.slice x.az x.ns x.cs,.slice x.ab x.nb x.cb,.string (txq s.t)],vm,.func (.func 78) #[] #[]] u (Zb3 u [trmR (cF s) (lF s ms) s.wt.length])));clear hw hs hm ok cg;generalize trmR (cF s) (lF s ms) s.wt.length=q at *;obtain ⟨ah,aw,ac,az,ab,nh,nw,nc,ns,nb,ch,cw,cc,cz,cb⟩:=x;dsimp only at HT;show Calls Tryz.prog 28 #[.agg #[.slice ah nh ch,.slice aw nw cw,.slice ac nc cc,.slice az ns cz,.slice ab nb cb,.string (txq s.t)],vm] w _;generalize txq s.t=T at HT ⊢;have HB:=Zh ((Below.refl w.heap.size w).alloc (Nat.le_refl _) (.cells #[.slice ah nh ch,.slice aw nw cw,.slice ac nc cc,.slice az ns cz,.slice ab nb cb,.string T] 51));have HX:=Zh (Box.new w #[.slice ah nh ch,.slice aw nw cw,.slice ac nc cc,.slice az ns cz,.slice ab nb cb,.string T] 51);obtain ⟨x0,x1,x2,x3,x4,x5,xf,xz⟩:=HX.w6;have HS:=Zh (HT.out _ HB.out);go_enter Tryz.func28,Tryz.ntmps28;go_wp2_with fail;refine HS.mono ?_;rintro e4 w4 ⟨v,rfl,hv,hb⟩;replace HB:=Zh (HB.Zg hb);replace HX:=Zh (HX.later hb);clear hb x0 x1 x2 x3 x4 x5 xf xz;obtain ⟨x0,x1,x2,x3,x4,x5,xf,xz⟩:=HX.w6;obtain ⟨a,c,rfl,-,hA⟩:=hv;obtain ⟨b,off,rfl,hbb,hc⟩:=hA (by simp);have c0:=hc 0 (by simp) 0 _ rfl;have e0:off+0* 1+0=off:=by omega
  rw [e0] at c0;clear hA hc e0;go_wp2_with fail;refine bodyPost_ret (v:= .tuple #[.string (txq q),.int .i64 0]) (by simp [results,Tryz.results28,go_sem, *]) rfl ?_;exact ⟨rfl,HB.out⟩
end Go.Proofs.YtijajkfmlghgkaaGreatDoor.Nu
namespace Go
open Go.RowKit
section
def Region.relG (ops:Array Oper) (n:Nat):Bool:=
  Region.noSelect ops && decide (n<ops.size) && Region.sinkB .any ops n && Region.chainB .any ops n && Region.seqB .any ops (ops.size-n) n (Region.marked ops.size n) &&
  ((List.range n).all fun i=>match ops[i]? with|some o=>o.after.all fun e=> !Region.binds .any e || decide (e.on<i)|none=>true) &&
  ((List.range n).all fun i=>(List.range n).all fun j=>Region.flowPair ops i j) &&
  ((List.range n).all fun i=>match ops[i]? with|some o=>o.dst.isSome|none=>true)
theorem Zqy {P:Program} {Q:Exit->Act->World->Prop} {ops:Array Oper} {o:Oper} {i:Nat} (hi:ops[i]?=some o) {a a':Act} (hw:Region.wanted o (yielded ops a'.tmps)=Region.wanted o (yielded ops a.tmps)) {t:Tmp} (hd:o.dst=some t) {Ri:Value->World->Prop} {w:World} {K:Act->World->Prop} (he:execOp a'.eval o=execOp a.eval o)
    (h:wpList P ops (RelPost w a' o Ri) [o] a' w) (hK: ∀v w',Below w.heap.size w w'->Ri v w'->K (a.put o.dst v) w'):wpOp P ops Q i K a w:=by
 unfold wpOp;simp only [hi];unfold wpList at h;have hpost: ∀v w',RelPost w a' o Ri .normal (a'.put o.dst v) w'->K (a.put o.dst v) w':=fun v w' hp=>by
   obtain ⟨_,_,t',v',hd',hv',hb,hR⟩:=hp;rw [hd] at hd';injection hd' with hd'
   subst hd';rw [Zaf,if_pos hd] at hv';have e:v=v':=by
     cases hx:a'.tmps[t]? with
     | none=>rw [hx] at hv';cases hv'
     | some y=>rw [hx] at hv';injection hv'
   subst e;exact hK v w' hb hR
 by_cases hwd:Region.wanted o (yielded ops a.tmps)=true
 rotate_left
 ·rw [if_neg hwd];rw [if_neg (by rw [hw];exact hwd)] at h;exact hpost undef w h
 rw [if_pos hwd];rw [if_pos (by rw [hw];exact hwd)] at h
 rcases h with h|h
 rotate_left
 ·exact absurd h.2 RelPost.out
 refine .inl ?_;unfold Oper.wp at h ⊢;rw [he] at h;generalize (execOp a.eval o).run P w=r at *;cases r with
 | ok x w'=>
   cases x with
   | value v=>exact hpost v w' h
   | skip=>exact hpost undef w' h
   | defer d=>
     exfalso
     obtain ⟨_,hdf,_⟩:=h;rw [Zal] at hdf;have:=congrArg List.length hdf;simp at this
   | enter f args=>
     refine Calls.mono h ?_;intro e w'' he;cases e with
     | returned v=>exact hpost v w'' he
     | panicked chain=>cases he.1
     | outgrown=>exact absurd he RelPost.out
   | row row args=>exact Rows.mono h (fun v w'' he=>hpost v w'' he)
   | _=>exact h.elim
 | halt x w'=>
   cases x with
   | panic v=>cases h.1
   | _=>exact h.elim
variable {P:Program} {l:List Oper} {n:Nat} {W:World} {a0:Act} {R:Nat->Value->World->Prop} {Q:Exit->Act->World->Prop}
theorem Zn6 (hB:Region.relG l.toArray n=true)
    (hst: ∀j v w w',R j v w->Below w.heap.size w w'->R j v w')
    (hq: ∀i o,i<n->l[i]?=some o->∀ (vs:Nat->Value) (w:World),Below W.heap.size W w->(∀j,j<i->Region.blindTo l.toArray i j=false->R j (vs j) w)->wpList P l.toArray (RelPost w (Zac vs 0 a0 (l.take i)) o (R i)) [o] (Zac vs 0 a0 (l.take i)) w)
    (ht: ∀ (vs:Nat->Value) (w:World),Below W.heap.size W w->(∀j,j<n->R j (vs j) w)->wpList P l.toArray Q (l.drop n) (Zac vs 0 a0 (l.take n)) w):
    ∀ (f:Nat) (U:List Nat) (vs:Nat->Value) (listed:Array Bool) (a:Act) (w:World),U.length=f->U.Nodup->(∀i,i∈U↔i<n/\listed.getD i false=false)->
      RelFlow l.toArray n W a0 R vs listed a w->wpAny P .any l.toArray Q (f+(l.toArray.size-n)) listed a w:=by
 simp only [Region.relG,Bool.and_eq_true,decide_eq_true_eq,List.all_eq_true,List.mem_range] at hB;obtain ⟨⟨⟨⟨⟨⟨⟨hsel,hn⟩,hsink⟩,hchain⟩,hseq⟩,hedge⟩,hpair⟩,hguard⟩:=hB;have hn':n<=l.length:=by have h:=hn;rw [List.size_toArray] at h;omega
 have hsz:l.toArray.size=l.length:=by simp
 have hget: ∀i:Nat,l.toArray[i]?=l[i]?:=fun i=>by simp
 have hselect:=Region.noSelect_spec hsel;have hpw: ∀m,m<=n->(l.take m).Pairwise (fun o o'=> ∀t,o.dst=some t->o'.dst≠some t):=fun m hm=>by
   rw [List.pairwise_iff_getElem];intro i j hi hj hij t ht;rw [List.length_take] at hi hj;rw [List.getElem_take] at ht ⊢;exact Region.flowPair_dst (hpair i (by omega) j (by omega)) (by rw [hget];exact List.getElem?_eq_getElem (by omega)) (by rw [hget];exact List.getElem?_eq_getElem (by omega)) (fun e=>by subst e;omega) ht
 have hputAt: ∀ (vs:Nat->Value) m,m<=n->∀j o t,j<m->l.toArray[j]?=some o->o.dst=some t->(Zac vs 0 a0 (l.take m)).tmps[t]?=a0.tmps[t]?.map (fun _=>vs j):=fun vs m hm j o t hj ho hd=>by
   rw [Zd3 vs t (l.take m) 0 a0 j o (hpw m hm) (by rw [List.getElem?_take,if_pos hj,<-hget];exact ho) hd,Nat.zero_add]
 have hputO: ∀ (vs:Nat->Value) m,m<=n->∀t,(∀j o,j<n->l.toArray[j]?=some o->o.dst≠some t)->(Zac vs 0 a0 (l.take m)).tmps[t]?=a0.tmps[t]?:=fun vs m hm t h=>
   Zb0 vs t _ 0 a0 fun o ho=>by
     obtain ⟨q,hq'⟩:=List.mem_iff_getElem?.1 ho;rw [List.getElem?_take] at hq'
     split at hq'
     ·exact h q o (by omega) (by rw [hget];exact hq')
     ·cases hq'
 intro f
 induction f with
 | zero=>
   intro U vs listed a w hU _ hUm hF;obtain rfl:U=[]:=List.eq_nil_of_length_eq_zero hU;have hall: ∀i,i<n->listed.getD i false=true:=fun i hi=>by
     cases h:listed.getD i false with
     | true=>rfl
     | false=>have:=(hUm i).2 ⟨hi,h⟩;simp at this
   have hl:listed=Region.marked l.toArray.size n:=by
     apply Array.ext_getElem?;intro i
     by_cases hi:i<l.toArray.size
     ·have hil:i<listed.size:=by rw [hF.inv.size];exact hi
      have e2:(Region.marked l.toArray.size n)[i]?=some (decide (i<n)):=by
        rw [List.size_toArray] at hi;unfold Region.marked;simp [hi]
      rw [e2,Array.getElem?_eq_getElem hil]
      by_cases hin:i<n
      ·have:=hall i hin;simp [hil] at this;simp [this,hin]
      ·have:=hF.inv.tail i (by omega) hi;simp [hil] at this;simp [this,hin]
     ·rw [Array.getElem?_eq_none (by rw [hF.inv.size];omega),Array.getElem?_eq_none (by rw [List.size_toArray] at hi;unfold Region.marked;simp;omega)]
   have ha:a=Zac vs 0 a0 (l.take n):=by
     have htm:a.tmps=(Zac vs 0 a0 (l.take n)).tmps:=by
       apply Array.ext_getElem?;intro t
       by_cases h: ∃j o,j<n/\l.toArray[j]?=some o/\o.dst=some t
       ·obtain ⟨j,o,h1,h2,h3⟩:=h;rw [hF.slot j o t h1 h2 h3,if_pos (hall j h1),hputAt vs n (Nat.le_refl _) j o t h1 h2 h3]
       ·have h': ∀j o,j<n->l.toArray[j]?=some o->o.dst≠some t:=fun j o h1 h2 h3=>h ⟨j,o,h1,h2,h3⟩;rw [hF.other t h',hputO vs n (Nat.le_refl _) t h']
     have hd:a.defers=(Zac vs 0 a0 (l.take n)).defers:=by rw [Zb8,hF.defers]
     cases a;simp only at htm hd;cases hX:Zac vs 0 a0 (l.take n);rw [hX] at htm hd;simp only at htm hd;rw [htm,hd]
   rw [ha];have hdl:(l.drop n).length=l.toArray.size-n:=by simp
   have:=wpAny_of_seq (md:= .any) (Q':=Q) (ops:=l.toArray) (l.drop n) n listed (Zac vs 0 a0 (l.take n)) w (fun j=>by simp [List.getElem?_drop]) (by rw [hdl,hl];exact hseq) (ht vs w hF.later (fun j hj=>hF.rel j hj (hall j hj)));rw [hdl] at this
   rwa [Nat.zero_add]
 | succ f ih=>
   intro U vs listed a w hU hnd hUm hF;obtain ⟨i0,hi0,hleast⟩:=Zay U (fun e=>by rw [e] at hU;simp at hU);obtain ⟨hi0n,hi0u⟩:=(hUm i0).1 hi0;have hin: ∀i,i<n->i<listed.size:=fun i hi=>by rw [hF.inv.size];omega
   have hready:i0∈Region.ready .any l.toArray listed:=by
     have hlt:i0<l.toArray.size:=by omega
     refine mem_ready.2 ⟨getD_in (hin _ hi0n) hi0u,l.toArray[i0],Array.getElem?_eq_getElem hlt,fun e he hbd=> ?_⟩;have h1:=hedge i0 hi0n;rw [Array.getElem?_eq_getElem hlt] at h1;simp only [Array.all_eq_true_iff_forall_mem] at h1;have h2:=h1 e he;simp only [hbd,Bool.not_true,Bool.false_or,decide_eq_true_eq] at h2;cases h:listed.getD e.on false with
     | true=>rfl
     | false=>
       have:=hleast e.on ((hUm e.on).2 ⟨by omega,h⟩);omega
   rw [show f+1+(l.toArray.size-n)=(f+(l.toArray.size-n))+1 by omega];refine ⟨fun h=>(by rw [h] at hready;cases hready),fun i hi=> ?_⟩;obtain ⟨hiu,o,ho,hdep⟩:=mem_ready.1 hi;have hilt:i<n:=Nat.lt_of_not_le fun h=>tail_waits hsink hchain hn hF.inv _ i0 rfl hi0n (getD_in (hin _ hi0n) hi0u) i h hi;have hiU:i∈U:=(hUm i).2 ⟨hilt,getD_both hiu⟩;have hinv:=hF.inv.set hi hilt;have hlist: ∀j,(listed.setIfInBounds i true).getD j false=if j=i then true else listed.getD j false:=fun j=>by
    by_cases h:j=i
    ·subst h;rw [if_pos rfl];simp [hin j hilt]
    ·rw [if_neg h,getD_set_ne false (Ne.symm h)]
   have hUm': ∀j,j∈U.erase i↔j<n/\(listed.setIfInBounds i true).getD j false=false:=fun j=>by
     rw [hnd.mem_erase_iff,hUm j,hlist j]
     by_cases h:j=i
     ·simp [h]
     ·simp [h]
   have hlen':(U.erase i).length=f:=by rw [List.length_erase_of_mem hiU];omega
   have hnd':=hnd.erase i;have hseen: ∀t∈o.looksAt l.toArray,∀j oj,j<n->l.toArray[j]?=some oj->oj.dst=some t->i≠j/\j<i/\listed.getD j false=true:=by
     intro t ht j oj hj hoj hd;have hne:i≠j:=fun e=>by
       subst e;rw [ho] at hoj;cases hoj;exact Region.flowPair_self (hpair i hilt i hilt) ho hd ht
     have h1:=Region.flowPair_looks (hpair i hilt j hj) ho hoj hne hd ht;obtain ⟨o',ho',e,he,hbd,hon⟩:=Region.waitsFor_spec h1.2;rw [ho] at ho';cases ho';have:=hdep e he hbd;rw [hon] at this;exact ⟨hne,h1.1,this⟩
   have hgd:=hguard i hilt;rw [ho] at hgd;have hds:o.dst.isSome=true:=hgd;obtain ⟨t0,hd0⟩:=Option.isSome_iff_exists.1 hds;have hboth:=(Za0 (ops:=l.toArray) (a:=Zac vs 0 a0 (l.take i)) (a':=a) (o:=o) (fun cs bb=>hselect i o cs bb ho) fun t htl=>by
     by_cases h: ∃j o,j<n/\l.toArray[j]?=some o/\o.dst=some t
     ·obtain ⟨j,oj,h1,h2,h3⟩:=h;obtain ⟨k1,k2,k3⟩:=hseen t htl j oj h1 h2 h3;rw [hputAt vs i (by omega) j oj t k2 h2 h3,hF.slot j oj t h1 h2 h3,if_pos k3]
     ·have h': ∀j o,j<n->l.toArray[j]?=some o->o.dst≠some t:=fun j o h1 h2 h3=>h ⟨j,o,h1,h2,h3⟩;rw [hputO vs i (by omega) t h',hF.other t h'])
   have hex:=hboth.1;have hwt:=hboth.2;refine Zqy ho hwt hd0 hex (hq i o hilt (by rw [<-hget];exact ho) vs w hF.later (fun j hj hbl=> ?_)) (fun v w' hb hR=> ?_)
   ·refine hF.rel j (by omega) ?_;have hjl:j<l.toArray.size:=by omega
    unfold Region.blindTo at hbl;rw [ho,Array.getElem?_eq_getElem hjl] at hbl;simp only at hbl
    split at hbl
    ·rename_i d hdj;have hmem:d∈o.looksAt l.toArray:=by simpa using hbl
     exact (hseen d hmem j _ (by omega) (Array.getElem?_eq_getElem hjl) hdj).2.2
    ·cases hbl
   ·refine ih (U.erase i) (fun j=>if j=i then v else vs j) _ _ _ hlen' hnd' hUm' ⟨hinv,hF.later.trans (hb.mono hF.later.size),by rw [Zbd,hF.size],by rw [Zal,hF.defers],?_,?_,?_⟩
    ·intro j oj t hj hoj hd;rw [Zaf,hlist j]
     by_cases hji:j=i
     ·subst hji;rw [ho] at hoj;cases hoj;rw [if_pos hd,if_pos rfl,if_pos rfl,if_pos rfl,hF.slot j o t hj ho hd,if_neg (by rw [getD_both hiu];simp)]
     ·have hne:o.dst≠some t:=fun h=>Region.flowPair_dst (hpair i hilt j hj) ho hoj (Ne.symm hji) h hd;rw [if_neg hne,if_neg hji,if_neg hji,hF.slot j oj t hj hoj hd]
    ·intro t h;rw [Zaf,if_neg (h i o hilt ho),hF.other t h]
    ·intro j hj hlj;rw [hlist j] at hlj
     by_cases hji:j=i
     ·subst hji;rw [if_pos rfl];exact hR
     ·rw [if_neg hji] at hlj ⊢;exact hst j _ _ _ (hF.rel j hj hlj) hb
theorem Zbp {id:Nat} (n:Nat) (R:Nat->Value->World->Prop) (hm:P.follows .mixedOrders=true) (hB:Region.relG l.toArray n=true)
    (hst: ∀j v w w',R j v w->Below w.heap.size w w'->R j v w')
    (hq:relAll (fun i o=> ∀ (vs:Nat->Value) (w:World),Below W.heap.size W w->(∀j,j<i->Region.blindTo l.toArray i j=false->R j (vs j) w)->wpList P l.toArray (RelPost w (Zac vs 0 a0 (l.take i)) o (R i)) [o] (Zac vs 0 a0 (l.take i)) w) 0 (l.take n))
    (ht: ∀ (vs:Nat->Value) (w:World),Below W.heap.size W w->(∀j,j<n->R j (vs j) w)->wpList P l.toArray Q (l.drop n) (Zac vs 0 a0 (l.take n)) w):
    (Code.region id l.toArray true).wp P Q a0 W:=by
 refine wp_region_any hm ?_;have hB':=hB;simp only [Region.relG,Bool.and_eq_true,decide_eq_true_eq] at hB';have hn:=hB'.1.1.1.1.1.1.2;have inv0:HeadInv .any l.toArray n (Array.replicate l.toArray.size false):=
   ⟨by simp,fun j oj _ hl=>(by rw [getD_replicate_false] at hl;cases hl),fun t _ ht=>getD_in (by simpa using ht) (getD_replicate_false _ _)⟩
 have h:=Zn6 (W:=W) (a0:=a0) (R:=R) (Q:=Q) hB hst
   (fun i o hi ho=>by
     have:=relAll.get _ 0 hq i o (by rw [List.getElem?_take,if_pos hi];exact ho)
     rwa [Nat.zero_add] at this) ht n (List.range n) (fun _=>undef) (Array.replicate l.toArray.size false) a0 { W with drawn:=W.drawn+1 } (by simp) List.nodup_range (fun i=>by rw [List.mem_range];exact ⟨fun h=>⟨h,getD_replicate_false _ _⟩,fun h=>h.1⟩)
   ⟨inv0,⟨rfl,rfl,rfl,Nat.le_refl _,fun _ _=>rfl⟩,rfl,rfl,fun j o t _ _ _=>by rw [getD_replicate_false];rfl,fun t _=>rfl,fun j _ h=>by rw [getD_replicate_false] at h;cases h⟩
 rwa [show n+(l.toArray.size-n)=l.toArray.size by omega] at h
end
end Go
namespace Go.Proofs.YtijajkfmlghgkaaGreatDoor.Nu
open Go Go.Proofs Go.RowKit Go.Proofs.YtijajkfmlghgkaaGreatDoor
theorem Zme {a b:Rat} (h:a<=b):decide (rcmp a b<=0)=true:=by
  unfold rcmp;rw [if_neg (show¬b<a by grind)]
  split <;> rfl
theorem Zmf {a b:Rat} (h: ¬a<=b):decide (rcmp a b<=0)=false:=by
  unfold rcmp;rw [if_neg (show¬a<b by grind),if_pos (show b<a by grind)];rfl
theorem Zfv (w:World) (v l:Value) (q m:Rat) (hv:FrR w v q) (hl:FrR w l m) (dq:Dw q) (dm:Dw m):Calls Tryz.prog 290 #[v,l] w (Ret (.bool (decide (q<=m/\ -q<=m))) w):=by
  have HC1:=Zh (fun (u:World) (hb:Below w.heap.size w u)=>fcmp u v l (hv.later hb) (hl.later hb) dq dm);have HNG:=Zh (fun (u:World) (hb:Below w.heap.size w u)=>Zrf u v q (hv.later hb));have HC2:=Zh (fun (u:World) (hb:Below w.heap.size w u) (v2:Value) (h:FrR u v2 (-q))=>fcmp u v2 l h (hl.later hb) dq.neg dm);obtain ⟨s1,a1,n1,c1,t1,b1,m1,d1,rfl,-,-⟩:=hv;obtain ⟨s2,a2,n2,c2,t2,b2,m2,d2,rfl,-,-⟩:=hl;have hr1: ∀ (h:q<=m),decide (rcmp q m<=0)=true:=Zme;have hr2: ∀ (h: ¬q<=m),decide (rcmp q m<=0)=false:=Zmf;have hr3: ∀ (h: -q<=m),decide (rcmp (-q) m<=0)=true:=Zme;have hr4: ∀ (h: ¬ -q<=m),decide (rcmp (-q) m<=0)=false:=Zmf;obtain ⟨r1,er1⟩: ∃r,rcmp q m=r:=⟨_,rfl⟩;obtain ⟨r2,er2⟩: ∃r,rcmp (-q) m=r:=⟨_,rfl⟩;rw [er1] at HC1 hr1 hr2;rw [er2] at HC2 hr3 hr4;clear er1 er2 dq dm;have HB_0:=Zh ((Below.refl w.heap.size w).alloc (Nat.le_refl _) (.cells #[.int .i64 s1,.slice a1 n1 c1,.int .i64 t1,.slice b1 m1 d1] 135));have HB:=Zh (HB_0.alloc HB_0.size (.cells #[.int .i64 s2,.slice a2 n2 c2,.int .i64 t2,.slice b2 m2 d2] 135));have HX:=Zh ((Box.new w #[.int .i64 s1,.slice a1 n1 c1,.int .i64 t1,.slice b1 m1 d1] 135).alloc (.cells #[.int .i64 s2,.slice a2 n2 c2,.int .i64 t2,.slice b2 m2 d2] 135));have HY:=Zh (Box.newAt (w.alloc (.cells #[.int .i64 s1,.slice a1 n1 c1,.int .i64 t1,.slice b1 m1 d1] 135)) #[.int .i64 s2,.slice a2 n2 c2,.int .i64 t2,.slice b2 m2 d2] 135 (n:=w.heap.size+1) (by simp));obtain ⟨x0,x1,x2,x3,xf,xz⟩:=HX.w4;obtain ⟨y0,y1,y2,y3,yf,yz⟩:=HY.w4;clear HB_0;go_enter Tryz.func290,Tryz.ntmps290;go_wp2_with fail
  by_cases hq:q<=m
  ·have d1':=hr1 hq;obtain ⟨b,hb⟩: ∃b,decide (r2<=0)=b:=⟨_,rfl⟩;have HBB:=Zh (show decide (q<=m/\ -q<=m)=b from by
     by_cases h: -q<=m
     ·rw [<-hb,hr3 h];exact Zt ⟨hq,h⟩
     ·rw [<-hb,hr4 h];exact Zf (fun e=>h e.2))
   clear hr1 hr2 hr3 hr4;refine Zbp 11 (kxs [.is (.agg #[.int .i64 s1,.slice a1 n1 c1,.int .i64 t1,.slice b1 m1 d1]),.is (.agg #[.int .i64 s2,.slice a2 n2 c2,.int .i64 t2,.slice b2 m2 d2]),.is (.int .i64 r1),.is (.bool true),.is (.bool true),.is (.agg #[.int .i64 s1,.slice a1 n1 c1,.int .i64 t1,.slice b1 m1 d1]),.frac (-q),.is (.agg #[.int .i64 s2,.slice a2 n2 c2,.int .i64 t2,.slice b2 m2 d2]),.is (.int .i64 r2),.is (.bool b),.is (.bool b)]) (by kernel_rfl) (by kernel_rfl) (fun j v u u' h hb=>Kx.later h hb) ?_ ?_
   ·refine ⟨?_,?_,?_,?_,?_,?_,?_,?_,?_,?_,?_,trivial⟩
    all_goals
      intro vs u hu hR;simp only [Zac,Z2,Z6,Act.put,Z1,Z4,Z5]
    obtain ⟨x0,x1,x2,x3,xf,xz⟩:=(HX.later hu).w4;rotate_left;obtain ⟨y0,y1,y2,y3,yf,yz⟩:=(HY.later hu).w4;rotate_left;have e0:vs 0=_:=Zr hR 0;have e1:vs 1=_:=Zr hR 1;have HS:=Zh (HC1.out u (HB.Zg hu));rotate_left;have e2:vs 2=_:=Zr hR 2;rotate_left
    ·have e3:vs 3=_:=Zr hR 3;clear hR hu;go_wp2_with fail;exact ⟨rfl,rfl,_,_,rfl,rfl,Below.refl _ _,e3⟩
    have e4:vs 4=_:=Zr hR 4;obtain ⟨x0,x1,x2,x3,xf,xz⟩:=(HX.later hu).w4;rotate_left;have e4:vs 4=_:=Zr hR 4;have e5:vs 5=_:=Zr hR 5;have HS:=Zh (HNG.out u (HB.Zg hu));rotate_left;have e4:vs 4=_:=Zr hR 4;obtain ⟨y0,y1,y2,y3,yf,yz⟩:=(HY.later hu).w4;rotate_left;have e4:vs 4=_:=Zr hR 4;have k6:FrR u (vs 6) _:=Zr hR 6;have e7:vs 7=_:=Zr hR 7;have HS:=Zh (HC2.out u (HB.Zg hu) _ k6);clear k6;rotate_left;have e4:vs 4=_:=Zr hR 4;have e8:vs 8=_:=Zr hR 8;rotate_left;have e4:vs 4=_:=Zr hR 4;have e9:vs 9=_:=Zr hR 9;rotate_left
    all_goals
      clear hR
      try clear hu
      go_wp2_with fail
      first|exact ⟨rfl,rfl,_,_,rfl,rfl,Below.refl _ _,rfl⟩|(refine HS.mono ?_;rintro e11 w11 ⟨rfl,hb⟩;go_wp2_with fail;exact ⟨rfl,rfl,_,_,rfl,rfl,hb,rfl⟩)|(refine HS.mono ?_;rintro e11 w11 ⟨v11,rfl,hi11,hb⟩;go_wp2_with fail;exact ⟨rfl,rfl,_,_,rfl,rfl,hb,hi11⟩)
   ·intro vs u hu hR;have e10:vs 10=_:=hR 10 (by decide);simp only [Zac,Z3,Z7,Z2,Z6,Act.put,Z1,Z4,Z5,e10];have HBu:=Zh (HB.Zg hu);clear hR hu e10 HX HY HC1 HC2 HNG;go_wp2_with fail;go_ret;refine ⟨?_,HBu.out⟩;rw [HBB.out];rfl
  ·have d1':=hr2 hq;clear hr1 hr2 hr3 hr4;refine Zbp 11 (kxs [.is (.agg #[.int .i64 s1,.slice a1 n1 c1,.int .i64 t1,.slice b1 m1 d1]),.is (.agg #[.int .i64 s2,.slice a2 n2 c2,.int .i64 t2,.slice b2 m2 d2]),.is (.int .i64 r1),.is (.bool false),.is (.bool false),.is undef,.is undef,.is undef,.is undef,.is undef,.is (.bool false)]) (by kernel_rfl) (by kernel_rfl) (fun j v u u' h hb=>Kx.later h hb) ?_ ?_
   ·refine ⟨?_,?_,?_,?_,?_,?_,?_,?_,?_,?_,?_,trivial⟩
    all_goals
      intro vs u hu hR;simp only [Zac,Z2,Z6,Act.put,Z1,Z4,Z5]
    obtain ⟨x0,x1,x2,x3,xf,xz⟩:=(HX.later hu).w4;rotate_left;obtain ⟨y0,y1,y2,y3,yf,yz⟩:=(HY.later hu).w4;rotate_left;have e0:vs 0=_:=Zr hR 0;have e1:vs 1=_:=Zr hR 1;have HS:=Zh (HC1.out u (HB.Zg hu));rotate_left;have e2:vs 2=_:=Zr hR 2;rotate_left
    ·have e3:vs 3=_:=Zr hR 3;clear hR hu;go_wp2_with fail;exact ⟨rfl,rfl,_,_,rfl,rfl,Below.refl _ _,e3⟩
    have e4:vs 4=_:=Zr hR 4;rotate_left;have e4:vs 4=_:=Zr hR 4;rotate_left;have e4:vs 4=_:=Zr hR 4;rotate_left;have e4:vs 4=_:=Zr hR 4;rotate_left;have e4:vs 4=_:=Zr hR 4;rotate_left;have e4:vs 4=_:=Zr hR 4;have e9:vs 9=_:=Zr hR 9;rotate_left
    all_goals
      clear hR
      try clear hu
      go_wp2_with fail
      first|exact ⟨rfl,rfl,_,_,rfl,rfl,Below.refl _ _,rfl⟩|(refine HS.mono ?_;rintro e11 w11 ⟨rfl,hb⟩;go_wp2_with fail;exact ⟨rfl,rfl,_,_,rfl,rfl,hb,rfl⟩)
   ·intro vs u hu hR;have e10:vs 10=_:=hR 10 (by decide);simp only [Zac,Z3,Z7,Z2,Z6,Act.put,Z1,Z4,Z5,e10];have HBu:=Zh (HB.Zg hu);clear hR hu e10 HX HY HC1 HC2 HNG;go_wp2_with fail;go_ret;refine ⟨?_,HBu.out⟩;rw [Zf (fun h=>hq h.1)];rfl
structure LmR (w:World) (b:Nat) (x:ShV) (s:Shp) (vm:Value) (ms:List Int):Prop where
  af:AfR w b x s vm ms
  sh:ShR w x s
  mm:Sl encI 1 w w.heap.size vm ms
theorem AfR.later {w w':World} {b:Nat} {x:ShV} {s:Shp} {vm:Value} {ms:List Int} (h:AfR w b x s vm ms) (hb:Below w.heap.size w w'):AfR w' b x s vm ms:=by
  obtain ⟨vl,vb,vs,vd,t,hB,hL,hU,hS,hD,hT⟩:=h;exact ⟨vl,vb,vs,vd,t,hB.later hb,hL.later hb,hU.later hb,hS.later hb,hD.later hb,hT.later hb⟩
theorem LmR.later {w w':World} {b:Nat} {x:ShV} {s:Shp} {vm:Value} {ms:List Int} (h:LmR w b x s vm ms) (hb:Below w.heap.size w w'):LmR w' b x s vm ms:=⟨h.af.later hb,h.sh.later hb,h.mm.later hb⟩
theorem Zn7 (w:World) (b:Nat) (x:ShV) (s:Shp) (vm:Value) (ms:List Int) (h:LmR w b x s vm ms):Calls Tryz.prog 285 #[.pointer (some ⟨b,0,none⟩)] w (Ret (.int .i64 (s.wt.length:Int)) w):=by
  obtain ⟨vl,vb,vs,vd,t,hB,hL,hU,hS,hD,hT⟩:=h.af;have c0:w.cell? ⟨b,7,none⟩=some vl:=hB.cell 7;have hb:=hB.lt;obtain ⟨a,c,rfl,hc⟩:=hL.shape;rw [Zbo] at c0;clear hB hL hU hS hD hT h hc;go_enter Tryz.func285,Tryz.ntmps285;go_wp2_with fail;go_ret;exact ⟨rfl,Below.refl _ _⟩
theorem Zn8 (w:World) (b:Nat) (x:ShV) (s:Shp) (vm:Value) (ms:List Int) (h:LmR w b x s vm ms):Calls Tryz.prog 286 #[.pointer (some ⟨b,0,none⟩)] w (Ret (.int .i64 (ms.length:Int)) w):=by
  obtain ⟨vl,vb,vs,vd,t,hB,hL,hU,hS,hD,hT⟩:=h.af;have c0:w.cell? ⟨b,6,none⟩=some vm:=hB.cell 6;have hb:=hB.lt;obtain ⟨a,c,rfl,hc⟩:=h.mm;clear hB hL hU hS hD hT h hc;go_enter Tryz.func286,Tryz.ntmps286;go_wp2_with fail;go_ret;exact ⟨rfl,Below.refl _ _⟩
theorem Zn9 (w:World) (b:Nat):Calls Tryz.prog 292 #[.pointer (some ⟨b,0,none⟩)] w (Ret (.int .i64 1) w):=by
  go_enter Tryz.func292,Tryz.ntmps292;go_wp2_with fail;go_ret;exact ⟨rfl,Below.refl _ _⟩
theorem Zoa (w:World) (b:Nat) (x:ShV) (s:Shp) (vm:Value) (ms:List Int) (h:LmR w b x s vm ms) (i:Nat) (h1:i<ms.length) (h2:i<s.hs.length):Calls Tryz.prog 287 #[.pointer (some ⟨b,0,none⟩),.int .i64 (i:Int)] w (Ret (.bool (decide (ms[i]<=s.hs[i].room))) w):=by
  obtain ⟨vl,vb,vs,vd,t,hB,hL,hU,hS,hD,hT⟩:=h.af;have c0:w.cell? ⟨b,6,none⟩=some vm:=hB.cell 6;have c1:w.cell? ⟨b,0,none⟩=some (.slice x.ah x.nh x.ch):=hB.cell 0;have hb:=hB.lt;obtain ⟨am,cm,rfl,h3⟩:=h.mm;obtain ⟨bm,om,rfl,p1,p2⟩:=h3.2 (by omega);have d1:=p2 i h1 0 _ rfl;rw [Nat.mul_one,Nat.add_zero] at d1;obtain ⟨bh,oh,eh,q1,-,q2⟩:=Sl.atI h.sh.ph (Below.refl _ _) i h2;have en:=Sl.len h.sh.ph;rw [eh,<-en] at c1;have d2:=q2 2 _ rfl;generalize ms[i]=mz at *;generalize s.hs[i].room=rz at *;generalize x.ch=ch at *;obtain ⟨n,hn⟩: ∃n,ms.length=n:=⟨_,rfl⟩;obtain ⟨m,hm⟩: ∃n,s.hs.length=n:=⟨_,rfl⟩;rw [hn] at c0 h1;rw [hm] at c1 h2;clear hB hL hU hS hD hT h h3 p2 q2 en eh hn hm;go_enter Tryz.func287,Tryz.ntmps287;go_wp2_with fail;refine Zah (by kernel_rfl) (by kernel_rfl) ?_
  repeat go_big_quiet_step (fail)
  refine wpQuiet_nil ?_;rintro w14 ⟨⟨_,hb14⟩,rfl⟩;go_wp2_with fail;go_ret;exact ⟨rfl,hb14⟩
theorem Zpp {z:Int} (h:MsP z):Dw (z:Rat):=by
  obtain ⟨y,h1,h2⟩:=Zpe h;exact (Sx.dn ⟨y,h1,by omega⟩).mono (by decide)
theorem Zgy {α:Type} (f:Nat->α) (n i:Nat) (h:i<((List.range n).map f).length):((List.range n).map f)[i]=f i:=by simp
theorem Zob (w:World) (b:Nat) (x:ShV) (s:Shp) (vm:Value) (ms:List Int) (h:LmR w b x s vm ms) (i:Nat) (h1:i<s.wt.length):Calls Tryz.prog 288 #[.pointer (some ⟨b,0,none⟩),.int .i64 (i:Int)] w (Ret (.bool (decide (0<=buoR (cF s) (lF s ms) s.wt.length i))) w):=by
  obtain ⟨vl,vb,vs,vd,t,hB,hL,hU,hS,hD,hT⟩:=h.af;have c0:w.cell? ⟨b,8,none⟩=some vb:=hB.cell 8;have hb:=hB.lt;obtain ⟨a,c,rfl,hc⟩:=hU.shape;obtain ⟨bs,os,f,rfl,p1,p2,p3⟩:=hU.at i (by rw [Zbo];exact h1);rw [Zgy] at p3;rw [Zbo] at c0;generalize buoR (cF s) (lF s ms) s.wt.length i=q at *;generalize s.wt.length=n at *;have d0:=p2 0 _ rfl;have d1:=p2 1 _ rfl;have d2:=p2 2 _ rfl;have d3:=p2 3 _ rfl;rw [Nat.add_zero] at d0;have HS:=Zh (Zlb w _ q p3);have hsg:(decide (0<=q.num.sign))=decide (0<=q):=by
    by_cases h:q<0
    ·rw [Zf (show¬0<=q.num.sign by have:=Zca.2 h;omega),Zf (by grind)]
    ·rw [Zt (show 0<=q.num.sign by rcases Int.lt_or_le q.num.sign 0 with k|k;exact absurd (Zca.1 k) h;exact k),Zt (by grind)]
  rw [<-hsg];generalize q.num.sign=z at *;clear hB hL hU hS hD hT h hc p2 p3 hsg;go_enter Tryz.func288,Tryz.ntmps288;go_wp2_with fail;refine HS.mono ?_;rintro e4 w4 ⟨rfl,hb4⟩;go_wp2_with fail;go_ret;exact ⟨rfl,hb4⟩
theorem Zoc (w:World) (b:Nat) (x:ShV) (s:Shp) (vm:Value) (ms:List Int) (h:LmR w b x s vm ms) (ok:ShOk s) (cg:CgOk s ms) (i:Nat) (h1:i<s.wt.length):Calls Tryz.prog 289 #[.pointer (some ⟨b,0,none⟩),.int .i64 (i:Int)] w (Ret (.bool (decide (sheR (cF s) (lF s ms) s.wt.length i<=((s.sh.getD i 0:Int):Rat)/\ -sheR (cF s) (lF s ms) s.wt.length i<=((s.sh.getD i 0:Int):Rat)))) w):=by
  have HDQ:=Zh (((Zi9 ok cg).2 i h1).2.1:Dn mxd (sheR (cF s) (lF s ms) s.wt.length i));obtain ⟨vl,vb,vs,vd,t,hB,hL,hU,hS,hD,hT⟩:=h.af;obtain ⟨a,cs,rfl,hc⟩:=hS.shape;obtain ⟨bs,os,f,rfl,p1,p2,p3⟩:=hS.at i (by rw [Zbo];exact h1);rw [Zgy] at p3;have hlen:i<s.sh.length:=by rw [ok.ls];exact h1
  obtain ⟨bt,ot,et,q1,-,q2⟩:=Sl.atI h.sh.ps (Below.refl _ _) i hlen;have hz:=ok.sh _ (List.getElem_mem hlen);have en:=Sl.len h.sh.ps;rw [ok.ls] at en;obtain ⟨ah,aw,ac,az,ab,nh,nw,nc,ns,nb,ch,cw,cc,cz,cb⟩:=x;dsimp only at et en;subst et en;rw [Zax hlen];rw [Zbo] at hB;have HB:=Zh hB;have HAT:=Zh p2;have HLT:=Zh p1;have HFR:=Zh p3;have HAZ:=Zh q2;have HLZ:=Zh q1;have HDZ:=Zh (Zpp hz);have HZ:=Zh (show -9223372036854775808<=s.sh[i]/\s.sh[i]<=9223372036854775807 by omega);have HDQ:=Zh (HDQ.mono (by decide):Dw (sheR (cF s) (lF s ms) s.wt.length i));clear hB hL hU hS hD hT h hc p1 p2 p3 q1 q2 ok cg;have HI1:=Zh h1;generalize sheR (cF s) (lF s ms) s.wt.length i=q at *;generalize s.sh[i]=z at *;generalize s.wt.length=n at *;obtain ⟨bb,hbb⟩: ∃bb,decide (q<=(z:Rat)/\ -q<=(z:Rat))=bb:=⟨_,rfl⟩;have HWI:=Zh (fun (u:World) (v1 v2:Value) (k1:FrR u v1 q) (k2:FrR u v2 (z:Rat))=>(by rw [<-hbb];exact Zfv u v1 v2 q z k1 k2 HDQ.out HDZ.out:Calls Tryz.prog 290 #[v1,v2] u (Ret (.bool bb) u)));rw [hbb];clear hbb HDQ HDZ;go_enter Tryz.func289,Tryz.ntmps289;go_wp2_with fail;refine Zbp 17 (kxs [.is (.pointer (some ⟨b,0,none⟩)),.is (.pointer (some ⟨b,0,none⟩)),.is (.pointer (some ⟨b,9,none⟩)),.is (.slice (some ⟨bs,os,none⟩) n cs),.is (.int .i64 (i:Int)),.is (.pointer (some ⟨bs,os+i* 4,none⟩)),.frac q,.is (.pointer (some ⟨b,0,none⟩)),.is (.pointer (some ⟨b,0,none⟩)),.is (.pointer (some ⟨b,0,none⟩)),.is (.pointer (some ⟨b,3,none⟩)),.is (.slice (some ⟨bt,ot,none⟩) n cz),.is (.int .i64 (i:Int)),.is (.pointer (some ⟨bt,ot+i,none⟩)),.is (.int .i64 z),.frac (z:Rat),.is (.bool bb)]) (by kernel_rfl) (by kernel_rfl) (fun j v u u' h hb=>Kx.later h hb) ?_ ?_
  ·refine ⟨?_,?_,?_,?_,?_,?_,?_,?_,?_,?_,?_,?_,?_,?_,?_,?_,?_,trivial⟩
   all_goals
     intro vs u hu hR;simp only [Zac,Z2,Z6,Act.put,Z1,Z4,Z5]
   rotate_left;have e0:vs 0=_:=Zr hR 0;have hb:=(HB.later hu).lt;rotate_left;have e1:vs 1=_:=Zr hR 1;rotate_left;have e2:vs 2=_:=Zr hR 2;have c0:u.cell? ⟨b,9,none⟩=some (.slice (some ⟨bs,os,none⟩) n cs):=(HB.later hu).cell 9;have hb:=(HB.later hu).lt;rotate_left;rotate_left;have e3:vs 3=_:=Zr hR 3;have e4:vs 4=_:=Zr hR 4;have hi:=HI1.out;rotate_left;have e5:vs 5=_:=Zr hR 5;have p2:=HAT.below hu HLT.out;have d0:=p2 0 _ rfl;have d1:=p2 1 _ rfl;have d2:=p2 2 _ rfl;have d3:=p2 3 _ rfl;rw [Nat.add_zero] at d0;have HI:=Zh (HFR.later hu);have hl:=Nat.lt_of_lt_of_le HLT.out hu.size;clear p2;rotate_left;rotate_left;have e7:vs 7=_:=Zr hR 7;have hb:=(HB.later hu).lt;rotate_left;have e8:vs 8=_:=Zr hR 8;rotate_left;have e9:vs 9=_:=Zr hR 9;rotate_left;have e10:vs 10=_:=Zr hR 10;have c0:u.cell? ⟨b,3,none⟩=some (.slice (some ⟨bt,ot,none⟩) n cz):=(HB.later hu).cell 3;have hb:=(HB.later hu).lt;rotate_left;rotate_left;have e11:vs 11=_:=Zr hR 11;have e12:vs 12=_:=Zr hR 12;have hi:=HI1.out;rotate_left;have e13:vs 13=_:=Zr hR 13;have d0:=(HAZ.below hu HLZ.out) 0 _ rfl;rw [Nat.mul_one,Nat.add_zero] at d0;have hl:=Nat.lt_of_lt_of_le HLZ.out hu.size;rotate_left;have e14:vs 14=_:=Zr hR 14;have HS:=Zh (Zf4 u z HZ.out.1 HZ.out.2);rotate_left;have k6:FrR u (vs 6) _:=Zr hR 6;have k15:FrR u (vs 15) _:=Zr hR 15;have HS:=Zh (HWI.out u _ _ k6 k15);clear k6 k15;rotate_left
   all_goals
     clear hR
     try clear hu
     go_wp2_with fail
     first|exact ⟨rfl,rfl,_,_,rfl,rfl,Below.refl _ _,rfl⟩|exact ⟨rfl,rfl,_,_,rfl,rfl,Below.refl _ _,HI.out⟩|(refine HS.mono ?_;rintro e11 w11 ⟨v11,rfl,hi11,hb⟩;go_wp2_with fail;exact ⟨rfl,rfl,_,_,rfl,rfl,hb,hi11⟩)|(refine HS.mono ?_;rintro e11 w11 ⟨rfl,hb⟩;go_wp2_with fail;exact ⟨rfl,rfl,_,_,rfl,rfl,hb,rfl⟩)
  ·intro vs u hu hR;have e16:vs 16=_:=hR 16 (by decide);simp only [Zac,Z3,Z7,Z2,Z6,Act.put,Z1,Z4,Z5,e16];clear hR e16;go_wp2_with fail;go_ret;exact ⟨rfl,hu⟩
theorem Zod (w:World) (b:Nat) (x:ShV) (s:Shp) (vm:Value) (ms:List Int) (h:LmR w b x s vm ms) (ok:ShOk s) (cg:CgOk s ms) (i:Nat) (h1:i<s.wt.length):Calls Tryz.prog 291 #[.pointer (some ⟨b,0,none⟩),.int .i64 (i:Int)] w (Ret (.bool (decide (benR (cF s) (lF s ms) s.wt.length i<=((s.be.getD i 0:Int):Rat)/\ -benR (cF s) (lF s ms) s.wt.length i<=((s.be.getD i 0:Int):Rat)))) w):=by
  have HDQ:=Zh (((Zi9 ok cg).2 i h1).2.2:Dn mxd (benR (cF s) (lF s ms) s.wt.length i));obtain ⟨vl,vb,vs,vd,t,hB,hL,hU,hS,hD,hT⟩:=h.af;obtain ⟨a,cs,rfl,hc⟩:=hD.shape;obtain ⟨bs,os,f,rfl,p1,p2,p3⟩:=hD.at i (by rw [Zbo];exact h1);rw [Zgy] at p3;have hlen:i<s.be.length:=by rw [ok.lb];exact h1
  obtain ⟨bt,ot,et,q1,-,q2⟩:=Sl.atI h.sh.pb (Below.refl _ _) i hlen;have hz:=ok.be _ (List.getElem_mem hlen);have en:=Sl.len h.sh.pb;rw [ok.lb] at en;obtain ⟨ah,aw,ac,az,ab,nh,nw,nc,ns,nb,ch,cw,cc,cz,cb⟩:=x;dsimp only at et en;subst et en;rw [Zax hlen];rw [Zbo] at hB;have HB:=Zh hB;have HAT:=Zh p2;have HLT:=Zh p1;have HFR:=Zh p3;have HAZ:=Zh q2;have HLZ:=Zh q1;have HDZ:=Zh (Zpp hz);have HZ:=Zh (show -9223372036854775808<=s.be[i]/\s.be[i]<=9223372036854775807 by omega);have HDQ:=Zh (HDQ.mono (by decide):Dw (benR (cF s) (lF s ms) s.wt.length i));clear hB hL hU hS hD hT h hc p1 p2 p3 q1 q2 ok cg;have HI1:=Zh h1;generalize benR (cF s) (lF s ms) s.wt.length i=q at *;generalize s.be[i]=z at *;generalize s.wt.length=n at *;obtain ⟨bb,hbb⟩: ∃bb,decide (q<=(z:Rat)/\ -q<=(z:Rat))=bb:=⟨_,rfl⟩;have HWI:=Zh (fun (u:World) (v1 v2:Value) (k1:FrR u v1 q) (k2:FrR u v2 (z:Rat))=>(by rw [<-hbb];exact Zfv u v1 v2 q z k1 k2 HDQ.out HDZ.out:Calls Tryz.prog 290 #[v1,v2] u (Ret (.bool bb) u)));rw [hbb];clear hbb HDQ HDZ;go_enter Tryz.func291,Tryz.ntmps291;go_wp2_with fail;refine Zbp 17 (kxs [.is (.pointer (some ⟨b,0,none⟩)),.is (.pointer (some ⟨b,0,none⟩)),.is (.pointer (some ⟨b,10,none⟩)),.is (.slice (some ⟨bs,os,none⟩) n cs),.is (.int .i64 (i:Int)),.is (.pointer (some ⟨bs,os+i* 4,none⟩)),.frac q,.is (.pointer (some ⟨b,0,none⟩)),.is (.pointer (some ⟨b,0,none⟩)),.is (.pointer (some ⟨b,0,none⟩)),.is (.pointer (some ⟨b,4,none⟩)),.is (.slice (some ⟨bt,ot,none⟩) n cb),.is (.int .i64 (i:Int)),.is (.pointer (some ⟨bt,ot+i,none⟩)),.is (.int .i64 z),.frac (z:Rat),.is (.bool bb)]) (by kernel_rfl) (by kernel_rfl) (fun j v u u' h hb=>Kx.later h hb) ?_ ?_
  ·refine ⟨?_,?_,?_,?_,?_,?_,?_,?_,?_,?_,?_,?_,?_,?_,?_,?_,?_,trivial⟩
   all_goals
     intro vs u hu hR;simp only [Zac,Z2,Z6,Act.put,Z1,Z4,Z5]
   rotate_left;have e0:vs 0=_:=Zr hR 0;have hb:=(HB.later hu).lt;rotate_left;have e1:vs 1=_:=Zr hR 1;rotate_left;have e2:vs 2=_:=Zr hR 2;have c0:u.cell? ⟨b,10,none⟩=some (.slice (some ⟨bs,os,none⟩) n cs):=(HB.later hu).cell 10;have hb:=(HB.later hu).lt;rotate_left;rotate_left;have e3:vs 3=_:=Zr hR 3;have e4:vs 4=_:=Zr hR 4;have hi:=HI1.out;rotate_left;have e5:vs 5=_:=Zr hR 5;have p2:=HAT.below hu HLT.out;have d0:=p2 0 _ rfl;have d1:=p2 1 _ rfl;have d2:=p2 2 _ rfl;have d3:=p2 3 _ rfl;rw [Nat.add_zero] at d0;have HI:=Zh (HFR.later hu);have hl:=Nat.lt_of_lt_of_le HLT.out hu.size;clear p2;rotate_left;rotate_left;have e7:vs 7=_:=Zr hR 7;have hb:=(HB.later hu).lt;rotate_left;have e8:vs 8=_:=Zr hR 8;rotate_left;have e9:vs 9=_:=Zr hR 9;rotate_left;have e10:vs 10=_:=Zr hR 10;have c0:u.cell? ⟨b,4,none⟩=some (.slice (some ⟨bt,ot,none⟩) n cb):=(HB.later hu).cell 4;have hb:=(HB.later hu).lt;rotate_left;rotate_left;have e11:vs 11=_:=Zr hR 11;have e12:vs 12=_:=Zr hR 12;have hi:=HI1.out;rotate_left;have e13:vs 13=_:=Zr hR 13;have d0:=(HAZ.below hu HLZ.out) 0 _ rfl;rw [Nat.mul_one,Nat.add_zero] at d0;have hl:=Nat.lt_of_lt_of_le HLZ.out hu.size;rotate_left;have e14:vs 14=_:=Zr hR 14;have HS:=Zh (Zf4 u z HZ.out.1 HZ.out.2);rotate_left;have k6:FrR u (vs 6) _:=Zr hR 6;have k15:FrR u (vs 15) _:=Zr hR 15;have HS:=Zh (HWI.out u _ _ k6 k15);clear k6 k15;rotate_left
   all_goals
     clear hR
     try clear hu
     go_wp2_with fail
     first|exact ⟨rfl,rfl,_,_,rfl,rfl,Below.refl _ _,rfl⟩|exact ⟨rfl,rfl,_,_,rfl,rfl,Below.refl _ _,HI.out⟩|(refine HS.mono ?_;rintro e11 w11 ⟨v11,rfl,hi11,hb⟩;go_wp2_with fail;exact ⟨rfl,rfl,_,_,rfl,rfl,hb,hi11⟩)|(refine HS.mono ?_;rintro e11 w11 ⟨rfl,hb⟩;go_wp2_with fail;exact ⟨rfl,rfl,_,_,rfl,rfl,hb,rfl⟩)
  ·intro vs u hu hR;have e16:vs 16=_:=hR 16 (by decide);simp only [Zac,Z3,Z7,Z2,Z6,Act.put,Z1,Z4,Z5,e16];clear hR e16;go_wp2_with fail;go_ret;exact ⟨rfl,hu⟩
theorem Zoe (w:World) (hw:TbR w) (b:Nat) (x:ShV) (s:Shp) (vm:Value) (ms:List Int) (h:LmR w b x s vm ms) (ok:ShOk s) (cg:CgOk s ms) (i:Int):Calls Tryz.prog 293 #[.pointer (some ⟨b,0,none⟩),.int .i64 i] w (Ret (.bool (decide (trmR (cF s) (lF s ms) s.wt.length<=s.t/\ -trmR (cF s) (lF s ms) s.wt.length<=s.t))) w):=by
  have HDQ:=Zh ((Zi9 ok cg).1:Dn mxd (trmR (cF s) (lF s ms) s.wt.length));have HDZ:=Zh (ok.td.mono (by decide):Dw s.t);have HFM:=Zh (fun (u:World) (hb:Below w.heap.size w u)=>Zih u (hw.later hb) s.t (ok.td.mono (by decide)));obtain ⟨vl,vb,vs,vd,t,hB,hL,hU,hS,hD,hT⟩:=h.af;obtain ⟨ah,aw,ac,az,ab,nh,nw,nc,ns,nb,ch,cw,cc,cz,cb⟩:=x;have HB:=Zh (by exact hB:Box w b 137 (afc [.slice ah nh ch,.slice aw nw cw,.slice ac nc cc,.slice az ns cz,.slice ab nb cb,.string (txq s.t)] vm vl vb vs vd t));have HFR:=Zh hT;have HDQ:=Zh (HDQ.mono (by decide):Dw (trmR (cF s) (lF s ms) s.wt.length));clear hB hL hU hS hD hT h ok cg hw;generalize trmR (cF s) (lF s ms) s.wt.length=q at *;generalize txq s.t=T at *;generalize s.t=m at *;obtain ⟨bb,hbb⟩: ∃bb,decide (q<=m/\ -q<=m)=bb:=⟨_,rfl⟩;have HWI:=Zh (fun (u:World) (v1 v2:Value) (k1:FrR u v1 q) (k2:FrR u v2 m)=>(by rw [<-hbb];exact Zfv u v1 v2 q m k1 k2 HDQ.out HDZ.out:Calls Tryz.prog 290 #[v1,v2] u (Ret (.bool bb) u)));rw [hbb];clear hbb HDQ HDZ;go_enter Tryz.func293,Tryz.ntmps293;go_wp2_with fail;refine Zbp 11 (kxs [.is (.pointer (some ⟨b,0,none⟩)),.is (.pointer (some ⟨b,0,none⟩)),.is (.pointer (some ⟨b,11,none⟩)),.frac q,.is (.pointer (some ⟨b,0,none⟩)),.is (.pointer (some ⟨b,0,none⟩)),.is (.pointer (some ⟨b,0,none⟩)),.is (.pointer (some ⟨b,5,none⟩)),.is (.string T),.frac m,.is (.bool bb)]) (by kernel_rfl) (by kernel_rfl) (fun j v u u' h hb=>Kx.later h hb) ?_ ?_
  ·refine ⟨?_,?_,?_,?_,?_,?_,?_,?_,?_,?_,?_,trivial⟩
   all_goals
     intro vs u hu hR;simp only [Zac,Z2,Z6,Act.put,Z1,Z4,Z5]
   rotate_left;have e0:vs 0=_:=Zr hR 0;have hb:=(HB.later hu).lt;rotate_left;have e1:vs 1=_:=Zr hR 1;rotate_left;have e2:vs 2=_:=Zr hR 2;have c0:u.cell? ⟨b,11,none⟩=some (.int .i64 t.s):=(HB.later hu).cell 11;have c1:u.cell? ⟨b,12,none⟩=some (.slice t.a t.n t.c):=(HB.later hu).cell 12;have c2:u.cell? ⟨b,13,none⟩=some (.int .i64 t.t):=(HB.later hu).cell 13;have c3:u.cell? ⟨b,14,none⟩=some (.slice t.b t.m t.d):=(HB.later hu).cell 14;have hb:=(HB.later hu).lt;have HI:=Zh (HFR.later hu);rotate_left;rotate_left;have e4:vs 4=_:=Zr hR 4;have hb:=(HB.later hu).lt;rotate_left;have e5:vs 5=_:=Zr hR 5;rotate_left;have e6:vs 6=_:=Zr hR 6;rotate_left;have e7:vs 7=_:=Zr hR 7;have c0:u.cell? ⟨b,5,none⟩=some (.string T):=(HB.later hu).cell 5;have hb:=(HB.later hu).lt;rotate_left;have e8:vs 8=_:=Zr hR 8;have HS:=Zh (HFM.out u hu);rotate_left;have k3:FrR u (vs 3) _:=Zr hR 3;have k9:FrR u (vs 9) _:=Zr hR 9;have HS:=Zh (HWI.out u _ _ k3 k9);clear k3 k9;rotate_left
   all_goals
     clear hR
     try clear hu
     go_wp2_with fail
     first|exact ⟨rfl,rfl,_,_,rfl,rfl,Below.refl _ _,rfl⟩|exact ⟨rfl,rfl,_,_,rfl,rfl,Below.refl _ _,HI.out⟩|(refine HS.mono ?_;rintro e11 w11 ⟨v11,rfl,hi11,hb⟩;go_wp2_with fail;exact ⟨rfl,rfl,_,_,rfl,rfl,hb,hi11⟩)|(refine HS.mono ?_;rintro e11 w11 ⟨rfl,hb⟩;go_wp2_with fail;exact ⟨rfl,rfl,_,_,rfl,rfl,hb,rfl⟩)
  ·intro vs u hu hR;have e10:vs 10=_:=hR 10 (by decide);simp only [Zac,Z3,Z7,Z2,Z6,Act.put,Z1,Z4,Z5,e10];clear hR e10;go_wp2_with fail;go_ret;exact ⟨rfl,hu⟩
abbrev limV:Value:= .agg #[.string ⟨#[114,111,111,109]⟩,.func (.func 286) #[] #[],.func (.func 287) #[] #[],.string ⟨#[108,105,102,116]⟩,.func (.func 285) #[] #[],.func (.func 288) #[] #[],.string ⟨#[115,104,101,97,114]⟩,.func (.func 285) #[] #[],.func (.func 289) #[] #[],.string ⟨#[98,101,110,100,105,110,103]⟩,.func (.func 285) #[] #[],.func (.func 291) #[] #[],.string ⟨#[116,114,105,109]⟩,.func (.func 292) #[] #[],.func (.func 293) #[] #[]]
theorem Zmg (w:World):Calls Tryz.prog 228 #[] w (Ret limV w):=by
  go_enter Tryz.func228,Tryz.ntmps228;go_wp2_with fail;refine bodyPost_ret (v:=limV) (by simp [results,Tryz.results228,go_sem, *]) rfl ?_;exact ⟨rfl,(Below.refl _ _).alloc (Nat.le_refl _) _⟩
end Go.Proofs.YtijajkfmlghgkaaGreatDoor.Nu
