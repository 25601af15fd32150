/- Lemmas on the way to the law TopSuperposed: Vn Vo Rz Vp Vq -/
import Derived.Test.YtijajkfmlghgkaaGreatDoorTopSuperposedP20
import Derived.WalkSmall
set_option linter.unusedVariables false
set_option linter.unusedSimpArgs false
set_option maxRecDepth 100000
set_option maxHeartbeats 4000000
namespace Go.Proofs.YtijajkfmlghgkaaGreatDoor.Nu
open Go Go.Proofs Go.RowKit Go.Proofs.YtijajkfmlghgkaaGreatDoor
theorem Zi2 (w:World):Calls Tryz.prog 155 #[.int .i64 2,.int .i64 1,.int .i64 32] w (Ret (.bool true) w):=by
  go_enter Tryz.func155,Tryz.ntmps155;go_wp2_with fail;go_ret;exact ⟨rfl,Below.refl _ _⟩
theorem infoS:(Tryz.prog.info? 27).map (fun i=>(i.zero,i.size,i.bytes))=some (some (.slice none 0 0),1,24):=by kernel_rfl
def encG (g:Nat):List Value:=[.slice (some ⟨g,0,none⟩) 2 2]
theorem Zjt (g:Nat): ∀u∈encG g,u.oneCell'=true:=by intro u hu;simp [encG] at hu;subst hu;rfl
theorem Zm4 (w:World) (hw:TbR w) (x:ShV) (hs:ShR w x wShip) (vm:Value) (hm:Sl encI 1 w w.heap.size vm [40,40]):Calls Tryz.prog 147 #[x.v wShip.t,vm,.int .i64 2] w (fun e w'=> ∃G c g0 g1,e= .returned (.tuple #[.slice (some ⟨G,0,none⟩) 2 c,.int .i64 0])/\At w' G 0 (encG g0)/\At w' G 1 (encG g1)/\G<w'.heap.size/\Box w' g0 3 [.int .i64 20,.int .i64 20]/\Box w' g1 3 [.int .i64 20,.int .i64 20]/\Below w.heap.size w w'):=by
  have HCM:=Zh (fun (u:World) (hb:Below w.heap.size w u)=>(by exact Zbz u (hw.later hb) x wShip vm [40,40] (hs.later hb) (hm.later hb) Zfg (Zfh 40 40 ⟨by decide,by decide⟩ ⟨by decide,by decide⟩):Calls Tryz.prog 75 #[.agg #[.slice x.ah x.nh x.ch,.slice x.aw x.nw x.cw,.slice x.ac x.nc x.cc,.slice x.az x.ns x.cs,.slice x.ab x.nb x.cb,.string (txq wShip.t)],vm] u (Ret (.int .i64 0) u)));clear hw hs;obtain ⟨ah,aw,ac,az,ab,nh,nw,nc,ns,nb,ch,cw,cc,cz,cb⟩:=x;dsimp only at HCM;obtain ⟨am,cm,rfl,-,p⟩:=hm;obtain ⟨b,o,rfl,l1,q⟩:=p (by simp);have d0:=q 0 (by simp) 0 _ rfl;have d1:=q 1 (by simp) 0 _ rfl;rw [Nat.mul_one,Nat.add_zero] at d0 d1;have HD:=Zh (And.intro (show w.cell? ⟨b,o,none⟩=some (.int .i64 40) from d0) (show w.cell? ⟨b,o+1,none⟩=some (.int .i64 40) from d1));clear d0 d1 p q;have HCM:=Zh (fun (u:World) (hb:Below w.heap.size w u)=>(by exact HCM.out u hb:Calls Tryz.prog 75 #[.agg #[.slice ah nh ch,.slice aw nw cw,.slice ac nc cc,.slice az ns cz,.slice ab nb cb,.string (txq wShip.t)],.slice (some ⟨b,o,none⟩) 2 cm] u (Ret (.int .i64 0) u)));show Calls Tryz.prog 147 #[.agg #[.slice ah nh ch,.slice aw nw cw,.slice ac nc cc,.slice az ns cz,.slice ab nb cb,.string (txq wShip.t)],.slice (some ⟨b,o,none⟩) 2 cm,.int .i64 2] w _;generalize txq wShip.t=T at HCM ⊢;have HB:=Zh ((Below.refl w.heap.size w).alloc (Nat.le_refl _) (.cells #[.slice ah nh ch,.slice aw nw cw,.slice ac nc cc,.slice az ns cz,.slice ab nb cb,.string T] 51));have HX:=Zh (Box.new w #[.slice ah nh ch,.slice aw nw cw,.slice ac nc cc,.slice az ns cz,.slice ab nb cb,.string T] 51);obtain ⟨x0,x1,x2,x3,x4,x5,xf,xz⟩:=HX.w6;have HS:=Zh (HCM.out _ HB.out);clear HCM;go_enter Tryz.func147,Tryz.ntmps147;go_wp2_with fail;refine HS.mono ?_;rintro e3 w3 ⟨rfl,hb⟩;replace HB:=Zh (HB.Zg hb);replace HX:=Zh (HX.later hb);clear hb x0 x1 x2 x3 x4 x5 xf xz;obtain ⟨x0,x1,x2,x3,x4,x5,xf,xz⟩:=HX.w6;clear x0 x1 x2 x3 x4 x5 xf xz HS;have HBT:=Zh (Zi2 w3);go_wp2_with fail;refine HBT.mono ?_;rintro e4 w4 ⟨rfl,hb⟩;have HB4:=Zh (HB.Zg hb);have HR:=Zh (Zm1 (w4.alloc (.cells #[.int .i64 1] 3)) (.slice (some ⟨w4.heap.size,0,none⟩) 1 1) (Ze4 (f:=encI) (sz:=1) (fun _=>rfl) w4 [1] #[.int .i64 1] rfl 3 1 1 rfl (by decide) w4.heap.size rfl));clear hb HB HX HBT;go_wp2_with fail;refine HR.mono ?_;rintro e5 w5 ⟨v5,rfl,h5,hb⟩;have HB5:=Zh ((HB4.alloc HB4.size (.cells #[.int .i64 1] 3)).trans (hb.mono (HB4.alloc HB4.size (.cells #[.int .i64 1] 3)).size));have H5:=Zh h5;obtain ⟨a5,c5,e5,-⟩:=h5;subst e5;have HAP:=Zh (fun (u:World) (hu:Below w5.heap.size w5 u)=>Zh8 u _ (H5.later hu));have HDL:=Zh (fun (u:World) (g:Nat) (hB:Box u g 3 [.int .i64 20,.int .i64 20])=>Zm3 u (.slice (some ⟨g,0,none⟩) 2 2) [20,20] (Zjr (f:=encI) (sz:=1) (fun _=>rfl) [20,20] hB 2 2 rfl (by decide)) (fun z hz=>by
    obtain rfl:z=20:=by simp at hz;exact hz
    decide))
  have hw5:w.heap.size<=w5.heap.size:=HB5.size;have HIN:=Zh infoS;clear hb HR HB4;go_wp2_with fail
  go_loopw [10,11,30] (fun v n i wr=>Hid (Below w.heap.size w wr)/\Hid (Below w5.heap.size w5 wr)/\((∃a c,v= .slice a 0 c/\Hid (Value.slice a 0 c= .slice none 0 0)/\n= .int .i64 0/\i= .int .i64 0)∨(∃a c g0,v= .slice a 1 c/\n= .int .i64 2/\i= .int .i64 1/\w5.heap.size<=g0/\Hid (Box wr g0 3 [.int .i64 20,.int .i64 20])/\Hid (Own encG 1 27 wr (g0+1) (.slice a 1 c) [g0]))∨(∃a c g0 g1,v= .slice a 2 c/\n= .int .i64 4/\i= .int .i64 2/\Hid (Box wr g0 3 [.int .i64 20,.int .i64 20])/\Hid (Box wr g1 3 [.int .i64 20,.int .i64 20])/\Hid (Own encG 1 27 wr (g0+1) (.slice a 2 c) [g0,g1])))) (fun _ _ i _=>2-(intOf i).toNat)
  case atStart=>exact ⟨HB5,Zh (Below.refl _ _),.inl ⟨none,0,rfl,Zh rfl,rfl,rfl⟩⟩
  case round=>
    obtain ⟨HBE,HB6,⟨a0,c0,rfl,HV,rfl,rfl⟩|⟨a0,c0,g0,rfl,rfl,rfl,hg0,HG0,HO⟩|⟨a0,c0,g0,g1,rfl,rfl,rfl,HG0,HG1,HO⟩⟩:=hrel
    ·have d0:=(HBE.cell (p:=⟨b,o,none⟩) l1).trans HD.out.1;have hbw:b<wr.heap.size:=Nat.lt_of_lt_of_le l1 HBE.size;have HS:=Zh (HAP.out _ HB6.out);go_wp2_with fail;refine HS.mono ?_;rintro e7 w7 ⟨g7,rfl,hg7,hx7,hb7⟩;have HX7:=Zh hx7;have HS7:=Zh (HDL.out w7 g7 hx7);have HB7:=Zh (HBE.Zg hb7);have HC7:=Zh (HB6.Zg hb7);have hz6:w5.heap.size<=wr.heap.size:=HB6.size;clear hx7 d0 HS hb7;go_wp2_with fail;refine HS7.mono ?_;rintro e8 w8 ⟨rfl,hb8⟩;have HX8:=Zh (HX7.later hb8);have HB8:=Zh (HB7.Zg hb8);have HC8:=Zh (HC7.Zg hb8);have hl8:=HX8.lt;have hz8:=HC8.size;clear HS7 hb8;go_wp2_with (at_builtin;refine Zfj encG 1 24 215 27 (.slice none 0 0) Tryz.underlying215 HIN.out rfl (by decide) (by decide) (fun _=>rfl) Zjt [] g7 (g7+1) w8 _ rfl (.slice a0 0 c0) (by rw [HV.out];exact Own.nil _ _ _ _ _) hl8 (by decide) rfl _ _ rfl rfl rfl ?_;intro v' w' hown' hg');go_roundw
     case rel=>
       have hob:(Value.slice a0 0 c0).ownBlock=none:=by rw [HV.out];rfl
       obtain ⟨a',c',e'⟩:=hown'.shape;dsimp only [List.nil_append,List.length_cons,List.length_nil] at e';subst e';exact ⟨Zh (HB8.grown hg' HB8.size (fun k hk=>by rw [hob] at hk;cases hk)),Zh (HC8.grown hg' HC8.size (fun k hk=>by rw [hob] at hk;cases hk)),.inr (.inl ⟨a',c',g7,rfl,rfl,rfl,by omega,Zh (HX8.kept hg' (by rw [hob];simp)),Zh hown'⟩)⟩
     case measure=>simp [intOf]
    ·have d0:=(HBE.cell (p:=⟨b,o+1,none⟩) l1).trans HD.out.2;have hbw:b<wr.heap.size:=Nat.lt_of_lt_of_le l1 HBE.size;have HS:=Zh (HAP.out _ HB6.out);go_wp2_with fail;refine HS.mono ?_;rintro e7 w7 ⟨g7,rfl,hg7,hx7,hb7⟩;have HX7:=Zh hx7;have HS7:=Zh (HDL.out w7 g7 hx7);have HB7:=Zh (HBE.Zg hb7);have HC7:=Zh (HB6.Zg hb7);have HY7:=Zh (HG0.later hb7);have HO7:=Zh (HO.later hb7);have hob: ∀k,(Value.slice a0 1 c0).ownBlock=some k->g0+1<=k/\k<wr.heap.size:=fun k hk=>World.ownsRow.lt HO.out k hk;have HOB:=Zh hob;clear hx7 d0 HS hb7 hob;go_wp2_with fail;refine HS7.mono ?_;rintro e8 w8 ⟨rfl,hb8⟩;have HX8:=Zh (HX7.later hb8);have HB8:=Zh (HB7.Zg hb8);have HC8:=Zh (HC7.Zg hb8);have HY8:=Zh (HY7.later hb8);have HO8:=Zh (HO7.later hb8);have hl8:=HX8.lt;have hy8:=HY8.lt;have hz8:=HC8.size;clear HS7 hb8;go_wp2_with (at_builtin;refine Zfj encG 1 24 215 27 (.slice none 0 0) Tryz.underlying215 HIN.out rfl (by decide) (by decide) (fun _=>rfl) Zjt [g0] g7 (g0+1) w8 _ rfl (.slice a0 1 c0) HO8.out hy8 (by simp) rfl _ _ rfl rfl rfl ?_;intro v' w' hown' hg');go_roundw
     case rel=>
       obtain ⟨a',c',e'⟩:=hown'.shape;dsimp only [List.cons_append,List.nil_append,List.length_cons,List.length_nil] at e';subst e';have hk1: ∀k,(Value.slice a0 1 c0).ownBlock=some k->w5.heap.size<=k:=fun k hk=>by have:=(HOB.out k hk).1;omega
       exact ⟨Zh (HB8.grown hg' HB8.size (fun k hk=>by have:=hk1 k hk;omega)),Zh (HC8.grown hg' HC8.size hk1),.inr (.inr ⟨a',c',g0,g7,rfl,rfl,rfl,Zh (HY8.kept hg' (fun e=>by have:=(HOB.out g0 e.symm).1;omega)),Zh (HX8.kept hg' (fun e=>by have:=(HOB.out g7 e.symm).2;omega)),Zh hown'⟩)⟩
     case measure=>simp [intOf]
    ·obtain ⟨G,c,e,hG1,hG2⟩:=HO.form (by simp);dsimp only [List.length_cons,List.length_nil] at e;injection e with e1 e2 e3
     subst e1 e3;clear e2;go_wp2_with fail;refine bodyPost_ret (v:= .tuple #[.slice (some ⟨G,0,none⟩) 2 c0,.int .i64 0]) (by simp [results,Tryz.results147,go_sem, *]) rfl ?_;exact ⟨G,c0,g0,g1,rfl,HO.at (fun _=>rfl) 0 (by simp),HO.at (fun _=>rfl) 1 (by simp),hG2,HG0.out,HG1.out,HBE.out⟩
end Go.Proofs.YtijajkfmlghgkaaGreatDoor.Nu
namespace Go.Proofs.YtijajkfmlghgkaaGreatDoor.Nu
open Go Go.Proofs Go.RowKit Go.Maps Go.Proofs.YtijajkfmlghgkaaGreatDoor
theorem Zm5:Keyed Tryz.prog 9:=string_keyed Tryz.underlying9
theorem Zpv {s:ByteArray} (hs:s.size<=maxLen):keyOf Tryz.prog 9 (.string s)=some (Zdu s.data.toList):=by
  simp [keyOf,Tryz.underlying9,mapKey,hs,Zdu]
theorem Zju (i j:Nat) (hi:i<=2) (hj:j<=2):(tx (keyL [(i:Int),(j:Int)])).size<=maxLen:=by
  rw [Zag];have:=Zhd [(i:Int),(j:Int)] (fun z hz=>by
   rcases List.mem_cons.1 hz with rfl|hz
   ·exact ⟨by omega,by omega⟩
   ·obtain rfl:=List.mem_singleton.1 hz;exact ⟨by omega,by omega⟩)
  simp only [List.length_cons,List.length_nil] at this;unfold maxLen;omega
def encP (p:Int×Int):List Value:=[.int .i64 p.1,.int .i64 p.2]
theorem Zjv (p:Int×Int):(encP p).length=2:=rfl
structure SqN where
  x:ShV
  p0:Nat
  p1:Nat
  p2:Nat
  p3:Nat
  p4:Nat
  p5:Nat
  p6:Nat
  d:Nat
  c:Nat
  m:Nat
  G:Nat
  r0:Nat
  r1:Nat
  gc:Nat
structure SqO (B:Nat) (s:SqN):Prop where
  o1:B<=s.p2
  o2:s.p2<s.p4
  o3:s.G<s.p4
  o4:s.r0<s.p4
  o5:s.r1<s.p4
  o6:s.p4<s.d
  o7:s.d<s.p0
  o8:s.p0<s.c
  o9:s.c<s.p3
  o10:s.p3<s.m
  o11:s.m<s.p1
  o12:s.p1<s.p5
  o13:s.p5<s.p6
def SqN.cap (s:SqN):Array Value:= #[.pointer (some ⟨s.p0,0,none⟩),.pointer (some ⟨s.p1,0,none⟩),.pointer (some ⟨s.p2,0,none⟩),.pointer (some ⟨s.p3,0,none⟩),.pointer (some ⟨s.p4,0,none⟩),.pointer (some ⟨s.p5,0,none⟩),.pointer (some ⟨s.p6,0,none⟩)]
structure SqR (W0:World) (s:SqN) (w:World) (i j a b:Int) (v:Value) (l:List (Int×Int)):Prop where
  be:Below W0.heap.size W0 w
  bd:Box w s.p0 27 [.slice (some ⟨s.d,0,none⟩) 2 2]
  bf:Box w s.p1 218 [.map (some s.m)]
  bs:Box w s.p2 51 (s.x.cells wShip.t)
  bc:Box w s.p3 27 [.slice (some ⟨s.c,0,none⟩) 2 2]
  bp:Box w s.p4 215 [.slice (some ⟨s.G,0,none⟩) 2 s.gc]
  bq:Box w s.p6 29 [.func (.func 148) #[] s.cap]
  bg0:At w s.G 0 (encG s.r0)
  bg1:At w s.G 1 (encG s.r1)
  bgl:s.G<w.heap.size
  b0:Box w s.r0 3 [.int .i64 20,.int .i64 20]
  b1:Box w s.r1 3 [.int .i64 20,.int .i64 20]
  mm:SetM Zdu Tryz.prog 9 4 w s.m []
  dd:Box w s.d 3 [.int .i64 i,.int .i64 j]
  cc:Box w s.c 3 [.int .i64 a,.int .i64 b]
  bo:Box w s.p5 124 [v]
  oo:Own encP 2 221 w (s.p6+1) v l
abbrev SqS (W0:World) (s:SqN) (w:World) (i j:Nat) (v:Value) (l:List (Int×Int)):Prop:=SqR W0 s w i j (20* i) (20* j) v l
theorem SqR.later {W0:World} {s:SqN} {w w':World} {i j a b:Int} {v:Value} {l:List (Int×Int)} (h:SqR W0 s w i j a b v l) (hb:Below w.heap.size w w'):SqR W0 s w' i j a b v l:=
  ⟨h.be.trans (hb.mono h.be.size),h.bd.later hb,h.bf.later hb,h.bs.later hb,h.bc.later hb,h.bp.later hb,h.bq.later hb,h.bg0.below hb h.bgl,h.bg1.below hb h.bgl,Nat.lt_of_lt_of_le h.bgl hb.size,h.b0.later hb,h.b1.later hb,h.mm.later hb,h.dd.later hb,h.cc.later hb,h.bo.later hb,h.oo.later hb⟩
section
variable {W0:World} {s:SqN} {w w':World} {i j:Nat} {v:Value} {l:List (Int×Int)}
def SqP (W0:World) (s:SqN) (w:World) (r:Bool) (e:Ending) (w':World):Prop:=
  e= .returned (.bool r)/\(r=true->(∃a c,Box w' s.p5 124 [.slice a 4 c])/\Below W0.heap.size W0 w')/\(r=false->Below w.heap.size w w')
theorem Zsr (i:Nat) (h:i<=2):MsP (20* i:Int):=⟨by omega,by omega⟩
theorem msPn (i:Nat) (h:i<=2):MsP (i:Int):=⟨by omega,by omega⟩
theorem Zss (i j:Nat) (hi:i<=2) (hj:j<=2): ∀z∈ [(i:Int),(j:Int)],MsP z:=fun z hz=>by
  rcases List.mem_cons.1 hz with rfl|hz
  ·exact msPn i hi
  ·obtain rfl:=List.mem_singleton.1 hz;exact msPn j hj
theorem SqS.key (h:SqS W0 s w i j v l) (hw:TbR W0) (hi:i<=2) (hj:j<=2):Calls Tryz.prog 149 #[.slice (some ⟨s.d,0,none⟩) 2 2] w (Ret (.string (tx (keyL [(i:Int),(j:Int)]))) w):=
  Zsp w (hw.later h.be) _ [(i:Int),(j:Int)] (Zjr (f:=encI) (sz:=1) (fun _=>rfl) [(i:Int),(j:Int)] h.dd 2 2 rfl (by decide)) (Zss i j hi hj) (by simp)
theorem SqS.safe (h:SqS W0 s w i j v l) (hw:TbR W0) (hx:ShR W0 s.x wShip) (hi:i<=2) (hj:j<=2):Calls Tryz.prog 76 #[s.x.v wShip.t,.slice (some ⟨s.c,0,none⟩) 2 2] w (fun e w'=> ∃t:Bool,e= .returned (.bool t)/\(t=true↔SafeS wShip [(20* i:Int),(20* j:Int)])/\Below w.heap.size w w'):=
  Zjq w (hw.later h.be) s.x wShip _ [(20* i:Int),(20* j:Int)] (hx.later h.be) (Zjr (f:=encI) (sz:=1) (fun _=>rfl) [(20* i:Int),(20* j:Int)] h.cc 2 2 rfl (by decide)) Zfg (Zfh _ _ (Zsr i hi) (Zsr j hj))
end
theorem Zf6 (W0:World) (hw:TbR W0) (s:SqN) (hx:ShR W0 s.x wShip) (w:World) (i j:Nat) (v:Value) (l:List (Int×Int)) (h:SqS W0 s w i j v l) (hi:i<=2) (hj:j<=2) (hn: ¬SafeS wShip [(20* i:Int),(20* j:Int)]):
    Calls Tryz.prog 148 s.cap w (SqP W0 s w false):=by
 have HR:=Zh h;have HK:=Zh (fun (u:World) (hb:Below w.heap.size w u)=>SqS.key (h.later hb) hw hi hj);have HSF:=Zh (fun (u:World) (hb:Below w.heap.size w u)=>(by exact SqS.safe (h.later hb) hw hx hi hj:Calls Tryz.prog 76 #[.agg #[.slice s.x.ah s.x.nh s.x.ch,.slice s.x.aw s.x.nw s.x.cw,.slice s.x.ac s.x.nc s.x.cc,.slice s.x.az s.x.ns s.x.cs,.slice s.x.ab s.x.nb s.x.cb,.string (txq wShip.t)],.slice (some ⟨s.c,0,none⟩) 2 2] u (fun e w'=> ∃t:Bool,e= .returned (.bool t)/\(t=true↔SafeS wShip [(20* i:Int),(20* j:Int)])/\Below u.heap.size u w')));have HN:=Zh hn;clear hw hx h hn;obtain ⟨⟨ah,aw,ac,az,ab,nh,nw,nc,ns,nb,ch,cw,cc,cz,cb⟩,p0,p1,p2,p3,p4,p5,p6,d,c,m,G,r0,r1,gc⟩:=s;obtain ⟨T,hT⟩: ∃T,txq wShip.t=T:=⟨_,rfl⟩;dsimp only at HK HSF;simp only [hT] at HSF;show Calls Tryz.prog 148 #[.pointer (some ⟨p0,0,none⟩),.pointer (some ⟨p1,0,none⟩),.pointer (some ⟨p2,0,none⟩),.pointer (some ⟨p3,0,none⟩),.pointer (some ⟨p4,0,none⟩),.pointer (some ⟨p5,0,none⟩),.pointer (some ⟨p6,0,none⟩)] w _;have hbs:Box w p2 51 [.slice ah nh ch,.slice aw nw cw,.slice ac nc cc,.slice az ns cz,.slice ab nb cb,.string T]:=by have:=HR.bs;unfold ShV.cells at this;rw [hT] at this;exact this
 have HBS:=Zh hbs;have HT:=Zh hT;obtain ⟨y0,yf,yz⟩:=HR.bd.v1;obtain ⟨QQ,hQQ⟩: ∃Q,SqP W0 ⟨⟨ah,aw,ac,az,ab,nh,nw,nc,ns,nb,ch,cw,cc,cz,cb⟩,p0,p1,p2,p3,p4,p5,p6,d,c,m,G,r0,r1,gc⟩ w false=Q:=⟨_,rfl⟩;rw [hQQ];have HQQ:=Zh hQQ;clear hT hQQ hbs;have HKY:=Zh (Zpv (Zju i j hi hj));generalize tx (keyL [(i:Int),(j:Int)])=K at *;dsimp only at y0 yf yz;have HKA:=Zh (HK.out w (Below.refl _ _));clear HK;go_enter Tryz.func148,Tryz.ntmps148;go_wp2_with fail;refine HKA.mono ?_;rintro e3 w3 ⟨rfl,hb⟩;have HB3:=Zh hb;have HR3:=Zh (HR.later hb);have HX3:=Zh (HBS.later hb);have HM:=Zh HR3.mm;clear hb y0 yf yz HKA HR HBS;obtain ⟨y0,yf,yz⟩:=HR3.bd.v1;obtain ⟨m0,mf,mz⟩:=HR3.bf.v1;obtain ⟨c0,cf,cz'⟩:=HR3.bc.v1;obtain ⟨x0,x1,x2,x3,x4,x5,xf,xz⟩:=HX3.w6;dsimp only at y0 yf yz m0 mf mz c0 cf cz';have HS:=Zh (HSF.out _ HB3.out);clear HSF;go_wp2_with (first|(at_lookup;refine Zdh (f:=Zdu) HM.out Zm5 Tryz.underlying218 Tryz.underlying4 (Tryz.zeroValue4 _) HKY.out rfl _ _ rfl rfl rfl ?_));refine HS.mono ?_;rintro e4 w4 ⟨t,rfl,ht,hb⟩;have hb4:=HB3.Zg hb;cases t with
 | true=>exact absurd (ht.1 rfl) HN.out
 | false=>
   have HB4:=Zh hb4;clear hb hb4 ht y0 yf yz m0 mf mz c0 cf cz' x0 x1 x2 x3 x4 x5 xf xz HS;go_wp2_with fail;rw [<-HQQ.out];exact ⟨rfl,fun h=>(by cases h),fun _=>HB4.out⟩
end Go.Proofs.YtijajkfmlghgkaaGreatDoor.Nu
namespace Go.Proofs.YtijajkfmlghgkaaGreatDoor
open Go Go.Proofs Go.RowKit
structure S1J (W:World) (g o:Nat) (x:Value) (ks:List (Option Value)) (st im il:Nat) (D:Nat->Bool) (vs:Nat->Value) (u:World):Prop where
  val: ∀j v,ks[j]?=some (some v)->D j=true->vs j=v
  wor:u=if D st then W.setCell ⟨g,o,none⟩ x else W
  ord:D st=true->D im=true
  ord2:D im=true->D il=true
section
variable {W u:World} {g o:Nat} {x:Value} {ks:List (Option Value)} {st im il:Nat} {D:Nat->Bool} {vs:Nat->Value}
theorem S1J.start:S1J W g o x ks st im il (fun _=>false) (fun _=>undef) W:=⟨(fun _ _ _ h=>by cases h),rfl,(fun h=>by cases h),(fun h=>by cases h)⟩
theorem S1J.quiet (h:S1J W g o x ks st im il D vs u) (i:Nat) (h1:i≠st) (h2:i=im->D il=true) {v:Value} (hk: ∀v',ks[i]?=some (some v')->v=v'):S1J W g o x ks st im il (setF D i true) (setF vs i v) u:=
  ⟨J2.vals h.val i hk,by rw [Zab _ _ (Ne.symm h1)];exact h.wor,Zcg h.ord (Ne.symm h1),fun hd=>by
    by_cases him:im=i
    ·by_cases hil:il=i
     ·rw [hil,Zaj]
     ·rw [Zab _ _ hil];exact h2 him.symm
    ·exact Zcg h.ord2 him hd⟩
theorem S1J.zq (h:S1J W g o x ks st im il D vs u) (i:Nat) {v:Value} (h1:i≠st:=by decide) (h2:i=im->D il=true:=by exact fun h=>absurd h (by decide)) (hk: ∀v',ks[i]?=some (some v')->v=v':=by exact fun v' e=>Option.some.inj (Option.some.inj e)):S1J W g o x ks st im il (setF D i true) (setF vs i v) u:=h.quiet i h1 h2 hk
theorem S1J.put (h:S1J W g o x ks st im il D vs u) (hk:ks[st]?=some none) (hD:D st=false) (hl:D im=true) (hne:im≠st) {v:Value}:S1J W g o x ks st im il (setF D st true) (setF vs st v) (u.setCell ⟨g,o,none⟩ x):=by
  refine ⟨J2.vals h.val st (fun v' e=>by rw [hk] at e;cases e),?_,fun _=>by rw [Zab _ _ hne];exact hl,Zcg h.ord2 hne⟩;have:=h.wor;rw [hD] at this;rw [Zaj,this];rfl
theorem S1J.box (h:S1J W g o x ks st im il D vs u) {b:Nat} {t:TypeId} {l:List Value} (hx:Box W b t l) (hb:g≠b):Box u b t l:=by
  rw [h.wor]
  split
  ·exact hx.other x hb
  ·exact hx
theorem S1J.same (h:S1J W g o x ks st im il D vs u) (hD:D il=false):u=W:=by
  have:=h.wor;have h2:D st=false:=by
    cases hs:D st with
    | false=>rfl
    | true=>rw [h.ord2 (h.ord hs)] at hD;cases hD
  rw [h2] at this;exact this
end
end Go.Proofs.YtijajkfmlghgkaaGreatDoor
namespace Go.Proofs.YtijajkfmlghgkaaGreatDoor.Nu
open Go Go.Proofs Go.RowKit Go.Maps Go.Proofs.YtijajkfmlghgkaaGreatDoor
section
variable {W0:World} {s:SqN} {w w':World} {i j a b:Int} {v:Value} {l:List (Int×Int)}
theorem At.kept {w w':World} {b off:Nat} {vs:List Value} (h:At w b off vs) {B:Nat} (hb:Below B w w') (hlt:b<B):At w' b off vs:=h.below hb hlt
theorem SqR.anew (h:SqR W0 s w i j a b v l) (so:SqO W0.heap.size s) {i' j' a' b':Int} {v':Value} {l':List (Int×Int)} (hb:Below W0.heap.size W0 w') (hk: ∀k t vs,Box w k t vs->k<=s.p6->k≠s.d->k≠s.c->k≠s.p5->Box w' k t vs)
    (ha: ∀k o vs,At w k o vs->k<s.p4->At w' k o vs) (hsz:w.heap.size<=w'.heap.size)
    (hm:SetM Zdu Tryz.prog 9 4 w' s.m []) (hd:Box w' s.d 3 [.int .i64 i',.int .i64 j']) (hc:Box w' s.c 3 [.int .i64 a',.int .i64 b']) (ho:Box w' s.p5 124 [v']) (hv:Own encP 2 221 w' (s.p6+1) v' l'):SqR W0 s w' i' j' a' b' v' l':=by
 obtain ⟨o1,o2,o3,o4,o5,o6,o7,o8,o9,o10,o11,o12,o13⟩:=so;exact ⟨hb,hk _ _ _ h.bd (by omega) (by omega) (by omega) (by omega),hk _ _ _ h.bf (by omega) (by omega) (by omega) (by omega),hk _ _ _ h.bs (by omega) (by omega) (by omega) (by omega),hk _ _ _ h.bc (by omega) (by omega) (by omega) (by omega),hk _ _ _ h.bp (by omega) (by omega) (by omega) (by omega),hk _ _ _ h.bq (by omega) (by omega) (by omega) (by omega),
   ha _ _ _ h.bg0 o3,ha _ _ _ h.bg1 o3,Nat.lt_of_lt_of_le h.bgl hsz,hk _ _ _ h.b0 (by omega) (by omega) (by omega) (by omega),hk _ _ _ h.b1 (by omega) (by omega) (by omega) (by omega),hm,hd,hc,ho,hv⟩
theorem Zf7 (w:World) (g o:Nat) (u:Value):Below g w (w.setCell ⟨g,o,none⟩ u):=(Below.refl g w).setCell (p:=⟨g,o,none⟩) (Nat.le_refl _) u
theorem SetM.set (h:SetM Zdu Tryz.prog 9 4 w s.m []) {g:Nat} (hg:s.m≠g) (o:Nat) (u:Value):SetM Zdu Tryz.prog 9 4 (w.setCell ⟨g,o,none⟩ u) s.m []:=
  h.kept (Za8 w g o u) (fun e=>hg (Option.some.inj e))
theorem SqR.store (h:SqR W0 s w i j a b v l) (so:SqO W0.heap.size s) {i' j' a' b':Int} (g o:Nat) (u:Value) (hg:g=s.d∨g=s.c) (hd:Box (w.setCell ⟨g,o,none⟩ u) s.d 3 [.int .i64 i',.int .i64 j']) (hc:Box (w.setCell ⟨g,o,none⟩ u) s.c 3 [.int .i64 a',.int .i64 b']):SqR W0 s (w.setCell ⟨g,o,none⟩ u) i' j' a' b' v l:=by
  have hso:=so;obtain ⟨o1,o2,o3,o4,o5,o6,o7,o8,o9,o10,o11,o12,o13⟩:=so;refine h.anew hso (h.be.setCell (p:=⟨g,o,none⟩) (by dsimp only;omega) u) (fun k t vs hb h1 h2 h3 h4=>hb.other u (by dsimp only;omega)) (fun k o' vs hb hk=>At.kept hb (Zf7 w g o u) (by omega)) (by simp) (SetM.set h.mm (by omega) o u) hd hc (h.bo.other u (by dsimp only;omega)) (h.oo.below u (by dsimp only;omega))
theorem SqR.d0 (h:SqR W0 s w i j a b v l) (so:SqO W0.heap.size s) (x:Int):SqR W0 s (w.setCell ⟨s.d,0,none⟩ (.int .i64 x)) x j a b v l:=
  h.store so s.d 0 _ (.inl rfl) (h.dd.set 0 (.int .i64 x)) (h.cc.other _ (by have:=so.o7;have:=so.o8;dsimp only;omega))
theorem SqR.d1 (h:SqR W0 s w i j a b v l) (so:SqO W0.heap.size s) (x:Int):SqR W0 s (w.setCell ⟨s.d,1,none⟩ (.int .i64 x)) i x a b v l:=
  h.store so s.d 1 _ (.inl rfl) (h.dd.set 1 (.int .i64 x)) (h.cc.other _ (by have:=so.o7;have:=so.o8;dsimp only;omega))
theorem SqR.c0 (h:SqR W0 s w i j a b v l) (so:SqO W0.heap.size s) (x:Int):SqR W0 s (w.setCell ⟨s.c,0,none⟩ (.int .i64 x)) i j x b v l:=
  h.store so s.c 0 _ (.inr rfl) (h.dd.other _ (by have:=so.o7;have:=so.o8;dsimp only;omega)) (h.cc.set 0 (.int .i64 x))
theorem SqR.c1 (h:SqR W0 s w i j a b v l) (so:SqO W0.heap.size s) (x:Int):SqR W0 s (w.setCell ⟨s.c,1,none⟩ (.int .i64 x)) i j a x v l:=
  h.store so s.c 1 _ (.inr rfl) (h.dd.other _ (by have:=so.o7;have:=so.o8;dsimp only;omega)) (h.cc.set 1 (.int .i64 x))
theorem SqR.out (h:SqR W0 s w i j a b v l) (so:SqO W0.heap.size s) (v':Value) {l':List (Int×Int)} (ho:Own encP 2 221 w (s.p6+1) v' l'):SqR W0 s (w.setCell ⟨s.p5,0,none⟩ v') i j a b v' l':=by
  have hso:=so;obtain ⟨o1,o2,o3,o4,o5,o6,o7,o8,o9,o10,o11,o12,o13⟩:=so;exact h.anew hso (h.be.setCell (p:=⟨s.p5,0,none⟩) (by dsimp only;omega) _) (fun k t vs hb h1 h2 h3 h4=>hb.other _ (by dsimp only;omega)) (fun k o' vs hb hk=>At.kept hb (Zf7 w s.p5 0 _) (by omega)) (by simp) (SetM.set h.mm (by omega) 0 _) (h.dd.other _ (by dsimp only;omega)) (h.cc.other _ (by dsimp only;omega)) (h.bo.set 0 v') (ho.below _ (by dsimp only;omega))
theorem SqR.push (h:SqR W0 s w i j a b v l) (so:SqO W0.heap.size s) {v':Value} {l':List (Int×Int)} (ho:Own encP 2 221 w' (s.p6+1) v' l') (hg:w.grownBy w' v.ownBlock):SqR W0 s (w'.setCell ⟨s.p5,0,none⟩ v') i j a b v' l':=by
  have hso:=so;obtain ⟨o1,o2,o3,o4,o5,o6,o7,o8,o9,o10,o11,o12,o13⟩:=so;have hlt: ∀k,v.ownBlock=some k->s.p6+1<=k:=h.oo.lt';have hbox: ∀k t vs,Box w k t vs->k<=s.p6->Box w' k t vs:=fun k t vs hb hk=>hb.kept hg (fun e=>by have:=hlt k e.symm;omega);have hbb:Below (s.p6+1) w w':=(Below.refl _ _).grown hg (by have:=h.bq.lt;omega) hlt;refine h.anew hso ((h.be.grown hg h.be.size (fun k hk=>by have:=hlt k hk;omega)).setCell (p:=⟨s.p5,0,none⟩) (by dsimp only;omega) _) (fun k t vs hb h1 h2 h3 h4=>(hbox k t vs hb h1).other _ (by dsimp only;omega)) (fun k o' vs hb hk=>At.kept (At.kept hb hbb (by omega)) (Zf7 w' s.p5 0 _) (by omega)) (by simp;exact hg.size) (SetM.set (h.mm.kept hg (fun e=>by have:=hlt s.m e.symm;omega)) (by omega) 0 _) ((hbox _ _ _ h.dd (by omega)).other _ (by dsimp only;omega)) ((hbox _ _ _ h.cc (by omega)).other _ (by dsimp only;omega)) ((hbox _ _ _ h.bo (by omega)).set 0 v') (ho.below _ (by dsimp only;omega))
theorem SqR.pop {g n cap:Nat} {x:Int×Int} (h:SqR W0 s w i j a b (.slice (some ⟨g,0,none⟩) (n+1) cap) (l++ [x])) (so:SqO W0.heap.size s) (hn:l.length=n):SqR W0 s (w.setCell ⟨s.p5,0,none⟩ (.slice (some ⟨g,0,none⟩) n cap)) i j a b (.slice (some ⟨g,0,none⟩) n cap) l:=by
  refine h.out so _ ?_;have ho:=h.oo;unfold Own at ho ⊢;subst hn;rw [List.length_append,List.length_singleton,List.flatMap_append,List.flatMap_singleton] at ho;exact ownsRow_pop (by rw [Zbq encP 2 Zjv]) ho
end
theorem infoP:(Tryz.prog.info? 221).map (fun i=>(i.zero,i.size,i.bytes))=some (some (.agg #[.int .i64 0,.int .i64 0]),2,16):=by kernel_rfl
theorem Zoz (x:Int×Int): ∀u∈encP x,u.oneCell'=true:=by intro u hu;simp [encP] at hu;rcases hu with rfl|rfl <;> rfl
theorem Own.capN {α:Type} {f:α->List Value} {sz:Nat} {e:TypeId} {w:World} {base g n c:Nat} {l:List α} (h:Own f sz e w base (.slice (some ⟨g,0,none⟩) n c) l) (_hn:l.length=n):n<=c/\c<=maxLen:=by
  obtain ⟨_,h2⟩:=h
  rcases h2 with ⟨h0,_⟩|⟨g',cap',cur,hv,hg,hh,hn,hcap,hsz,htake⟩
  ·cases h0
  ·injection hv with e1 e2 e3
   omega
theorem Zbg {w:World} {b:Nat} {e:TypeId} {vs:List Value} (h:Box w b e vs) (k:Nat) (x:Value) (hx:vs[k]?=some x):w.cell? ⟨b,k,none⟩=some x:=(h.cell k).trans hx
theorem Zbs (W0:World) (hw:TbR W0) (s:SqN) (so:SqO W0.heap.size s) (hx:ShR W0 s.x wShip) (w:World) (i j:Nat) (v:Value) (l:List (Int×Int)) (h:SqS W0 s w i j v l) (hi:i<=2) (hj:j<=2) (hl:l.length=i+j) (hsf:SafeS wShip [(20* i:Int),(20* j:Int)])
    (q0 q1:Bool) (h0:i<2->∀ (u:World) (v':Value) (l':List (Int×Int)),l'.length=i+1+j->SqS W0 s u (i+1) j v' l'->Calls Tryz.prog 148 s.cap u (SqP W0 s u q0)) (h1:j<2->∀ (u:World) (v':Value) (l':List (Int×Int)),l'.length=i+(j+1)->SqS W0 s u i (j+1) v' l'->Calls Tryz.prog 148 s.cap u (SqP W0 s u q1))
    (hr:(i<2/\q0=true)∨(j<2/\q1=true)∨(i=2/\j=2)):Calls Tryz.prog 148 s.cap w (SqP W0 s w true):=by
 have HR:=Zh h;have HSO:=Zh so;have HSFE:=Zh hsf;have HK:=Zh (fun (u:World) (hb:Below w.heap.size w u)=>SqS.key (h.later hb) hw hi hj);have HSF:=Zh (fun (u:World) (hb:Below w.heap.size w u)=>(by exact SqS.safe (h.later hb) hw hx hi hj:Calls Tryz.prog 76 #[.agg #[.slice s.x.ah s.x.nh s.x.ch,.slice s.x.aw s.x.nw s.x.cw,.slice s.x.ac s.x.nc s.x.cc,.slice s.x.az s.x.ns s.x.cs,.slice s.x.ab s.x.nb s.x.cb,.string (txq wShip.t)],.slice (some ⟨s.c,0,none⟩) 2 2] u (fun e w'=> ∃t:Bool,e= .returned (.bool t)/\(t=true↔SafeS wShip [(20* i:Int),(20* j:Int)])/\Below u.heap.size u w')));have H0:=Zh h0;have H1:=Zh h1;have HQR:=Zh hr;have HL:=Zh hl;clear hw hx h so h0 h1 hr hsf hl;obtain ⟨⟨ah,aw,ac,az,ab,nh,nw,nc,ns,nb,ch,cw,cc,cz,cb⟩,p0,p1,p2,p3,p4,p5,p6,d,c,m,G,r0,r1,gc⟩:=s;obtain ⟨T,hT⟩: ∃T,txq wShip.t=T:=⟨_,rfl⟩;dsimp only at HK HSF;simp only [hT] at HSF;have HP:=Zh (fun (u:World) (hb:SqS W0 ⟨⟨ah,aw,ac,az,ab,nh,nw,nc,ns,nb,ch,cw,cc,cz,cb⟩,p0,p1,p2,p3,p4,p5,p6,d,c,m,G,r0,r1,gc⟩ u i j v l)=>(show Box u p2 51 [.slice ah nh ch,.slice aw nw cw,.slice ac nc cc,.slice az ns cz,.slice ab nb cb,.string T] by have:=hb.bs;unfold ShV.cells at this;rw [hT] at this;exact this));have H0:=Zh (fun (h:i<2) (u:World) (v':Value) (l':List (Int×Int)) (hl:l'.length=i+1+j) (hs:SqS W0 ⟨⟨ah,aw,ac,az,ab,nh,nw,nc,ns,nb,ch,cw,cc,cz,cb⟩,p0,p1,p2,p3,p4,p5,p6,d,c,m,G,r0,r1,gc⟩ u (i+1) j v' l')=>(by exact H0.out h u v' l' hl hs:Calls Tryz.prog 148 #[.pointer (some ⟨p0,0,none⟩),.pointer (some ⟨p1,0,none⟩),.pointer (some ⟨p2,0,none⟩),.pointer (some ⟨p3,0,none⟩),.pointer (some ⟨p4,0,none⟩),.pointer (some ⟨p5,0,none⟩),.pointer (some ⟨p6,0,none⟩)] u (SqP W0 ⟨⟨ah,aw,ac,az,ab,nh,nw,nc,ns,nb,ch,cw,cc,cz,cb⟩,p0,p1,p2,p3,p4,p5,p6,d,c,m,G,r0,r1,gc⟩ u q0)));have H1:=Zh (fun (h:j<2) (u:World) (v':Value) (l':List (Int×Int)) (hl:l'.length=i+(j+1)) (hs:SqS W0 ⟨⟨ah,aw,ac,az,ab,nh,nw,nc,ns,nb,ch,cw,cc,cz,cb⟩,p0,p1,p2,p3,p4,p5,p6,d,c,m,G,r0,r1,gc⟩ u i (j+1) v' l')=>(by exact H1.out h u v' l' hl hs:Calls Tryz.prog 148 #[.pointer (some ⟨p0,0,none⟩),.pointer (some ⟨p1,0,none⟩),.pointer (some ⟨p2,0,none⟩),.pointer (some ⟨p3,0,none⟩),.pointer (some ⟨p4,0,none⟩),.pointer (some ⟨p5,0,none⟩),.pointer (some ⟨p6,0,none⟩)] u (SqP W0 ⟨⟨ah,aw,ac,az,ab,nh,nw,nc,ns,nb,ch,cw,cc,cz,cb⟩,p0,p1,p2,p3,p4,p5,p6,d,c,m,G,r0,r1,gc⟩ u q1)));have hox:=HSO.out;obtain ⟨o1,o2,o3,o4,o5,o6,o7,o8,o9,o10,o11,o12,o13⟩:=hox;dsimp only at o1 o2 o3 o4 o5 o6 o7 o8 o9 o10 o11 o12 o13;show Calls Tryz.prog 148 #[.pointer (some ⟨p0,0,none⟩),.pointer (some ⟨p1,0,none⟩),.pointer (some ⟨p2,0,none⟩),.pointer (some ⟨p3,0,none⟩),.pointer (some ⟨p4,0,none⟩),.pointer (some ⟨p5,0,none⟩),.pointer (some ⟨p6,0,none⟩)] w _;have HBS:=Zh (HP.out w HR.out);obtain ⟨y0,yf,yz⟩:=HR.bd.v1;obtain ⟨S,hS⟩: ∃S:SqN,S=⟨⟨ah,aw,ac,az,ab,nh,nw,nc,ns,nb,ch,cw,cc,cz,cb⟩,p0,p1,p2,p3,p4,p5,p6,d,c,m,G,r0,r1,gc⟩:=⟨_,rfl⟩;have HS0:=Zh hS;obtain ⟨QQ,hQQ⟩: ∃Q,SqP W0 ⟨⟨ah,aw,ac,az,ab,nh,nw,nc,ns,nb,ch,cw,cc,cz,cb⟩,p0,p1,p2,p3,p4,p5,p6,d,c,m,G,r0,r1,gc⟩ w true=Q:=⟨_,rfl⟩;rw [hQQ];have HQQ:=Zh hQQ;clear hT hQQ hS;have HKY:=Zh (Zpv (Zju i j hi hj));generalize tx (keyL [(i:Int),(j:Int)])=K at *;dsimp only at y0 yf yz;have HKA:=Zh (HK.out w (Below.refl _ _));have HIN:=Zh infoP;clear HK;go_enter Tryz.func148,Tryz.ntmps148;go_wp2_with fail;refine HKA.mono ?_;rintro e3 w3 ⟨rfl,hb⟩;have HB3:=Zh hb;have HR3:=Zh (HR.later hb);have HX3:=Zh (HBS.later hb);have HM:=Zh HR3.mm;clear hb y0 yf yz HKA HR HBS;obtain ⟨y0,yf,yz⟩:=HR3.bd.v1;obtain ⟨m0,mf,mz⟩:=HR3.bf.v1;obtain ⟨c0,cf,cz'⟩:=HR3.bc.v1;obtain ⟨x0,x1,x2,x3,x4,x5,xf,xz⟩:=HX3.w6;dsimp only at y0 yf yz m0 mf mz c0 cf cz';have HS:=Zh (HSF.out _ HB3.out);clear HSF HP;go_wp2_with (first|(at_lookup;refine Zdh (f:=Zdu) HM.out Zm5 Tryz.underlying218 Tryz.underlying4 (Tryz.zeroValue4 _) HKY.out rfl _ _ rfl rfl rfl ?_));refine HS.mono ?_;rintro e4 w4 ⟨t,rfl,ht,hb⟩;obtain rfl:t=true:=ht.2 HSFE.out;have HR4:=Zh (HR3.later hb);clear hb ht y0 yf yz m0 mf mz c0 cf cz' x0 x1 x2 x3 x4 x5 xf xz HS HX3 HM HR3 HB3 HSFE;obtain ⟨z0,zf,zz⟩:=HR4.bp.v1;dsimp only at z0 zf zz;go_wp2_with fail;clear z0 zf zz
 go_loopw [9,26] (fun b9 ct wr=> ∃ (k:Nat) (b:Bool) (v:Value) (l:List (Int×Int)),k<=2/\ct= .int .i64 (k:Int)/\b9= .bool b/\Hid (SqS W0 ⟨⟨ah,aw,ac,az,ab,nh,nw,nc,ns,nb,ch,cw,cc,cz,cb⟩,p0,p1,p2,p3,p4,p5,p6,d,c,m,G,r0,r1,gc⟩ wr i j v l)/\Hid (l.length=i+j)/\Hid ((i=2->j=2->b=false)/\(1<=k->i=2∨q0=false)/\(2<=k->j=2∨q1=false))) (fun _ ct _=>2-(intOf ct).toNat)
 case atStart=>exact ⟨0,false,v,l,by omega,rfl,rfl,HR4,HL,Zh ⟨fun _ _=>rfl,fun h=>by omega,fun h=>by omega⟩⟩
 case round=>
   clear HR4 HL;obtain ⟨k,b9,v,l,hk,rfl,rfl,HR,HL,HF⟩:=hrel;obtain ⟨y0,yf,yz⟩:=HR.bd.v1;dsimp only at y0 yf yz
   by_cases hk2:k<2
   ·obtain ⟨n,r,x1,x2,a1,b1,qk,hn2,g1,hr,hd0,hc0,hd1,hc1,hup,hdn,hrec,hi2,hi3⟩: ∃ (n r:Nat) (x1 x2 a1 b1:Int) (qk:Bool),n<=2/\wr.cell? ⟨G,k,none⟩=some (.slice (some ⟨r,0,none⟩) 2 2)/\Box wr r 3 [.int .i64 20,.int .i64 20]/\
        [Value.int .i64 (i:Int),.int .i64 (j:Int)][k]?=some (.int .i64 (n:Int))/\ [Value.int .i64 (20* i:Int),.int .i64 (20* j:Int)][k]?=some (.int .i64 (20* n:Int))/\ [Value.int .i64 x1,.int .i64 x2][k]?=some (.int .i64 ((n:Int)+1))/\ [Value.int .i64 a1,.int .i64 b1][k]?=some (.int .i64 (20* n+20:Int))/\
        (∀u v l,SqS W0 ⟨⟨ah,aw,ac,az,ab,nh,nw,nc,ns,nb,ch,cw,cc,cz,cb⟩,p0,p1,p2,p3,p4,p5,p6,d,c,m,G,r0,r1,gc⟩ u i j v l->SqR W0 ⟨⟨ah,aw,ac,az,ab,nh,nw,nc,ns,nb,ch,cw,cc,cz,cb⟩,p0,p1,p2,p3,p4,p5,p6,d,c,m,G,r0,r1,gc⟩ ((u.setCell ⟨d,k,none⟩ (.int .i64 ((n:Int)+1))).setCell ⟨c,k,none⟩ (.int .i64 (20* n+20:Int))) x1 x2 a1 b1 v l)/\
        (∀u v l,SqR W0 ⟨⟨ah,aw,ac,az,ab,nh,nw,nc,ns,nb,ch,cw,cc,cz,cb⟩,p0,p1,p2,p3,p4,p5,p6,d,c,m,G,r0,r1,gc⟩ u x1 x2 a1 b1 v l->SqS W0 ⟨⟨ah,aw,ac,az,ab,nh,nw,nc,ns,nb,ch,cw,cc,cz,cb⟩,p0,p1,p2,p3,p4,p5,p6,d,c,m,G,r0,r1,gc⟩ ((u.setCell ⟨d,k,none⟩ (.int .i64 (n:Int))).setCell ⟨c,k,none⟩ (.int .i64 (20* n:Int))) i j v l)/\
        (n<2->∀ (u:World) (v':Value) (l':List (Int×Int)),l'.length=i+j+1->SqR W0 ⟨⟨ah,aw,ac,az,ab,nh,nw,nc,ns,nb,ch,cw,cc,cz,cb⟩,p0,p1,p2,p3,p4,p5,p6,d,c,m,G,r0,r1,gc⟩ u x1 x2 a1 b1 v' l'->Calls Tryz.prog 148 #[.pointer (some ⟨p0,0,none⟩),.pointer (some ⟨p1,0,none⟩),.pointer (some ⟨p2,0,none⟩),.pointer (some ⟨p3,0,none⟩),.pointer (some ⟨p4,0,none⟩),.pointer (some ⟨p5,0,none⟩),.pointer (some ⟨p6,0,none⟩)] u (SqP W0 ⟨⟨ah,aw,ac,az,ab,nh,nw,nc,ns,nb,ch,cw,cc,cz,cb⟩,p0,p1,p2,p3,p4,p5,p6,d,c,m,G,r0,r1,gc⟩ u qk))/\
        (n=2->(i=2->j=2->b9=false)/\(1<=k+1->i=2∨q0=false)/\(2<=k+1->j=2∨q1=false))/\(n<2->qk=false->(i=2->j=2->true=false)/\(1<=k+1->i=2∨q0=false)/\(2<=k+1->j=2∨q1=false)):=by
     rcases (by omega:k=0∨k=1) with rfl|rfl
     ·refine ⟨i,r0,(i:Int)+1,j,20* i+20,20* j,q0,hi,HR.bg0.c1,HR.b0,rfl,rfl,rfl,rfl,fun u v l h=>SqR.c0 (SqR.d0 h HSO.out _) HSO.out _,fun u v l h=>SqR.c0 (SqR.d0 h HSO.out _) HSO.out _,fun hlt u v' l' hl hs=>H0.out hlt u v' l' (by omega) ?_,fun h=>⟨HF.out.1,fun _=> .inl h,fun h=>by omega⟩,fun h e=>⟨fun h'=>by omega,fun _=> .inr e,fun h=>by omega⟩⟩;show SqR W0 _ u _ _ _ _ _ _;rw [show (((i+1:Nat)):Int)=(i:Int)+1 from by omega,show (20:Int) * ((i:Int)+1)=20* (i:Int)+20 from by omega];exact hs
     ·refine ⟨j,r1,i,(j:Int)+1,20* i,20* j+20,q1,hj,HR.bg1.c1,HR.b1,rfl,rfl,rfl,rfl,fun u v l h=>SqR.c1 (SqR.d1 h HSO.out _) HSO.out _,fun u v l h=>SqR.c1 (SqR.d1 h HSO.out _) HSO.out _,fun hlt u v' l' hl hs=>H1.out hlt u v' l' (by omega) ?_,fun h=>⟨HF.out.1,fun _=>HF.out.2.1 (by omega),fun _=> .inl h⟩,fun h e=>⟨fun _ h'=>by omega,fun _=>HF.out.2.1 (by omega),fun _=> .inr e⟩⟩;show SqR W0 _ u _ _ _ _ _ _;rw [show (((j+1:Nat)):Int)=(j:Int)+1 from by omega,show (20:Int) * ((j:Int)+1)=20* (j:Int)+20 from by omega];exact hs
    have HUP:=Zh hup;have HDN:=Zh hdn;have HREC:=Zh hrec;have HI2:=Zh hi2;have HI3:=Zh hi3;have HD0:=Zh hd0;have HC0:=Zh hc0;have HD1:=Zh hd1;have HC1:=Zh hc1;have HRB:=Zh hr;clear hup hdn hrec hi2 hi3 hd0 hc0 hd1 hc1 hr;have dk:=Zbg HR.dd k _ HD0.out;have df:=HR.dd.frozen;have dl:=HR.dd.lt;dsimp only at dk df dl
    by_cases hlt:n<2
    rotate_left
    ·obtain rfl:n=2:=by omega
     go_wp2_with fail;go_roundw
     case rel=>exact ⟨k+1,b9,v,l,by omega,by go_num,rfl,HR,HL,Zh (HI2.out rfl)⟩
     case measure=>simp [intOf];omega
    ·have e1:(((n:Nat):Int)==2)=false:=beq_eq_false_iff_ne.2 (by omega);have ck:=Zbg HR.cc k _ HC0.out;have cf:=HR.cc.frozen;have cl:=HR.cc.lt;have rk:=Zbg HRB.out n (.int .i64 20) (by rcases (by omega:n=0∨n=1) with e|e <;> rw [e] <;> rfl)
     have v0:=Zbg HR.bo 0 _ rfl;have vl:=HR.bo.lt;dsimp only at ck cf cl rk v0 vl;obtain ⟨av,cv,ev⟩:=HR.oo.shape;rw [HL.out] at ev;subst ev;have hln:l.length<=1000000:=by rw [HL.out];omega
     have HLN:=Zh hln;have hzz:=HR.bq.lt;dsimp only at hzz;have hRa:=HR.later (Zav wr (.cells #[.int .i64 (k:Int),.int .i64 20] 221));have HXQ:=Zh (Box.new wr #[.int .i64 (k:Int),.int .i64 20] 221);have hRa:=hRa.later (Zav _ (.cells #[.int .i64 (k:Int),.int .i64 20] 221));have HRA:=Zh hRa;have HOO:=Zh hRa.oo;have HBZ:=Zh (show p6+1<=((wr.alloc (.cells #[.int .i64 (k:Int),.int .i64 20] 221)).alloc (.cells #[.int .i64 (k:Int),.int .i64 20] 221)).heap.size by simp;omega);have HLT:=Zh (show (((wr.alloc (.cells #[.int .i64 (k:Int),.int .i64 20] 221)).alloc (.cells #[.int .i64 (k:Int),.int .i64 20] 221)).heap)[wr.heap.size+1]?=some (.cells #[.int .i64 (k:Int),.int .i64 20] 221 (0,0)) from Box.newAt (wr.alloc (.cells #[.int .i64 (k:Int),.int .i64 20] 221)) #[.int .i64 (k:Int),.int .i64 20] 221 (n:=wr.heap.size+1) (by simp));clear hln hRa;go_wp2_with (at_builtin;refine Zat encP 2 16 124 221 (.agg #[.int .i64 0,.int .i64 0]) Tryz.underlying124 HIN.out rfl (by decide) (by decide) Zjv Zoz l ((k:Int),20) (p6+1) _ (wr.heap.size+1) _ _ HLT.out rfl (.slice av (i+j) cv) HOO.out HBZ.out HLN.out rfl _ _ rfl rfl rfl ?_;intro v' w' hown' hg';obtain ⟨a',c',e'⟩:=hown'.shape;rw [List.length_append,List.length_singleton,HL.out] at e';subst e';have HOW:=Zh hown';have HG:=Zh hg';obtain ⟨pf1,pf2,pf3⟩:=(HRA.bo.kept hg' (fun e=>by have:=HRA.oo.lt' _ e.symm;dsimp only at this;omega)).v1;clear hown' hg');have hR5:SqS W0 ⟨⟨ah,aw,ac,az,ab,nh,nw,nc,ns,nb,ch,cw,cc,cz,cb⟩,p0,p1,p2,p3,p4,p5,p6,d,c,m,G,r0,r1,gc⟩ (w'.setCell ⟨p5,0,none⟩ (.slice a' (i+j+1) c')) i j (.slice a' (i+j+1) c') (l++ [((k:Int),20)]):=SqR.push HRA.out HSO.out HOW.out HG.out;have hlo: ∀x,(Value.slice av (i+j) cv).ownBlock=some x->p6+1<=x/\x<wr.heap.size:=fun x hx=>World.ownsRow.lt HR.oo x hx;have hq5:Box (w'.setCell ⟨p5,0,none⟩ (.slice a' (i+j+1) c')) wr.heap.size 221 [.int .i64 (k:Int),.int .i64 20]:=(Box.kept (HXQ.alloc _) HG.out (fun e=>by have:=(hlo _ e.symm).2;omega)).other _ (by dsimp only;omega);generalize w'.setCell ⟨p5,0,none⟩ (.slice a' (i+j+1) c')=W5 at *;have HR5:=Zh hR5;have HQ5:=Zh hq5;obtain ⟨q,hq⟩: ∃q,wr.heap.size=q:=⟨_,rfl⟩;rw [hq] at HQ5 hzz ⊢;have hql:q<W5.heap.size:=HQ5.lt;clear hR5 hlo hq5 HRA HXQ HG HOW HOO HBZ HLT HLN g1 dk df dl ck cf cl rk v0 vl pf1 pf2 pf3 y0 yf yz HR hq;have HDK:=Zh HR5.dd;have HCK:=Zh HR5.cc;have HP0:=Zh HR5.bd;have HP3:=Zh HR5.bc;dsimp only at HDK HCK HP0 HP3;refine Zdg 19 (S1J (World.drew W5) d k (.int .i64 ((n:Int)+1)) [some (.slice (some ⟨d,0,none⟩) 2 2),some (.int .i64 (k:Int)),some (.slice (some ⟨c,0,none⟩) 2 2),some (.int .i64 (k:Int)),some (.slice (some ⟨d,0,none⟩) 2 2),some (.int .i64 (k:Int)),some (.pointer (some ⟨d,k,none⟩)),some (.int .i64 (n:Int)),some (.int .i64 ((n:Int)+1)),some (.slice (some ⟨c,0,none⟩) 2 2),some (.int .i64 (k:Int)),some (.pointer (some ⟨c,k,none⟩)),some (.int .i64 (20* (n:Int))),some (.pointer (some ⟨q,1,none⟩)),some (.int .i64 20),some (.int .i64 (20* (n:Int)+20)),some (.pointer (some ⟨d,k,none⟩)),none,some (.pointer (some ⟨c,k,none⟩))] 17 8 7) (by kernel_rfl) (by kernel_rfl) S1J.start ?_ ?_
     ·refine ⟨?_,?_,?_,?_,?_,?_,?_,?_,?_,?_,?_,?_,?_,?_,?_,?_,?_,?_,?_,trivial⟩
      all_goals
        intro D vs u hD hdep hJ;simp only [Zac,Z2,Z6,Act.put,Z1,Z4,Z5]
      ·obtain ⟨y0,yf,yz⟩:=(hJ.box HP0.drew (by omega)).v1;refine ⟨fun v w'=>v= .slice (some ⟨d,0,none⟩) 2 2/\w'=u,?_,?_⟩
       ·clear hD hdep hJ;go_wp2_with fail;refine ⟨rfl,rfl,.slice (some ⟨d,0,none⟩) 2 2,?_,rfl,rfl⟩;intro t h;cases h
        first|rfl
       ·rintro v w' ⟨rfl,rfl⟩;exact hJ.zq 0
      ·refine ⟨fun v w'=>v= .int .i64 (k:Int)/\w'=u,?_,?_⟩
       ·clear hD hdep hJ;go_wp2_with fail;refine ⟨rfl,rfl,.int .i64 (k:Int),?_,rfl,rfl⟩;intro t h;cases h
        first|rfl
       ·rintro v w' ⟨rfl,rfl⟩;exact hJ.zq 1
      ·obtain ⟨y0,yf,yz⟩:=(hJ.box HP3.drew (by omega)).v1;refine ⟨fun v w'=>v= .slice (some ⟨c,0,none⟩) 2 2/\w'=u,?_,?_⟩
       ·clear hD hdep hJ;go_wp2_with fail;refine ⟨rfl,rfl,.slice (some ⟨c,0,none⟩) 2 2,?_,rfl,rfl⟩;intro t h;cases h
        first|rfl
       ·rintro v w' ⟨rfl,rfl⟩;exact hJ.zq 2
      ·refine ⟨fun v w'=>v= .int .i64 (k:Int)/\w'=u,?_,?_⟩
       ·clear hD hdep hJ;go_wp2_with fail;refine ⟨rfl,rfl,.int .i64 (k:Int),?_,rfl,rfl⟩;intro t h;cases h
        first|rfl
       ·rintro v w' ⟨rfl,rfl⟩;exact hJ.zq 3
      ·obtain ⟨y0,yf,yz⟩:=(hJ.box HP0.drew (by omega)).v1;refine ⟨fun v w'=>v= .slice (some ⟨d,0,none⟩) 2 2/\w'=u,?_,?_⟩
       ·clear hD hdep hJ;go_wp2_with fail;refine ⟨rfl,rfl,.slice (some ⟨d,0,none⟩) 2 2,?_,rfl,rfl⟩;intro t h;cases h
        first|rfl
       ·rintro v w' ⟨rfl,rfl⟩;exact hJ.zq 4
      ·refine ⟨fun v w'=>v= .int .i64 (k:Int)/\w'=u,?_,?_⟩
       ·clear hD hdep hJ;go_wp2_with fail;refine ⟨rfl,rfl,.int .i64 (k:Int),?_,rfl,rfl⟩;intro t h;cases h
        first|rfl
       ·rintro v w' ⟨rfl,rfl⟩;exact hJ.zq 5
      ·have e4:vs 4=_:=hJ.val 4 _ rfl (Zr hdep 4);have e5:vs 5=_:=hJ.val 5 _ rfl (Zr hdep 5);refine ⟨fun v w'=>v= .pointer (some ⟨d,k,none⟩)/\w'=u,?_,?_⟩
       ·clear hD hdep hJ;go_wp2_with fail;refine ⟨rfl,rfl,.pointer (some ⟨d,k,none⟩),?_,rfl,rfl⟩;intro t h;cases h
        first|rfl|exact congrArg some e4|exact congrArg some e5
       ·rintro v w' ⟨rfl,rfl⟩;exact hJ.zq 6
      ·have e6:vs 6=_:=hJ.val 6 _ rfl (Zr hdep 6);have hu:=hJ.same hD;have dk:u.cell? ⟨d,k,none⟩=some (.int .i64 (n:Int)):=by rw [hu];exact Zbg HDK.drew k _ HD0.out
       clear hu;refine ⟨fun v w'=>v= .int .i64 (n:Int)/\w'=u,?_,?_⟩
       ·clear hD hdep hJ;go_wp2_with fail;refine ⟨rfl,rfl,.int .i64 (n:Int),?_,rfl,rfl⟩;intro t h;cases h
        first|rfl|exact congrArg some e6
       ·rintro v w' ⟨rfl,rfl⟩;exact hJ.zq 7
      ·have e7:vs 7=_:=hJ.val 7 _ rfl (Zr hdep 7);refine ⟨fun v w'=>v= .int .i64 ((n:Int)+1)/\w'=u,?_,?_⟩
       ·clear hD hdep hJ;go_wp2_with fail;refine ⟨rfl,rfl,.int .i64 ((n:Int)+1),?_,rfl,rfl⟩;intro t h;cases h
        first|rfl|exact congrArg some e7
       ·rintro v w' ⟨rfl,rfl⟩;exact hJ.quiet 8 (by decide) (fun _=>Zr hdep 7) (fun v' e=>Option.some.inj (Option.some.inj e))
      ·obtain ⟨y0,yf,yz⟩:=(hJ.box HP3.drew (by omega)).v1;refine ⟨fun v w'=>v= .slice (some ⟨c,0,none⟩) 2 2/\w'=u,?_,?_⟩
       ·clear hD hdep hJ;go_wp2_with fail;refine ⟨rfl,rfl,.slice (some ⟨c,0,none⟩) 2 2,?_,rfl,rfl⟩;intro t h;cases h
        first|rfl
       ·rintro v w' ⟨rfl,rfl⟩;exact hJ.zq 9
      ·refine ⟨fun v w'=>v= .int .i64 (k:Int)/\w'=u,?_,?_⟩
       ·clear hD hdep hJ;go_wp2_with fail;refine ⟨rfl,rfl,.int .i64 (k:Int),?_,rfl,rfl⟩;intro t h;cases h
        first|rfl
       ·rintro v w' ⟨rfl,rfl⟩;exact hJ.zq 10
      ·have e9:vs 9=_:=hJ.val 9 _ rfl (Zr hdep 9);have e10:vs 10=_:=hJ.val 10 _ rfl (Zr hdep 10);refine ⟨fun v w'=>v= .pointer (some ⟨c,k,none⟩)/\w'=u,?_,?_⟩
       ·clear hD hdep hJ;go_wp2_with fail;refine ⟨rfl,rfl,.pointer (some ⟨c,k,none⟩),?_,rfl,rfl⟩;intro t h;cases h
        first|rfl|exact congrArg some e9|exact congrArg some e10
       ·rintro v w' ⟨rfl,rfl⟩;exact hJ.zq 11
      ·have e11:vs 11=_:=hJ.val 11 _ rfl (Zr hdep 11);have ck:=Zbg (hJ.box HCK.drew (by omega)) k _ HC0.out;refine ⟨fun v w'=>v= .int .i64 (20* (n:Int))/\w'=u,?_,?_⟩
       ·clear hD hdep hJ;go_wp2_with fail;refine ⟨rfl,rfl,.int .i64 (20* (n:Int)),?_,rfl,rfl⟩;intro t h;cases h
        first|rfl|exact congrArg some e11
       ·rintro v w' ⟨rfl,rfl⟩;exact hJ.zq 12
      ·refine ⟨fun v w'=>v= .pointer (some ⟨q,1,none⟩)/\w'=u,?_,?_⟩
       ·clear hD hdep hJ;go_wp2_with fail;refine ⟨rfl,rfl,.pointer (some ⟨q,1,none⟩),?_,rfl,rfl⟩;intro t h;cases h
        first|rfl
       ·rintro v w' ⟨rfl,rfl⟩;exact hJ.zq 13
      ·have e13:vs 13=_:=hJ.val 13 _ rfl (Zr hdep 13);have qk:=Zbg (hJ.box HQ5.drew (by omega)) 1 _ rfl;refine ⟨fun v w'=>v= .int .i64 20/\w'=u,?_,?_⟩
       ·clear hD hdep hJ;go_wp2_with fail;refine ⟨rfl,rfl,.int .i64 20,?_,rfl,rfl⟩;intro t h;cases h
        first|rfl|exact congrArg some e13
       ·rintro v w' ⟨rfl,rfl⟩;exact hJ.zq 14
      ·have e12:vs 12=_:=hJ.val 12 _ rfl (Zr hdep 12);have e14:vs 14=_:=hJ.val 14 _ rfl (Zr hdep 14);refine ⟨fun v w'=>v= .int .i64 (20* (n:Int)+20)/\w'=u,?_,?_⟩
       ·clear hD hdep hJ;go_wp2_with fail;refine ⟨rfl,rfl,.int .i64 (20* (n:Int)+20),?_,rfl,rfl⟩;intro t h;cases h
        first|rfl|exact congrArg some e12|exact congrArg some e14
       ·rintro v w' ⟨rfl,rfl⟩;exact hJ.zq 15
      ·have e0:vs 0=_:=hJ.val 0 _ rfl (Zr hdep 0);have e1:vs 1=_:=hJ.val 1 _ rfl (Zr hdep 1);refine ⟨fun v w'=>v= .pointer (some ⟨d,k,none⟩)/\w'=u,?_,?_⟩
       ·clear hD hdep hJ;go_wp2_with fail;refine ⟨rfl,rfl,.pointer (some ⟨d,k,none⟩),?_,rfl,rfl⟩;intro t h;cases h
        first|rfl|exact congrArg some e0|exact congrArg some e1
       ·rintro v w' ⟨rfl,rfl⟩;exact hJ.zq 16
      ·have e16:vs 16=_:=hJ.val 16 _ rfl (Zr hdep 16);have e8:vs 8=_:=hJ.val 8 _ rfl (Zr hdep 8);have hl:=Zr hdep 8;have hu:u=W5.drew:=by have:=hJ.wor;rw [hD] at this;exact this
       have dk:=Zbg (show Box u d 3 _ by rw [hu];exact HDK.drew) k _ HD0.out;have df:=(show Box u d 3 _ by rw [hu];exact HDK.drew).frozen;have dl:=(show Box u d 3 _ by rw [hu];exact HDK.drew).lt;clear hu;refine ⟨fun v w'=>w'=u.setCell ⟨d,k,none⟩ (.int .i64 ((n:Int)+1)),?_,?_⟩
       ·clear hD hdep hJ hl;go_wp2_with fail;refine ⟨rfl,rfl,undef,?_,rfl⟩;intro t h;cases h
       ·rintro v w' rfl;exact hJ.put rfl hD hl (by decide)
      ·have e2:vs 2=_:=hJ.val 2 _ rfl (Zr hdep 2);have e3:vs 3=_:=hJ.val 3 _ rfl (Zr hdep 3);refine ⟨fun v w'=>v= .pointer (some ⟨c,k,none⟩)/\w'=u,?_,?_⟩
       ·clear hD hdep hJ;go_wp2_with fail;refine ⟨rfl,rfl,.pointer (some ⟨c,k,none⟩),?_,rfl,rfl⟩;intro t h;cases h
        first|rfl|exact congrArg some e2|exact congrArg some e3
       ·rintro v w' ⟨rfl,rfl⟩;exact hJ.zq 18
     intro D vs u hD hJ;have e15:vs 15=_:=hJ.val 15 _ rfl (hD 15 (by decide));have e18:vs 18=_:=hJ.val 18 _ rfl (hD 18 (by decide));have hwo:=hJ.wor;rw [hD 17 (by decide)] at hwo;simp only [if_true] at hwo;simp only [Zac,Z3,Z7,Z2,Z6,Act.put,Z1,Z4,Z5,e15,e18];obtain ⟨U,hU⟩: ∃U:World,u.setCell ⟨c,k,none⟩ (.int .i64 (20* (n:Int)+20))=U:=⟨_,rfl⟩;have hR6:=HUP.out _ _ _ (SqR.later HR5.out (show Below W5.heap.size W5 W5.drew from ⟨rfl,rfl,rfl,Nat.le_refl _,fun _ _=>rfl⟩));have hqc:Box (u.setCell ⟨c,k,none⟩ (.int .i64 (20* (n:Int)+20))) q 221 [.int .i64 (k:Int),.int .i64 20]:=by
       rw [hwo];exact (HQ5.drew.other _ (by dsimp only;omega)).other _ (by dsimp only;omega)
     have cu:=(show Box u c 3 _ by rw [hwo];exact HCK.drew.other _ (by dsimp only;omega));have ck:=Zbg cu k _ HC0.out;have cf:=cu.frozen;have cl:=cu.lt;have b6:Box u p6 29 [.func (.func 148) #[] #[.pointer (some ⟨p0,0,none⟩),.pointer (some ⟨p1,0,none⟩),.pointer (some ⟨p2,0,none⟩),.pointer (some ⟨p3,0,none⟩),.pointer (some ⟨p4,0,none⟩),.pointer (some ⟨p5,0,none⟩),.pointer (some ⟨p6,0,none⟩)]]:=(by rw [hwo];exact HR5.bq.drew.other _ (by dsimp only;omega));have v6:=Zbg b6 0 _ rfl;have v6l:=b6.lt;have n6: ¬c=p6:=by omega
     have n7: ¬p6=c:=by omega
     clear cu b6;rw [<-hwo,hU] at hR6;rw [hU] at hqc;have HR6:=Zh hR6;have HQ6:=Zh hqc;have HU:=Zh hU;clear hR6 hqc hU hwo HDK HCK HP0 HP3 HR5 HQ5 hD hJ e15 e18;have HS:=Zh (HREC.out hlt U (.slice a' (i+j+1) c') (l++ [((k:Int),20)]) (by rw [List.length_append,List.length_singleton,HL.out]) HR6.out);go_wp2_with fail;rw [HU.out];refine HS.mono ?_;rintro e8 w8 ⟨rfl,hT8,hF8⟩;cases qk with
     | true=>
       have HT8:=Zh (hT8 rfl);clear hT8 hF8 v6 v6l n6 n7 ck cf cl;go_wp2_with fail;rw [<-HQQ.out];exact ⟨rfl,fun _=>HT8.out,fun h=>by cases h⟩
     | false=>
       have hb8:=hF8 rfl;have HR8:=Zh (HR6.later hb8);have HQ8:=Zh (HQ6.later hb8);clear hT8 hF8 v6 v6l n6 n7 ck cf cl hb8 HS HQ6 HR6 HU;obtain ⟨g9,c9,e9,hg9,hl9⟩:=HR8.oo.form (by simp);rw [List.length_append,List.length_singleton,HL.out] at e9;injection e9 with e9a e9b e9c
       subst e9a e9c;clear e9b;have HDK:=Zh HR8.dd;have HCK:=Zh HR8.cc;have HP0:=Zh HR8.bd;have HP3:=Zh HR8.bc;have hcap:=Own.capN HR8.oo (by rw [List.length_append,List.length_singleton,HL.out]);obtain ⟨hcp1,hcp2⟩:=hcap;unfold maxLen at hcp2;dsimp only at HDK HCK HP0 HP3 hg9;go_wp2_with fail;refine Zdg 19 (S1J (World.drew w8) d k (.int .i64 (n:Int)) [some (.slice (some ⟨d,0,none⟩) 2 2),some (.int .i64 (k:Int)),some (.slice (some ⟨c,0,none⟩) 2 2),some (.int .i64 (k:Int)),some (.slice (some ⟨d,0,none⟩) 2 2),some (.int .i64 (k:Int)),some (.pointer (some ⟨d,k,none⟩)),some (.int .i64 ((n:Int)+1)),some (.int .i64 (n:Int)),some (.slice (some ⟨c,0,none⟩) 2 2),some (.int .i64 (k:Int)),some (.pointer (some ⟨c,k,none⟩)),some (.int .i64 (20* (n:Int)+20)),some (.pointer (some ⟨q,1,none⟩)),some (.int .i64 20),some (.int .i64 (20* (n:Int))),some (.pointer (some ⟨d,k,none⟩)),none,some (.pointer (some ⟨c,k,none⟩))] 17 8 7) (by kernel_rfl) (by kernel_rfl) S1J.start ?_ ?_
       ·refine ⟨?_,?_,?_,?_,?_,?_,?_,?_,?_,?_,?_,?_,?_,?_,?_,?_,?_,?_,?_,trivial⟩
        all_goals
          intro D vs u hD hdep hJ;simp only [Zac,Z2,Z6,Act.put,Z1,Z4,Z5]
        ·obtain ⟨y0,yf,yz⟩:=(hJ.box HP0.drew (by omega)).v1;refine ⟨fun v w'=>v= .slice (some ⟨d,0,none⟩) 2 2/\w'=u,?_,?_⟩
         ·clear hD hdep hJ;go_wp2_with fail;refine ⟨rfl,rfl,.slice (some ⟨d,0,none⟩) 2 2,?_,rfl,rfl⟩;intro t h;cases h
          first|rfl
         ·rintro v w' ⟨rfl,rfl⟩;exact hJ.zq 0
        ·refine ⟨fun v w'=>v= .int .i64 (k:Int)/\w'=u,?_,?_⟩
         ·clear hD hdep hJ;go_wp2_with fail;refine ⟨rfl,rfl,.int .i64 (k:Int),?_,rfl,rfl⟩;intro t h;cases h
          first|rfl
         ·rintro v w' ⟨rfl,rfl⟩;exact hJ.zq 1
        ·obtain ⟨y0,yf,yz⟩:=(hJ.box HP3.drew (by omega)).v1;refine ⟨fun v w'=>v= .slice (some ⟨c,0,none⟩) 2 2/\w'=u,?_,?_⟩
         ·clear hD hdep hJ;go_wp2_with fail;refine ⟨rfl,rfl,.slice (some ⟨c,0,none⟩) 2 2,?_,rfl,rfl⟩;intro t h;cases h
          first|rfl
         ·rintro v w' ⟨rfl,rfl⟩;exact hJ.zq 2
        ·refine ⟨fun v w'=>v= .int .i64 (k:Int)/\w'=u,?_,?_⟩
         ·clear hD hdep hJ;go_wp2_with fail;refine ⟨rfl,rfl,.int .i64 (k:Int),?_,rfl,rfl⟩;intro t h;cases h
          first|rfl
         ·rintro v w' ⟨rfl,rfl⟩;exact hJ.zq 3
        ·obtain ⟨y0,yf,yz⟩:=(hJ.box HP0.drew (by omega)).v1;refine ⟨fun v w'=>v= .slice (some ⟨d,0,none⟩) 2 2/\w'=u,?_,?_⟩
         ·clear hD hdep hJ;go_wp2_with fail;refine ⟨rfl,rfl,.slice (some ⟨d,0,none⟩) 2 2,?_,rfl,rfl⟩;intro t h;cases h
          first|rfl
         ·rintro v w' ⟨rfl,rfl⟩;exact hJ.zq 4
        ·refine ⟨fun v w'=>v= .int .i64 (k:Int)/\w'=u,?_,?_⟩
         ·clear hD hdep hJ;go_wp2_with fail;refine ⟨rfl,rfl,.int .i64 (k:Int),?_,rfl,rfl⟩;intro t h;cases h
          first|rfl
         ·rintro v w' ⟨rfl,rfl⟩;exact hJ.zq 5
        ·have e4:vs 4=_:=hJ.val 4 _ rfl (Zr hdep 4);have e5:vs 5=_:=hJ.val 5 _ rfl (Zr hdep 5);refine ⟨fun v w'=>v= .pointer (some ⟨d,k,none⟩)/\w'=u,?_,?_⟩
         ·clear hD hdep hJ;go_wp2_with fail;refine ⟨rfl,rfl,.pointer (some ⟨d,k,none⟩),?_,rfl,rfl⟩;intro t h;cases h
          first|rfl|exact congrArg some e4|exact congrArg some e5
         ·rintro v w' ⟨rfl,rfl⟩;exact hJ.zq 6
        ·have e6:vs 6=_:=hJ.val 6 _ rfl (Zr hdep 6);have hu:=hJ.same hD;have dk:u.cell? ⟨d,k,none⟩=some (.int .i64 ((n:Int)+1)):=by rw [hu];exact Zbg HDK.drew k _ HD1.out
         clear hu;refine ⟨fun v w'=>v= .int .i64 ((n:Int)+1)/\w'=u,?_,?_⟩
         ·clear hD hdep hJ;go_wp2_with fail;refine ⟨rfl,rfl,.int .i64 ((n:Int)+1),?_,rfl,rfl⟩;intro t h;cases h
          first|rfl|exact congrArg some e6
         ·rintro v w' ⟨rfl,rfl⟩;exact hJ.zq 7
        ·have e7:vs 7=_:=hJ.val 7 _ rfl (Zr hdep 7);refine ⟨fun v w'=>v= .int .i64 (n:Int)/\w'=u,?_,?_⟩
         ·clear hD hdep hJ;go_wp2_with fail;refine ⟨rfl,rfl,.int .i64 (n:Int),?_,rfl,rfl⟩;intro t h;cases h
          first|rfl|exact congrArg some e7
         ·rintro v w' ⟨rfl,rfl⟩;exact hJ.quiet 8 (by decide) (fun _=>Zr hdep 7) (fun v' e=>Option.some.inj (Option.some.inj e))
        ·obtain ⟨y0,yf,yz⟩:=(hJ.box HP3.drew (by omega)).v1;refine ⟨fun v w'=>v= .slice (some ⟨c,0,none⟩) 2 2/\w'=u,?_,?_⟩
         ·clear hD hdep hJ;go_wp2_with fail;refine ⟨rfl,rfl,.slice (some ⟨c,0,none⟩) 2 2,?_,rfl,rfl⟩;intro t h;cases h
          first|rfl
         ·rintro v w' ⟨rfl,rfl⟩;exact hJ.zq 9
        ·refine ⟨fun v w'=>v= .int .i64 (k:Int)/\w'=u,?_,?_⟩
         ·clear hD hdep hJ;go_wp2_with fail;refine ⟨rfl,rfl,.int .i64 (k:Int),?_,rfl,rfl⟩;intro t h;cases h
          first|rfl
         ·rintro v w' ⟨rfl,rfl⟩;exact hJ.zq 10
        ·have e9:vs 9=_:=hJ.val 9 _ rfl (Zr hdep 9);have e10:vs 10=_:=hJ.val 10 _ rfl (Zr hdep 10);refine ⟨fun v w'=>v= .pointer (some ⟨c,k,none⟩)/\w'=u,?_,?_⟩
         ·clear hD hdep hJ;go_wp2_with fail;refine ⟨rfl,rfl,.pointer (some ⟨c,k,none⟩),?_,rfl,rfl⟩;intro t h;cases h
          first|rfl|exact congrArg some e9|exact congrArg some e10
         ·rintro v w' ⟨rfl,rfl⟩;exact hJ.zq 11
        ·have e11:vs 11=_:=hJ.val 11 _ rfl (Zr hdep 11);have ck:=Zbg (hJ.box HCK.drew (by omega)) k _ HC1.out;refine ⟨fun v w'=>v= .int .i64 (20* (n:Int)+20)/\w'=u,?_,?_⟩
         ·clear hD hdep hJ;go_wp2_with fail;refine ⟨rfl,rfl,.int .i64 (20* (n:Int)+20),?_,rfl,rfl⟩;intro t h;cases h
          first|rfl|exact congrArg some e11
         ·rintro v w' ⟨rfl,rfl⟩;exact hJ.zq 12
        ·refine ⟨fun v w'=>v= .pointer (some ⟨q,1,none⟩)/\w'=u,?_,?_⟩
         ·clear hD hdep hJ;go_wp2_with fail;refine ⟨rfl,rfl,.pointer (some ⟨q,1,none⟩),?_,rfl,rfl⟩;intro t h;cases h
          first|rfl
         ·rintro v w' ⟨rfl,rfl⟩;exact hJ.zq 13
        ·have e13:vs 13=_:=hJ.val 13 _ rfl (Zr hdep 13);have qk:=Zbg (hJ.box HQ8.drew (by omega)) 1 _ rfl;refine ⟨fun v w'=>v= .int .i64 20/\w'=u,?_,?_⟩
         ·clear hD hdep hJ;go_wp2_with fail;refine ⟨rfl,rfl,.int .i64 20,?_,rfl,rfl⟩;intro t h;cases h
          first|rfl|exact congrArg some e13
         ·rintro v w' ⟨rfl,rfl⟩;exact hJ.zq 14
        ·have e12:vs 12=_:=hJ.val 12 _ rfl (Zr hdep 12);have e14:vs 14=_:=hJ.val 14 _ rfl (Zr hdep 14);refine ⟨fun v w'=>v= .int .i64 (20* (n:Int))/\w'=u,?_,?_⟩
         ·clear hD hdep hJ;go_wp2_with fail;refine ⟨rfl,rfl,.int .i64 (20* (n:Int)),?_,rfl,rfl⟩;intro t h;cases h
          first|rfl|exact congrArg some e12|exact congrArg some e14
         ·rintro v w' ⟨rfl,rfl⟩;exact hJ.zq 15
        ·have e0:vs 0=_:=hJ.val 0 _ rfl (Zr hdep 0);have e1:vs 1=_:=hJ.val 1 _ rfl (Zr hdep 1);refine ⟨fun v w'=>v= .pointer (some ⟨d,k,none⟩)/\w'=u,?_,?_⟩
         ·clear hD hdep hJ;go_wp2_with fail;refine ⟨rfl,rfl,.pointer (some ⟨d,k,none⟩),?_,rfl,rfl⟩;intro t h;cases h
          first|rfl|exact congrArg some e0|exact congrArg some e1
         ·rintro v w' ⟨rfl,rfl⟩;exact hJ.zq 16
        ·have e16:vs 16=_:=hJ.val 16 _ rfl (Zr hdep 16);have e8:vs 8=_:=hJ.val 8 _ rfl (Zr hdep 8);have hl:=Zr hdep 8;have hu:u=w8.drew:=by have:=hJ.wor;rw [hD] at this;exact this
         have dk:=Zbg (show Box u d 3 _ by rw [hu];exact HDK.drew) k _ HD1.out;have df:=(show Box u d 3 _ by rw [hu];exact HDK.drew).frozen;have dl:=(show Box u d 3 _ by rw [hu];exact HDK.drew).lt;clear hu;refine ⟨fun v w'=>w'=u.setCell ⟨d,k,none⟩ (.int .i64 (n:Int)),?_,?_⟩
         ·clear hD hdep hJ hl;go_wp2_with fail;refine ⟨rfl,rfl,undef,?_,rfl⟩;intro t h;cases h
         ·rintro v w' rfl;exact hJ.put rfl hD hl (by decide)
        ·have e2:vs 2=_:=hJ.val 2 _ rfl (Zr hdep 2);have e3:vs 3=_:=hJ.val 3 _ rfl (Zr hdep 3);refine ⟨fun v w'=>v= .pointer (some ⟨c,k,none⟩)/\w'=u,?_,?_⟩
         ·clear hD hdep hJ;go_wp2_with fail;refine ⟨rfl,rfl,.pointer (some ⟨c,k,none⟩),?_,rfl,rfl⟩;intro t h;cases h
          first|rfl|exact congrArg some e2|exact congrArg some e3
         ·rintro v w' ⟨rfl,rfl⟩;exact hJ.zq 18
       intro D vs u hD hJ;have e15:vs 15=_:=hJ.val 15 _ rfl (hD 15 (by decide));have e18:vs 18=_:=hJ.val 18 _ rfl (hD 18 (by decide));have hwo:=hJ.wor;rw [hD 17 (by decide)] at hwo;simp only [if_true] at hwo;simp only [Zac,Z3,Z7,Z2,Z6,Act.put,Z1,Z4,Z5,e15,e18];obtain ⟨U,hU⟩: ∃U:World,u.setCell ⟨c,k,none⟩ (.int .i64 (20* (n:Int)))=U:=⟨_,rfl⟩;have hR9:=HDN.out _ _ _ (SqR.later HR8.out (show Below w8.heap.size w8 w8.drew from ⟨rfl,rfl,rfl,Nat.le_refl _,fun _ _=>rfl⟩));have cu:=(show Box u c 3 _ by rw [hwo];exact HCK.drew.other _ (by dsimp only;omega));have ck:=Zbg cu k _ HC1.out;have cf:=cu.frozen;have cl:=cu.lt;have b5:Box u p5 124 [.slice (some ⟨g9,0,none⟩) (i+j+1) c']:=(by rw [hwo];exact HR8.bo.drew.other _ (by dsimp only;omega));obtain ⟨v9,vf,vl⟩:=b5.v1;have n6: ¬c=p5:=by omega
       have n7: ¬p5=c:=by omega
       clear cu b5;rw [<-hwo,hU] at hR9;have HR9:=Zh hR9;have HU:=Zh hU;clear hR9 hU hwo HDK HCK HP0 HP3 HR8 HQ8 hD hJ e15 e18;go_wp2_with fail;go_roundw
       case rel=>
         rw [HU.out];refine ⟨k+1,true,_,l,by omega,by go_num,rfl,Zh (SqR.pop HR9.out HSO.out HL.out),HL,Zh (HI3.out hlt (by first|rfl|trivial))⟩
       case measure=>simp [intOf];omega
   ·obtain rfl:k=2:=by omega
    have h1:=HF.out.2.1 (by omega);have h2:=HF.out.2.2 (by omega);have hij:i=2/\j=2:=by
      rcases HQR.out with ⟨h3,h4⟩|⟨h3,h4⟩|h3
      ·rcases h1 with h1|h1
       ·omega
       ·rw [h4] at h1;cases h1
      ·rcases h2 with h2|h2
       ·omega
       ·rw [h4] at h2;cases h2
      ·exact h3
    obtain ⟨rfl,rfl⟩:=hij;obtain rfl:b9=false:=HF.out.1 rfl rfl;obtain ⟨D,m1,m2,m3⟩:=HR.mm;have HM:=Zh m1;obtain ⟨av,cv,ev⟩:=HR.oo.shape;rw [HL.out] at ev;subst ev;obtain ⟨m0,mf,mz⟩:=HR.bf.v1;dsimp only at m0 mf mz;clear h1 h2 m1 m2 m3 HF HQR y0 yf yz;go_wp2_with (at_mapUpdate;refine wpList_mapUpdate_own _ rfl _ _ _ 218 rfl 9 4 Zm5 Tryz.underlying218 _ m ([]:List (List UInt8)).length D rfl HM.out (by simp [maxLen]) _ (.bool false) _ rfl rfl HKY.out _ [] (plainElem_bool (H:=Unit) Tryz.underlying4 false) ?_;intro w7 hm7 hg7;clear m0 mf mz);rw [<-HQQ.out];refine ⟨rfl,fun _=>⟨⟨av,cv,HR.bo.kept hg7 (fun e=>by have:=Option.some.inj e;dsimp only at this;omega)⟩,HR.be.grown hg7 HR.be.size (fun x hx=>by have:=Option.some.inj hx;omega)⟩,fun h=>by cases h⟩
end Go.Proofs.YtijajkfmlghgkaaGreatDoor.Nu
