/- Lemmas on the way to the law TopSuperposed: Vr Vz Xb Xa -/
import Derived.Test.YtijajkfmlghgkaaGreatDoorTopSuperposedP21
import Derived.Test.YtijajkfmlghgkaaGreatDoorRows
import Derived.ProofKit
import Derived.LaidMore
import Derived.Lay
import Derived.OpenShut
import Derived.Stop.Joined
import Derived.ChangeStays
import Derived.Lib.SmallJoins
import Derived.Deep.SlicePairs
set_option linter.unusedVariables false
set_option linter.unusedSimpArgs false
set_option maxRecDepth 100000
set_option maxHeartbeats 4000000
namespace Go.Proofs.YtijajkfmlghgkaaGreatDoor.Nu
open Go Go.Proofs Go.RowKit Go.Maps Go.Proofs.YtijajkfmlghgkaaGreatDoor
theorem sf00:SafeS wShip [(20* ((0:Nat):Int)),(20* ((0:Nat):Int))]:=(Zb5 _ _).2 (by decide+kernel)
theorem sf10:SafeS wShip [(20* ((1:Nat):Int)),(20* ((0:Nat):Int))]:=(Zb5 _ _).2 (by decide+kernel)
theorem sf01:SafeS wShip [(20* ((0:Nat):Int)),(20* ((1:Nat):Int))]:=(Zb5 _ _).2 (by decide+kernel)
theorem sf11:SafeS wShip [(20* ((1:Nat):Int)),(20* ((1:Nat):Int))]:=(Zb5 _ _).2 (by decide+kernel)
theorem sf21:SafeS wShip [(20* ((2:Nat):Int)),(20* ((1:Nat):Int))]:=(Zb5 _ _).2 (by decide+kernel)
theorem sf12:SafeS wShip [(20* ((1:Nat):Int)),(20* ((2:Nat):Int))]:=(Zb5 _ _).2 (by decide+kernel)
theorem sf22:SafeS wShip [(20* ((2:Nat):Int)),(20* ((2:Nat):Int))]:=(Zb5 _ _).2 (by decide+kernel)
theorem sf20: ¬SafeS wShip [(20* ((2:Nat):Int)),(20* ((0:Nat):Int))]:=fun h=>absurd ((Zb5 _ _).1 h) (by decide+kernel)
theorem sf02: ¬SafeS wShip [(20* ((0:Nat):Int)),(20* ((2:Nat):Int))]:=fun h=>absurd ((Zb5 _ _).1 h) (by decide+kernel)
section
variable (W0:World) (hw:TbR W0) (s:SqN) (so:SqO W0.heap.size s) (hx:ShR W0 s.x wShip) (u:World) (v:Value) (l:List (Int×Int))
include hw so hx
theorem sq22 (hl:l.length=4) (h:SqS W0 s u 2 2 v l):Calls Tryz.prog 148 s.cap u (SqP W0 s u true):=
  Zbs W0 hw s so hx u 2 2 v l h (by omega) (by omega) hl sf22 true true (fun h=>by omega) (fun h=>by omega) (.inr (.inr ⟨rfl,rfl⟩))
theorem sq21 (hl:l.length=3) (h:SqS W0 s u 2 1 v l):Calls Tryz.prog 148 s.cap u (SqP W0 s u true):=
  Zbs W0 hw s so hx u 2 1 v l h (by omega) (by omega) hl sf21 true true (fun h=>by omega) (fun _ u' v' l' hl' h'=>sq22 W0 hw s so hx u' v' l' hl' h') (.inr (.inl ⟨by omega,rfl⟩))
theorem sq12 (hl:l.length=3) (h:SqS W0 s u 1 2 v l):Calls Tryz.prog 148 s.cap u (SqP W0 s u true):=
  Zbs W0 hw s so hx u 1 2 v l h (by omega) (by omega) hl sf12 true true (fun _ u' v' l' hl' h'=>sq22 W0 hw s so hx u' v' l' hl' h') (fun h=>by omega) (.inl ⟨by omega,rfl⟩)
theorem sq11 (hl:l.length=2) (h:SqS W0 s u 1 1 v l):Calls Tryz.prog 148 s.cap u (SqP W0 s u true):=
  Zbs W0 hw s so hx u 1 1 v l h (by omega) (by omega) hl sf11 true true (fun _ u' v' l' hl' h'=>sq21 W0 hw s so hx u' v' l' hl' h') (fun _ u' v' l' hl' h'=>sq12 W0 hw s so hx u' v' l' hl' h') (.inl ⟨by omega,rfl⟩)
theorem sq10 (hl:l.length=1) (h:SqS W0 s u 1 0 v l):Calls Tryz.prog 148 s.cap u (SqP W0 s u true):=
  Zbs W0 hw s so hx u 1 0 v l h (by omega) (by omega) hl sf10 false true (fun _ u' v' l' _ h'=>Zf6 W0 hw s hx u' 2 0 v' l' h' (by omega) (by omega) sf20) (fun _ u' v' l' hl' h'=>sq11 W0 hw s so hx u' v' l' hl' h') (.inr (.inl ⟨by omega,rfl⟩))
theorem sq01 (hl:l.length=1) (h:SqS W0 s u 0 1 v l):Calls Tryz.prog 148 s.cap u (SqP W0 s u true):=
  Zbs W0 hw s so hx u 0 1 v l h (by omega) (by omega) hl sf01 true false (fun _ u' v' l' hl' h'=>sq11 W0 hw s so hx u' v' l' hl' h') (fun _ u' v' l' _ h'=>Zf6 W0 hw s hx u' 0 2 v' l' h' (by omega) (by omega) sf02) (.inl ⟨by omega,rfl⟩)
theorem sq00 (hl:l.length=0) (h:SqS W0 s u 0 0 v l):Calls Tryz.prog 148 s.cap u (SqP W0 s u true):=
  Zbs W0 hw s so hx u 0 0 v l h (by omega) (by omega) hl sf00 true true (fun _ u' v' l' hl' h'=>sq10 W0 hw s so hx u' v' l' hl' h') (fun _ u' v' l' hl' h'=>sq01 W0 hw s so hx u' v' l' hl' h') (.inl ⟨by omega,rfl⟩)
end
theorem Zko (w:World) (hw:TbR w) (x:ShV) (hs:ShR w x wShip) (vm:Value) (hm:Sl encI 1 w w.heap.size vm [40,40]):Calls Tryz.prog 70 #[x.v wShip.t,vm,.int .i64 2] w (fun e w'=> ∃a c,e= .returned (.tuple #[.slice a 4 c,.int .i64 0])/\Below w.heap.size w w'):=by
  have HDV:=Zh (fun (u:World) (hb:Below w.heap.size w u)=>(by exact Zm4 u (hw.later hb) x (hs.later hb) vm (hm.later hb):Calls Tryz.prog 147 #[.agg #[.slice x.ah x.nh x.ch,.slice x.aw x.nw x.cw,.slice x.ac x.nc x.cc,.slice x.az x.ns x.cs,.slice x.ab x.nb x.cb,.string (txq wShip.t)],vm,.int .i64 2] u (fun e w'=> ∃G c g0 g1,e= .returned (.tuple #[.slice (some ⟨G,0,none⟩) 2 c,.int .i64 0])/\At w' G 0 (encG g0)/\At w' G 1 (encG g1)/\G<w'.heap.size/\Box w' g0 3 [.int .i64 20,.int .i64 20]/\Box w' g1 3 [.int .i64 20,.int .i64 20]/\Below u.heap.size u w')));have HSQ:=Zh (fun (s:SqN) (he:s.x=x) (so:SqO w.heap.size s) (u:World) (h:SqS w s u 0 0 (.slice none 0 0) [])=>sq00 w hw s so (by rw [he];exact hs) u (.slice none 0 0) [] rfl h);clear hw hs hm;obtain ⟨T,hT⟩: ∃T,txq wShip.t=T:=⟨_,rfl⟩;rw [hT] at HDV;have HT:=Zh hT;obtain ⟨ah,aw,ac,az,ab,nh,nw,nc,ns,nb,ch,cw,cc,cz,cb⟩:=x;dsimp only at HDV;show Calls Tryz.prog 70 #[.agg #[.slice ah nh ch,.slice aw nw cw,.slice ac nc cc,.slice az ns cz,.slice ab nb cb,.string (txq wShip.t)],vm,.int .i64 2] w _;rw [hT];clear hT;have HB:=Zh ((Below.refl w.heap.size w).alloc (Nat.le_refl _) (.cells #[.slice ah nh ch,.slice aw nw cw,.slice ac nc cc,.slice az ns cz,.slice ab nb cb,.string T] 51));have HX:=Zh (Box.new w #[.slice ah nh ch,.slice aw nw cw,.slice ac nc cc,.slice az ns cz,.slice ab nb cb,.string T] 51);obtain ⟨x0,x1,x2,x3,x4,x5,xf,xz⟩:=HX.w6;have HS:=Zh (HDV.out _ HB.out);have HIN:=Zh Zov;clear HDV;go_enter Tryz.func70,Tryz.ntmps70;go_wp2_with fail;refine HS.mono ?_;rintro e3 w3 ⟨G,gc,g0,g1,rfl,hG0,hG1,hGl,hr0,hr1,hb⟩;replace HB:=Zh (HB.Zg hb);replace HX:=Zh (HX.later hb);clear hb x0 x1 x2 x3 x4 x5 xf xz;obtain ⟨x0,x1,x2,x3,x4,x5,xf,xz⟩:=HX.w6;have hsz3:w.heap.size+1<=w3.heap.size:=HX.lt;have HG0:=Zh hG0;have HG1:=Zh hG1;have HR0:=Zh hr0;have HR1:=Zh hr1;have hrl0:=hr0.lt;have hrl1:=hr1.lt;clear x0 x1 x2 x3 x4 x5 xf xz HS hG0 hG1 hr0 hr1;go_wp2_with fail;have hba:=Zh (Zav w3 (.cells #[.slice (some ⟨G,0,none⟩) 2 gc] 215));have HX4:=Zh (HX.later hba.out);have HP4:=Zh (Box.new w3 #[.slice (some ⟨G,0,none⟩) 2 gc] 215);have HB4:=Zh (HB.trans (hba.out.mono HB.size));have HG04:=Zh (HG0.below hba.out hGl);have HG14:=Zh (HG1.below hba.out hGl);have HR04:=Zh (HR0.later hba.out);have HR14:=Zh (HR1.later hba.out);obtain ⟨W4,hW4⟩: ∃W4:World,w3.alloc (.cells #[.slice (some ⟨G,0,none⟩) 2 gc] 215)=W4:=⟨_,rfl⟩;have hsz4:W4.heap.size=w3.heap.size+1:=by rw [<-hW4];simp
  obtain ⟨p4,hp4⟩: ∃p4,w3.heap.size=p4:=⟨_,rfl⟩;rw [hW4,hp4] at HP4;rw [hW4] at HX4 HB4 HG04 HG14 HR04 HR14;rw [hp4] at hsz4 hsz3 hGl hrl0 hrl1 ⊢;rw [hW4];clear hba HX HB HG0 HG1 HR0 HR1 hW4 hp4;have k0:W4.cell? ⟨G,0,none⟩=some (.slice (some ⟨g0,0,none⟩) 2 2):=HG04.c1;have k1:W4.cell? ⟨G,1,none⟩=some (.slice (some ⟨g1,0,none⟩) 2 2):=HG14.c1;obtain ⟨z0,zf,zz⟩:=HP4.v1;have hGl4:G<W4.heap.size:=by omega
  go_loopw [10,30] (fun n i wr=>wr=W4/\((n= .int .i64 1/\i= .int .i64 0)∨(n= .int .i64 3/\i= .int .i64 1)∨(n= .int .i64 9/\i= .int .i64 2))) (fun _ i _=>2-(intOf i).toNat)
  case atStart=>exact ⟨rfl,.inl ⟨rfl,rfl⟩⟩
  case round=>
    obtain ⟨rfl,⟨rfl,rfl⟩|⟨rfl,rfl⟩|⟨rfl,rfl⟩⟩:=hrel
    ·go_wp2_with fail;go_roundw
     case rel=>simp
     case measure=>simp [intOf]
    ·go_wp2_with fail;go_roundw
     case rel=>simp
     case measure=>simp [intOf]
    ·clear k0 k1;have hmm:= @run_makeMap Tryz.prog;go_wp2_with (
       at_make
       refine Zbu encI 1 (fun _=>rfl) (by decide) 0 (.int .i64 0) rfl 27 3 8 Tryz.underlying27 HIN.out (by decide) 0 _ 2 (by omega) (Nat.zero_le _) rfl _ _ rfl .i64 .i64 rfl rfl ?_;intro w6 ho6 hg6;have HB6:=Zh (show Below wr.heap.size wr w6 from ⟨hg6.os,hg6.tape,hg6.output,hg6.size,fun k hk=>hg6.block k hk (by simp)⟩);have HD6:=Zh (Own.box ho6);have hl6:wr.heap.size<w6.heap.size:=HD6.lt;clear z0 zf zz ho6 hg6;obtain ⟨z0,zf,zz⟩:=(HP4.later HB6.out).v1;go_wp2_with (
         at_make
         refine Zbu encI 1 (fun _=>rfl) (by decide) 0 (.int .i64 0) rfl 27 3 8 Tryz.underlying27 HIN.out (by decide) 0 _ 2 (by omega) (Nat.zero_le _) rfl _ _ rfl .i64 .i64 rfl rfl ?_;intro w7 ho7 hg7;have HB7:=Zh (show Below (w6.alloc (.cells #[.slice (some ⟨p4+1,0,none⟩) 2 2] 27)).heap.size (w6.alloc (.cells #[.slice (some ⟨p4+1,0,none⟩) 2 2] 27)) w7 from ⟨hg7.os,hg7.tape,hg7.output,hg7.size,fun k hk=>hg7.block k hk (by simp)⟩);have HC7:=Zh (Own.box ho7);have hl7:w6.heap.size+1<w7.heap.size:=by have h:=HC7.lt;simpa using h
         clear z0 zf zz ho7 hg7))
     obtain ⟨A0,hA0⟩: ∃A:World,w6.alloc (.cells #[.slice (some ⟨p4+1,0,none⟩) 2 2] 27)=A:=⟨_,rfl⟩;obtain ⟨A1,hA1⟩: ∃A:World,w7.alloc (.cells #[.slice (some ⟨w6.heap.size+1,0,none⟩) 2 2] 27)=A:=⟨_,rfl⟩;obtain ⟨A2,hA2⟩: ∃A:World,A1.alloc (.map #[] 0)=A:=⟨_,rfl⟩;obtain ⟨A3,hA3⟩: ∃A:World,A2.alloc (.cells #[.map (some (w7.heap.size+1))] 218)=A:=⟨_,rfl⟩;obtain ⟨A4,hA4⟩: ∃A:World,A3.alloc (.cells #[.slice none 0 0] 124)=A:=⟨_,rfl⟩;obtain ⟨CP,hCP⟩: ∃C:Array Value, #[.pointer (some ⟨w6.heap.size,0,none⟩),.pointer (some ⟨w7.heap.size+1+1,0,none⟩),.pointer (some ⟨w.heap.size,0,none⟩),.pointer (some ⟨w7.heap.size,0,none⟩),.pointer (some ⟨p4,0,none⟩),.pointer (some ⟨w7.heap.size+1+1+1,0,none⟩),.pointer (some ⟨w7.heap.size+1+1+1+1,0,none⟩)]=C:=⟨_,rfl⟩;obtain ⟨A5,hA5⟩: ∃A:World,A4.alloc (.cells #[.func (.func 148) #[] CP] 29)=A:=⟨_,rfl⟩;rw [hA1,hA2,hA3,hA4,hCP,hA5];rw [hA0] at HB7;have b01:Below w6.heap.size w6 A0:=by rw [<-hA0];exact Zav _ _
     have b71:Below w7.heap.size w7 A1:=by rw [<-hA1];exact Zav _ _
     have b12:Below A1.heap.size A1 A2:=by rw [<-hA2];exact Zav _ _
     have b23:Below A2.heap.size A2 A3:=by rw [<-hA3];exact Zav _ _
     have b34:Below A3.heap.size A3 A4:=by rw [<-hA4];exact Zav _ _
     have b45:Below A4.heap.size A4 A5:=by rw [<-hA5];exact Zav _ _
     have b35:=b34.trans (b45.mono b34.size);have b25:=b23.trans (b35.mono b23.size);have b15:=b12.trans (b25.mono b12.size);have b75:=b71.trans (b15.mono b71.size);have b05:=HB7.Zg b75;have b65:=b01.trans (b05.mono b01.size);have bw5:=HB6.Zg b65;have z1:A1.heap.size=w7.heap.size+1:=by rw [<-hA1];simp
     have z2:A2.heap.size=w7.heap.size+1+1:=by rw [<-hA2];simp [z1]
     have z3:A3.heap.size=w7.heap.size+1+1+1:=by rw [<-hA3];simp [z2]
     have z4:A4.heap.size=w7.heap.size+1+1+1+1:=by rw [<-hA4];simp [z3]
     have hd:=(HD6.later b65);rw [hsz4] at hd;have hc0:=HC7.later b75;rw [show (w6.alloc (.cells #[.slice (some ⟨p4+1,0,none⟩) 2 2] 27)).heap.size=w6.heap.size+1 by simp] at hc0;have hmd:SetM Zdu Tryz.prog 9 4 A2 (w7.heap.size+1) []:=by have h:=SetM.made Zdu Tryz.prog 9 4 A1;rw [hA2,z1] at h;exact h
     have hbx:Box wr w.heap.size 51 [.slice ah nh ch,.slice aw nw cw,.slice ac nc cc,.slice az ns cz,.slice ab nb cb,.string (txq wShip.t)]:=by rw [HT.out];exact HX4.out
     have hsr:SqS w ⟨⟨ah,aw,ac,az,ab,nh,nw,nc,ns,nb,ch,cw,cc,cz,cb⟩,w6.heap.size,w7.heap.size+1+1,w.heap.size,w7.heap.size,p4,w7.heap.size+1+1+1,w7.heap.size+1+1+1+1,p4+1,w6.heap.size+1,w7.heap.size+1,G,g0,g1,gc⟩ A5 0 0 (.slice none 0 0) []:=
       ⟨HB4.Zg bw5,Box.later (by rw [<-hA0];exact Box.new w6 _ 27) b05,Box.later (by rw [<-hA3];exact Box.newAt A2 _ 218 z2) b35,hbx.later bw5,Box.later (by rw [<-hA1];exact Box.new w7 _ 27) b15,HP4.later bw5,(by rw [<-hA5];unfold SqN.cap;rw [hCP];exact Box.newAt A4 _ 29 z4),HG04.below bw5 hGl4,HG14.below bw5 hGl4,Nat.lt_of_lt_of_le hGl4 bw5.size,HR04.later bw5,HR14.later bw5,hmd.later b25,hd,hc0,Box.later (by rw [<-hA4];exact Box.newAt A3 _ 124 z3) b45,Own.nil _ _ _ _ _⟩
     have hso:SqO w.heap.size ⟨⟨ah,aw,ac,az,ab,nh,nw,nc,ns,nb,ch,cw,cc,cz,cb⟩,w6.heap.size,w7.heap.size+1+1,w.heap.size,w7.heap.size,p4,w7.heap.size+1+1+1,w7.heap.size+1+1+1+1,p4+1,w6.heap.size+1,w7.heap.size+1,G,g0,g1,gc⟩:=by
       constructor <;> dsimp only <;> omega
     have HS:=Zh (HSQ.out _ rfl hso A5 hsr);unfold SqN.cap at HS;dsimp only at HS;rw [hCP] at HS;clear b01 b71 b12 b23 b34 b45 b35 b25 b15 b75 b05 b65 bw5 z1 z2 z3 z4 hd hc0 hmd hbx hsr hso hA0 hA1 hA2 hA3 hA4 hA5 HB7 HB6 HD6 HC7 HP4 HG04 HG14 HR04 HR14 HX4 HSQ hmm;refine HS.mono ?_;rintro e8 w8 ⟨rfl,h8,-⟩;obtain ⟨⟨ao,co,hbo⟩,hb8⟩:=h8 rfl;have HB8:=Zh hb8;obtain ⟨v8,vf,vl⟩:=hbo.v1;dsimp only at v8 vf vl;clear h8 hb8 hbo HS;go_wp2_with fail;refine bodyPost_ret (v:= .tuple #[.slice ao 4 co,.int .i64 0]) (by simp [results,Tryz.results70,go_sem, *]) rfl ?_;exact ⟨ao,co,rfl,HB8.out⟩
end Go.Proofs.YtijajkfmlghgkaaGreatDoor.Nu
namespace Go.Proofs.YtijajkfmlghgkaaGreatDoor.Nu
open Go Go.Proofs Go.RowKit Go.Proofs.YtijajkfmlghgkaaGreatDoor
theorem Zm6 (w:World) (a b:Int):Sl encI 1 (w.alloc (.cells #[.int .i64 a,.int .i64 b] 3)) (w.alloc (.cells #[.int .i64 a,.int .i64 b] 3)).heap.size (.slice (some ⟨w.heap.size,0,none⟩) 2 2) [a,b]:=
  Ze4 (f:=encI) (sz:=1) (fun _=>rfl) w [a,b] #[.int .i64 a,.int .i64 b] rfl 3 2 2 rfl (by simp) w.heap.size rfl
theorem Zi3 (w:World) (hw:TbR w):Calls Tryz.prog 22 #[] w (Ret (.bool true) w):=by
  have HSP:=Zh (fun (u:World)=>Zi1 u);have HW:=Zh hw;clear hw;obtain ⟨T,hT⟩: ∃T,txq wShip.t=T:=⟨_,rfl⟩;have HT:=Zh hT;clear hT;go_enter Tryz.func22,Tryz.ntmps22;go_wp2_with fail;refine (HSP.out _).mono ?_;rintro e1 w1 ⟨x1,rfl,hs1,hb1⟩;have HB1:=Zh hb1;have HSH:=Zh (Zmm (w1.alloc (.cells #[.int .i64 20,.int .i64 0] 3)) (HW.later (hb1.alloc hb1.size _)) x1 wShip _ [20,0] (hs1.later (Zav _ _)) (Zm6 w1 20 0) Zfg (Zfh 20 0 ⟨by decide,by decide⟩ ⟨by decide,by decide⟩));clear hb1 hs1;obtain ⟨ah,aw,ac,az,ab,nh,nw,nc,ns,nb,ch,cw,cc,cz,cb⟩:=x1;dsimp only [ShV.v] at HSH ⊢;rw [HT.out] at HSH ⊢;go_wp2_with fail;refine HSH.mono ?_;rintro e2 w2 ⟨v2,rfl,hs2,hb2⟩;have HS2:=Zh hs2;have HB2:=Zh ((HB1.alloc HB1.size (.cells #[.int .i64 20,.int .i64 0] 3)).trans (hb2.mono (HB1.alloc HB1.size (.cells #[.int .i64 20,.int .i64 0] 3)).size));obtain ⟨a2,c2,e2,-⟩:=hs2;subst e2;clear hb2 HSH HB1;go_wp2_with fail;refine (HSP.out _).mono ?_;rintro e3 w3 ⟨x1,rfl,hs1,hb1⟩;have HS3:=Zh (HS2.later hb1);have HB3:=Zh (HB2.Zg hb1);have HSH:=Zh (Zsl (w3.alloc (.cells #[.int .i64 20,.int .i64 0] 3)) (HW.later (HB3.alloc HB3.size _)) x1 wShip _ [20,0] (hs1.later (Zav _ _)) (Zm6 w3 20 0) Zfg (Zfh 20 0 ⟨by decide,by decide⟩ ⟨by decide,by decide⟩));clear hb1 hs1 HS2 HB2;obtain ⟨ah,aw,ac,az,ab,nh,nw,nc,ns,nb,ch,cw,cc,cz,cb⟩:=x1;rw [Zkl,Zc5.2.2.2] at HSH;dsimp only [ShV.v] at HSH ⊢;rw [HT.out] at HSH ⊢;go_wp2_with fail;refine HSH.mono ?_;rintro e4 w4 ⟨rfl,hb2⟩;have hbb:=(HB3.alloc HB3.size (.cells #[.int .i64 20,.int .i64 0] 3)).trans (hb2.mono (HB3.alloc HB3.size (.cells #[.int .i64 20,.int .i64 0] 3)).size);have HB4:=Zh hbb;have HS4:=Zh ((HS3.later (Zav w3 (.cells #[.int .i64 20,.int .i64 0] 3))).later hb2);clear hb2 hbb HSH HB3 HS3;go_wp2_with fail;refine (HSP.out _).mono ?_;rintro e5 w5 ⟨x1,rfl,hs1,hb1⟩;have HS5:=Zh (HS4.later hb1);have HB5:=Zh (HB4.Zg hb1);have HSH:=Zh (Zko (w5.alloc (.cells #[.int .i64 40,.int .i64 40] 3)) (HW.later (HB5.alloc HB5.size _)) x1 (hs1.later (Zav _ _)) _ (Zm6 w5 40 40));clear hb1 hs1 HS4 HB4;obtain ⟨ah,aw,ac,az,ab,nh,nw,nc,ns,nb,ch,cw,cc,cz,cb⟩:=x1;dsimp only [ShV.v] at HSH ⊢;rw [HT.out] at HSH ⊢;go_wp2_with fail;refine HSH.mono ?_;rintro e6 w6 ⟨a6,c6,rfl,hb2⟩;have hbb:=(HB5.alloc HB5.size (.cells #[.int .i64 40,.int .i64 40] 3)).trans (hb2.mono (HB5.alloc HB5.size (.cells #[.int .i64 40,.int .i64 40] 3)).size);have HB6:=Zh hbb;have HS6:=Zh ((HS5.later (Zav w5 (.cells #[.int .i64 40,.int .i64 40] 3))).later hb2);have hlen:(sheL wShip [20,0]).length=4:=by rw [Zf5];rfl
  rw [hlen] at HS6 ⊢;rw [Zf5] at HS6;have HNW:=Zh (Ze4 (f:=encQ) (sz:=1) (fun _=>rfl) w6 [-1,2,-1,0] #[.string ⟨#[45,49]⟩,.string ⟨#[50]⟩,.string ⟨#[45,49]⟩,.string ⟨#[48]⟩] (by show _=(#[Value.string (txq (-1)),Value.string (txq 2),Value.string (txq (-1)),Value.string (txq 0)]:Array Value);rw [Zc5.1,Zc5.2.1,Zc5.2.2.1]) 32 4 4 rfl (by decide) w6.heap.size rfl);have HSR:=Zh (Zmv (w6.alloc (.cells #[.string ⟨#[45,49]⟩,.string ⟨#[50]⟩,.string ⟨#[45,49]⟩,.string ⟨#[48]⟩] 32)) _ _ [-1,2,-1,0] (HS6.later (Zav _ _)) HNW.out);clear hb2 hbb HSH HB5 HS5 hlen;go_wp2_with fail;refine HSR.mono ?_;rintro e7 w7 ⟨rfl,hb2⟩;have HB7:=Zh ((HB6.alloc HB6.size (.cells #[.string ⟨#[45,49]⟩,.string ⟨#[50]⟩,.string ⟨#[45,49]⟩,.string ⟨#[48]⟩] 32)).trans (hb2.mono (HB6.alloc HB6.size (.cells #[.string ⟨#[45,49]⟩,.string ⟨#[50]⟩,.string ⟨#[45,49]⟩,.string ⟨#[48]⟩] 32)).size));clear hb2 HSR HNW HS6 HB6;go_wp2_with fail;go_ret;exact ⟨rfl,HB7.out⟩
theorem sup4 (w:World) (hw:TbR w) (ah aw ac az ab a1 a2:Option Addr) (nh nw nc ns nb ch cw cc cs cb n1 c1 n2 c2:Nat) (hs:List HoR) (wt sh be:List Int) (ca:List (List UInt8)) (tr:List UInt8) (la lb:List Int)
    (hh:SlL Zf2 3 w w.heap.size (.slice ah nh ch) hs) (hwt:SlL encI 1 w w.heap.size (.slice aw nw cw) wt) (hca:SlL encT 1 w w.heap.size (.slice ac nc cc) ca) (hsh:SlL encI 1 w w.heap.size (.slice az ns cs) sh) (hbe:SlL encI 1 w w.heap.size (.slice ab nb cb) be)
    (ha:SlL encI 1 w w.heap.size (.slice a1 n1 c1) la) (hb:SlL encI 1 w w.heap.size (.slice a2 n2 c2) lb):
    Calls Tryz.prog 4 #[.agg #[.slice ah nh ch,.slice aw nw cw,.slice ac nc cc,.slice az ns cs,.slice ab nb cb,.string (tx tr)],.slice a1 n1 c1,.slice a2 n2 c2] w (Ret (.bool true) w):=by
 have HFEW:=Zh (fun (u:World) (hu:Below w.heap.size w u)=>few20 u ah aw ac az ab nh nw nc ns nb ch cw cc cs cb hs wt sh be ca tr (hh.later hu) (hwt.later hu) (hca.later hu) (hsh.later hu) (hbe.later hu) 6 (by decide));have HLH:=Zh (SlL.len hh);have HLA:=Zh (SlL.len ha);have HLB:=Zh (SlL.len hb);have HWL:=Zh (fun (u:World) (hu:Below w.heap.size w u)=>Zi3 u (hw.later hu));have HMF:=Zh (fun (hfw:FewOk hs wt sh be ca tr 6)=>Zor w hw ah aw ac az ab nh nw nc ns nb ch cw cc cs cb hs wt sh be ca tr hh hwt hca hsh hbe hfw);have HSA:=Zh ha;have HSB:=Zh hb;have HIN:=Zh Zov;clear hh hwt hca hsh hbe ha hb hw;obtain ⟨T,hT⟩: ∃T,tx tr=T:=⟨_,rfl⟩;rw [hT];simp only [hT] at HFEW;have HT:=Zh hT;clear hT;have HB:=Zh ((Below.refl w.heap.size w).alloc (Nat.le_refl _) (.cells #[.slice ah nh ch,.slice aw nw cw,.slice ac nc cc,.slice az ns cs,.slice ab nb cb,.string T] 51));have HX:=Zh (Box.new w #[.slice ah nh ch,.slice aw nw cw,.slice ac nc cc,.slice az ns cs,.slice ab nb cb,.string T] 51);obtain ⟨x0,x1,x2,x3,x4,x5,xf,xz⟩:=HX.w6;have HB0:=Zh HB.out;have HS:=Zh (HFEW.out _ HB.out);go_enter Tryz.func4,Tryz.ntmps4;go_wp2_with fail;refine HS.mono ?_;rintro e4 w4 ⟨t,rfl,hb,hft⟩;replace HB:=Zh (HB.Zg hb);replace HX:=Zh (HX.later hb);clear hb x0 x1 x2 x3 x4 x5 xf xz;obtain ⟨x0,x1,x2,x3,x4,x5,xf,xz⟩:=HX.w6;clear HS HFEW;have HWS:=Zh (HWL.out _ HB.out);cases t with
 | false=>
   clear HMF hft;go_wp2_with fail;refine HWS.mono ?_;rintro e5 w5 ⟨rfl,hb⟩;have HB5:=Zh (HB.Zg hb);clear hb x0 x1 x2 x3 x4 x5 xf xz;go_wp2_with fail;go_ret;exact ⟨rfl,HB5.out⟩
 | true=>
   obtain ⟨s,X⟩:=HMF.out (hft rfl);have hnh:=X.nh12;have hnhl:=X.lh;have HX2:=Zh X;clear HMF hft X;obtain ⟨R1,hm1,hr1⟩:=Zc1 w4 ah nh ch (.slice aw nw cw) (.slice ac nc cc) (.slice az ns cs) (.slice ab nb cb) (.string T) a1 n1 c1 la (HSA.later HB.out) hnh;have HM1:=Zh hm1;have HR1:=Zh hr1;have HS:=Zh (hm1 w4 (Below.refl _ _));clear hm1 hr1
   by_cases hz1:R1=0
   rotate_left
   ·have hz1b:(R1 !=0)=true:=bne_iff_ne.2 hz1;clear HX2 HM1 HR1 HSA HSB;go_wp2_with fail;refine HS.mono ?_;rintro e5 w5 ⟨rfl,hb⟩;have HB5:=Zh (HB.Zg hb);have HWS:=Zh (HWL.out _ HB5.out);clear hb x0 x1 x2 x3 x4 x5 xf xz;go_wp2_with fail;refine HWS.mono ?_;rintro e6 w6 ⟨rfl,hb⟩;have HB6:=Zh (HB5.Zg hb);clear hb;go_wp2_with fail;go_ret;exact ⟨rfl,HB6.out⟩
   subst hz1;have hl1:=(HR1.out rfl).1;have HA1:=Zh (HR1.out rfl).2;clear HR1 HM1;go_wp2_with fail;refine HS.mono ?_;rintro e5 w5 ⟨rfl,hb⟩;replace HB:=Zh (HB.Zg hb);replace HX:=Zh (HX.later hb);clear hb x0 x1 x2 x3 x4 x5 xf xz;obtain ⟨x0,x1,x2,x3,x4,x5,xf,xz⟩:=HX.w6;clear HS HWS;obtain ⟨R2,hm2,hr2⟩:=Zc1 w5 ah nh ch (.slice aw nw cw) (.slice ac nc cc) (.slice az ns cs) (.slice ab nb cb) (.string T) a2 n2 c2 lb (HSB.later HB.out) hnh;have HR2:=Zh hr2;have HS:=Zh (hm2 w5 (Below.refl _ _));clear hm2 hr2
   by_cases hz2:R2=0
   rotate_left
   ·have hz2b:(R2 !=0)=true:=bne_iff_ne.2 hz2;clear HX2 HR2 HSA HSB;go_wp2_with fail;refine HS.mono ?_;rintro e5 w5 ⟨rfl,hb⟩;have HB5:=Zh (HB.Zg hb);have HWS:=Zh (HWL.out _ HB5.out);clear hb x0 x1 x2 x3 x4 x5 xf xz;go_wp2_with fail;refine HWS.mono ?_;rintro e6 w6 ⟨rfl,hb⟩;have HB6:=Zh (HB5.Zg hb);clear hb;go_wp2_with fail;go_ret;exact ⟨rfl,HB6.out⟩
   subst hz2;have hl2:=(HR2.out rfl).1;have HA2:=Zh (HR2.out rfl).2;clear HR2;go_wp2_with fail;refine HS.mono ?_;rintro e6 w6 ⟨rfl,hb⟩;replace HB:=Zh (HB.Zg hb);replace HX:=Zh (HX.later hb);clear hb x0 x1 x2 x3 x4 x5 xf xz;obtain ⟨x0,x1,x2,x3,x4,x5,xf,xz⟩:=HX.w6;clear HS;have e1:nh=n1:=by rw [<-HLA.out];exact hl1.symm
   have e2:nh=n2:=by rw [<-HLB.out];exact hl2.symm
   subst e1 e2;have HSA:=Zh (HSA.short (by omega));have HSB:=Zh (HSB.short (by omega));have hl12:lb.length=la.length:=by omega
   have HTK:=Zh (fun (k:Nat) (h1:k<la.length) (h2:k<lb.length)=>Zmt hl12 k h1 h2);have HAL:=Zh (Zeo hl12);have hsz6:w.heap.size+1<=w6.heap.size:=HX.lt;clear HLA HLB HLH x0 x1 x2 x3 x4 x5 xf xz;go_wp2_with fail
   go_loopw [7,50] (fun v7 i wr=> ∃ (k:Nat) (a7:Option Addr) (c7:Nat),k<=nh/\i= .int .i64 k/\v7= .slice a7 k c7/\Hid (Below w.heap.size w wr)/\Hid (Box wr w.heap.size 51 [.slice ah nh ch,.slice aw nw cw,.slice ac nc cc,.slice az ns cs,.slice ab nb cb,.string T])/\Hid (Own encI 1 3 wr (w.heap.size+1) (.slice a7 k c7) ((addI la lb).take k))/\Hid (w.heap.size+1<=wr.heap.size)) (fun _ i _=>nh-(intOf i).toNat)
   case atStart=>exact ⟨0,none,0,by omega,rfl,rfl,HB,HX,Zh (Own.nil _ _ _ _ _),Zh hsz6⟩
   case round=>
     clear HB HX hsz6;obtain ⟨k,a7,c7,hk,rfl,rfl,HB,HX,HO,HZ⟩:=hrel
     by_cases hlt:k<nh
     ·have hk1:k<la.length:=by omega
      have hk2:k<lb.length:=by omega
      obtain ⟨b3,o3,ea,lo3,lw3,hat3⟩:=Sl.atI HSA.out HB.out k hk1;obtain ⟨b4,o4,eb,lo4,lw4,hat4⟩:=Sl.atI HSB.out HB.out k hk2;subst ea eb;have d3:=hat3.c1;have d4:=hat4.c1;rw [Nat.mul_one] at d3 d4;have HK:=Zh (HTK.out k hk1 hk2);obtain ⟨z1,z2⟩:=HA1.out _ (List.getElem_mem hk1);obtain ⟨z3,z4⟩:=HA2.out _ (List.getElem_mem hk2);have HTL:=Zh (show ((addI la lb).take k++ [la[k]+lb[k]]).length=k+1 by rw [List.length_append,List.length_take,HAL.out,List.length_singleton];omega);have HLN:=Zh (show ((addI la lb).take k).length<=1000000 by rw [List.length_take];omega);generalize la[k]=p1 at *;generalize lb[k]=p2 at *;have HCS:=Zh (show (#[Value.int .i64 (p1+p2)]:Array Value).toList=encI (p1+p2) from rfl);clear hat3 hat4;go_wp2_with fail;refine Zf9 11 10 _ 1 3 (by kernel_rfl) (by kernel_rfl) rfl ?_;apply Exists.intro;refine ⟨fun Y=> ?_,?_⟩;simp only [Zas,Z2,Z3,Z6,Z7,Nat.reduceSub,List.cons_append,List.nil_append]
      repeat go_big_quiet_step (fail)
      exact wpQuiet_nil rfl;apply Exists.intro;refine ⟨fun w=> ?_,fun g w2 hb2 hg2 hc2=> ?_⟩
      go_simp
      first|rfl|(go_ints;rfl)
      have hb2':=Zh hb2;simp only [Act.put,Z1,Z4,Z5,Z3,Z7];have ho2:=HO.later hb2'.out;go_wp2_with (at_builtin;(refine Zat encI 1 8 27 3 (.int .i64 0) Tryz.underlying27 HIN.out rfl (by decide) (by decide) (fun _=>rfl) Zhc _ (p1+p2) (w.heap.size+1) w2 g _ _ hc2 HCS.out _ ho2 (Nat.le_trans HZ.out hb2'.out.size) HLN.out rfl _ _ rfl rfl rfl ?_);intro v' w' hown' hg');go_roundw
      case rel=>
        have hbA:=HB.trans (hb2'.out.mono HB.size);obtain ⟨a',c',e'⟩:=hown'.shape;rw [HTL.out] at e';refine ⟨k+1,a',c',by omega,by go_num,e',Zh (Zb2 hbA hg' (by have:=hbA.size;omega) ho2.lt' (by omega)),Zh ((HX.later hb2'.out).kept hg' (ho2.ne (by omega))),?_,Zh ?_⟩
        ·rw [HK.out,<-e'];exact Zh hown'
        ·exact Nat.le_trans (Nat.le_trans HZ.out hb2'.out.size) hg'.size
      case measure=>simp [intOf];omega
     ·obtain rfl:nh=k:=by omega
      have hol:=HO.out;rw [List.take_of_length_le (by rw [HAL.out];omega)] at hol;have HO:=Zh hol;clear hol HTK;obtain ⟨R3,hm3,hr3⟩:=Zc1 wr ah nh ch (.slice aw nw cw) (.slice ac nc cc) (.slice az ns cs) (.slice ab nb cb) (.string T) a7 nh c7 (addI la lb) (Zi0 (HO.toSl (fun _=>rfl) (by rw [HAL.out];omega))) hnh;have HR3:=Zh hr3;have HS:=Zh (hm3 wr (Below.refl _ _));obtain ⟨x0,x1,x2,x3,x4,x5,xf,xz⟩:=HX.w6;clear hm3 hr3
      by_cases hz3:R3=0
      rotate_left
      ·have hz3b:(R3 !=0)=true:=bne_iff_ne.2 hz3;clear HX2 HR3 HSA HSB;go_wp2_with fail;refine HS.mono ?_;rintro e5 w5 ⟨rfl,hb⟩;have HB5:=Zh (HB.Zg hb);have HWS:=Zh (HWL.out _ HB5.out);clear hb x0 x1 x2 x3 x4 x5 xf xz;go_wp2_with fail;refine HWS.mono ?_;rintro e6 w6 ⟨rfl,hb⟩;have HB6:=Zh (HB5.Zg hb);clear hb;go_wp2_with fail;go_ret;exact ⟨rfl,HB6.out⟩
      subst hz3;have HA3:=Zh (HR3.out rfl).2;clear HR3;go_wp2_with fail;refine HS.mono ?_;rintro e8 w8 ⟨rfl,hb⟩;have HS7:=Zh ((HO.toSl (fun _=>rfl) (by rw [HAL.out];omega)).later hb);have HB8:=Zh (HB.Zg hb);have HX8:=Zh (HX.later hb);clear hb x0 x1 x2 x3 x4 x5 xf xz HS HO HB HX HZ;go_wp2_with (
        at_make
        refine Zbu encI 1 (fun _=>rfl) (by decide) 0 (.int .i64 0) rfl 27 3 8 Tryz.underlying27 HIN.out (by decide) 0 _ nh (by omega) (Nat.zero_le _) rfl _ _ rfl .i64 .i64 rfl rfl ?_;intro w9 ho9 hg9;have hb9:Below w8.heap.size w8 w9:=⟨hg9.os,hg9.tape,hg9.output,hg9.size,fun k hk=>hg9.block k hk (by simp)⟩;have HS9:=Zh (HS7.later hb9);have HB9:=Zh (HB8.Zg hb9);have HX9:=Zh (HX8.later hb9);have HZ9:=Zh (ho9.toSl (fun _=>rfl) (by rw [List.length_replicate];omega));clear hb9 ho9 hg9 HX8 HB8 HS7)
      obtain ⟨W3,hW3⟩: ∃W:World,w9.alloc (.cells #[.func (.func 23) #[] #[],.func (.func 24) #[] #[]] 54)=W:=⟨_,rfl⟩;have hbn:=Zav w9 (.cells #[.func (.func 23) #[] #[],.func (.func 24) #[] #[]] 54);have hfb:=Box.new w9 #[.func (.func 23) #[] #[],.func (.func 24) #[] #[]] 54;rw [hW3] at hbn hfb ⊢;have HS3:=Zh (HS9.later hbn);have HB3:=Zh (HB9.Zg hbn);have HX3:=Zh (HX9.later hbn);have HZ3:=Zh (HZ9.later hbn);have HF3:=Zh hfb;have X4:=HX2.out;have hn4:=X4.lw;have hn6:nw<=6:=by rw [<-hn4];exact X4.ok.n6
      obtain ⟨F9,hF9⟩: ∃F,w9.heap.size=F:=⟨_,rfl⟩;rw [hF9] at HF3 ⊢;have hFl:=HF3.lt;clear hW3 hbn hfb HS9 HB9 HX9 HZ9 hF9;have HSA3:=Zh (HSA.later HB3.out);have HSB3:=Zh (HSB.later HB3.out);have HT23:=Zh (by have h:=X4.tell23;rw [HT.out] at h;exact h);have HT24:=Zh (by have h:=X4.tell24;rw [HT.out] at h;exact h);have HSFE:=Zh (fun (u:World) (vm:Value) (ms:List Int) (hu:Below w.heap.size w u) (hm:Sl encI 1 u u.heap.size vm ms) (hc:CgOk s ms)=>(by have h:=X4.safe u vm ms hu hm hc;rw [HT.out] at h;exact h));have HCA:=Zh (X4.cg hl1 HA1.out);have HCB:=Zh (X4.cg hl2 HA2.out);have HCS:=Zh (X4.cg (by rw [HAL.out];exact hl1) HA3.out);have HCZ:=Zh (X4.cg (l:=List.replicate nh 0) (by rw [List.length_replicate]) (fun z hz=>by rw [(List.mem_replicate.1 hz).2];exact ⟨by decide,by decide⟩));have HL12:=Zh hl12;clear X4
      go_loopw [76] (fun i wr=> ∃ (k:Nat),k<=2/\i= .int .i64 k/\Hid (Below W3.heap.size W3 wr)) (fun i _=>2-(intOf i).toNat)
      case atStart=>exact ⟨0,by omega,rfl,Zh (Below.refl _ _)⟩
      case round=>
        obtain ⟨k,hk2,rfl,HBW⟩:=hrel;have HBA:=Zh (HB3.trans (HBW.mono HB3.size));obtain ⟨x0,x1,x2,x3,x4,x5,xf,xz⟩:=(HX3.later HBW.out).w6
        by_cases hlt:k<2
        ·obtain ⟨f,L,hff,hfc,hTL⟩: ∃ (f:Nat) (L:List Int->List Rat),(f=23∨f=24)/\W3.cell? ⟨F9,k,none⟩=some (.func (.func f) #[] #[])/\TellP w (.agg #[.slice ah nh ch,.slice aw nw cw,.slice ac nc cc,.slice az ns cs,.slice ab nb cb,.string T]) s f L:=by
           rcases (by omega:k=0∨k=1) with rfl|rfl
           ·exact ⟨23,sheL s,.inl rfl,HF3.cell 0,HT23.out⟩
           ·exact ⟨24,benL s,.inr rfl,HF3.cell 1,HT24.out⟩
         have HFC:=Zh hfc;have HTL:=Zh hTL;clear hfc hTL
         rcases hff with rfl|rfl
         all_goals
           have f0:=(HBW.cell (p:=⟨F9,k,none⟩) hFl).trans HFC.out;have HRUN:=Zh (fun (u:World) (vm:Value) (ms:List Int) (hu:Below w.heap.size w u) (hm:Sl encI 1 u u.heap.size vm ms) (hc:CgOk s ms)=>HTL.call hn4 u vm ms hu hm hc);have HS:=Zh (HRUN.out wr (.slice a1 nh c1) la HBA.out (HSA3.later HBW.out) HCA.out);clear HFC;go_wp2_with fail;refine HS.mono ?_;rintro e11 w11 ⟨q1,d1,rfl,hs,hb⟩;have HQ1:=Zh hs;replace HBW:=Zh (HBW.Zg hb);replace HBA:=Zh (HB3.trans (HBW.mono HB3.size));clear hs hb HS x0 x1 x2 x3 x4 x5 xf xz f0;obtain ⟨x0,x1,x2,x3,x4,x5,xf,xz⟩:=(HX3.later HBW.out).w6;have HS:=Zh (HRUN.out w11 (.slice a2 nh c2) lb HBA.out (HSB3.later HBW.out) HCB.out);go_wp2_with fail;refine HS.mono ?_;rintro e12 w12 ⟨q2,d2,rfl,hs,hb⟩;have HQ2:=Zh hs;replace HQ1:=Zh (HQ1.later hb);replace HBW:=Zh (HBW.Zg hb);replace HBA:=Zh (HB3.trans (HBW.mono HB3.size));clear hs hb HS x0 x1 x2 x3 x4 x5 xf xz;obtain ⟨x0,x1,x2,x3,x4,x5,xf,xz⟩:=(HX3.later HBW.out).w6;have HS:=Zh (HRUN.out w12 (.slice a7 nh c7) (addI la lb) HBA.out (HS3.later HBW.out) HCS.out);go_wp2_with fail;refine HS.mono ?_;rintro e13 w13 ⟨q3,d3,rfl,hs,hb⟩;have HQ3:=Zh hs;replace HQ1:=Zh (HQ1.later hb);replace HQ2:=Zh (HQ2.later hb);replace HBW:=Zh (HBW.Zg hb);replace HBA:=Zh (HB3.trans (HBW.mono HB3.size));clear hs hb HS x0 x1 x2 x3 x4 x5 xf xz;obtain ⟨x0,x1,x2,x3,x4,x5,xf,xz⟩:=(HX3.later HBW.out).w6;have HS:=Zh (HRUN.out w13 (.slice (some ⟨w8.heap.size,0,none⟩) nh nh) (List.replicate nh 0) HBA.out (HZ3.later HBW.out) HCZ.out);go_wp2_with fail;refine HS.mono ?_;rintro e14 w14 ⟨q4,d4,rfl,hs,hb⟩;have HQ4:=Zh hs;replace HQ1:=Zh (HQ1.later hb);replace HQ2:=Zh (HQ2.later hb);replace HQ3:=Zh (HQ3.later hb);replace HBW:=Zh (HBW.Zg hb);replace HBA:=Zh (HB3.trans (HBW.mono HB3.size));clear hs hb HS x0 x1 x2 x3 x4 x5 xf xz;obtain ⟨x0,x1,x2,x3,x4,x5,xf,xz⟩:=(HX3.later HBW.out).w6;clear HRUN x0 x1 x2 x3 x4 x5 xf xz;go_wp2_with fail;obtain ⟨W5,hW5⟩: ∃W:World,w14.alloc (.cells #[.slice q1 nw d1,.slice q2 nw d2,.slice q3 nw d3,.slice q4 nw d4] 42)=W:=⟨_,rfl⟩;have hbn:=Zav w14 (.cells #[.slice q1 nw d1,.slice q2 nw d2,.slice q3 nw d3,.slice q4 nw d4] 42);have hfb:=Box.new w14 #[.slice q1 nw d1,.slice q2 nw d2,.slice q3 nw d3,.slice q4 nw d4] 42;rw [hW5] at hbn hfb ⊢;replace HQ1:=Zh (HQ1.later hbn);replace HQ2:=Zh (HQ2.later hbn);replace HQ3:=Zh (HQ3.later hbn);replace HQ4:=Zh (HQ4.later hbn);replace HBW:=Zh (HBW.Zg hbn);have HX5:=Zh (HX3.later HBW.out);obtain ⟨R5,hR5e⟩: ∃R,w14.heap.size=R:=⟨_,rfl⟩;rw [hR5e] at hfb ⊢;have HR5:=Zh hfb;have hR5:=hfb.lt;clear hW5 hbn hfb hR5e HBA;have HRW:=Zh (fun (u:World) (hu:Below W5.heap.size W5 u) (k:Nat) (hk:k<4)=>(show∃ak ck,W5.cell? ⟨R5,k,none⟩=some (.slice ak nw ck)/\Calls Tryz.prog 25 #[.slice ak nw ck] u (Ret (.int .i64 0) u) from by
             rcases (by omega:k=0∨k=1∨k=2∨k=3) with rfl|rfl|rfl|rfl
             ·exact ⟨_,_,HR5.cell 0,Zen u _ _ (HQ1.later hu) (HTL.dn _ HCA.out)⟩
             ·exact ⟨_,_,HR5.cell 1,Zen u _ _ (HQ2.later hu) (HTL.dn _ HCB.out)⟩
             ·exact ⟨_,_,HR5.cell 2,Zen u _ _ (HQ3.later hu) (HTL.dn _ HCS.out)⟩
             ·exact ⟨_,_,HR5.cell 3,Zen u _ _ (HQ4.later hu) (HTL.dn _ HCZ.out)⟩))
           go_loopw [122] (fun i wr=> ∃ (k:Nat),k<=4/\i= .int .i64 k/\Hid (Below W5.heap.size W5 wr)) (fun i _=>4-(intOf i).toNat)
           case atStart=>exact ⟨0,by omega,rfl,Zh (Below.refl _ _)⟩
           case round=>
             obtain ⟨j,hj4,rfl,HBJ⟩:=hrel;obtain ⟨x0,x1,x2,x3,x4,x5,xf,xz⟩:=(HX5.later HBJ.out).w6
             by_cases hjt:j<4
             ·obtain ⟨ak,ck,hck,hcr⟩:=HRW.out _ HBJ.out j hjt;have r0:=(HBJ.cell (p:=⟨R5,j,none⟩) hR5).trans hck;have HS:=Zh hcr;clear hck hcr;go_wp2_with fail;refine HS.mono ?_;rintro e6 w6' ⟨rfl,hb⟩;have HBJ:=Zh (HBJ.Zg hb);clear hb x0 x1 x2 x3 x4 x5 xf xz r0 HS;go_wp2_with fail;go_roundw
              case rel=>exact ⟨j+1,by omega,by go_num,HBJ⟩
              case measure=>simp [intOf];omega
             ·obtain rfl:j=4:=by omega
              clear x0 x1 x2 x3 x4 x5 xf xz HRW;go_wp2_with fail;obtain ⟨W6,hW6⟩: ∃U:World,U=wr:=⟨_,rfl⟩;subst hW6;have HBX:=Zh (HBW.trans (HBJ.mono HBW.size));have HLE:=Zh (fun ms=>(HTL.len ms).trans hn4)
              go_loopw [140] (fun i wr=> ∃ (j:Nat),j<=nw/\i= .int .i64 j/\Hid (Below W6.heap.size W6 wr)) (fun i _=>nw-(intOf i).toNat)
              case atStart=>exact ⟨0,by omega,rfl,Zh (Below.refl _ _)⟩
              case round=>
                obtain ⟨j,hjn,rfl,HBK⟩:=hrel
                by_cases hjt:j<nw
                ·have hb5:=HBJ.trans (HBK.mono HBJ.size);have g1:j<(L la).length:=by rw [HLE.out];exact hjt
                 have g2:j<(L lb).length:=by rw [HLE.out];exact hjt
                 have g3:j<(L (addI la lb)).length:=by rw [HLE.out];exact hjt
                 have g4:j<(L (List.replicate nh 0)).length:=by rw [HLE.out];exact hjt
                 obtain ⟨b1,o1,ea1,lo1,lw1,hat1⟩:=Sl.atI HQ1.out hb5 j g1;obtain ⟨b2,o2,ea2,lo2,lw2,hat2⟩:=Sl.atI HQ2.out hb5 j g2;obtain ⟨b3,o3,ea3,lo3,lw3,hat3⟩:=Sl.atI HQ3.out hb5 j g3;obtain ⟨b4,o4,ea4,lo4,lw4,hat4⟩:=Sl.atI HQ4.out hb5 j g4;subst ea1 ea2 ea3 ea4;have t1:=hat1.c1;have t2:=hat2.c1;have t3:=hat3.c1;have t4:=hat4.c1;rw [Nat.mul_one] at t1 t2 t3 t4;have hlaw:=HTL.law la lb nh j HL12.out g3 g4 g1 g2;have m1:=(HTL.dn _ HCA.out _ (List.getElem_mem g1)).mono (show 600<=40001 by decide);have m2:=(HTL.dn _ HCB.out _ (List.getElem_mem g2)).mono (show 600<=40001 by decide);have m3:=(HTL.dn _ HCS.out _ (List.getElem_mem g3)).mono (show 600<=40001 by decide);have m4:=(HTL.dn _ HCZ.out _ (List.getElem_mem g4)).mono (show 600<=40001 by decide);change (L (addI la lb))[j]+(L (List.replicate nh 0))[j]=(L la)[j]+(L lb)[j] at hlaw;generalize (L la)[j]=y1 at *;generalize (L lb)[j]=y2 at *;generalize (L (addI la lb))[j]=y3 at *;generalize (L (List.replicate nh 0))[j]=y4 at *;obtain ⟨TT,hTT⟩: ∃TT,txq (y3+y4)=TT:=⟨_,rfl⟩;have HAD1:=Zh (fun X:Later wr=>(by have h:=addD X.w y3 y4 m3 m4;rw [hTT] at h;exact h:Calls Tryz.prog 15 #[.string (txq y3),.string (txq y4)] X.w (fun e w'=>e= .returned (.string TT)/\Below X.w.heap.size X.w w')));have HAD2:=Zh (fun X:Later wr=>(by have h:=addD X.w y1 y2 m1 m2;rw [<-hlaw,hTT] at h;exact h:Calls Tryz.prog 15 #[.string (txq y1),.string (txq y2)] X.w (fun e w'=>e= .returned (.string TT)/\Below X.w.heap.size X.w w')));clear hat1 hat2 hat3 hat4 hlaw m1 m2 m3 m4 hTT hb5 lo1 lo2 lo3 lo4 g1 g2 g3 g4;change wr.cell? _=some (.string (txq y1)) at t1;change wr.cell? _=some (.string (txq y2)) at t2;change wr.cell? _=some (.string (txq y3)) at t3;change wr.cell? _=some (.string (txq y4)) at t4;generalize txq y1=S1 at *;generalize txq y2=S2 at *;generalize txq y3=S3 at *;generalize txq y4=S4 at *;go_wp2_with fail;refine Zaf (by kernel_rfl) (by kernel_rfl) ?_
                 repeat go_big_quiet_step ((first|(go_at_call 15;first|with_reducible exact Calls.later (HAD1.out _)|with_reducible exact Calls.later (HAD2.out _))))
                 refine wpQuiet_nil ?_;rintro w16 ⟨⟨_,hb16⟩,rfl⟩;have HBK2:=Zh (HBK.Zg hb16);clear hb16 t1 t2 t3 t4 HAD1 HAD2;go_wp2_with fail;go_roundw
                 case rel=>exact ⟨j+1,by omega,by go_num,HBK2⟩
                 case measure=>simp [intOf];omega
                ·obtain rfl:nw=j:=by omega
                 have HBY:=Zh (HBX.trans (HBK.mono HBX.size));clear HBX HBK HBJ HBW;go_wp2_with fail;go_roundw
                 case rel=>exact ⟨k+1,by omega,by go_num,HBY⟩
                 case measure=>simp [intOf];omega
        ·obtain rfl:k=2:=by omega
         clear x0 x1 x2 x3 x4 x5 xf xz HT23 HT24 HF3 HCZ HCA HCB HZ3 hFl;go_wp2_with fail;obtain ⟨W7,hW7⟩: ∃U:World,U=wr:=⟨_,rfl⟩;subst hW7;have HX7:=Zh (HX3.later HBW.out);have HSS7:=Zh (HS3.later HBW.out);have HSA7:=Zh (HSA.later HBA.out);have HSB7:=Zh (HSB.later HBA.out);have HDA:=Zh (fun (k:Nat) (h:k<la.length)=>Zh6 (a:=la) k h);have HDB:=Zh (fun (k:Nat) (h:k<lb.length)=>Zh6 (a:=lb) k h);have hql:w.heap.size<W7.heap.size:=HX7.lt;clear HBW HX3 HS3 HSA3 HSB3
         go_loopw [23,24,166] (fun v3 v4 i wr=> ∃ (k:Nat) (a3:Option Addr) (c3:Nat) (a4:Option Addr) (c4:Nat),k<=nh/\i= .int .i64 k/\v3= .slice a3 k c3/\v4= .slice a4 k c4/\Hid (TwoOwn encI 1 3 encI 1 3 W7.heap.size W7 w.heap.size 51 [.slice ah nh ch,.slice aw nw cw,.slice ac nc cc,.slice az ns cs,.slice ab nb cb,.string T] (.slice a3 k c3) ((dblI la).take k) (.slice a4 k c4) ((dblI lb).take k) wr)) (fun _ _ i _=>nh-(intOf i).toNat)
         case atStart=>exact ⟨0,none,0,none,0,by omega,rfl,rfl,rfl,Zh ⟨Below.refl _ _,Nat.le_refl _,HX7.out,Own.nil _ _ _ _ _,Own.nil _ _ _ _ _,(fun g h=>by cases h),(fun h=>by cases h),(fun h=>by cases h)⟩⟩
         case round=>
           obtain ⟨k,a3,c3,a4,c4,hk,rfl,rfl,rfl,HTW⟩:=hrel
           by_cases hlt:k<nh
           ·have hk1:k<la.length:=by omega
            have hk2:k<lb.length:=by omega
            obtain ⟨b5,o5,ea,lo5,lw5,hat5⟩:=Sl.atI HSA7.out (Below.refl _ _) k hk1;obtain ⟨b6,o6,eb,lo6,lw6,hat6⟩:=Sl.atI HSB7.out (Below.refl _ _) k hk2;subst ea eb;have HLA:=Zh (show ((dblI la).take k).length<=1000000 by rw [List.length_take];omega);have HLB:=Zh (show ((dblI lb).take k).length<=1000000 by rw [List.length_take];omega);have HK5:=Zh (HDA.out k hk1);have HK6:=Zh (HDB.out k hk2);obtain ⟨z1,z2⟩:=HA1.out _ (List.getElem_mem hk1);obtain ⟨z3,z4⟩:=HA2.out _ (List.getElem_mem hk2);have HC5:=Zh (fun (u:World) (hu:Below W7.heap.size W7 u)=>(show u.cell? ⟨b5,o5+k,none⟩=some (.int .i64 la[k])/\b5<u.heap.size from ⟨by have h:=hat5.c1;rw [Nat.mul_one] at h;exact (hu.cell (p:=⟨b5,o5+k,none⟩) lo5).trans h,Nat.lt_of_lt_of_le lo5 hu.size⟩));have HC6:=Zh (fun (u:World) (hu:Below W7.heap.size W7 u)=>(show u.cell? ⟨b6,o6+k,none⟩=some (.int .i64 lb[k])/\b6<u.heap.size from ⟨by have h:=hat6.c1;rw [Nat.mul_one] at h;exact (hu.cell (p:=⟨b6,o6+k,none⟩) lo6).trans h,Nat.lt_of_lt_of_le lo6 hu.size⟩));generalize la[k]=p1 at *;generalize lb[k]=p2 at *;clear hat5 hat6;go_wp2_with fail;refine Zcy 16 (J2 encI 1 3 encI 1 3 W7.heap.size W7 w.heap.size 51 [.slice ah nh ch,.slice aw nw cw,.slice ac nc cc,.slice az ns cs,.slice ab nb cb,.string T] 0 [some (.slice a3 k c3),some (.slice (some ⟨b5,o5,none⟩) nh c1),some (.int .i64 k),some (.pointer (some ⟨b5,o5+k,none⟩)),some (.int .i64 p1),some (.int .i64 (2* p1)),none,none,some (.slice a4 k c4),some (.slice (some ⟨b6,o6,none⟩) nh c2),some (.int .i64 k),some (.pointer (some ⟨b6,o6+k,none⟩)),some (.int .i64 p2),some (.int .i64 (2* p2)),none,none] 0 6 7 14 15 1000 (.slice a3 k c3) (.slice a4 k c4) ((dblI la).take k) ((dblI lb).take k) (2* p1) (2* p2)) (by kernel_rfl) (by kernel_rfl) (J2.start HTW.out) ?_ ?_
            ·refine ⟨?_,?_,?_,?_,?_,?_,?_,?_,?_,?_,?_,?_,?_,?_,?_,?_,trivial⟩
             all_goals
               intro D vs u hD hdep hJ;simp only [Zac,Z2,Z6,Act.put,Z1,Z4,Z5]
             ·refine ⟨fun v w'=>v= .slice a3 k c3/\w'=u,?_,?_⟩
              ·clear hD hdep hJ;go_wp2_with fail;exact ⟨rfl,rfl,_,_,rfl,rfl,rfl,rfl⟩
              ·rintro v w' ⟨rfl,rfl⟩;exact hJ.quiet 0 (by decide) (fun v' e=>Option.some.inj (Option.some.inj e)) (Below.refl _ _)
             ·refine ⟨fun v w'=>v= .slice (some ⟨b5,o5,none⟩) nh c1/\w'=u,?_,?_⟩
              ·clear hD hdep hJ;go_wp2_with fail;exact ⟨rfl,rfl,_,_,rfl,rfl,rfl,rfl⟩
              ·rintro v w' ⟨rfl,rfl⟩;exact hJ.quiet 1 (by decide) (fun v' e=>Option.some.inj (Option.some.inj e)) (Below.refl _ _)
             ·refine ⟨fun v w'=>v= .int .i64 k/\w'=u,?_,?_⟩
              ·clear hD hdep hJ;go_wp2_with fail;exact ⟨rfl,rfl,_,_,rfl,rfl,rfl,rfl⟩
              ·rintro v w' ⟨rfl,rfl⟩;exact hJ.quiet 2 (by decide) (fun v' e=>Option.some.inj (Option.some.inj e)) (Below.refl _ _)
             ·have e1:vs 1=_:=hJ.val 1 _ rfl (Zr hdep 1);have e2:vs 2=_:=hJ.val 2 _ rfl (Zr hdep 2);refine ⟨fun v w'=>v= .pointer (some ⟨b5,o5+k,none⟩)/\w'=u,?_,?_⟩
              ·clear hD hdep hJ;go_wp2_with fail;exact ⟨rfl,rfl,_,_,rfl,rfl,rfl,rfl⟩
              ·rintro v w' ⟨rfl,rfl⟩;exact hJ.quiet 3 (by decide) (fun v' e=>Option.some.inj (Option.some.inj e)) (Below.refl _ _)
             ·have e3:vs 3=_:=hJ.val 3 _ rfl (Zr hdep 3);obtain ⟨t5,t5l⟩:=HC5.out u hJ.two.below;refine ⟨fun v w'=>v= .int .i64 p1/\w'=u,?_,?_⟩
              ·clear hD hdep hJ;go_wp2_with fail;exact ⟨rfl,rfl,_,_,rfl,rfl,rfl,rfl⟩
              ·rintro v w' ⟨rfl,rfl⟩;exact hJ.quiet 4 (by decide) (fun v' e=>Option.some.inj (Option.some.inj e)) (Below.refl _ _)
             ·have e4:vs 4=_:=hJ.val 4 _ rfl (Zr hdep 4);refine ⟨fun v w'=>v= .int .i64 (2* p1)/\w'=u,?_,?_⟩
              ·clear hD hdep hJ;go_wp2_with fail;exact ⟨rfl,rfl,_,_,rfl,rfl,rfl,rfl⟩
              ·rintro v w' ⟨rfl,rfl⟩;exact hJ.quiet 5 (by decide) (fun v' e=>Option.some.inj (Option.some.inj e)) (Below.refl _ _)
             ·have e5:vs 5=_:=hJ.val 5 _ rfl (Zr hdep 5);refine ⟨fun v w'=>v= .slice (some ⟨u.heap.size,0,none⟩) 1 1/\w'=u.alloc (.cells #[.int .i64 (2* p1)] 3),?_,?_⟩
              ·clear hD hdep hJ;go_wp2_with fail;exact ⟨rfl,rfl,_,_,rfl,rfl,rfl,rfl⟩
              ·rintro v w' ⟨rfl,rfl⟩;exact hJ.new1 (by decide) rfl rfl
             ·have e0:vs 0=_:=hJ.val 0 _ rfl (Zr hdep 0);obtain ⟨g,e6,hbg,_⟩:=hJ.lit1 (Zr hdep 6) hD;have h00:=Zr hdep 0;have ho:=hJ.two.own1;rw [hD] at ho;simp only [Bool.false_eq_true,if_false] at ho;have hbs:=hJ.two.base;refine ⟨fun v w'=>Own encI 1 3 w' W7.heap.size v ((dblI la).take k++ [2* p1])/\u.grownBy w' (.slice a3 k c3:Value).ownBlock/\(v.ownBlock=(.slice a3 k c3:Value).ownBlock∨v.ownBlock=some u.heap.size),?_,?_⟩
              ·have HO:=Zh ho;have HG:=Zh hbg;have HBS:=Zh hbs;clear hD hdep hJ ho hbg hbs h00;rw [e0,e6];refine Zep encI 1 8 27 3 (.int .i64 0) Tryz.underlying27 HIN.out rfl (by decide) (by decide) (fun _=>rfl) Zhc ((dblI la).take k) (2* p1) (W7.heap.size) u g #[.int .i64 (2* p1)] 3 HG.out rfl (.slice a3 k c3) HO.out HBS.out HLA.out rfl _ _ rfl rfl rfl ?_;intro v' w' ho' hg' hat';exact ⟨rfl,rfl,_,_,rfl,rfl,ho',hg',hat'⟩
              ·rintro v w' ⟨h1,h2,h3⟩;exact hJ.push1 (by decide) rfl hD h00 h1 h2 h3
             ·refine ⟨fun v w'=>v= .slice a4 k c4/\w'=u,?_,?_⟩
              ·clear hD hdep hJ;go_wp2_with fail;exact ⟨rfl,rfl,_,_,rfl,rfl,rfl,rfl⟩
              ·rintro v w' ⟨rfl,rfl⟩;exact hJ.quiet 8 (by decide) (fun v' e=>Option.some.inj (Option.some.inj e)) (Below.refl _ _)
             ·refine ⟨fun v w'=>v= .slice (some ⟨b6,o6,none⟩) nh c2/\w'=u,?_,?_⟩
              ·clear hD hdep hJ;go_wp2_with fail;exact ⟨rfl,rfl,_,_,rfl,rfl,rfl,rfl⟩
              ·rintro v w' ⟨rfl,rfl⟩;exact hJ.quiet 9 (by decide) (fun v' e=>Option.some.inj (Option.some.inj e)) (Below.refl _ _)
             ·refine ⟨fun v w'=>v= .int .i64 k/\w'=u,?_,?_⟩
              ·clear hD hdep hJ;go_wp2_with fail;exact ⟨rfl,rfl,_,_,rfl,rfl,rfl,rfl⟩
              ·rintro v w' ⟨rfl,rfl⟩;exact hJ.quiet 10 (by decide) (fun v' e=>Option.some.inj (Option.some.inj e)) (Below.refl _ _)
             ·have e9:vs 9=_:=hJ.val 9 _ rfl (Zr hdep 9);have e10:vs 10=_:=hJ.val 10 _ rfl (Zr hdep 10);refine ⟨fun v w'=>v= .pointer (some ⟨b6,o6+k,none⟩)/\w'=u,?_,?_⟩
              ·clear hD hdep hJ;go_wp2_with fail;exact ⟨rfl,rfl,_,_,rfl,rfl,rfl,rfl⟩
              ·rintro v w' ⟨rfl,rfl⟩;exact hJ.quiet 11 (by decide) (fun v' e=>Option.some.inj (Option.some.inj e)) (Below.refl _ _)
             ·have e11:vs 11=_:=hJ.val 11 _ rfl (Zr hdep 11);obtain ⟨t6,t6l⟩:=HC6.out u hJ.two.below;refine ⟨fun v w'=>v= .int .i64 p2/\w'=u,?_,?_⟩
              ·clear hD hdep hJ;go_wp2_with fail;exact ⟨rfl,rfl,_,_,rfl,rfl,rfl,rfl⟩
              ·rintro v w' ⟨rfl,rfl⟩;exact hJ.quiet 12 (by decide) (fun v' e=>Option.some.inj (Option.some.inj e)) (Below.refl _ _)
             ·have e12:vs 12=_:=hJ.val 12 _ rfl (Zr hdep 12);refine ⟨fun v w'=>v= .int .i64 (2* p2)/\w'=u,?_,?_⟩
              ·clear hD hdep hJ;go_wp2_with fail;exact ⟨rfl,rfl,_,_,rfl,rfl,rfl,rfl⟩
              ·rintro v w' ⟨rfl,rfl⟩;exact hJ.quiet 13 (by decide) (fun v' e=>Option.some.inj (Option.some.inj e)) (Below.refl _ _)
             ·have e13:vs 13=_:=hJ.val 13 _ rfl (Zr hdep 13);refine ⟨fun v w'=>v= .slice (some ⟨u.heap.size,0,none⟩) 1 1/\w'=u.alloc (.cells #[.int .i64 (2* p2)] 3),?_,?_⟩
              ·clear hD hdep hJ;go_wp2_with fail;exact ⟨rfl,rfl,_,_,rfl,rfl,rfl,rfl⟩
              ·rintro v w' ⟨rfl,rfl⟩;exact hJ.new2 (by decide) rfl rfl
             ·have e8:vs 8=_:=hJ.val 8 _ rfl (Zr hdep 8);obtain ⟨g,e14,hbg,_⟩:=hJ.lit2 (Zr hdep 14) hD;have h00:=Zr hdep 8;have ho:=hJ.two.own2;rw [hD] at ho;simp only [Bool.false_eq_true,if_false] at ho;have hbs:=hJ.two.base;refine ⟨fun v w'=>Own encI 1 3 w' W7.heap.size v ((dblI lb).take k++ [2* p2])/\u.grownBy w' (.slice a4 k c4:Value).ownBlock/\(v.ownBlock=(.slice a4 k c4:Value).ownBlock∨v.ownBlock=some u.heap.size),?_,?_⟩
              ·have HO:=Zh ho;have HG:=Zh hbg;have HBS:=Zh hbs;clear hD hdep hJ ho hbg hbs h00;rw [e8,e14];refine Zep encI 1 8 27 3 (.int .i64 0) Tryz.underlying27 HIN.out rfl (by decide) (by decide) (fun _=>rfl) Zhc ((dblI lb).take k) (2* p2) (W7.heap.size) u g #[.int .i64 (2* p2)] 3 HG.out rfl (.slice a4 k c4) HO.out HBS.out HLB.out rfl _ _ rfl rfl rfl ?_;intro v' w' ho' hg' hat';exact ⟨rfl,rfl,_,_,rfl,rfl,ho',hg',hat'⟩
              ·rintro v w' ⟨h1,h2,h3⟩;exact hJ.push2 (by decide) rfl hD h1 h2 h3
            intro D vs u hD hJ;have h2:=hJ.two;rw [hD 7 (by decide),hD 15 (by decide),hJ.nst rfl] at h2;simp only [if_true,Bool.false_eq_true,if_false] at h2;rw [<-HK5.out,<-HK6.out] at h2;simp only [Zac,Z3,Z7,Z2,Z6,Act.put,Z1,Z4,Z5];obtain ⟨u1,hu1⟩: ∃u1,vs 7=u1:=⟨_,rfl⟩;obtain ⟨u2,hu2⟩: ∃u2,vs 15=u2:=⟨_,rfl⟩;rw [hu1,hu2] at h2;obtain ⟨f1,g1,e1⟩:=h2.own1.shape;obtain ⟨f2,g2,e2⟩:=h2.own2.shape;rw [List.length_take,Zb6,Nat.min_eq_left (by omega)] at e1 e2;subst e1 e2;have H2:=Zh h2;clear hD hJ h2 HTW HC5 HC6 HK5 HK6 HLA HLB;simp only [hu1,hu2];clear hu1 hu2;go_wp2_with fail;go_roundw
            case rel=>exact ⟨k+1,f1,g1,f2,g2,by omega,by go_num,rfl,rfl,H2⟩
            case measure=>simp [intOf];omega
           ·obtain rfl:nh=k:=by omega
            have hta:(dblI la).take nh=dblI la:=List.take_of_length_le (by rw [Zb6];omega);have htb:(dblI lb).take nh=dblI lb:=List.take_of_length_le (by rw [Zb6];omega);have htw:=HTW.out;rw [hta,htb] at htw;have hda:(dblI la).length=nh:=by rw [Zb6];exact hl1
            have hdb:(dblI lb).length=nh:=by rw [Zb6];exact hl2
            have HBA:=Zh (HBA.trans (htw.below.mono HBA.size));have HX:=Zh htw.box;have HSS:=Zh (HSS7.later htw.below);have HDA:=Zh (htw.own1.toSl (fun _=>rfl) (by omega));have HDB:=Zh (htw.own2.toSl (fun _=>rfl) (by omega));obtain ⟨R4,hm4,hr4⟩:=Zc1 wr ah nh ch (.slice aw nw cw) (.slice ac nc cc) (.slice az ns cs) (.slice ab nb cb) (.string T) a3 nh c3 (dblI la) (Zi0 HDA.out) hnh;have HR4:=Zh hr4;have HS:=Zh (hm4 wr (Below.refl _ _));have hm5:=Zc1 wr ah nh ch (.slice aw nw cw) (.slice ac nc cc) (.slice az ns cs) (.slice ab nb cb) (.string T) a4 nh c4 (dblI lb) (Zi0 HDB.out) hnh;have HM5:=Zh hm5;obtain ⟨x0,x1,x2,x3,x4,x5,xf,xz⟩:=HX.w6;clear hta htb htw hm4 hr4 hm5 HTW HSS7 HSA7 HSB7 HX7
            by_cases hz4:R4=0
            rotate_left
            ·have hzb:(R4 !=0)=true:=bne_iff_ne.2 hz4;go_wp2_with fail;refine HS.mono ?_;rintro e5 w5 ⟨rfl,hb⟩;have HB5:=Zh (HBA.Zg hb);have HWS:=Zh (HWL.out _ HB5.out);clear hb x0 x1 x2 x3 x4 x5 xf xz;go_wp2_with fail;refine HWS.mono ?_;rintro e6 w6 ⟨rfl,hb⟩;have HB6:=Zh (HB5.Zg hb);clear hb;go_wp2_with fail;go_ret;exact ⟨rfl,HB6.out⟩
            subst hz4;go_wp2_with fail;refine HS.mono ?_;rintro e9 w9' ⟨rfl,hb⟩;obtain ⟨R5,hm5,hr5⟩:=HM5.out;have HR5:=Zh hr5;have HS:=Zh (hm5 w9' hb);have HBA:=Zh (HBA.Zg hb);have HX:=Zh (HX.later hb);have HSS:=Zh (HSS.later hb);have HDA:=Zh (HDA.later hb);have HDB:=Zh (HDB.later hb);clear hb hm5 hr5 HM5 x0 x1 x2 x3 x4 x5 xf xz;obtain ⟨x0,x1,x2,x3,x4,x5,xf,xz⟩:=HX.w6
            by_cases hz5:R5=0
            rotate_left
            ·have hzb:(R5 !=0)=true:=bne_iff_ne.2 hz5;go_wp2_with fail;refine HS.mono ?_;rintro e5 w5 ⟨rfl,hb⟩;have HB5:=Zh (HBA.Zg hb);have HWS:=Zh (HWL.out _ HB5.out);clear hb x0 x1 x2 x3 x4 x5 xf xz;go_wp2_with fail;refine HWS.mono ?_;rintro e6 w6 ⟨rfl,hb⟩;have HB6:=Zh (HB5.Zg hb);clear hb;go_wp2_with fail;go_ret;exact ⟨rfl,HB6.out⟩
            subst hz5;go_wp2_with fail;refine HS.mono ?_;rintro e10 w10' ⟨rfl,hb⟩;have HBA:=Zh (HBA.Zg hb);have HX:=Zh (HX.later hb);have HSS:=Zh (HSS.later hb);have HDA:=Zh (HDA.later hb);have HDB:=Zh (HDB.later hb);clear hb x0 x1 x2 x3 x4 x5 xf xz HS;have HCD1:=Zh (HX2.cg hda (HR4.out (by first|rfl|trivial)).2);have HCD2:=Zh (HX2.cg hdb (HR5.out (by first|rfl|trivial)).2);clear HR4 HR5;obtain ⟨x0,x1,x2,x3,x4,x5,xf,xz⟩:=HX.w6;have HS:=Zh (HSFE.out _ (.slice a3 nh c3) (dblI la) HBA.out HDA.out HCD1.out);go_wp2_with fail;refine HS.mono ?_;rintro e11' w11' ⟨t1,rfl,hi1,hb⟩;have HI1:=Zh hi1;have HBA:=Zh (HBA.Zg hb);have HX:=Zh (HX.later hb);have HSS:=Zh (HSS.later hb);have HDB:=Zh (HDB.later hb);clear hb hi1 x0 x1 x2 x3 x4 x5 xf xz HS;obtain ⟨x0,x1,x2,x3,x4,x5,xf,xz⟩:=HX.w6;have HS:=Zh (HSFE.out _ (.slice a4 nh c4) (dblI lb) HBA.out HDB.out HCD2.out);go_wp2_with fail;refine HS.mono ?_;rintro e12' w12' ⟨t2,rfl,hi2,hb⟩;have HI2:=Zh hi2;have HBA:=Zh (HBA.Zg hb);have HX:=Zh (HX.later hb);have HSS:=Zh (HSS.later hb);have HDB:=Zh (HDB.later hb);clear hb hi2 x0 x1 x2 x3 x4 x5 xf xz HS;obtain ⟨x0,x1,x2,x3,x4,x5,xf,xz⟩:=HX.w6;have HS:=Zh (HSFE.out _ (.slice a7 nh c7) (addI la lb) HBA.out HSS.out HCS.out);go_wp2_with fail;refine HS.mono ?_;rintro e13' w13' ⟨t3,rfl,hi3,hb⟩;have HI3:=Zh hi3;have HBA:=Zh (HBA.Zg hb);have HX:=Zh (HX.later hb);have HSS:=Zh (HSS.later hb);have HDB:=Zh (HDB.later hb);clear hb hi3 x0 x1 x2 x3 x4 x5 xf xz HS;obtain ⟨x0,x1,x2,x3,x4,x5,xf,xz⟩:=HX.w6;have hsafe:t1=true->t2=true->t3=true:=fun p q=>HI3.out.2 (Zoo HL12.out (HI1.out.1 p) (HI2.out.1 q));have HWS:=Zh (HWL.out _ HBA.out);clear HI1 HI2 HI3 HX HSS HDB HSFE HWL x0 x1 x2 x3 x4 x5 xf xz;cases t1 <;> cases t2 <;> cases t3
            all_goals first
              | exact absurd (hsafe rfl rfl) (by decide)
              | (clear hsafe
                 go_wp2_with fail;refine HWS.mono ?_;rintro e14 w14' ⟨rfl,hb⟩;have HB14:=Zh (HBA.Zg hb);clear hb;go_wp2_with fail;go_ret;exact ⟨rfl,HB14.out⟩)
end Go.Proofs.YtijajkfmlghgkaaGreatDoor.Nu
namespace Go.Proofs.YtijajkfmlghgkaaGreatDoor.Nu
open Go Go.Proofs Go.RowKit Go.ChangeShapes Go.WideShapes Go.ChangeAt Go.Joins Go.Deep Go.Proofs.YtijajkfmlghgkaaGreatDoor
theorem Zst:ownKnob Tryz.prog.godebug=none:=by kernel_rfl
theorem Zrd:Kids Tryz.prog (·< Tryz.prog.types.size):=kids_rows (by kernel_rfl) (by kernel_rfl)
theorem Zre: ∀t e,t<Tryz.prog.types.size->Tryz.prog.underlying t=some (.slice e)->0<Tryz.prog.cellsOf e:=slices_full_of Tryz.prog (by kernel_rfl)
def Zh9:List (String×DataW Unit):=[("math/bits.deBruijn32tab",Rows.laid_math_bits_deBruijn32tab),("math/bits.deBruijn64tab",Rows.laid_math_bits_deBruijn64tab),("internal/strconv.uint64pow10",Rows.laid_internal_strconv_uint64pow10),("unicode/utf8.acceptRanges",Rows.laid_unicode_utf8_acceptRanges),("strconv.ErrRange",Rows.laid_strconv_ErrRange),("strconv.ErrSyntax",Rows.laid_strconv_ErrSyntax),("unicode/utf8.first",Rows.laid_unicode_utf8_first)]
theorem Zo0 (os:Os) (args:Array Value):laidMetH Tryz.prog Zh9 ((World.laidAll Tryz.prog os Zh9).forCall (fun _ _=>0) ⟨#[],args,[]⟩).memory:=by
  rw [MakeChecks.laidMetH_plain _ _ _ (by kernel_rfl)];exact laidMet_laidAll _ (by kernel_rfl) (by kernel_rfl)
theorem Zi4 (os:Os) (args:Array Value):((World.laidAll Tryz.prog os Zh9).forCall (fun _ _=>0) ⟨#[],args,[]⟩).Shaped Tryz.prog:=
  World.shaped_of_ZipB (by kernel_rfl) (by kernel_rfl)
theorem Ze5 {P:Program} {x:String×DataW Unit} {r:List (String×DataW Unit)} {w:World} (h:laidMet P (x::r) w):laidMet P r w:=by
  obtain ⟨ps,⟨g,t,cs,fuel,p,q,hg,ht,hv,hd,hr,rfl⟩,hn,hc⟩:=h;exact ⟨q,hr,(List.nodup_append.1 hn).2.1,fun b off hm=>hc b off (List.mem_append_right _ hm)⟩
theorem Zia {W:World} (h:laidMetH Tryz.prog Zh9 W) (hs:W.ShapedOpen Tryz.prog):TbR W:=by
  rw [MakeChecks.laidMetH_plain _ _ _ (by kernel_rfl)] at h;have h2:=Ze5 (Ze5 h);exact ⟨Lib.tabIs_of_head (g:=5) (t:=461) (e:=345) (n:=20) (by kernel_rfl) (by kernel_rfl) (by kernel_rfl) (by kernel_rfl) (by kernel_rfl) (by kernel_rfl) h2,Tryz.laysM145.s1_3 W hs⟩
section
variable {H:Type} {enc:TypeId×Value->H} {W W':World}
theorem stays {t:TypeId} (ht:t<Tryz.prog.types.size) (hb:Below W.heap.size W W') {v:Value} {d:DataW H} {p:List MemPlace} (h:DataW.Trod enc Tryz.prog W 0 (fun _=>true) true t v d p) (sp:Nat->Bool) (hs: ∀q∈p,sp q.block=true):
    DataW.Trod enc Tryz.prog W' 0 sp true t v d p:=by
 obtain ⟨n,hn⟩:=h;exact ⟨n,DataW.trod_stays Zrd (fun a b=>Zre _ _ a b) (fun e=>by cases e) ht hn (fun q hq=>hb.same (DataW.trod_lt n _ _ _ hn q hq)) hs⟩
theorem Zm7 (hb:Below W.heap.size W W') (sp:Nat->Bool): ∀ {ts:List TypeId} {vs:List Value} {ds:List (DataW H)} {p:List MemPlace},(∀t∈ts,t<Tryz.prog.types.size)->(∀q∈p,sp q.block=true)->
    DataW.TrodAll enc Tryz.prog W 0 (fun _=>true) true ts vs ds p->DataW.TrodAll enc Tryz.prog W' 0 sp true ts vs ds p
 | [],[],[],_,_,_,h=>h
 | _::_,_::_,_::_,_,ht,hs,⟨p,q,h1,h2,e⟩=>
   ⟨p,q,stays (ht _ (by simp)) hb h1 sp (fun x hx=>hs x (by rw [e];simp [hx])),Zm7 hb sp (fun t h=>ht t (by simp [h])) (fun x hx=>hs x (by rw [e];simp [hx])) h2,e⟩
theorem Zo1 {f:Func} {s:ChangeSpec} {args:Array Value} {ds gs:List (DataW H)} {before:List MemPlace} (hs:s.vars=[]) (hr:f.resultTypes.toList=[4]) (hsz:f.resultTypes.size=1) (hT: ∀t∈f.params.toList,t<Tryz.prog.types.size)
    (hW:DataW.Whole enc Tryz.prog f.params.toList s.vars false W args.toList ds gs before) (h1:(s.fn H ds).results=[.lit (.bool true)]) (h2:(s.fn H ds).args=ds) (h3:(s.fn H ds).vars=[]) (hb:Below W.heap.size W W'):
    s.post enc Tryz.prog f false true false false W args (.bool true) W':=by
 have hlt:=hW.lt;have hW0:=hW;obtain ⟨p,q,hA,hV,rfl,hz,hn⟩:=hW;rw [hs] at hV;obtain ⟨rfl,rfl⟩:=trodVars_none hV;rw [List.append_nil] at hlt hW0;refine ⟨ds,[],p,[],p,[],hW0,?_,?_,?_,World.keptBut_mono (fun x hx=>⟨hx,.inr (.inl hx)⟩) (hb.frame (·∈p)),fun e=>by cases e⟩
 ·rw [List.append_nil,h1,hr,hsz];exact trodAll_mk1 (shut_bool Tryz.underlying4 true)
 ·rw [List.append_nil,h2];exact Zm7 hb _ hT (fun x hx=>by simpa using hlt x hx) hA
 ·rw [List.append_nil,h3,hs];rfl
theorem Zsu (b off i:Nat):(⟨b,off,none⟩:Addr).add i=⟨b,off+i,none⟩:=add_plain _ _ _
theorem Zo2 {α:Type} (f:α->List Value) (sz:Nat) (hsz:0<sz) (hf: ∀x,(f x).length=sz) {n c:Nat} {a:Addr} (hn:n<=9223372036854775807) (x0:α)
    (Q:α->Prop) (hx: ∀i,i<n->∃x:α,(∀j u,(f x)[j]?=some u->W.cell? (a.add (i* sz+j))=some u)/\Q x):
    ∃l:List α,l.length=n/\SlL f sz W W.heap.size (.slice (some a) n c) l/\∀x∈l,Q x:=by
 have hch: ∃g:Nat->α,∀i,i<n->(∀j u,(f (g i))[j]?=some u->W.cell? (a.add (i* sz+j))=some u)/\Q (g i):=by
   refine ⟨fun i=>if h:i<n then Classical.choose (hx i h) else x0,fun i hi=> ?_⟩;simp only [dif_pos hi];exact Classical.choose_spec (hx i hi)
 obtain ⟨g,hg⟩:=hch;have hl:((List.range n).map g).length=n:=by simp
 refine ⟨(List.range n).map g,hl,⟨some a,c,by rw [hl],by rw [hl];exact hn,fun h0=> ?_⟩,fun x hx=> ?_⟩
 ·rw [hl] at h0;have hne:(f (g 0))≠ []:=by intro e;have:=hf (g 0);rw [e] at this;simp at this;omega
  obtain ⟨u0,us,e0⟩:=List.exists_cons_of_ne_nil hne;have h00:=(hg 0 h0).1 0 u0 (by rw [e0];rfl);obtain ⟨b,off,spot⟩:=a;have hs2:spot=none:=by simpa [Addr.add] using World.cell?_spot h00
  subst hs2;refine ⟨b,off,rfl,by simpa [Addr.add] using World.block_lt_of_cell? _ _ h00,fun i hi j u hu=> ?_⟩;have:=(hg i (by rw [hl] at hi;exact hi)).1 j u (by simpa using hu);rw [Zsu] at this;rw [Nat.add_assoc];exact this
 ·simp only [List.mem_map,List.mem_range] at hx;obtain ⟨i,hi,rfl⟩:=hx;exact (hg i hi).2
theorem Zdo {α:Type} {t e:TypeId} (f:α->List Value) (sz:Nat) (ht:Tryz.prog.underlying t=some (.slice e)) (hsz:0<sz) (hce:Tryz.prog.cellsOf e=sz) (hf: ∀x,(f x).length=sz) (x0:α) (Q:α->Prop)
    (hel: ∀ {fuel:Nat} {cs:List Value} {x:DataW H×List MemPlace},DataW.trod enc Tryz.prog W 0 (fun _=>true) true fuel e cs=some x->∃y:α,cs=f y/\Q y)
    {fuel n c:Nat} {a:Option Addr} {x:DataW H×List MemPlace} (h:DataW.trod enc Tryz.prog W 0 (fun _=>true) true fuel t [.slice a n c]=some x):
    ∃l,l.length=n/\SlL f sz W W.heap.size (.slice a n c) l/\∀y∈l,Q y:=by
 rcases open_slice ht h with ⟨hcs,_⟩|⟨a',len,cap,m,k,D,Pl,hcs,_,hl,hm,hz,_,hcell⟩
 ·simp at hcs;obtain ⟨rfl,rfl,rfl⟩:=hcs;exact ⟨[],rfl,⟨none,0,rfl,by simp,fun h=>absurd h (by simp)⟩,by simp⟩
 ·simp at hcs;obtain ⟨rfl,rfl,rfl⟩:=hcs;simp only [if_true] at hz;subst hz;rw [hce] at hcell;refine Zo2 f sz hsz hf (by unfold maxLen at hm;omega) x0 Q (fun i hi=> ?_);obtain ⟨cs',h0,h1⟩:=hcell i (by omega);obtain ⟨y,rfl,hy⟩:=hel h1;obtain ⟨_,hcl,hat⟩:=World.cells?_some h0;refine ⟨y,fun j u hu=> ?_,hy⟩;have hj:j<sz:=by have:=(List.getElem?_eq_some_iff.1 hu).1;rwa [hf] at this
  rw [<-Go.Deep.add_add,hat j hj,hu]
theorem Zfi {fuel:Nat} {cs:List Value} {x:DataW H×List MemPlace} (h:DataW.trod enc Tryz.prog W 0 (fun _=>true) true fuel 3 cs=some x): ∃y:Int,cs=encI y/\(Lit.int .i64 y).wf=true:=by
  obtain ⟨k,e1,_,w⟩:=DataW.trod_int Tryz.underlying3 h;exact ⟨k,e1,w⟩
theorem Zjw {fuel:Nat} {cs:List Value} {x:DataW H×List MemPlace} (h:DataW.trod enc Tryz.prog W 0 (fun _=>true) true fuel 32 cs=some x): ∃y:List UInt8,cs=encT y/\True:=by
  obtain ⟨s,e1,_,hs⟩:=DataW.trod_string Tryz.underlying32 h;exact ⟨s.data.toList,by rw [e1];rfl,trivial⟩
theorem Zrf {fuel:Nat} {cs:List Value} {x:DataW H×List MemPlace} (h:DataW.trod enc Tryz.prog W 0 (fun _=>true) true fuel 63 cs=some x): ∃y:HoR,cs=Zf2 y/\True:=by
  obtain ⟨xs,n,_,_,hl,hx,hf⟩:=DataW.trod_struct Tryz.underlying63 h;rw [show Tryz.prog.cellsOf 63=3 from by kernel_rfl] at hl
  match cs,hl with
  | [c0,c1,c2],_=>
    have f0:DataW.trod enc Tryz.prog W 0 (fun _=>true) true n 3 (([c0,c1,c2].drop 0).take (Tryz.prog.cellsOf 3))=xs[0]?:=hf 0 _ rfl;have f1:DataW.trod enc Tryz.prog W 0 (fun _=>true) true n 3 (([c0,c1,c2].drop 1).take (Tryz.prog.cellsOf 3))=xs[1]?:=hf 1 _ rfl;have f2:DataW.trod enc Tryz.prog W 0 (fun _=>true) true n 3 (([c0,c1,c2].drop 2).take (Tryz.prog.cellsOf 3))=xs[2]?:=hf 2 _ rfl;have hx2:xs.length=3:=hx;rw [List.getElem?_eq_getElem (show 0<xs.length by omega),show Tryz.prog.cellsOf 3=1 from by kernel_rfl] at f0;rw [List.getElem?_eq_getElem (show 1<xs.length by omega),show Tryz.prog.cellsOf 3=1 from by kernel_rfl] at f1;rw [List.getElem?_eq_getElem (show 2<xs.length by omega),show Tryz.prog.cellsOf 3=1 from by kernel_rfl] at f2;obtain ⟨a,e0,_,_⟩:=DataW.trod_int Tryz.underlying3 f0;obtain ⟨b,e1,_,_⟩:=DataW.trod_int Tryz.underlying3 f1;obtain ⟨c,e2,_,_⟩:=DataW.trod_int Tryz.underlying3 f2;simp at e0 e1 e2;subst e0 e1 e2;exact ⟨⟨a,b,c⟩,rfl,trivial⟩
theorem Zib {n c:Nat} {a:Option Addr} {d:DataW H} {p:List MemPlace} (h:DataW.Trod enc Tryz.prog W 0 (fun _=>true) true 27 (.slice a n c) d p):
    ∃l,SlL encI 1 W W.heap.size (.slice a n c) l/\l.length=n/\∀y∈l,(Lit.int .i64 y).wf=true:=by
 obtain ⟨fuel,hf⟩:=h;obtain ⟨l,h1,h2,h3⟩:=Zdo encI 1 Tryz.underlying27 (by omega) (by kernel_rfl) (fun _=>rfl) (0:Int) _ Zfi hf;exact ⟨l,h2,h1,h3⟩
theorem Zm8 {r:Reach} {b0:Nat} {v:Value} {d:DataW H} {p:List MemPlace} (hv:Value.okWide Tryz.prog W r b0 51 v) (h:DataW.Trod enc Tryz.prog W 0 (fun _=>true) true 51 v d p):
    ∃ (ah aw ac az ab:Option Addr) (nh nw nc ns nb ch cw cc cs cb:Nat) (tr:List UInt8) (hs:List HoR) (wt sh be:List Int) (ca:List (List UInt8)),
      v= .agg #[.slice ah nh ch,.slice aw nw cw,.slice ac nc cc,.slice az ns cs,.slice ab nb cb,.string (tx tr)]/\
      SlL Zf2 3 W W.heap.size (.slice ah nh ch) hs/\SlL encI 1 W W.heap.size (.slice aw nw cw) wt/\SlL encT 1 W W.heap.size (.slice ac nc cc) ca/\SlL encI 1 W W.heap.size (.slice az ns cs) sh/\SlL encI 1 W W.heap.size (.slice ab nb cb) be:=by
 obtain ⟨cs0,rfl,hsz⟩:=okWide_struct Tryz.underlying51 hv;rw [show Tryz.prog.cellsOf 51=6 from by kernel_rfl] at hsz;obtain ⟨fuel,hf⟩:=h;obtain ⟨l0⟩:=cs0
 match l0,hsz with
 | [v0,v1,v2,v3,v4,v5],_=>
   have hf:DataW.trod enc Tryz.prog W 0 (fun _=>true) true fuel 51 [v0,v1,v2,v3,v4,v5]=some (d,p):=hf;obtain ⟨xs,n,_,_,_,hx,hg⟩:=DataW.trod_struct Tryz.underlying51 hf;have hx6:xs.length=6:=hx;have f0:DataW.trod enc Tryz.prog W 0 (fun _=>true) true n 49 (([v0,v1,v2,v3,v4,v5].drop 0).take (Tryz.prog.cellsOf 49))=xs[0]?:=hg 0 _ rfl;have f1:DataW.trod enc Tryz.prog W 0 (fun _=>true) true n 27 (([v0,v1,v2,v3,v4,v5].drop 1).take (Tryz.prog.cellsOf 27))=xs[1]?:=hg 1 _ rfl;have f2:DataW.trod enc Tryz.prog W 0 (fun _=>true) true n 42 (([v0,v1,v2,v3,v4,v5].drop 2).take (Tryz.prog.cellsOf 42))=xs[2]?:=hg 2 _ rfl;have f3:DataW.trod enc Tryz.prog W 0 (fun _=>true) true n 27 (([v0,v1,v2,v3,v4,v5].drop 3).take (Tryz.prog.cellsOf 27))=xs[3]?:=hg 3 _ rfl;have f4:DataW.trod enc Tryz.prog W 0 (fun _=>true) true n 27 (([v0,v1,v2,v3,v4,v5].drop 4).take (Tryz.prog.cellsOf 27))=xs[4]?:=hg 4 _ rfl;have f5:DataW.trod enc Tryz.prog W 0 (fun _=>true) true n 32 (([v0,v1,v2,v3,v4,v5].drop 5).take (Tryz.prog.cellsOf 32))=xs[5]?:=hg 5 _ rfl;rw [List.getElem?_eq_getElem (show 0<xs.length by omega),show Tryz.prog.cellsOf 49=1 from by kernel_rfl] at f0;rw [List.getElem?_eq_getElem (show 1<xs.length by omega),show Tryz.prog.cellsOf 27=1 from by kernel_rfl] at f1;rw [List.getElem?_eq_getElem (show 2<xs.length by omega),show Tryz.prog.cellsOf 42=1 from by kernel_rfl] at f2;rw [List.getElem?_eq_getElem (show 3<xs.length by omega),show Tryz.prog.cellsOf 27=1 from by kernel_rfl] at f3;rw [List.getElem?_eq_getElem (show 4<xs.length by omega),show Tryz.prog.cellsOf 27=1 from by kernel_rfl] at f4;rw [List.getElem?_eq_getElem (show 5<xs.length by omega),show Tryz.prog.cellsOf 32=1 from by kernel_rfl] at f5;have f0:DataW.trod enc Tryz.prog W 0 (fun _=>true) true n 49 [v0]=some xs[0]:=f0;have f1:DataW.trod enc Tryz.prog W 0 (fun _=>true) true n 27 [v1]=some xs[1]:=f1;have f2:DataW.trod enc Tryz.prog W 0 (fun _=>true) true n 42 [v2]=some xs[2]:=f2;have f3:DataW.trod enc Tryz.prog W 0 (fun _=>true) true n 27 [v3]=some xs[3]:=f3;have f4:DataW.trod enc Tryz.prog W 0 (fun _=>true) true n 27 [v4]=some xs[4]:=f4;obtain ⟨ah,nh,ch,e0⟩:=slice_form Tryz.underlying49 f0;obtain ⟨aw,nw,cw,e1⟩:=slice_form Tryz.underlying27 f1;obtain ⟨ac,nc,cc,e2⟩:=slice_form Tryz.underlying42 f2;obtain ⟨az,ns,cs,e3⟩:=slice_form Tryz.underlying27 f3;obtain ⟨ab,nb,cb,e4⟩:=slice_form Tryz.underlying27 f4;obtain ⟨tr,e5,_⟩:=Zjw f5;cases e0;cases e1;cases e2;cases e3;cases e4;simp [encT] at e5;subst e5;obtain ⟨l0,_,h0,_⟩:=Zdo Zf2 3 Tryz.underlying49 (by omega) (by kernel_rfl) Zh2 default _ Zrf f0;obtain ⟨l1,_,h1,_⟩:=Zdo encI 1 Tryz.underlying27 (by omega) (by kernel_rfl) (fun _=>rfl) (0:Int) _ Zfi f1;obtain ⟨l2,_,h2,_⟩:=Zdo encT 1 Tryz.underlying42 (by omega) (by kernel_rfl) (fun _=>rfl) ([]:List UInt8) _ Zjw f2;obtain ⟨l3,_,h3,_⟩:=Zdo encI 1 Tryz.underlying27 (by omega) (by kernel_rfl) (fun _=>rfl) (0:Int) _ Zfi f3;obtain ⟨l4,_,h4,_⟩:=Zdo encI 1 Tryz.underlying27 (by omega) (by kernel_rfl) (fun _=>rfl) (0:Int) _ Zfi f4;exact ⟨ah,aw,ac,az,ab,nh,nw,nc,ns,nb,ch,cw,cc,cs,cb,tr,l0,l1,l3,l4,l2,rfl,h0,h1,h2,h3,h4⟩
theorem Zi5 {a:Assume} {C:Checked} {os:Os} {f:FuncId} {fn:Func} {s:ChangeSpec} {conds:List PathCond} {apart fresh handsOn again:Bool} {X:World->Array Value->Prop}
    (hX: ∀ (w w':World) (args:Array Value),w.heap=w'.heap->X w args->X w' args)
    (own:ownKnob C.prog.godebug=none) (started:os.Started) (noInit:C.prog.inits.idxOf? f=none) (hfn:C.prog.funcs[f]?=some fn)
    (witness: ∃ (w:World) (tape:Tape) (i:Input),w.os=os/\(w.forCall tape i).Shaped C.prog/\i.vars=[]/\Input.okWide C.prog (w.forCall tape i) .any w.heap.size f i/\
      ((s.pre enc C.prog fn conds apart (w.forCall tape i).memory i.args/\X (w.forCall tape i).memory i.args)/\sizedMet enc C.prog fn (OpenSpec.ofChange s) apart (w.forCall tape i).memory i.args)/\a.holds C.prog (lone (Frame.enter C.prog f i.args .normal) [] (w.forCall tape i)))
    (contract: ∀ (W:World) (base:Nat) (args:Array Value) (ds gs:List (DataW H)) (before:List MemPlace),
      (∀ (j:Nat) t v,fn.params[j]?=some t->args[j]?=some v->Value.okWide C.prog W .any base t v)->
      DataW.Whole enc C.prog fn.params.toList s.vars apart W args.toList ds gs before->
      X W args->W.ShapedOpen C.prog->
      Calls C.prog f args W fun e W'=> ∃v,e= .returned v/\s.post enc C.prog fn apart fresh handsOn again W args v W'):
    ReturnsInHanded a C os f .any (fun w args=>(s.pre enc C.prog fn conds apart w args/\X w args)/\sizedMet enc C.prog fn (OpenSpec.ofChange s) apart w args) (s.post enc C.prog fn apart fresh handsOn again):=by
 refine returnsInHanded_of_calls own started noInit witness ?_;intro w tape i _ hsh _ hok hpre _;obtain ⟨_,_,_,fn',hfn',_,_,_,_,hval⟩:=hok;have e:fn'=fn:=Option.some.inj (hfn'.symm.trans hfn);subst e;obtain ⟨⟨⟨ds,gs,before,hw,_⟩,hx⟩,_⟩:=hpre;have hw':=DataW.Whole.of_heap (w':=w.forCall tape i) (by rfl) hw;refine (contract (w.forCall tape i) w.heap.size i.args ds gs before hval hw' (hX _ _ _ (by rfl) hx) hsh).mono fun e W' ⟨v,he,hp⟩=> ?_;subst he;exact ChangeSpec.post_blind hp
end
end Go.Proofs.YtijajkfmlghgkaaGreatDoor.Nu
