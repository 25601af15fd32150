/- Lemmas on the way to the law TopMirrored: Ug Uh Um Vl Sb Sc Uj Uk Xc -/
import Derived.Test.YtijajkfmlghgkaaGreatDoorTopMirroredP17
set_option linter.unusedVariables false
set_option linter.unusedSimpArgs false
set_option maxRecDepth 100000
set_option maxHeartbeats 4000000
namespace Go.Proofs.YtijajkfmlghgkaaGreatDoor.Nu
open Go Go.Proofs Go.RowKit Go.Proofs.YtijajkfmlghgkaaGreatDoor
def cntL (s:Shp) (ms:List Int) (k:Nat):Nat:=if k=0 then ms.length else if k=4 then 1 else s.wt.length
def okL (s:Shp) (ms:List Int) (k i:Nat):Bool:=
  if k=0 then decide (ms.getD i 0<=(s.hs.getD i default).room)
  else if k=1 then decide (0<=buoR (cF s) (lF s ms) s.wt.length i)
  else if k=2 then decide (sheR (cF s) (lF s ms) s.wt.length i<=((s.sh.getD i 0:Int):Rat)/\ -sheR (cF s) (lF s ms) s.wt.length i<=((s.sh.getD i 0:Int):Rat))
  else if k=3 then decide (benR (cF s) (lF s ms) s.wt.length i<=((s.be.getD i 0:Int):Rat)/\ -benR (cF s) (lF s ms) s.wt.length i<=((s.be.getD i 0:Int):Rat))
  else decide (trmR (cF s) (lF s ms) s.wt.length<=s.t/\ -trmR (cF s) (lF s ms) s.wt.length<=s.t)
def SafeS (s:Shp) (ms:List Int):Prop:=(∀i,i<ms.length->ms.getD i 0<=(s.hs.getD i default).room)/\SafeR (cF s) (lF s ms) s.wt.length (fun k=>((s.sh.getD k 0:Int):Rat)) (fun k=>((s.be.getD k 0:Int):Rat)) s.t
theorem Zb5 (s:Shp) (ms:List Int):SafeS s ms↔∀k,k<5->∀i,i<cntL s ms k->okL s ms k i=true:=by
  constructor
  ·rintro ⟨h1,h2⟩ k hk i hi
   rcases (by omega:k=0∨k=1∨k=2∨k=3∨k=4) with rfl|rfl|rfl|rfl|rfl
   ·exact Zt (h1 i hi)
   ·exact Zt (h2.lift i hi)
   ·exact Zt (h2.sh i hi)
   ·exact Zt (h2.be i hi)
   ·exact Zt h2.tr
  ·intro h;exact ⟨fun i hi=>of_decide_eq_true (h 0 (by decide) i hi),⟨fun i hi=>of_decide_eq_true (h 1 (by decide) i hi),fun i hi=>of_decide_eq_true (h 2 (by decide) i hi),fun i hi=>of_decide_eq_true (h 3 (by decide) i hi),of_decide_eq_true (h 4 (by decide) 0 (by show 0<1;decide))⟩⟩
section
variable (w:World) (b:Nat) (x:ShV) (s:Shp) (vm:Value) (ms:List Int) (h:LmR w b x s vm ms) (ok:ShOk s) (cg:CgOk s ms) (i:Nat)
include h ok cg
omit ok in
theorem okC0 (h1:i<cntL s ms 0):Calls Tryz.prog 287 #[.pointer (some ⟨b,0,none⟩),.int .i64 (i:Int)] w (Ret (.bool (okL s ms 0 i)) w):=by
  have h2:i<ms.length:=h1;have h3:i<s.hs.length:=by rw [<-cg.len];exact h2
  show Calls Tryz.prog 287 _ w (Ret (.bool (decide (ms.getD i 0<=(s.hs.getD i default).room))) w);rw [Zax h2,Zax h3];exact Zoa w b x s vm ms h i h2 h3
omit ok cg in
theorem okC1 (h1:i<cntL s ms 1):Calls Tryz.prog 288 #[.pointer (some ⟨b,0,none⟩),.int .i64 (i:Int)] w (Ret (.bool (okL s ms 1 i)) w):=Zob w b x s vm ms h i h1
theorem okC2 (h1:i<cntL s ms 2):Calls Tryz.prog 289 #[.pointer (some ⟨b,0,none⟩),.int .i64 (i:Int)] w (Ret (.bool (okL s ms 2 i)) w):=Zoc w b x s vm ms h ok cg i h1
theorem okC3 (h1:i<cntL s ms 3):Calls Tryz.prog 291 #[.pointer (some ⟨b,0,none⟩),.int .i64 (i:Int)] w (Ret (.bool (okL s ms 3 i)) w):=Zod w b x s vm ms h ok cg i h1
theorem okC4 (hw:TbR w):Calls Tryz.prog 293 #[.pointer (some ⟨b,0,none⟩),.int .i64 (i:Int)] w (Ret (.bool (okL s ms 4 i)) w):=Zoe w hw b x s vm ms h ok cg i
end
def Zse (w:World) (s:Shp) (ms:List Int) (e:Ending) (w':World):Prop:=∃ (S:ByteArray) (z:Int) (t:Bool),e= .returned (.tuple #[.string S,.int .i64 z])/\S.toList.isEmpty=t/\(t=true↔SafeS s ms)/\Below w.heap.size w w'
theorem idxL0 (u:World):Sem.run Tryz.prog (Instr.index 309 limV (.int .i64 0)) u= .ok (.agg #[.string ⟨#[114,111,111,109]⟩,.func (.func 286) #[] #[],.func (.func 287) #[] #[]]) u:=by kernel_rfl
theorem idxL1 (u:World):Sem.run Tryz.prog (Instr.index 309 limV (.int .i64 1)) u= .ok (.agg #[.string ⟨#[108,105,102,116]⟩,.func (.func 285) #[] #[],.func (.func 288) #[] #[]]) u:=by kernel_rfl
theorem idxL2 (u:World):Sem.run Tryz.prog (Instr.index 309 limV (.int .i64 2)) u= .ok (.agg #[.string ⟨#[115,104,101,97,114]⟩,.func (.func 285) #[] #[],.func (.func 289) #[] #[]]) u:=by kernel_rfl
theorem idxL3 (u:World):Sem.run Tryz.prog (Instr.index 309 limV (.int .i64 3)) u= .ok (.agg #[.string ⟨#[98,101,110,100,105,110,103]⟩,.func (.func 285) #[] #[],.func (.func 291) #[] #[]]) u:=by kernel_rfl
theorem idxL4 (u:World):Sem.run Tryz.prog (Instr.index 309 limV (.int .i64 4)) u= .ok (.agg #[.string ⟨#[116,114,105,109]⟩,.func (.func 292) #[] #[],.func (.func 293) #[] #[]]) u:=by kernel_rfl
theorem Zof (w:World) (hw:TbR w) (x:ShV) (s:Shp) (vm:Value) (ms:List Int) (hs:ShR w x s) (hm:Sl encI 1 w w.heap.size vm ms) (ok:ShOk s) (cg:CgOk s ms):Calls Tryz.prog 156 #[x.v s.t,vm] w (Zse w s ms):=by
  have HFL:=Zh (fun (u:World) (hb:Below w.heap.size w u)=>(by exact (Zd6 u (hw.later hb) x s vm ms (hs.later hb) (hm.later hb) ok cg).mono (fun e w' ⟨b,h1,h2,h3⟩=>⟨b,h1,⟨h2,(hs.later hb).later h3,(hm.later hb).later h3⟩,h3⟩):Calls Tryz.prog 150 #[.agg #[.slice x.ah x.nh x.ch,.slice x.aw x.nw x.cw,.slice x.ac x.nc x.cc,.slice x.az x.ns x.cs,.slice x.ab x.nb x.cb,.string (txq s.t)],vm] u (fun e w'=> ∃b,e= .returned (.pointer (some ⟨b,0,none⟩))/\LmR w' b x s vm ms/\Below u.heap.size u w')));have HLS:=Zh (fun (u:World)=>Zmg u);have HN1:=Zh (fun (u:World) (b:Nat) (h:LmR u b x s vm ms)=>(by exact Zn8 u b x s vm ms h:Calls Tryz.prog 286 #[.pointer (some ⟨b,0,none⟩)] u (Ret (.int .i64 (cntL s ms 0:Nat)) u)));have HN2:=Zh (fun (u:World) (b:Nat) (h:LmR u b x s vm ms)=>(Zn7 u b x s vm ms h:Calls Tryz.prog 285 #[.pointer (some ⟨b,0,none⟩)] u (Ret (.int .i64 (s.wt.length:Nat)) u)));have HN3:=Zh (fun (u:World) (b:Nat)=>Zn9 u b);have HC0:=Zh (fun (u:World) (b:Nat) (h:LmR u b x s vm ms) (i:Nat) (hi:i<cntL s ms 0)=>okC0 u b x s vm ms h cg i hi);have HC1:=Zh (fun (u:World) (b:Nat) (h:LmR u b x s vm ms) (i:Nat) (hi:i<cntL s ms 1)=>okC1 u b x s vm ms h i hi);have HC2:=Zh (fun (u:World) (b:Nat) (h:LmR u b x s vm ms) (i:Nat) (hi:i<cntL s ms 2)=>okC2 u b x s vm ms h ok cg i hi);have HC3:=Zh (fun (u:World) (b:Nat) (h:LmR u b x s vm ms) (i:Nat) (hi:i<cntL s ms 3)=>okC3 u b x s vm ms h ok cg i hi);have HC4:=Zh (fun (u:World) (hb:Below w.heap.size w u) (b:Nat) (h:LmR u b x s vm ms) (i:Nat)=>okC4 u b x s vm ms h ok cg i (hw.later hb));have HSF:=Zh (Zb5 s ms);have HCN:=Zh (show cntL s ms 1=s.wt.length/\cntL s ms 2=s.wt.length/\cntL s ms 3=s.wt.length/\cntL s ms 4=1 from ⟨rfl,rfl,rfl,rfl⟩);have HBG:=Zh (show cntL s ms 0<=12/\s.wt.length<=6 from ⟨by show ms.length<=12;rw [cg.len];exact ok.h12,ok.n6⟩);clear hw hs hm ok cg;obtain ⟨ah,aw,ac,az,ab,nh,nw,nc,ns,nb,ch,cw,cc,cz,cb⟩:=x;dsimp only at HFL;show Calls Tryz.prog 156 #[.agg #[.slice ah nh ch,.slice aw nw cw,.slice ac nc cc,.slice az ns cz,.slice ab nb cb,.string (txq s.t)],vm] w _;generalize txq s.t=T at HFL ⊢;obtain ⟨n0,hn0⟩: ∃n,cntL s ms 0=n:=⟨_,rfl⟩;obtain ⟨n1,hn1⟩: ∃n,s.wt.length=n:=⟨_,rfl⟩;have HK0:=Zh hn0;rw [hn0] at HN1 HBG;rw [hn1] at HN2 HCN HBG;clear hn0 hn1;have HB:=Zh ((Below.refl w.heap.size w).alloc (Nat.le_refl _) (.cells #[.slice ah nh ch,.slice aw nw cw,.slice ac nc cc,.slice az ns cz,.slice ab nb cb,.string T] 51));have HX:=Zh (Box.new w #[.slice ah nh ch,.slice aw nw cw,.slice ac nc cc,.slice az ns cz,.slice ab nb cb,.string T] 51);obtain ⟨x0,x1,x2,x3,x4,x5,xf,xz⟩:=HX.w6;have HS:=Zh (HFL.out _ HB.out);go_enter Tryz.func156,Tryz.ntmps156;go_wp2_with fail;refine HS.mono ?_;rintro e4 w4 ⟨b,rfl,ha,hb⟩;replace HB:=Zh (HB.Zg hb);replace HX:=Zh (HX.later hb);clear hb x0 x1 x2 x3 x4 x5 xf xz;obtain ⟨x0,x1,x2,x3,x4,x5,xf,xz⟩:=HX.w6;clear HFL HS;have HA:=Zh ha;have HS:=Zh (HLS.out w4);clear ha;go_wp2_with fail;refine HS.mono ?_;rintro e5 w5 ⟨rfl,hb⟩;have HA5:=Zh (HA.later hb);replace HB:=Zh (HB.Zg hb);replace HX:=Zh (HX.later hb);clear hb x0 x1 x2 x3 x4 x5 xf xz;obtain ⟨x0,x1,x2,x3,x4,x5,xf,xz⟩:=HX.w6;clear HS HLS HA HX x0 x1 x2 x3 x4 x5 xf xz;go_wp2_with fail
  go_loopw [14] (fun i wr=> ∃k:Nat,k<=5/\i= .int .i64 k/\Hid (Below w.heap.size w wr)/\Hid (LmR wr b ⟨ah,aw,ac,az,ab,nh,nw,nc,ns,nb,ch,cw,cc,cz,cb⟩ s vm ms)/\Hid (∀j,j<k->∀i,i<cntL s ms j->okL s ms j i=true)) (fun i _=>5-(intOf i).toNat)
  case atStart=>exact ⟨0,by omega,rfl,HB,HA5,Zh (fun j hj=>by omega)⟩
  case round=>
    obtain ⟨k,hk,rfl,HBE,HAE,HAL⟩:=hrel;clear HB HA5
    rcases (by omega:k=0∨k=1∨k=2∨k=3∨k=4∨k=5) with rfl|rfl|rfl|rfl|rfl|rfl
    ·have HBA:=Zh (show Below wr.heap.size wr (wr.alloc (.cells #[.string ⟨#[114,111,111,109]⟩,.func (.func 286) #[] #[],.func (.func 287) #[] #[]] 308)) from (Below.refl _ _).alloc (Nat.le_refl _) _);have HXA:=Zh (Box.new wr #[.string ⟨#[114,111,111,109]⟩,.func (.func 286) #[] #[],.func (.func 287) #[] #[]] 308);obtain ⟨x0,x1,x2,xf,xz⟩:=HXA.w3;have HS:=Zh (HN1.out _ _ (HAE.later HBA.out));have hix:=idxL0 wr;go_wp2_with fail;refine HS.mono ?_;rintro e6 w6 ⟨rfl,hb⟩;have HX6:=Zh (HXA.later hb);have HB6:=Zh (HBA.Zg hb);clear x0 x1 x2 xf xz HS HXA HBA hb hix;go_wp2_with fail
     go_loopw [21] (fun v wi=> ∃i:Nat,i<=n0/\v= .int .i64 i/\Hid (Below wr.heap.size wr wi)/\Hid (Box wi wr.heap.size 308 [.string ⟨#[114,111,111,109]⟩,.func (.func 286) #[] #[],.func (.func 287) #[] #[]])/\Hid (∀j,j<i->okL s ms 0 j=true)) (fun v _=>n0-(intOf v).toNat)
     case atStart=>exact ⟨0,by omega,rfl,HB6,HX6,Zh (fun j hj=>by omega)⟩
     case round=>
       obtain ⟨i,hi,rfl,HBI,HXI,HOI⟩:=hrel;clear HB6 HX6;have hbg:=HBG.out;have HAE2:=Zh (HAE.later HBI.out);have HBE2:=Zh (HBE.trans (HBI.mono HBE.size))
       by_cases hlt:i<n0
       ·obtain ⟨x0,x1,x2,xf,xz⟩:=HXI.w3;obtain ⟨t,ht⟩: ∃t,okL s ms 0 i=t:=⟨_,rfl⟩;have HT:=Zh ht;have HS:=Zh (by have h:=HC0.out _ _ HAE2.out i (by rw [HK0.out];exact hlt);rw [ht] at h;exact h:Calls Tryz.prog 287 #[.pointer (some ⟨b,0,none⟩),.int .i64 (i:Int)] _ (Ret (.bool t) _));clear ht;go_wp2_with fail;refine HS.mono ?_;rintro e7 w7 ⟨rfl,hb⟩;have HX7:=Zh (HXI.later hb);have HB7:=Zh (HBI.Zg hb);have HBE7:=Zh (HBE2.Zg hb);clear x0 x1 x2 xf xz HS hb HXI HBI;cases t with
        | true=>
          go_wp2_with fail;go_roundw
          case rel=>exact ⟨i+1,by omega,by go_num,HB7,HX7,Zh (fun j hj=>by
            by_cases h:j=i
            ·rw [h];exact HT.out
            ·exact HOI.out j (by omega))⟩
          case measure=>simp [intOf];omega
        | false=>
          obtain ⟨x0,x1,x2,xf,xz⟩:=HX7.w3;go_wp2_with fail;refine bodyPost_ret (v:= .tuple #[.string ⟨#[114,111,111,109]⟩,.int .i64 (i:Int)]) (by simp [results,Tryz.results156,go_sem, *]) rfl ?_;refine ⟨_,_,false,rfl,by rw [Lib.toList_data];rfl,⟨fun h=>Bool.noConfusion h,fun h=> ?_⟩,HBE7.out⟩;have h2:=HSF.out.1 h 0 (by decide) i (by rw [HK0.out];exact hlt);rw [HT.out] at h2;exact Bool.noConfusion h2
       ·obtain rfl:i=n0:=by omega
        clear HXI;go_wp2_with fail;go_roundw
        case rel=>exact ⟨1,by omega,by go_num,HBE2,HAE2,Zh (fun j hj i2 hi2=>by
          by_cases h:j=0
          ·subst h;rw [HK0.out] at hi2;exact HOI.out i2 hi2
          ·exact HAL.out j (by omega) i2 hi2)⟩
        case measure=>simp [intOf]
    ·have HBA:=Zh (show Below wr.heap.size wr (wr.alloc (.cells #[.string ⟨#[108,105,102,116]⟩,.func (.func 285) #[] #[],.func (.func 288) #[] #[]] 308)) from (Below.refl _ _).alloc (Nat.le_refl _) _);have HXA:=Zh (Box.new wr #[.string ⟨#[108,105,102,116]⟩,.func (.func 285) #[] #[],.func (.func 288) #[] #[]] 308);obtain ⟨x0,x1,x2,xf,xz⟩:=HXA.w3;have HS:=Zh (HN2.out _ _ (HAE.later HBA.out));have hix:=idxL1 wr;go_wp2_with fail;refine HS.mono ?_;rintro e6 w6 ⟨rfl,hb⟩;have HX6:=Zh (HXA.later hb);have HB6:=Zh (HBA.Zg hb);clear x0 x1 x2 xf xz HS HXA HBA hb hix;go_wp2_with fail
     go_loopw [21] (fun v wi=> ∃i:Nat,i<=n1/\v= .int .i64 i/\Hid (Below wr.heap.size wr wi)/\Hid (Box wi wr.heap.size 308 [.string ⟨#[108,105,102,116]⟩,.func (.func 285) #[] #[],.func (.func 288) #[] #[]])/\Hid (∀j,j<i->okL s ms 1 j=true)) (fun v _=>n1-(intOf v).toNat)
     case atStart=>exact ⟨0,by omega,rfl,HB6,HX6,Zh (fun j hj=>by omega)⟩
     case round=>
       obtain ⟨i,hi,rfl,HBI,HXI,HOI⟩:=hrel;clear HB6 HX6;have hbg:=HBG.out;have HAE2:=Zh (HAE.later HBI.out);have HBE2:=Zh (HBE.trans (HBI.mono HBE.size))
       by_cases hlt:i<n1
       ·obtain ⟨x0,x1,x2,xf,xz⟩:=HXI.w3;obtain ⟨t,ht⟩: ∃t,okL s ms 1 i=t:=⟨_,rfl⟩;have HT:=Zh ht;have HS:=Zh (by have h:=HC1.out _ _ HAE2.out i (by rw [HCN.out.1];exact hlt);rw [ht] at h;exact h:Calls Tryz.prog 288 #[.pointer (some ⟨b,0,none⟩),.int .i64 (i:Int)] _ (Ret (.bool t) _));clear ht;go_wp2_with fail;refine HS.mono ?_;rintro e7 w7 ⟨rfl,hb⟩;have HX7:=Zh (HXI.later hb);have HB7:=Zh (HBI.Zg hb);have HBE7:=Zh (HBE2.Zg hb);clear x0 x1 x2 xf xz HS hb HXI HBI;cases t with
        | true=>
          go_wp2_with fail;go_roundw
          case rel=>exact ⟨i+1,by omega,by go_num,HB7,HX7,Zh (fun j hj=>by
            by_cases h:j=i
            ·rw [h];exact HT.out
            ·exact HOI.out j (by omega))⟩
          case measure=>simp [intOf];omega
        | false=>
          obtain ⟨x0,x1,x2,xf,xz⟩:=HX7.w3;go_wp2_with fail;refine bodyPost_ret (v:= .tuple #[.string ⟨#[108,105,102,116]⟩,.int .i64 (i:Int)]) (by simp [results,Tryz.results156,go_sem, *]) rfl ?_;refine ⟨_,_,false,rfl,by rw [Lib.toList_data];rfl,⟨fun h=>Bool.noConfusion h,fun h=> ?_⟩,HBE7.out⟩;have h2:=HSF.out.1 h 1 (by decide) i (by rw [HCN.out.1];exact hlt);rw [HT.out] at h2;exact Bool.noConfusion h2
       ·obtain rfl:i=n1:=by omega
        clear HXI;go_wp2_with fail;go_roundw
        case rel=>exact ⟨2,by omega,by go_num,HBE2,HAE2,Zh (fun j hj i2 hi2=>by
          by_cases h:j=1
          ·subst h;rw [HCN.out.1] at hi2;exact HOI.out i2 hi2
          ·exact HAL.out j (by omega) i2 hi2)⟩
        case measure=>simp [intOf]
    ·have HBA:=Zh (show Below wr.heap.size wr (wr.alloc (.cells #[.string ⟨#[115,104,101,97,114]⟩,.func (.func 285) #[] #[],.func (.func 289) #[] #[]] 308)) from (Below.refl _ _).alloc (Nat.le_refl _) _);have HXA:=Zh (Box.new wr #[.string ⟨#[115,104,101,97,114]⟩,.func (.func 285) #[] #[],.func (.func 289) #[] #[]] 308);obtain ⟨x0,x1,x2,xf,xz⟩:=HXA.w3;have HS:=Zh (HN2.out _ _ (HAE.later HBA.out));have hix:=idxL2 wr;go_wp2_with fail;refine HS.mono ?_;rintro e6 w6 ⟨rfl,hb⟩;have HX6:=Zh (HXA.later hb);have HB6:=Zh (HBA.Zg hb);clear x0 x1 x2 xf xz HS HXA HBA hb hix;go_wp2_with fail
     go_loopw [21] (fun v wi=> ∃i:Nat,i<=n1/\v= .int .i64 i/\Hid (Below wr.heap.size wr wi)/\Hid (Box wi wr.heap.size 308 [.string ⟨#[115,104,101,97,114]⟩,.func (.func 285) #[] #[],.func (.func 289) #[] #[]])/\Hid (∀j,j<i->okL s ms 2 j=true)) (fun v _=>n1-(intOf v).toNat)
     case atStart=>exact ⟨0,by omega,rfl,HB6,HX6,Zh (fun j hj=>by omega)⟩
     case round=>
       obtain ⟨i,hi,rfl,HBI,HXI,HOI⟩:=hrel;clear HB6 HX6;have hbg:=HBG.out;have HAE2:=Zh (HAE.later HBI.out);have HBE2:=Zh (HBE.trans (HBI.mono HBE.size))
       by_cases hlt:i<n1
       ·obtain ⟨x0,x1,x2,xf,xz⟩:=HXI.w3;obtain ⟨t,ht⟩: ∃t,okL s ms 2 i=t:=⟨_,rfl⟩;have HT:=Zh ht;have HS:=Zh (by have h:=HC2.out _ _ HAE2.out i (by rw [HCN.out.2.1];exact hlt);rw [ht] at h;exact h:Calls Tryz.prog 289 #[.pointer (some ⟨b,0,none⟩),.int .i64 (i:Int)] _ (Ret (.bool t) _));clear ht;go_wp2_with fail;refine HS.mono ?_;rintro e7 w7 ⟨rfl,hb⟩;have HX7:=Zh (HXI.later hb);have HB7:=Zh (HBI.Zg hb);have HBE7:=Zh (HBE2.Zg hb);clear x0 x1 x2 xf xz HS hb HXI HBI;cases t with
        | true=>
          go_wp2_with fail;go_roundw
          case rel=>exact ⟨i+1,by omega,by go_num,HB7,HX7,Zh (fun j hj=>by
            by_cases h:j=i
            ·rw [h];exact HT.out
            ·exact HOI.out j (by omega))⟩
          case measure=>simp [intOf];omega
        | false=>
          obtain ⟨x0,x1,x2,xf,xz⟩:=HX7.w3;go_wp2_with fail;refine bodyPost_ret (v:= .tuple #[.string ⟨#[115,104,101,97,114]⟩,.int .i64 (i:Int)]) (by simp [results,Tryz.results156,go_sem, *]) rfl ?_;refine ⟨_,_,false,rfl,by rw [Lib.toList_data];rfl,⟨fun h=>Bool.noConfusion h,fun h=> ?_⟩,HBE7.out⟩;have h2:=HSF.out.1 h 2 (by decide) i (by rw [HCN.out.2.1];exact hlt);rw [HT.out] at h2;exact Bool.noConfusion h2
       ·obtain rfl:i=n1:=by omega
        clear HXI;go_wp2_with fail;go_roundw
        case rel=>exact ⟨3,by omega,by go_num,HBE2,HAE2,Zh (fun j hj i2 hi2=>by
          by_cases h:j=2
          ·subst h;rw [HCN.out.2.1] at hi2;exact HOI.out i2 hi2
          ·exact HAL.out j (by omega) i2 hi2)⟩
        case measure=>simp [intOf]
    ·have HBA:=Zh (show Below wr.heap.size wr (wr.alloc (.cells #[.string ⟨#[98,101,110,100,105,110,103]⟩,.func (.func 285) #[] #[],.func (.func 291) #[] #[]] 308)) from (Below.refl _ _).alloc (Nat.le_refl _) _);have HXA:=Zh (Box.new wr #[.string ⟨#[98,101,110,100,105,110,103]⟩,.func (.func 285) #[] #[],.func (.func 291) #[] #[]] 308);obtain ⟨x0,x1,x2,xf,xz⟩:=HXA.w3;have HS:=Zh (HN2.out _ _ (HAE.later HBA.out));have hix:=idxL3 wr;go_wp2_with fail;refine HS.mono ?_;rintro e6 w6 ⟨rfl,hb⟩;have HX6:=Zh (HXA.later hb);have HB6:=Zh (HBA.Zg hb);clear x0 x1 x2 xf xz HS HXA HBA hb hix;go_wp2_with fail
     go_loopw [21] (fun v wi=> ∃i:Nat,i<=n1/\v= .int .i64 i/\Hid (Below wr.heap.size wr wi)/\Hid (Box wi wr.heap.size 308 [.string ⟨#[98,101,110,100,105,110,103]⟩,.func (.func 285) #[] #[],.func (.func 291) #[] #[]])/\Hid (∀j,j<i->okL s ms 3 j=true)) (fun v _=>n1-(intOf v).toNat)
     case atStart=>exact ⟨0,by omega,rfl,HB6,HX6,Zh (fun j hj=>by omega)⟩
     case round=>
       obtain ⟨i,hi,rfl,HBI,HXI,HOI⟩:=hrel;clear HB6 HX6;have hbg:=HBG.out;have HAE2:=Zh (HAE.later HBI.out);have HBE2:=Zh (HBE.trans (HBI.mono HBE.size))
       by_cases hlt:i<n1
       ·obtain ⟨x0,x1,x2,xf,xz⟩:=HXI.w3;obtain ⟨t,ht⟩: ∃t,okL s ms 3 i=t:=⟨_,rfl⟩;have HT:=Zh ht;have HS:=Zh (by have h:=HC3.out _ _ HAE2.out i (by rw [HCN.out.2.2.1];exact hlt);rw [ht] at h;exact h:Calls Tryz.prog 291 #[.pointer (some ⟨b,0,none⟩),.int .i64 (i:Int)] _ (Ret (.bool t) _));clear ht;go_wp2_with fail;refine HS.mono ?_;rintro e7 w7 ⟨rfl,hb⟩;have HX7:=Zh (HXI.later hb);have HB7:=Zh (HBI.Zg hb);have HBE7:=Zh (HBE2.Zg hb);clear x0 x1 x2 xf xz HS hb HXI HBI;cases t with
        | true=>
          go_wp2_with fail;go_roundw
          case rel=>exact ⟨i+1,by omega,by go_num,HB7,HX7,Zh (fun j hj=>by
            by_cases h:j=i
            ·rw [h];exact HT.out
            ·exact HOI.out j (by omega))⟩
          case measure=>simp [intOf];omega
        | false=>
          obtain ⟨x0,x1,x2,xf,xz⟩:=HX7.w3;go_wp2_with fail;refine bodyPost_ret (v:= .tuple #[.string ⟨#[98,101,110,100,105,110,103]⟩,.int .i64 (i:Int)]) (by simp [results,Tryz.results156,go_sem, *]) rfl ?_;refine ⟨_,_,false,rfl,by rw [Lib.toList_data];rfl,⟨fun h=>Bool.noConfusion h,fun h=> ?_⟩,HBE7.out⟩;have h2:=HSF.out.1 h 3 (by decide) i (by rw [HCN.out.2.2.1];exact hlt);rw [HT.out] at h2;exact Bool.noConfusion h2
       ·obtain rfl:i=n1:=by omega
        clear HXI;go_wp2_with fail;go_roundw
        case rel=>exact ⟨4,by omega,by go_num,HBE2,HAE2,Zh (fun j hj i2 hi2=>by
          by_cases h:j=3
          ·subst h;rw [HCN.out.2.2.1] at hi2;exact HOI.out i2 hi2
          ·exact HAL.out j (by omega) i2 hi2)⟩
        case measure=>simp [intOf]
    ·have HBA:=Zh (show Below wr.heap.size wr (wr.alloc (.cells #[.string ⟨#[116,114,105,109]⟩,.func (.func 292) #[] #[],.func (.func 293) #[] #[]] 308)) from (Below.refl _ _).alloc (Nat.le_refl _) _);have HXA:=Zh (Box.new wr #[.string ⟨#[116,114,105,109]⟩,.func (.func 292) #[] #[],.func (.func 293) #[] #[]] 308);obtain ⟨x0,x1,x2,xf,xz⟩:=HXA.w3;have HS:=Zh (HN3.out (wr.alloc (.cells #[.string ⟨#[116,114,105,109]⟩,.func (.func 292) #[] #[],.func (.func 293) #[] #[]] 308)) b);have hix:=idxL4 wr;go_wp2_with fail;refine HS.mono ?_;rintro e6 w6 ⟨rfl,hb⟩;have HX6:=Zh (HXA.later hb);have HB6:=Zh (HBA.Zg hb);clear x0 x1 x2 xf xz HS HXA HBA hb hix;go_wp2_with fail
     go_loopw [21] (fun v wi=> ∃i:Nat,i<=1/\v= .int .i64 i/\Hid (Below wr.heap.size wr wi)/\Hid (Box wi wr.heap.size 308 [.string ⟨#[116,114,105,109]⟩,.func (.func 292) #[] #[],.func (.func 293) #[] #[]])/\Hid (∀j,j<i->okL s ms 4 j=true)) (fun v _=>1-(intOf v).toNat)
     case atStart=>exact ⟨0,by omega,rfl,HB6,HX6,Zh (fun j hj=>by omega)⟩
     case round=>
       obtain ⟨i,hi,rfl,HBI,HXI,HOI⟩:=hrel;clear HB6 HX6;have hbg:=HBG.out;have HAE2:=Zh (HAE.later HBI.out);have HBE2:=Zh (HBE.trans (HBI.mono HBE.size))
       by_cases hlt:i<1
       ·obtain ⟨x0,x1,x2,xf,xz⟩:=HXI.w3;obtain ⟨t,ht⟩: ∃t,okL s ms 4 i=t:=⟨_,rfl⟩;have HT:=Zh ht;have HS:=Zh (by have h:=HC4.out _ HBE2.out _ HAE2.out i;rw [ht] at h;exact h:Calls Tryz.prog 293 #[.pointer (some ⟨b,0,none⟩),.int .i64 (i:Int)] _ (Ret (.bool t) _));clear ht;go_wp2_with fail;refine HS.mono ?_;rintro e7 w7 ⟨rfl,hb⟩;have HX7:=Zh (HXI.later hb);have HB7:=Zh (HBI.Zg hb);have HBE7:=Zh (HBE2.Zg hb);clear x0 x1 x2 xf xz HS hb HXI HBI;cases t with
        | true=>
          go_wp2_with fail;go_roundw
          case rel=>exact ⟨i+1,by omega,by go_num,HB7,HX7,Zh (fun j hj=>by
            by_cases h:j=i
            ·rw [h];exact HT.out
            ·exact HOI.out j (by omega))⟩
          case measure=>simp [intOf];omega
        | false=>
          obtain ⟨x0,x1,x2,xf,xz⟩:=HX7.w3;go_wp2_with fail;refine bodyPost_ret (v:= .tuple #[.string ⟨#[116,114,105,109]⟩,.int .i64 (i:Int)]) (by simp [results,Tryz.results156,go_sem, *]) rfl ?_;refine ⟨_,_,false,rfl,by rw [Lib.toList_data];rfl,⟨fun h=>Bool.noConfusion h,fun h=> ?_⟩,HBE7.out⟩;have h2:=HSF.out.1 h 4 (by decide) i (by rw [HCN.out.2.2.2];exact hlt);rw [HT.out] at h2;exact Bool.noConfusion h2
       ·obtain rfl:i=1:=by omega
        clear HXI;go_wp2_with fail;go_roundw
        case rel=>exact ⟨5,by omega,by go_num,HBE2,HAE2,Zh (fun j hj i2 hi2=>by
          by_cases h:j=4
          ·subst h;rw [HCN.out.2.2.2] at hi2;exact HOI.out i2 hi2
          ·exact HAL.out j (by omega) i2 hi2)⟩
        case measure=>simp [intOf]
    ·go_wp2_with fail;refine bodyPost_ret (v:= .tuple #[.string ⟨#[]⟩,.int .i64 0]) (by simp [results,Tryz.results156,go_sem, *]) rfl ?_;exact ⟨_,_,true,rfl,by rw [Lib.toList_data];rfl,⟨fun _=>HSF.out.2 HAL.out,fun _=>rfl⟩,HBE.out⟩
theorem Zjh (w:World) (hw:TbR w) (x:ShV) (s:Shp) (vm:Value) (ms:List Int) (hs:ShR w x s) (hm:Sl encI 1 w w.heap.size vm ms) (ok:ShOk s) (cg:CgOk s ms):Calls Tryz.prog 76 #[x.v s.t,vm] w (fun e w'=> ∃t:Bool,e= .returned (.bool t)/\(t=true↔SafeS s ms)/\Below w.heap.size w w'):=by
  have HT:=Zh (fun (u:World) (hb:Below w.heap.size w u)=>(by exact Zof u (hw.later hb) x s vm ms (hs.later hb) (hm.later hb) ok cg:Calls Tryz.prog 156 #[.agg #[.slice x.ah x.nh x.ch,.slice x.aw x.nw x.cw,.slice x.ac x.nc x.cc,.slice x.az x.ns x.cs,.slice x.ab x.nb x.cb,.string (txq s.t)],vm] u (Zse u s ms)));clear hw hs hm ok cg;obtain ⟨ah,aw,ac,az,ab,nh,nw,nc,ns,nb,ch,cw,cc,cz,cb⟩:=x;dsimp only at HT;show Calls Tryz.prog 76 #[.agg #[.slice ah nh ch,.slice aw nw cw,.slice ac nc cc,.slice az ns cz,.slice ab nb cb,.string (txq s.t)],vm] w _;generalize txq s.t=T at HT ⊢;have HB:=Zh ((Below.refl w.heap.size w).alloc (Nat.le_refl _) (.cells #[.slice ah nh ch,.slice aw nw cw,.slice ac nc cc,.slice az ns cz,.slice ab nb cb,.string T] 51));have HX:=Zh (Box.new w #[.slice ah nh ch,.slice aw nw cw,.slice ac nc cc,.slice az ns cz,.slice ab nb cb,.string T] 51);obtain ⟨x0,x1,x2,x3,x4,x5,xf,xz⟩:=HX.w6;have HS:=Zh (HT.out _ HB.out);go_enter Tryz.func76,Tryz.ntmps76;go_wp2_with fail;refine HS.mono ?_;rintro e4 w4 ⟨S,z,t,rfl,ht,hi,hb⟩;have HB4:=Zh (HB.Zg hb);have ht2:S.toList.isEmpty=t:=ht;clear hb HS HT HB HX ht x0 x1 x2 x3 x4 x5 xf xz;go_wp2_with fail;go_ret;exact ⟨t,rfl,hi,HB4.out⟩
theorem Zpq (w:World) (hw:TbR w) (x:ShV) (s:Shp) (vm:Value) (ms:List Int) (hs:ShR w x s) (hm:Sl encI 1 w w.heap.size vm ms) (ok:ShOk s) (cg:CgOk s ms):Calls Tryz.prog 26 #[x.v s.t,vm] w (fun e w'=> ∃t:Bool,e= .returned (.tuple #[.bool t,.int .i64 0])/\(t=true↔SafeS s ms)/\Below w.heap.size w w'):=by
  have HCM:=Zh (fun (u:World) (hb:Below w.heap.size w u)=>(by exact Zbl u (hw.later hb) x s vm ms (hs.later hb) (hm.later hb) ok cg:Calls Tryz.prog 75 #[.agg #[.slice x.ah x.nh x.ch,.slice x.aw x.nw x.cw,.slice x.ac x.nc x.cc,.slice x.az x.ns x.cs,.slice x.ab x.nb x.cb,.string (txq s.t)],vm] u (Ret (.int .i64 0) u)));have HT:=Zh (fun (u:World) (hb:Below w.heap.size w u)=>(by exact Zjh u (hw.later hb) x s vm ms (hs.later hb) (hm.later hb) ok cg:Calls Tryz.prog 76 #[.agg #[.slice x.ah x.nh x.ch,.slice x.aw x.nw x.cw,.slice x.ac x.nc x.cc,.slice x.az x.ns x.cs,.slice x.ab x.nb x.cb,.string (txq s.t)],vm] u (fun e w'=> ∃t:Bool,e= .returned (.bool t)/\(t=true↔SafeS s ms)/\Below u.heap.size u w')));clear hw hs hm ok cg;obtain ⟨ah,aw,ac,az,ab,nh,nw,nc,ns,nb,ch,cw,cc,cz,cb⟩:=x;dsimp only at HT HCM;show Calls Tryz.prog 26 #[.agg #[.slice ah nh ch,.slice aw nw cw,.slice ac nc cc,.slice az ns cz,.slice ab nb cb,.string (txq s.t)],vm] w _;generalize txq s.t=T at HT HCM ⊢;have HB:=Zh ((Below.refl w.heap.size w).alloc (Nat.le_refl _) (.cells #[.slice ah nh ch,.slice aw nw cw,.slice ac nc cc,.slice az ns cz,.slice ab nb cb,.string T] 51));have HX:=Zh (Box.new w #[.slice ah nh ch,.slice aw nw cw,.slice ac nc cc,.slice az ns cz,.slice ab nb cb,.string T] 51);obtain ⟨x0,x1,x2,x3,x4,x5,xf,xz⟩:=HX.w6;have HS:=Zh (HCM.out _ HB.out);go_enter Tryz.func26,Tryz.ntmps26;go_wp2_with fail;refine HS.mono ?_;rintro e3 w3 ⟨rfl,hb⟩;replace HB:=Zh (HB.Zg hb);replace HX:=Zh (HX.later hb);clear hb x0 x1 x2 x3 x4 x5 xf xz;obtain ⟨x0,x1,x2,x3,x4,x5,xf,xz⟩:=HX.w6;have HS:=Zh (HT.out _ HB.out);go_wp2_with fail;refine HS.mono ?_;rintro e4 w4 ⟨t,rfl,hi,hb⟩;have HB4:=Zh (HB.Zg hb);clear hb HS HT HB HX x0 x1 x2 x3 x4 x5 xf xz;go_wp2_with fail;refine bodyPost_ret (v:= .tuple #[.bool t,.int .i64 0]) (by simp [results,Tryz.results26,go_sem, *]) rfl ?_;exact ⟨t,rfl,hi,HB4.out⟩
end Go.Proofs.YtijajkfmlghgkaaGreatDoor.Nu
namespace Go.Proofs.YtijajkfmlghgkaaGreatDoor
def Zbx (s:Shp):Shp:=⟨s.hs,s.wt,s.ca,List.replicate s.wt.length (s.sh.getD 0 0),List.replicate s.wt.length (s.be.getD 0 0),s.t⟩
def mirH (n:Nat) (h:HoR):HoR:=⟨(n:Int)-h.hi,(n:Int)-h.lo,h.room⟩
def mirS (s:Shp):Shp:=⟨s.hs.reverse.map (mirH s.wt.length),s.wt.reverse,s.ca.reverse,List.replicate s.wt.length (s.sh.getD 0 0),List.replicate s.wt.length (s.be.getD 0 0),s.t⟩
theorem Ze1 {α:Type} (l:List α) (d:α) (k:Nat) (h:k<l.length):l.reverse.getD k d=l.getD (l.length-1-k) d:=by
  rw [Zax (by simpa using h),Zax (by omega),List.getElem_reverse]
section
variable {s:Shp} {ms:List Int} (ok:ShOk s) (cg:CgOk s ms)
include ok in
theorem Zqz:ShOk (Zbx s):=by
  have h0:=ok.n0;have hs1:MsP (s.sh.getD 0 0):=Zbw ok.sh (by rw [ok.ls];exact h0);have hb1:MsP (s.be.getD 0 0):=Zbw ok.be (by rw [ok.lb];exact h0);exact ⟨ok.n0,ok.n6,ok.lc,by simp [Zbx],by simp [Zbx],ok.wt,ok.ca,fun x hx=>by rw [(List.mem_replicate.1 hx).2];exact hs1,fun x hx=>by rw [(List.mem_replicate.1 hx).2];exact hb1,ok.h0,ok.h12,ok.ho,ok.ord,ok.t0,ok.td⟩
include cg in
theorem Zq0:CgOk (Zbx s) ms:=⟨cg.len,cg.ok⟩
theorem Zeu:(mirS s).wt.length=s.wt.length:=by simp [mirS]
theorem Zfw:(mirS s).hs.length=s.hs.length:=by simp [mirS]
theorem Zd7 (k:Nat) (h:k<(mirS s).hs.length):(mirS s).hs[k]=mirH s.wt.length (s.hs[s.hs.length-1-k]'(by rw [Zfw] at h;omega)):=by
  simp only [mirS,List.getElem_map,List.getElem_reverse]
include ok in
theorem Zsf:ShOk (mirS s):=by
  have h0:=ok.n0;have hs1:MsP (s.sh.getD 0 0):=Zbw ok.sh (by rw [ok.ls];exact h0);have hb1:MsP (s.be.getD 0 0):=Zbw ok.be (by rw [ok.lb];exact h0);refine ⟨by rw [Zeu];exact ok.n0,by rw [Zeu];exact ok.n6,by rw [Zeu];simp [mirS,ok.lc],by rw [Zeu];simp [mirS],by rw [Zeu];simp [mirS],fun x hx=>ok.wt x (List.mem_reverse.1 hx),fun x hx=>ok.ca x (List.mem_reverse.1 hx),fun x hx=>by rw [(List.mem_replicate.1 hx).2];exact hs1,fun x hx=>by rw [(List.mem_replicate.1 hx).2];exact hb1,by rw [Zfw];exact ok.h0,by rw [Zfw];exact ok.h12,fun k h=> ?_,fun k h=> ?_,ok.t0,ok.td⟩
  ·rw [Zeu,Zd7 k h];obtain ⟨h1,h2,h3,h4⟩:=ok.ho (s.hs.length-1-k) (by rw [Zfw] at h;omega);refine ⟨?_,?_,?_,h4⟩
   ·show 0<=(s.wt.length:Int)-_;omega
   ·show (s.wt.length:Int)-_<(s.wt.length:Int)-_;omega
   ·show (s.wt.length:Int)-_<=_;omega
  ·rw [Zd7 k (by omega),Zd7 (k+1) h];have hm:k+1<s.hs.length:=by rw [Zfw] at h;exact h
   obtain ⟨j,hj⟩: ∃j,s.hs.length-1-(k+1)=j:=⟨_,rfl⟩;have hj2:s.hs.length-1-k=j+1:=by omega
   have:=ok.ord j (by omega);simp only [hj,hj2];show (s.wt.length:Int)-(s.hs[j+1]).lo<=(s.wt.length:Int)-(s.hs[j]).hi;omega
include cg in
theorem Zsg:CgOk (mirS s) ms.reverse:=⟨by rw [Zfw,List.length_reverse];exact cg.len,fun x hx=>cg.ok x (List.mem_reverse.1 hx)⟩
include ok in
theorem Zmh (k:Nat) (hk:k<s.wt.length):cF (mirS s) k=cF s (s.wt.length-1-k):=by
  show s.ca.reverse.getD k 0=s.ca.getD _ 0;rw [Ze1 s.ca 0 k (by rw [ok.lc];exact hk),ok.lc]
include cg in
theorem Zmi (k:Nat) (hk:k<s.wt.length):lF (mirS s) ms.reverse k=lF s ms (s.wt.length-1-k):=by
  unfold lF ldR;have e1:(mirS s).wt.getD k 0=s.wt.getD (s.wt.length-1-k) 0:=Ze1 s.wt 0 k hk;rw [e1,Zfw]
  congr 1
  refine Zlh (f':=hcR (mirS s).hs ms.reverse k) (f:=hcR s.hs ms (s.wt.length-1-k)) fun i hi=> ?_;have hl:=cg.len;have e2:(mirS s).hs.getD i default=mirH s.wt.length (s.hs.getD (s.hs.length-1-i) default):=by
    rw [Zax (by rw [Zfw];exact hi),Zd7 i (by rw [Zfw];exact hi),Zax (by omega)]
  have e3:ms.reverse.getD i 0=ms.getD (s.hs.length-1-i) 0:=by rw [Ze1 ms 0 i (by omega),hl]
  unfold hcR;rw [e2,e3];generalize s.hs.getD (s.hs.length-1-i) default=h;generalize s.wt.length=n at *;have hkn:((n-1-k:Nat):Int)=(n:Int)-1-(k:Int):=by omega
  have e4:((mirH n h).lo<=(k:Int)/\(k:Int)<(mirH n h).hi)↔ (h.lo<=((n-1-k:Nat):Int)/\((n-1-k:Nat):Int)<h.hi):=by
    show ((n:Int)-h.hi<=(k:Int)/\(k:Int)<(n:Int)-h.lo)↔_;omega
  have e5:(mirH n h).hi-(mirH n h).lo=h.hi-h.lo:=by
    show (n:Int)-h.lo-((n:Int)-h.hi)=_;omega
  rw [e5]
  by_cases hq:h.lo<=((n-1-k:Nat):Int)/\((n-1-k:Nat):Int)<h.hi
  ·rw [if_pos hq,if_pos (e4.2 hq)]
  ·rw [if_neg hq,if_neg (fun e=>hq (e4.1 e))]
include ok cg
theorem Zht (k:Nat) (hk:k<s.wt.length):buoR (cF (mirS s)) (lF (mirS s) ms.reverse) (mirS s).wt.length k=buoR (cF (Zbx s)) (lF (Zbx s) ms) s.wt.length (s.wt.length-1-k):=by
  rw [Zeu];exact Zie (fun k hk=>ok.cpos hk) ok.n0 (fun k hk=>Zmh ok k hk) (fun k hk=>Zmi cg k hk) k hk
theorem Zem (k:Nat) (hk:k<s.wt.length):sheR (cF (mirS s)) (lF (mirS s) ms.reverse) (mirS s).wt.length k=if k+2<=s.wt.length then -sheR (cF (Zbx s)) (lF (Zbx s) ms) s.wt.length (s.wt.length-2-k) else 0:=by
  rw [Zeu];exact Zig (fun k hk=>ok.cpos hk) ok.n0 (fun k hk=>Zmh ok k hk) (fun k hk=>Zmi cg k hk) k hk
theorem Zen (k:Nat) (hk:k<s.wt.length):benR (cF (mirS s)) (lF (mirS s) ms.reverse) (mirS s).wt.length k=if k+3<=s.wt.length then benR (cF (Zbx s)) (lF (Zbx s) ms) s.wt.length (s.wt.length-3-k) else 0:=by
  rw [Zeu];exact Zli (fun k hk=>ok.cpos hk) ok.n0 (fun k hk=>Zmh ok k hk) (fun k hk=>Zmi cg k hk) k hk
theorem Zhu:trmR (cF (mirS s)) (lF (mirS s) ms.reverse) (mirS s).wt.length= -trmR (cF (Zbx s)) (lF (Zbx s) ms) s.wt.length:=by
  rw [Zeu];exact (Zgq (fun k hk=>ok.cpos hk) ok.n0 (fun k hk=>Zmh ok k hk) (fun k hk=>Zmi cg k hk)).1
omit ok cg in
theorem SafeR.lim {c l:Nat->Rat} {n:Nat} {sl bl sl' bl':Nat->Rat} {t:Rat} (h1: ∀k,k<n->sl k=sl' k) (h2: ∀k,k<n->bl k=bl' k) (h:SafeR c l n sl bl t):SafeR c l n sl' bl' t:=
  ⟨h.lift,fun k hk=>by rw [<-h1 k hk];exact h.sh k hk,fun k hk=>by rw [<-h2 k hk];exact h.be k hk,h.tr⟩
omit ok cg in
theorem Zji (n:Nat) (z:Int) (k:Nat) (hk:k<n):(((List.replicate n z).getD k 0:Int):Rat)=(z:Rat):=by
  rw [Zax (by simpa using hk),List.getElem_replicate]
theorem Zgz:Nu.SafeS (mirS s) ms.reverse↔Nu.SafeS (Zbx s) ms:=by
  have hl:=cg.len;have h0:=ok.n0;have hs1:(0:Rat)<=((s.sh.getD 0 0:Int):Rat):=by
    have:=(Zbw ok.sh (d:=0) (i:=0) (by rw [ok.ls];exact h0)).1
    exact_mod_cast this
  have hb1:(0:Rat)<=((s.be.getD 0 0:Int):Rat):=by
    have:=(Zbw ok.be (d:=0) (i:=0) (by rw [ok.lb];exact h0)).1
    exact_mod_cast this
  have e0: ∀i,i<s.hs.length->(ms.reverse.getD i 0<=((mirS s).hs.getD i default).room↔ms.getD (s.hs.length-1-i) 0<=(s.hs.getD (s.hs.length-1-i) default).room):=fun i hi=>by
    rw [Ze1 ms 0 i (by omega),hl,Zax (l:=(mirS s).hs) (by rw [Zfw];exact hi),Zd7 i (by rw [Zfw];exact hi),Zax (l:=s.hs) (by omega)];exact Iff.rfl
  have key:=Zno (t:=s.t) (fun k hk=>ok.cpos hk) ok.n0 (fun k hk=>Zmh ok k hk) (fun k hk=>Zmi cg k hk) hs1 hb1;have w1:(mirS s).wt.length=s.wt.length:=Zeu;have a1: ∀k,k<s.wt.length->(((mirS s).sh.getD k 0:Int):Rat)=((s.sh.getD 0 0:Int):Rat):=fun k hk=>Zji _ _ k hk;have a2: ∀k,k<s.wt.length->(((mirS s).be.getD k 0:Int):Rat)=((s.be.getD 0 0:Int):Rat):=fun k hk=>Zji _ _ k hk;have b1: ∀k,k<s.wt.length->(((Zbx s).sh.getD k 0:Int):Rat)=((s.sh.getD 0 0:Int):Rat):=fun k hk=>Zji _ _ k hk;have b2: ∀k,k<s.wt.length->(((Zbx s).be.getD k 0:Int):Rat)=((s.be.getD 0 0:Int):Rat):=fun k hk=>Zji _ _ k hk
  constructor
  ·rintro ⟨h1,h2⟩;refine ⟨fun i hi=> ?_,?_⟩
   ·have h:=(e0 (s.hs.length-1-i) (by omega)).1 (h1 _ (by rw [List.length_reverse];omega))
    rwa [show s.hs.length-1-(s.hs.length-1-i)=i by omega] at h
   ·rw [w1] at h2;exact (key.1 (h2.lim a1 a2)).lim (fun k hk=>(b1 k hk).symm) (fun k hk=>(b2 k hk).symm)
  ·rintro ⟨h1,h2⟩;refine ⟨fun i hi=> ?_,?_⟩
   ·rw [List.length_reverse] at hi;exact (e0 i (by omega)).2 (h1 (s.hs.length-1-i) (by omega))
   ·rw [w1];exact (key.2 (h2.lim b1 b2)).lim (fun k hk=>(a1 k hk).symm) (fun k hk=>(a2 k hk).symm)
end
def addI (a b:List Int):List Int:=List.zipWith (·+·) a b
def zerI (n:Nat):List Int:=List.replicate n 0
section
variable {s:Shp} {a b:List Int} (hl:b.length=a.length)
end
end Go.Proofs.YtijajkfmlghgkaaGreatDoor
namespace Go.Proofs.YtijajkfmlghgkaaGreatDoor.Nu
open Go Go.Proofs Go.RowKit Go.Proofs.YtijajkfmlghgkaaGreatDoor
theorem Zhv (w:World) (vh tv:Value) (aw ac asx ab:Option Addr) (nw nc ns nb cw cc cs cb:Nat) (h:nw=0∨24<nw∨nc≠nw∨ns≠nw∨nb≠nw):
    Calls Tryz.prog 145 #[.agg #[vh,.slice aw nw cw,.slice ac nc cc,.slice asx ns cs,.slice ab nb cb,tv]] w fun e w'=> ∃R:Int,e= .returned (.int .i64 R)/\Below w.heap.size w w'/\R≠0:=by
 have HB:=Zh ((Below.refl w.heap.size w).alloc (Nat.le_refl _) (.cells #[vh,.slice aw nw cw,.slice ac nc cc,.slice asx ns cs,.slice ab nb cb,tv] 51));have HX:=Zh (Box.new w #[vh,.slice aw nw cw,.slice ac nc cc,.slice asx ns cs,.slice ab nb cb,tv] 51);obtain ⟨x0,x1,x2,x3,x4,x5,xf,xz⟩:=HX.w6;have hway:nw=0∨(0<nw/\24<nw)∨(0<nw/\nw<=24/\nc≠nw)∨(0<nw/\nw<=24/\nc=nw/\ns≠nw)∨(0<nw/\nw<=24/\nc=nw/\ns=nw/\nb≠nw):=by omega
 clear h
 rcases hway with rfl|⟨h0,h1⟩|⟨h0,h1,h2⟩|⟨h0,h1,rfl,h3⟩|⟨h0,h1,rfl,rfl,h4⟩
 ·go_enter Tryz.func145,Tryz.ntmps145;go_wp2_with fail;go_ret;exact ⟨2,rfl,HB.out,by decide⟩
 ·have d3:((nw:Int)==0)=false:=beq_eq_false_iff_ne.2 (by omega);have d4:(nw==0)=false:=beq_eq_false_iff_ne.2 (by omega);have d5:decide ((24:Int)<(nw:Int))=true:=Zt (by omega);have d6:decide (24<nw)=true:=Zt (by omega);go_enter Tryz.func145,Tryz.ntmps145;go_wp2_with fail;go_ret;exact ⟨5,rfl,HB.out,by decide⟩
 ·have d3:((nw:Int)==0)=false:=beq_eq_false_iff_ne.2 (by omega);have d4:(nw==0)=false:=beq_eq_false_iff_ne.2 (by omega);have d5:decide ((24:Int)<(nw:Int))=false:=Zf (by omega);have d6:decide (24<nw)=false:=Zf (by omega);have d7:((nc:Int) !=(nw:Int))=true:=bne_iff_ne.2 (by omega);have d8:(nc !=nw)=true:=bne_iff_ne.2 h2;go_enter Tryz.func145,Tryz.ntmps145;go_wp2_with fail;go_ret;exact ⟨2,rfl,HB.out,by decide⟩
 ·have d3:((nc:Int)==0)=false:=beq_eq_false_iff_ne.2 (by omega);have d4:(nc==0)=false:=beq_eq_false_iff_ne.2 (by omega);have d5:decide ((24:Int)<(nc:Int))=false:=Zf (by omega);have d6:decide (24<nc)=false:=Zf (by omega);have d7:((nc:Int) !=(nc:Int))=false:=by simp
  have d8:(nc !=nc)=false:=by simp
  have d9:((ns:Int) !=(nc:Int))=true:=bne_iff_ne.2 (by omega);have d10:(ns !=nc)=true:=bne_iff_ne.2 h3;go_enter Tryz.func145,Tryz.ntmps145;go_wp2_with fail;go_ret;exact ⟨2,rfl,HB.out,by decide⟩
 ·have d3:((ns:Int)==0)=false:=beq_eq_false_iff_ne.2 (by omega);have d4:(ns==0)=false:=beq_eq_false_iff_ne.2 (by omega);have d5:decide ((24:Int)<(ns:Int))=false:=Zf (by omega);have d6:decide (24<ns)=false:=Zf (by omega);have d7:((ns:Int) !=(ns:Int))=false:=by simp
  have d8:(ns !=ns)=false:=by simp
  have d9:((nb:Int) !=(ns:Int))=true:=bne_iff_ne.2 (by omega);have d10:(nb !=ns)=true:=bne_iff_ne.2 h4;go_enter Tryz.func145,Tryz.ntmps145;go_wp2_with fail;go_ret;exact ⟨2,rfl,HB.out,by decide⟩
def HoOk (n:Nat) (h:HoR):Prop:=0<=h.lo/\h.lo<h.hi/\h.hi<=(n:Int)/\Zcc h.room=true
theorem Zhw (w:World) (v1 v2 v3 v4:Value) (ah aw:Option Addr) (n nh ch cw:Nat) (tr:List UInt8) (hs:List HoR) (P:Prop)
    (hw:v1= .slice aw n cw)
    (hh:Sl Zc2 3 w w.heap.size (.slice ah nh ch) hs) (h0:0<nh) (h12:nh<=12) (ht:tr.length<=2000)
    (hst: ∀u:World,Below w.heap.size w u->Calls Tryz.prog 145 #[.agg #[.slice ah nh ch,v1,v2,v3,v4,.string (tx tr)]] u fun e w'=> ∃R:Int,e= .returned (.int .i64 R)/\Below u.heap.size u w'/\(R=0->P)):
    Calls Tryz.prog 67 #[.agg #[.slice ah nh ch,v1,v2,v3,v4,.string (tx tr)]] w fun e w'=> ∃R:Int,e= .returned (.int .i64 R)/\Below w.heap.size w w'/\
      (R=0->P/\(∀k (h:k<hs.length),HoOk n hs[k])/\(∀k (h:k+1<hs.length),hs[k].hi<=hs[k+1].lo)/\∃q:Rat,tr=ratL q/\Dn mxd q/\0<=q):=by
 subst hw;obtain ⟨a',c',e,-,hA⟩:=hh;injection e with e1 e2 e3
 subst e1 e3;obtain ⟨bh,oh,rfl,hbh,hch⟩:=hA (by omega);clear hA;have HCH:=Zh hch;have HN:=Zh e2;clear hch e2;have HST:=Zh hst;have HCK:=Zh (fun (u:World)=>Zl5 u tr ht);have HOK:=Zh (@Zo9 tr);clear hst ht;have HB:=Zh ((Below.refl w.heap.size w).alloc (Nat.le_refl _) (.cells #[.slice (some ⟨bh,oh,none⟩) nh ch,.slice aw n cw,v2,v3,v4,.string (tx tr)] 51));have HX:=Zh (Box.new w #[.slice (some ⟨bh,oh,none⟩) nh ch,.slice aw n cw,v2,v3,v4,.string (tx tr)] 51);obtain ⟨x0,x1,x2,x3,x4,x5,xf,xz⟩:=HX.w6;have HS1:=Zh (HST.out _ HB.out);have d3:((nh:Int)==0)=false:=beq_eq_false_iff_ne.2 (by omega);have d4:(nh==0)=false:=beq_eq_false_iff_ne.2 (by omega);have d5:decide ((12:Int)<(nh:Int))=false:=Zf (by omega);have d6:decide (12<nh)=false:=Zf (by omega);go_enter Tryz.func67,Tryz.ntmps67;go_wp2_with fail;refine HS1.mono ?_;rintro e4 w4 ⟨R4,rfl,hb,hP⟩;have HP:=Zh hP;clear hP;replace HB:=Zh (HB.Zg hb);replace HX:=Zh (HX.later hb);clear hb x0 x1 x2 x3 x4 x5 xf xz;obtain ⟨x0,x1,x2,x3,x4,x5,xf,xz⟩:=HX.w6
 by_cases hz:R4=0
 ·have g1:(R4 !=0)=false:=by rw [hz];rfl
  have HPP:=Zh (HP.out hz);subst hz;clear HP HST HS1;go_wp2_with fail;have HBI:=Zh HB.out;clear x0 x1 x2 x3 x4 x5 xf xz
  go_loopw [4] (fun i wr=> ∃k:Nat,k<=nh/\i= .int .i64 k/\Hid (Below w4.heap.size w4 wr)/\Hid (∀j (h:j<hs.length),j<k->HoOk n hs[j])/\Hid (∀j (h:j+1<hs.length),j+1<k->hs[j].hi<=hs[j+1].lo)) (fun i _=>nh-(intOf i).toNat)
  case atStart=>exact ⟨0,by omega,rfl,Zh (Below.refl _ _),Zh (fun j _ h=>by omega),Zh (fun j _ h=>by omega)⟩
  case round=>
    obtain ⟨k,hk,rfl,HBE,HK1,HK2⟩:=hrel;have HX2:=Zh (HX.later HBE.out);have HBW:=Zh (HBI.trans (HBE.mono HBI.size));obtain ⟨x0,x1,x2,x3,x4,x5,xf,xz⟩:=HX2.w6
    by_cases hlt:k<nh
    ·have hk1:k<hs.length:=by rw [<-HN.out];exact hlt
     have hc:=(HCH.out k hk1).below HBW.out hbh;have c0:=hc 0 _ rfl;have c1:=hc 1 _ rfl;have c2:=hc 2 _ rfl;rw [Nat.add_zero] at c0;have hbw:bh<wr.heap.size:=Nat.lt_of_lt_of_le hbh HBW.size;have HQ:=Zh (show HoOk n hs[k]->(∀j (h:j<hs.length),j<k+1->HoOk n hs[j]) from fun h j hj hjk=>by
       rcases Nat.lt_or_ge j k with h1|h1
       ·exact HK1.out j hj h1
       ·have:j=k:=by omega
        subst this;exact h)
     have HM:=Zh (fun (u:World)=>Zfs u hs[k].room);have HO:=Zh (show (∀m (h:m+1<hs.length),m+1=k->hs[m].hi<=hs[m+1].lo)->(∀j (h:j+1<hs.length),j+1<k+1->hs[j].hi<=hs[j+1].lo) from fun h j hj hjk=>by
       rcases Nat.lt_or_ge (j+1) k with h1|h1
       ·exact HK2.out j hj h1
       ·exact h j hj (by omega))
     have HPV:=Zh (show∀m (h:m+1=k) (h2:m<hs.length),wr.cell? ⟨bh,oh+m* 3+1,none⟩=some (.int .i64 hs[m].hi) from fun m h h2=>(HCH.out m h2).below HBW.out hbh 1 _ rfl);have HLE:=Zh (show∀z:Int,hs[k].lo=z->∀m (h:m<hs.length),m+1=k->hs[m].hi<=z->(∀m (h:m+1<hs.length),m+1=k->hs[m].hi<=hs[m+1].lo) from fun z hz m h hmk hle m2 h2 hmk2=>by
       obtain rfl:m=m2:=by omega
       subst hmk;rw [hz];exact hle)
     obtain ⟨y,hy⟩: ∃y,hs[k]=y:=⟨_,rfl⟩;rw [hy] at c0 c1 c2 HQ HM HLE;obtain ⟨zl,zh,zr⟩:=y;dsimp only at c0 c1 c2 HM HLE;clear hc hy HK1 HK2;have hway:zl<0∨(0<=zl/\zh<=zl)∨(0<=zl/\zl<zh/\(n:Int)<zh)∨(0<=zl/\zl<zh/\zh<=(n:Int)):=by omega
     have hal:Below wr.heap.size wr (wr.alloc (.cells #[.int .i64 zl,.int .i64 zh,.int .i64 zr] 63)):=(Below.refl _ _).alloc (Nat.le_refl _) _;have HBA:=Zh (HBW.Zg hal);have HBE2:=Zh (HBE.Zg hal);clear hal
     rcases hway with q1|⟨q1,q2⟩|⟨q1,q2,q3⟩|⟨q1,q2,q3⟩
     ·have e1:decide (zl<0)=true:=Zt q1;go_wp2_with fail;go_ret;exact ⟨3,rfl,HBA.out,fun h=>absurd h (by decide)⟩
     ·have e1:decide (zl<0)=false:=Zf (by omega);have e2:decide (zh<=zl)=true:=Zt q2;go_wp2_with fail;go_ret;exact ⟨3,rfl,HBA.out,fun h=>absurd h (by decide)⟩
     ·have e1:decide (zl<0)=false:=Zf (by omega);have e2:decide (zh<=zl)=false:=Zf (by omega);have e3:decide ((n:Int)<zh)=true:=Zt q3;go_wp2_with fail;go_ret;exact ⟨3,rfl,HBA.out,fun h=>absurd h (by decide)⟩
     ·have e1:decide (zl<0)=false:=Zf (by omega);have e2:decide (zh<=zl)=false:=Zf (by omega);have e3:decide ((n:Int)<zh)=false:=Zf (by omega);obtain ⟨bm,hbm⟩: ∃t,Zcc zr=t:=⟨_,rfl⟩;have HBM:=Zh hbm;rw [hbm] at HM;clear hbm;go_wp2_with fail;refine (HM.out _).mono ?_;rintro e5 w5 ⟨rfl,rfl⟩;cases bm with
      | false=>
        go_wp2_with fail;go_ret;exact ⟨3,rfl,HBA.out,fun h=>absurd h (by decide)⟩
      | true=>
        have HQ2:=Zh (HQ.out ⟨q1,q2,q3,HBM.out⟩);have HXA:=Zh (HX2.later (show Below wr.heap.size wr (wr.alloc (.cells #[.int .i64 zl,.int .i64 zh,.int .i64 zr] 63)) from (Below.refl _ _).alloc (Nat.le_refl _) _))
        rcases Nat.eq_zero_or_pos k with rfl|hkp
        ·go_wp2_with fail;refine Zah (by kernel_rfl) (by kernel_rfl) ?_
         repeat go_big_quiet_step (fail)
         refine wpQuiet_nil ?_;rintro w14 ⟨⟨_,hb14⟩,rfl⟩;have HB14:=Zh (HBE2.Zg hb14);clear hb14 x0 x1 x2 x3 x4 x5 xf xz c0 c1 c2;go_wp2_with fail;go_roundw
         case rel=>exact ⟨1,by omega,by go_num,HB14,HQ2,Zh (HO.out (fun m h hm=>by omega))⟩
         case measure=>simp [intOf];omega
        ·obtain ⟨m,rfl⟩: ∃m,k=m+1:=⟨k-1,by omega⟩;have hml:m<hs.length:=by omega
         have cp:=HPV.out m rfl hml;have HLE2:=Zh (HLE.out zl rfl m hml rfl);obtain ⟨zp,hzp⟩: ∃z,hs[m].hi=z:=⟨_,rfl⟩;rw [hzp] at cp HLE2;have hsub:((m:Int)+1-1)=(m:Int):=by omega
         by_cases hlp:zl<zp
         ·have e4:decide (zl<zp)=true:=Zt hlp;go_wp2_with fail;refine Zah (by kernel_rfl) (by kernel_rfl) ?_
          repeat go_big_quiet_step (fail)
          refine wpQuiet_nil ?_;rintro w14 ⟨⟨_,hb14⟩,rfl⟩;have HB14:=Zh (HBA.Zg hb14);clear hb14;go_wp2_with fail;go_ret;exact ⟨11,rfl,HB14.out,fun h=>absurd h (by decide)⟩
         ·have e4:decide (zl<zp)=false:=Zf hlp;have HO2:=Zh (HO.out (HLE2.out (by omega)));go_wp2_with fail;refine Zah (by kernel_rfl) (by kernel_rfl) ?_
          repeat go_big_quiet_step (fail)
          refine wpQuiet_nil ?_;rintro w14 ⟨⟨_,hb14⟩,rfl⟩;have HB14:=Zh (HBE2.Zg hb14);clear hb14 x0 x1 x2 x3 x4 x5 xf xz c0 c1 c2 cp;go_wp2_with fail;go_roundw
          case rel=>exact ⟨m+2,by omega,by go_num,HB14,HQ2,HO2⟩
          case measure=>simp [intOf];omega
    ·have HF1:=Zh (show∀j (h:j<hs.length),HoOk n hs[j] from fun j hj=>HK1.out j hj (by have:=HN.out;omega));have HF2:=Zh (show∀j (h:j+1<hs.length),hs[j].hi<=hs[j+1].lo from fun j hj=>HK2.out j hj (by have:=HN.out;omega));clear HK1 HK2;have HCK2:=Zh HCK.out;obtain ⟨R5,hR5⟩: ∃R,ckR tr=R:=⟨_,rfl⟩;rw [hR5] at HCK HOK;clear hR5 HCK2
     by_cases hz:R5=0
     ·subst hz;obtain ⟨q,rfl,hdn⟩:=HOK.out rfl;have HSG:=Zh (fun (u:World)=>Zsc u q (hdn.mono (by decide)));have HDN:=Zh hdn;have HNN:=Zh (show 0<=q.num.sign->0<=q from fun h=>by
        rw [<-Rat.not_lt,<-Zca];omega)
      clear hdn HOK;rw [show tx (ratL q)=txq q from rfl] at *;generalize txq q=X at *;generalize q.num.sign=sg at *
      by_cases hsg:sg<0
      ·have g2:decide (sg<0)=true:=Zt hsg;go_wp2_with fail;refine (HCK.out _).mono ?_;rintro e5 w5 ⟨rfl,hb⟩;have HB5:=Zh (HBW.Zg hb);have HX3:=Zh (HX2.later hb);clear hb x0 x1 x2 x3 x4 x5 xf xz;obtain ⟨x0,x1,x2,x3,x4,x5,xf,xz⟩:=HX3.w6;go_wp2_with fail;refine (HSG.out _).mono ?_;rintro e6 w6 ⟨rfl,rfl⟩;go_wp2_with fail;go_ret;exact ⟨3,rfl,HB5.out,fun h=>absurd h (by decide)⟩
      ·have g2:decide (sg<0)=false:=Zf hsg;have HQ:=Zh (HNN.out (by omega));go_wp2_with fail;refine (HCK.out _).mono ?_;rintro e5 w5 ⟨rfl,hb⟩;have HB5:=Zh (HBW.Zg hb);have HX3:=Zh (HX2.later hb);clear hb x0 x1 x2 x3 x4 x5 xf xz;obtain ⟨x0,x1,x2,x3,x4,x5,xf,xz⟩:=HX3.w6;go_wp2_with fail;refine (HSG.out _).mono ?_;rintro e6 w6 ⟨rfl,rfl⟩;go_wp2_with fail;go_ret;exact ⟨0,rfl,HB5.out,fun _=>⟨HPP.out,HF1.out,HF2.out,q,rfl,HDN.out,HQ.out⟩⟩
     ·have g2:(R5==0)=false:=beq_eq_false_iff_ne.2 hz;have HZ:=Zh hz;clear hz HOK;go_wp2_with fail;refine (HCK.out _).mono ?_;rintro e5 w5 ⟨rfl,hb⟩;have HB5:=Zh (HBW.Zg hb);have HX3:=Zh (HX2.later hb);clear hb x0 x1 x2 x3 x4 x5 xf xz;obtain ⟨x0,x1,x2,x3,x4,x5,xf,xz⟩:=HX3.w6;go_wp2_with fail;go_ret;exact ⟨R5,rfl,HB5.out,fun h=>absurd h HZ.out⟩
 ·have g1:(R4 !=0)=true:=bne_iff_ne.2 hz;have HZ:=Zh hz;clear HP HST HS1 HOK HCK;go_wp2_with fail;go_ret;exact ⟨R4,rfl,HB.out,fun h=>absurd h HZ.out⟩
end Go.Proofs.YtijajkfmlghgkaaGreatDoor.Nu
namespace Go.Proofs.YtijajkfmlghgkaaGreatDoor
open Go Go.Proofs Go.RowKit
def SlL {α:Type} (f:α->List Value) (sz:Nat) (w:World) (B:Nat) (v:Value) (l:List α):Prop:=
  ∃a c,v= .slice a l.length c/\l.length<=9223372036854775807/\(0<l.length->∃b off,a=some ⟨b,off,none⟩/\b<B/\
   ∀i (h:i<l.length),At w b (off+i* sz) (f l[i]))
theorem SlL.below {α:Type} {f:α->List Value} {sz:Nat} {w w':World} {B:Nat} {v:Value} {l:List α} (h:SlL f sz w B v l) (hb:Below B w w'):SlL f sz w' B v l:=by
  obtain ⟨a,c,rfl,hl,h⟩:=h;refine ⟨a,c,rfl,hl,fun h0=> ?_⟩;obtain ⟨b,off,rfl,hB,hc⟩:=h h0;exact ⟨b,off,rfl,hB,fun i hi=>(hc i hi).below hb hB⟩
theorem SlL.later {α:Type} {f:α->List Value} {sz:Nat} {w w':World} {v:Value} {l:List α} (h:SlL f sz w w.heap.size v l) (hb:Below w.heap.size w w'):SlL f sz w' w'.heap.size v l:=by
  obtain ⟨a,c,rfl,hl,h⟩:=h;refine ⟨a,c,rfl,hl,fun h0=> ?_⟩;obtain ⟨b,off,rfl,hB,hc⟩:=h h0;exact ⟨b,off,rfl,Nat.lt_of_lt_of_le hB hb.size,fun i hi=>(hc i hi).below hb hB⟩
theorem SlL.nil {α:Type} {f:α->List Value} {sz:Nat} {w:World} {B:Nat} {a:Option Addr} {c:Nat}:SlL f sz w B (.slice a 0 c) ([]:List α):=
  ⟨a,c,rfl,by simp,fun h=>by simp at h⟩
theorem SlL.short {α:Type} {f:α->List Value} {sz:Nat} {w:World} {B:Nat} {v:Value} {l:List α} (h:SlL f sz w B v l) (hl:l.length<=1000000000):Sl f sz w B v l:=by
  obtain ⟨a,c,e,_,hA⟩:=h;exact ⟨a,c,e,hl,hA⟩
theorem SlL.len {α:Type} {f:α->List Value} {sz:Nat} {w:World} {B:Nat} {a:Option Addr} {n c:Nat} {l:List α} (h:SlL f sz w B (.slice a n c) l):l.length=n:=by
  obtain ⟨a',c',e,_⟩:=h;injection e with _ e _
  exact e.symm
end Go.Proofs.YtijajkfmlghgkaaGreatDoor
namespace Go.Proofs.YtijajkfmlghgkaaGreatDoor.Nu
open Go Go.Proofs Go.RowKit Go.Proofs.YtijajkfmlghgkaaGreatDoor
theorem Zg0 (w:World) (v1 v2 v3 v4 vt:Value) (ah:Option Addr) (nh ch:Nat) (h:nh=0∨12<nh)
    (hst: ∀u:World,Below w.heap.size w u->Calls Tryz.prog 145 #[.agg #[.slice ah nh ch,v1,v2,v3,v4,vt]] u fun e w'=> ∃R:Int,e= .returned (.int .i64 R)/\Below u.heap.size u w'):
    Calls Tryz.prog 67 #[.agg #[.slice ah nh ch,v1,v2,v3,v4,vt]] w fun e w'=> ∃R:Int,e= .returned (.int .i64 R)/\Below w.heap.size w w'/\R≠0:=by
 have HST:=Zh hst;clear hst;have HB:=Zh ((Below.refl w.heap.size w).alloc (Nat.le_refl _) (.cells #[.slice ah nh ch,v1,v2,v3,v4,vt] 51));have HX:=Zh (Box.new w #[.slice ah nh ch,v1,v2,v3,v4,vt] 51);obtain ⟨x0,x1,x2,x3,x4,x5,xf,xz⟩:=HX.w6;have HS1:=Zh (HST.out _ HB.out);go_enter Tryz.func67,Tryz.ntmps67;go_wp2_with fail;refine HS1.mono ?_;rintro e4 w4 ⟨R4,rfl,hb⟩;replace HB:=Zh (HB.Zg hb);replace HX:=Zh (HX.later hb);clear hb x0 x1 x2 x3 x4 x5 xf xz;obtain ⟨x0,x1,x2,x3,x4,x5,xf,xz⟩:=HX.w6
 by_cases hz:R4=0
 ·have g1:(R4 !=0)=false:=by rw [hz];rfl
  subst hz;clear HST HS1
  rcases h with rfl|h
  ·go_wp2_with fail;go_ret;exact ⟨2,rfl,HB.out,by decide⟩
  ·have d3:((nh:Int)==0)=false:=beq_eq_false_iff_ne.2 (by omega);have d4:(nh==0)=false:=beq_eq_false_iff_ne.2 (by omega);have d5:decide ((12:Int)<(nh:Int))=true:=Zt (by omega);have d6:decide (12<nh)=true:=Zt (by omega);go_wp2_with fail;go_ret;exact ⟨5,rfl,HB.out,by decide⟩
 ·have g1:(R4 !=0)=true:=bne_iff_ne.2 hz;have HZ:=Zh hz;clear HST HS1;go_wp2_with fail;go_ret;exact ⟨R4,rfl,HB.out,HZ.out⟩
structure FewOk (hs:List HoR) (wt sh be:List Int) (ca:List (List UInt8)) (tr:List UInt8) (n:Nat):Prop where
  n0:0<wt.length
  nn:wt.length<=n
  lc:ca.length=wt.length
  ls:sh.length=wt.length
  lb:be.length=wt.length
  st: ∀k (h1:k<wt.length) (h2:k<ca.length) (h3:k<sh.length) (h4:k<be.length),StOk wt[k] ca[k] sh[k] be[k]
  h0:0<hs.length
  h12:hs.length<=12
  ho: ∀k (h:k<hs.length),HoOk wt.length hs[k]
  ord: ∀k (h:k+1<hs.length),hs[k].hi<=hs[k+1].lo
  ca12: ∀a∈ca,a.length<=12
  tr12:tr.length<=12
  tr0: ∃q:Rat,tr=ratL q/\Dn mxd q/\0<=q
section
variable (w:World) (ah aw ac asx ab:Option Addr) (nh nw nc ns nb ch cw cc cs cb:Nat) (hs:List HoR) (wt sh be:List Int) (ca:List (List UInt8)) (tr:List UInt8)
  (hh:SlL Zc2 3 w w.heap.size (.slice ah nh ch) hs) (hw:SlL encI 1 w w.heap.size (.slice aw nw cw) wt) (hc:SlL encT 1 w w.heap.size (.slice ac nc cc) ca)
  (hsh:SlL encI 1 w w.heap.size (.slice asx ns cs) sh) (hbe:SlL encI 1 w w.heap.size (.slice ab nb cb) be) (n:Nat)
include hh hw hc hsh hbe
theorem Zog (hca: ∀a∈ca,a.length<=12) (hnw:nw<=n) (htr:tr.length<=12):
    Calls Tryz.prog 67 #[.agg #[.slice ah nh ch,.slice aw nw cw,.slice ac nc cc,.slice asx ns cs,.slice ab nb cb,.string (tx tr)]] w fun e w'=> ∃R:Int,e= .returned (.int .i64 R)/\Below w.heap.size w w'/\(R=0->FewOk hs wt sh be ca tr n):=by
 have eh:hs.length=nh:=SlL.len hh;have ew:wt.length=nw:=SlL.len hw;have ec:ca.length=nc:=SlL.len hc;have es:sh.length=ns:=SlL.len hsh;have eb:be.length=nb:=SlL.len hbe;have hst: ∀u:World,Below w.heap.size w u->Calls Tryz.prog 145 #[.agg #[.slice ah nh ch,.slice aw nw cw,.slice ac nc cc,.slice asx ns cs,.slice ab nb cb,.string (tx tr)]] u fun e w'=> ∃R:Int,e= .returned (.int .i64 R)/\Below u.heap.size u w'/\
  (R=0->0<wt.length/\ca.length=wt.length/\sh.length=wt.length/\be.length=wt.length/\∀k (h1:k<wt.length) (h2:k<ca.length) (h3:k<sh.length) (h4:k<be.length),StOk wt[k] ca[k] sh[k] be[k]):=fun u hb=>by
  by_cases hq:nw=0∨24<nw∨nc≠nw∨ns≠nw∨nb≠nw
  ·refine (Zhv u (.slice ah nh ch) (.string (tx tr)) aw ac asx ab nw nc ns nb cw cc cs cb hq).mono ?_;rintro e w' ⟨R,h1,h2,h3⟩;exact ⟨R,h1,h2,fun h=>absurd h h3⟩
  ·obtain rfl:nc=nw:=by omega
   obtain rfl:ns=nc:=by omega
   obtain rfl:nb=ns:=by omega
   refine (Zij u (.slice ah nh ch) (.string (tx tr)) aw ac asx ab nb cw cc cs cb wt sh be ca ((hw.later hb).short (by omega)) ((hc.later hb).short (by omega)) ((hsh.later hb).short (by omega)) ((hbe.later hb).short (by omega)) (by omega) (by omega) (fun a ha=>by have:=hca a ha;omega)).mono ?_;rintro e w' ⟨R,h1,h2,h3⟩;exact ⟨R,h1,h2,fun h=>⟨by omega,by omega,by omega,by omega,(h3 h).2.2.2.2⟩⟩
 by_cases hq:nh=0∨12<nh
 ·refine (Zg0 w _ _ _ _ _ ah nh ch hq (fun u hb=>(hst u hb).mono fun e w' ⟨R,h1,h2,_⟩=>⟨R,h1,h2⟩)).mono ?_;rintro e w' ⟨R,h1,h2,h3⟩;exact ⟨R,h1,h2,fun h=>absurd h h3⟩
 ·refine (Zhw w _ _ _ _ ah aw nw nh ch cw tr hs _ rfl (hh.short (by omega)) (by omega) (by omega) (by omega) hst).mono ?_;rintro e w' ⟨R,h1,h2,h3⟩;refine ⟨R,h1,h2,fun h=> ?_⟩;obtain ⟨⟨p1,p2,p3,p4,p5⟩,q1,q2,q3⟩:=h3 h;exact ⟨p1,by omega,p2,p3,p4,p5,by omega,by omega,by rw [ew];exact q1,q2,hca,htr,q3⟩
theorem few20 (hn:n<=24):Calls Tryz.prog 20 #[.agg #[.slice ah nh ch,.slice aw nw cw,.slice ac nc cc,.slice asx ns cs,.slice ab nb cb,.string (tx tr)],.int .i64 (n:Int)] w fun e w'=> ∃t:Bool,e= .returned (.bool t)/\Below w.heap.size w w'/\(t=true->FewOk hs wt sh be ca tr n):=by
  have HFS:=Zh (fun (u:World) (hb:Below w.heap.size w u)=>Zog u ah aw ac asx ab nh nw nc ns nb ch cw cc cs cb hs wt sh be ca tr (hh.later hb) (hw.later hb) (hc.later hb) (hsh.later hb) (hbe.later hb) n);have HN:=Zh (SlL.len hc);obtain ⟨ac',cc',e,hcl,hA⟩:=hc;injection e with e1 e2 e3
  subst e1 e3;have hnc:nc<=9223372036854775807:=by rw [e2];exact hcl
  have HA:=Zh hA;clear hh hw hsh hbe hA hcl e2;obtain ⟨T,hT⟩: ∃T,tx tr=T:=⟨_,rfl⟩;have hTs:T.size=tr.length:=by rw [<-hT];exact Zan tr
  rw [hT] at HFS ⊢;clear hT;obtain ⟨L,hL⟩: ∃L,tr.length=L:=⟨_,rfl⟩;rw [hL] at hTs HFS;have hnn:(n:Int)<=24:=by omega
  have HB:=Zh ((Below.refl w.heap.size w).alloc (Nat.le_refl _) (.cells #[.slice ah nh ch,.slice aw nw cw,.slice ac nc cc,.slice asx ns cs,.slice ab nb cb,.string T] 51));have HX:=Zh (Box.new w #[.slice ah nh ch,.slice aw nw cw,.slice ac nc cc,.slice asx ns cs,.slice ab nb cb,.string T] 51);obtain ⟨x0,x1,x2,x3,x4,x5,xf,xz⟩:=HX.w6;go_enter Tryz.func20,Tryz.ntmps20;go_wp2_with fail;clear x0 x1 x2 x3 x4 x5 xf xz
  go_loopw [5] (fun i wr=> ∃k:Nat,k<=nc/\i= .int .i64 k/\Hid (Below w.heap.size w wr)/\Hid (Box wr w.heap.size 51 [.slice ah nh ch,.slice aw nw cw,.slice ac nc cc,.slice asx ns cs,.slice ab nb cb,.string T])/\Hid (∀j (h:j<ca.length),j<k->ca[j].length<=12)) (fun i _=>nc-(intOf i).toNat)
  case atStart=>exact ⟨0,by omega,rfl,HB,HX,Zh (fun j _ h=>by omega)⟩
  case round=>
    obtain ⟨k,hk,rfl,HBE,HXE,HK⟩:=hrel;clear HB HX;obtain ⟨x0,x1,x2,x3,x4,x5,xf,xz⟩:=HXE.w6
    by_cases hlt:k<nc
    ·have hk1:k<ca.length:=by rw [HN.out];exact hlt
     obtain ⟨bc,oc,rfl,hbc,hat⟩:=HA.out (by omega);have c0:=((hat k hk1).below HBE.out hbc) 0 _ rfl;rw [Nat.mul_one,Nat.add_zero] at c0;have hbw:bc<wr.heap.size:=Nat.lt_of_lt_of_le hbc HBE.size;have HQ:=Zh (show ca[k].length<=12->∀j (h:j<ca.length),j<k+1->ca[j].length<=12 from fun h j hj hjk=>by
       rcases Nat.lt_or_ge j k with h1|h1
       ·exact HK.out j hj h1
       ·obtain rfl:j=k:=by omega
        exact h)
     obtain ⟨y,hy⟩: ∃y,ca[k]=y:=⟨_,rfl⟩;rw [hy] at c0 HQ;have hsz:(tx y).size=y.length:=Zan y;generalize tx y=Y at *;generalize y.length=yl at *;clear hy hat HA
     by_cases hl:12<yl
     ·have d1:decide ((12:Int)<(yl:Int))=true:=Zt (by omega);have d2:decide (12<yl)=true:=Zt hl;go_wp2_with fail;go_ret;exact ⟨false,rfl,HBE.out,fun h=>Bool.noConfusion h⟩
     ·have d1:decide ((12:Int)<(yl:Int))=false:=Zf (by omega);have d2:decide (12<yl)=false:=Zf hl;have HQ2:=Zh (HQ.out (by omega));go_wp2_with fail;go_roundw
      case rel=>exact ⟨k+1,by omega,by go_num,HBE,HXE,HQ2⟩
      case measure=>simp [intOf];omega
    ·have HC12:=Zh (show∀a∈ca,a.length<=12 from fun a ha=>by
       obtain ⟨j,hj,rfl⟩:=List.mem_iff_getElem.1 ha;exact HK.out j hj (by have:=HN.out;omega))
     have HFL:=Zh (fun (u:World) (hb:Below w.heap.size w u)=>HFS.out u hb HC12.out);clear HA HK HN HFS HC12
     by_cases h1:nw<=n
     ·have e1:decide ((nw:Int)<=(n:Int))=true:=Zt (by omega);have e2:decide (nw<=n)=true:=Zt h1
      by_cases h2:L<=12
      ·have e3:decide ((L:Int)<=(12:Int))=true:=Zt (by omega);have e4:decide (L<=12)=true:=Zt h2;have HS:=Zh (HFL.out _ HBE.out h1 h2);clear HFL;go_wp2_with fail;refine HS.mono ?_;rintro e5 w5 ⟨R,rfl,hb,hR⟩;have HB5:=Zh (HBE.Zg hb);have HR:=Zh hR;clear hb hR HS x0 x1 x2 x3 x4 x5 xf xz
       by_cases hz:R=0
       ·have e5:(R==0)=true:=beq_iff_eq.2 hz;have HF:=Zh (HR.out hz);clear hz HR;go_wp2_with fail;go_ret;exact ⟨true,rfl,HB5.out,fun _=>HF.out⟩
       ·have e5:(R==0)=false:=beq_eq_false_iff_ne.2 hz;clear hz HR;go_wp2_with fail;go_ret;exact ⟨false,rfl,HB5.out,fun h=>Bool.noConfusion h⟩
      ·have e3:decide ((L:Int)<=(12:Int))=false:=Zf (by omega);have e4:decide (L<=12)=false:=Zf h2;go_wp2_with fail;go_ret;exact ⟨false,rfl,HBE.out,fun h=>Bool.noConfusion h⟩
     ·have e1:decide ((nw:Int)<=(n:Int))=false:=Zf (by omega);have e2:decide (nw<=n)=false:=Zf h1;go_wp2_with fail;go_ret;exact ⟨false,rfl,HBE.out,fun h=>Bool.noConfusion h⟩
end
end Go.Proofs.YtijajkfmlghgkaaGreatDoor.Nu
namespace Go.Proofs.YtijajkfmlghgkaaGreatDoor.Nu
open Go Go.Proofs Go.RowKit Go.Proofs.YtijajkfmlghgkaaGreatDoor Go.Lib
theorem Zmj {q:Rat} {k:Nat} (hk:0<k) (h:(ratL q).length<=k):Dn k q:=by
  unfold ratL at h;rw [List.length_append] at h;have h1:(decDigits q.num.natAbs).length<=(itoa q.num).length:=by
    rcases Int.lt_or_le q.num 0 with h|h
    ·rw [Zbc h,List.length_cons];omega
    ·rw [Zav h,show q.num.toNat=q.num.natAbs by omega];exact Nat.le_refl _
  refine ⟨(Zaw hk).1 (by omega),?_⟩
  split at h
  ·rename_i hd;rw [hd];exact Nat.one_lt_pow (by omega) (by decide)
  ·rw [List.length_cons] at h;exact (Zaw hk).1 (by omega)
theorem Zdc {z:Int} (h:Zcc z=true):MsP z:=by
  simp only [Zcc,Bool.and_eq_true,decide_eq_true_eq] at h;exact h
theorem Zmk: ∀ (l:List (List UInt8)),(∀a∈l,∃q:Rat,a=ratL q/\0<q)->∃qs:List Rat,qs.map ratL=l/\∀q∈qs,0<q
  | [],_=>⟨[],rfl,by simp⟩
  | a::l,h=>by
    obtain ⟨q,h1,h2⟩:=h a (by simp);obtain ⟨qs,h3,h4⟩:=Zmk l (fun b hb=>h b (by simp [hb]));refine ⟨q::qs,by rw [List.map_cons,h3,h1],fun x hx=> ?_⟩
    rcases List.mem_cons.1 hx with rfl|hx
    ·exact h2
    ·exact h4 x hx
theorem FewOk.shp {hs:List HoR} {wt sh be:List Int} {ca:List (List UInt8)} {tr:List UInt8} (h:FewOk hs wt sh be ca tr 6): ∃s:Shp,s.hs=hs/\s.wt=wt/\s.sh=sh/\s.be=be/\s.ca.map ratL=ca/\ratL s.t=tr/\ShOk s:=by
  have hget: ∀k (hk:k<wt.length),∃ (h2:k<ca.length) (h3:k<sh.length) (h4:k<be.length),StOk wt[k] ca[k] sh[k] be[k]:=fun k hk=>⟨by rw [h.lc];exact hk,by rw [h.ls];exact hk,by rw [h.lb];exact hk,h.st k hk _ _ _⟩;obtain ⟨qs,hq,hp⟩:=Zmk ca (fun a ha=>by
    obtain ⟨k,hk,rfl⟩:=List.mem_iff_getElem.1 ha;obtain ⟨h2,h3,h4,-,⟨q,e,-,hpos⟩,-⟩:=hget k (by rw [<-h.lc];exact hk);exact ⟨q,e,hpos⟩)
  obtain ⟨t,ht,-,ht0⟩:=h.tr0;have hql:qs.length=wt.length:=by rw [<-h.lc,<-hq,List.length_map]
  refine ⟨⟨hs,wt,qs,sh,be,t⟩,rfl,rfl,rfl,rfl,hq,ht.symm,⟨h.n0,h.nn,hql,h.ls,h.lb,fun x hx=> ?_,fun q hq2=> ?_,fun x hx=> ?_,fun x hx=> ?_,h.h0,h.h12,fun k hk=> ?_,h.ord,ht0,Zmj (by decide) (by rw [<-ht];exact h.tr12)⟩⟩
  ·obtain ⟨k,hk,rfl⟩:=List.mem_iff_getElem.1 hx;obtain ⟨h2,h3,h4,k1,-⟩:=hget k hk;exact Zdc k1
  ·exact ⟨Zmj (by decide) (h.ca12 _ (by rw [<-hq];exact List.mem_map_of_mem hq2)),hp q hq2⟩
  ·obtain ⟨k,hk,rfl⟩:=List.mem_iff_getElem.1 hx;obtain ⟨h2,h3,h4,-,-,k1,-⟩:=hget k (by rw [<-h.ls];exact hk);exact Zdc k1
  ·obtain ⟨k,hk,rfl⟩:=List.mem_iff_getElem.1 hx;obtain ⟨h2,h3,h4,-,-,-,k1⟩:=hget k (by rw [<-h.lb];exact hk);exact Zdc k1
  ·obtain ⟨k1,k2,k3,k4⟩:=h.ho k hk;exact ⟨k1,k2,k3,Zdc k4⟩
theorem Zoh {w:World} {B:Nat} {v:Value} {qs:List Rat} (h:Sl encT 1 w B v (qs.map ratL)):Sl encQ 1 w B v qs:=by
  obtain ⟨a,c,e,hl,hA⟩:=h;have hm:(qs.map ratL).length=qs.length:=List.length_map ..;refine ⟨a,c,by rw [e,hm],by rw [<-hm];exact hl,fun h0=> ?_⟩;obtain ⟨b,off,rfl,hb,hat⟩:=hA (by rw [hm];exact h0);refine ⟨b,off,rfl,hb,fun i hi=> ?_⟩;have:=hat i (by rw [hm];exact hi);rw [List.getElem_map] at this;exact this
end Go.Proofs.YtijajkfmlghgkaaGreatDoor.Nu
namespace Go.Proofs.YtijajkfmlghgkaaGreatDoor
end Go.Proofs.YtijajkfmlghgkaaGreatDoor
namespace Go.Proofs.YtijajkfmlghgkaaGreatDoor.Nu
open Go Go.Proofs Go.RowKit Go.Proofs.YtijajkfmlghgkaaGreatDoor
theorem Ze2 (x:Int): ∀u∈encI x,u.oneCell'=true:=by intro u hu;simp [encI] at hu;subst hu;rfl
theorem Zoi (x:Rat): ∀u∈encQ x,u.oneCell'=true:=by intro u hu;simp [encQ] at hu;subst hu;rfl
theorem Zml (x:HoR): ∀u∈Zc2 x,u.oneCell'=true:=by intro u hu;simp [Zc2] at hu;rcases hu with rfl|rfl|rfl <;> rfl
theorem Zkb (w:World) (ah:Option Addr) (nh ch:Nat) (v1 v2 v3 v4 v5:Value) (am:Option Addr) (nm cm:Nat) (l:List Int) (hl:SlL encI 1 w w.heap.size (.slice am nm cm) l) (hn:nh<=12):
    ∃R:Int,(∀u,Below w.heap.size w u->Calls Tryz.prog 21 #[.agg #[.slice ah nh ch,v1,v2,v3,v4,v5],.slice am nm cm] u (Ret (.int .i64 R) u))/\(R=0->l.length=nh/\∀z∈l,MsP z):=by
 by_cases he:nm=nh
 ·have hll:l.length=nh:=by rw [SlL.len hl];exact he
  refine ⟨if l.all Zcc then 0 else 3,fun u hu=>Zn4 u ah nh ch v1 v2 v3 v4 v5 _ l ((hl.later hu).short (by omega)) hll,fun h=>⟨hll,fun z hz=> ?_⟩⟩
  split at h
  ·rename_i h2;exact Zdc (List.all_eq_true.1 h2 z hz)
  ·cases h
 ·exact ⟨2,fun u _=>Zii u ah am nh ch nm cm v1 v2 v3 v4 v5 he,fun h=>by cases h⟩
structure ShipK (w:World) (ah aw ac az ab:Option Addr) (nh nw nc ns nb ch cw cc cs cb:Nat) (tr:List UInt8) (s:Shp):Prop where
  tb:TbR w
  nh12:nh<=12
  lh:s.hs.length=nh
  lw:s.wt.length=nw
  t:tx tr=txq s.t
  sr:ShR w ⟨ah,aw,ac,az,ab,nh,nw,nc,ns,nb,ch,cw,cc,cs,cb⟩ s
  ok:ShOk s
theorem Zoj (w:World) (hw:TbR w) (ah aw ac az ab:Option Addr) (nh nw nc ns nb ch cw cc cs cb:Nat) (hs:List HoR) (wt sh be:List Int) (ca:List (List UInt8)) (tr:List UInt8)
    (hh:SlL Zc2 3 w w.heap.size (.slice ah nh ch) hs) (hwt:SlL encI 1 w w.heap.size (.slice aw nw cw) wt) (hca:SlL encT 1 w w.heap.size (.slice ac nc cc) ca) (hsh:SlL encI 1 w w.heap.size (.slice az ns cs) sh) (hbe:SlL encI 1 w w.heap.size (.slice ab nb cb) be)
    (hf:FewOk hs wt sh be ca tr 6): ∃s,ShipK w ah aw ac az ab nh nw nc ns nb ch cw cc cs cb tr s:=by
 obtain ⟨s,rfl,rfl,rfl,rfl,hc,ht,ok⟩:=hf.shp;subst hc ht;have h12:=ok.h12;have h6:=ok.n6;have hls:=ok.ls;have hlb:=ok.lb;have hlc:=ok.lc;refine ⟨s,hw,by rw [<-SlL.len hh];exact h12,SlL.len hh,SlL.len hwt,rfl,⟨hh.short (by omega),hwt.short (by omega),Zoh (hca.short (by rw [List.length_map];omega)),hsh.short (by omega),hbe.short (by omega)⟩,ok⟩
section
variable {w:World} {ah aw ac az ab:Option Addr} {nh nw nc ns nb ch cw cc cs cb:Nat} {tr:List UInt8} {s:Shp} (X:ShipK w ah aw ac az ab nh nw nc ns nb ch cw cc cs cb tr s)
include X
theorem ShipK.cg {l:List Int} (h1:l.length=nh) (h2: ∀z∈l,MsP z):CgOk s l:=⟨by rw [h1,X.lh],h2⟩
structure TellP (w:World) (SV:Value) (s:Shp) (f:Nat) (L:List Int->List Rat):Prop where
  run: ∀ (u:World) (vm:Value) (ms:List Int),Below w.heap.size w u->Sl encI 1 u u.heap.size vm ms->CgOk s ms->Calls Tryz.prog f #[SV,vm] u (Zb3 u (L ms))
  len: ∀ms,(L ms).length=s.wt.length
  dn: ∀ms,CgOk s ms->∀q∈L ms,Dn 600 q
  law: ∀ (a b:List Int) (m k:Nat),b.length=a.length->∀ (h1:k<(L (addI a b)).length) (h2:k<(L (zerI m)).length) (h3:k<(L a).length) (h4:k<(L b).length),(L (addI a b))[k]+(L (zerI m))[k]=(L a)[k]+(L b)[k]
omit X in
theorem TellP.call {SV:Value} {f:Nat} {L:List Int->List Rat} (T:TellP w SV s f L) (hnw:s.wt.length=nw) (u:World) (vm:Value) (ms:List Int) (hu:Below w.heap.size w u) (hm:Sl encI 1 u u.heap.size vm ms) (hc:CgOk s ms):
    Calls Tryz.prog f #[SV,vm] u (fun e w'=> ∃a c,e= .returned (.tuple #[.slice a nw c,.int .i64 0])/\Sl encQ 1 w' w'.heap.size (.slice a nw c) (L ms)/\Below u.heap.size u w'):=by
 refine (T.run u vm ms hu hm hc).mono ?_;rintro e w' ⟨v,rfl,hs,hb⟩;obtain ⟨a,c,e,hr⟩:=id hs;rw [T.len,hnw] at e;subst e;exact ⟨a,c,rfl,hs,hb⟩
theorem ShipK.safe (u:World) (vm:Value) (ms:List Int) (hu:Below w.heap.size w u) (hm:Sl encI 1 u u.heap.size vm ms) (hc:CgOk s ms):Calls Tryz.prog 26 #[.agg #[.slice ah nh ch,.slice aw nw cw,.slice ac nc cc,.slice az ns cs,.slice ab nb cb,.string (tx tr)],vm] u (fun e w'=> ∃t:Bool,e= .returned (.tuple #[.bool t,.int .i64 0])/\(t=true↔SafeS s ms)/\Below u.heap.size u w'):=by
  rw [X.t];exact Zpq u (X.tb.later hu) ⟨ah,aw,ac,az,ab,nh,nw,nc,ns,nb,ch,cw,cc,cs,cb⟩ s vm ms (X.sr.later hu) hm X.ok hc
end
end Go.Proofs.YtijajkfmlghgkaaGreatDoor.Nu
