/- Lemmas on the way to the law TopMirrored: Xd -/
import Derived.Test.YtijajkfmlghgkaaGreatDoorTopMirroredP21
set_option linter.unusedVariables false
set_option linter.unusedSimpArgs false
set_option maxRecDepth 100000
set_option maxHeartbeats 4000000
namespace Go.Proofs.YtijajkfmlghgkaaGreatDoor.Nu
open Go Go.Proofs Go.RowKit Go.Proofs.YtijajkfmlghgkaaGreatDoor
theorem Zq3:(Tryz.prog.info? 32).map (fun i=>(i.zero,i.size,i.bytes))=some (some (.string ⟨#[]⟩),1,16):=by kernel_rfl
theorem Zmz (w5 u:World) (g6 g7:Nat) (hne: ¬g6=g7) (h6:w5.heap.size<=g6) (h7:w5.heap.size<=g7) (hb:Below w5.heap.size w5 u) (v0 v1 v2 v3 v4 v5:Value) (hE:Box u g6 51 [v0,v1,v2,v3,v4,v5]) (z0 z1 z2 z3 z4 z5:Value) (hM:Box u g7 51 [z0,z1,z2,z3,z4,z5]) {α β γ δ:Type} (f1:α->List Value) (f2:β->List Value) (f3:γ->List Value) (f4:δ->List Value):
    Four f1 1 3 f2 1 3 f3 1 3 f4 1 32 w5.heap.size w5 [(g7,51,[.slice none 0 0,.slice none 0 0,.slice none 0 0,v3,v4,v5])] g6 51 [v0,v1,v2,.slice none 0 0,.slice none 0 0,v5] (.slice none 0 0) [] (.slice none 0 0) [] (.slice none 0 0) [] (.slice none 0 0) []
      (((((((((((u.setCell ⟨g7,0,none⟩ v0).setCell ⟨g7,1,none⟩ v1).setCell ⟨g7,2,none⟩ v2).setCell ⟨g7,3,none⟩ v3).setCell ⟨g7,4,none⟩ v4).setCell ⟨g7,5,none⟩ v5).setCell ⟨g6,3,none⟩ (.slice none 0 0)).setCell ⟨g6,4,none⟩ (.slice none 0 0)).setCell ⟨g7,1,none⟩ (.slice none 0 0)).setCell ⟨g7,2,none⟩ (.slice none 0 0)).setCell ⟨g7,0,none⟩ (.slice none 0 0)):=by
 have hne': ¬g7=g6:=fun e=>hne e.symm;have hM':=((((((((((hM.set 0 v0).set 1 v1).set 2 v2).set 3 v3).set 4 v4).set 5 v5).other (a:=⟨g6,3,none⟩) (.slice none 0 0) hne).other (a:=⟨g6,4,none⟩) (.slice none 0 0) hne).set 1 (.slice none 0 0)).set 2 (.slice none 0 0)).set 0 (.slice none 0 0);have hE':=((((((((((hE.other (a:=⟨g7,0,none⟩) v0 hne').other (a:=⟨g7,1,none⟩) v1 hne').other (a:=⟨g7,2,none⟩) v2 hne').other (a:=⟨g7,3,none⟩) v3 hne').other (a:=⟨g7,4,none⟩) v4 hne').other (a:=⟨g7,5,none⟩) v5 hne').set 3 (.slice none 0 0)).set 4 (.slice none 0 0)).other (a:=⟨g7,1,none⟩) (.slice none 0 0) hne').other (a:=⟨g7,2,none⟩) (.slice none 0 0) hne').other (a:=⟨g7,0,none⟩) (.slice none 0 0) hne';have hb':=((((((((((hb.setCell (p:=⟨g7,0,none⟩) h7 v0).setCell (p:=⟨g7,1,none⟩) h7 v1).setCell (p:=⟨g7,2,none⟩) h7 v2).setCell (p:=⟨g7,3,none⟩) h7 v3).setCell (p:=⟨g7,4,none⟩) h7 v4).setCell (p:=⟨g7,5,none⟩) h7 v5).setCell (p:=⟨g6,3,none⟩) h6 (.slice none 0 0)).setCell (p:=⟨g6,4,none⟩) h6 (.slice none 0 0)).setCell (p:=⟨g7,1,none⟩) h7 (.slice none 0 0)).setCell (p:=⟨g7,2,none⟩) h7 (.slice none 0 0)).setCell (p:=⟨g7,0,none⟩) h7 (.slice none 0 0);generalize (((((((((((u.setCell ⟨g7,0,none⟩ v0).setCell ⟨g7,1,none⟩ v1).setCell ⟨g7,2,none⟩ v2).setCell ⟨g7,3,none⟩ v3).setCell ⟨g7,4,none⟩ v4).setCell ⟨g7,5,none⟩ v5).setCell ⟨g6,3,none⟩ (.slice none 0 0)).setCell ⟨g6,4,none⟩ (.slice none 0 0)).setCell ⟨g7,1,none⟩ (.slice none 0 0)).setCell ⟨g7,2,none⟩ (.slice none 0 0)).setCell ⟨g7,0,none⟩ (.slice none 0 0))=U at *;have ho: ∀x∈ [((g7:Nat),(51:TypeId),([.slice none 0 0,.slice none 0 0,.slice none 0 0,v3,v4,v5]:List Value))],Box U x.1 x.2.1 x.2.2/\(Value.slice none 0 0).ownBlock≠some x.1/\(Value.slice none 0 0).ownBlock≠some x.1/\g6≠x.1:=by
   intro x hx;rw [List.mem_singleton.1 hx];exact ⟨hM',(fun h=>by cases h),(fun h=>by cases h),hne⟩
 exact ⟨⟨hb',hb'.size,hE',Own.nil _ _ _ _ _,Own.nil _ _ _ _ _,(fun g h=>by cases h),(fun h=>by cases h),(fun h=>by cases h),ho⟩,⟨hb',hb'.size,hE',Own.nil _ _ _ _ _,Own.nil _ _ _ _ _,(fun g h=>by cases h),(fun h=>by cases h),(fun h=>by cases h),ho⟩,(fun g h=>by cases h),(fun g h=>by cases h),(fun g h=>by cases h),(fun g h=>by cases h)⟩
theorem Zov:(Tryz.prog.info? 63).map (fun i=>(i.zero,i.size,i.bytes))=some (some (.agg #[.int .i64 0,.int .i64 0,.int .i64 0]),3,24):=by kernel_rfl
theorem mir5 (w:World) (hw:TbR w) (ah aw ac az ab a1:Option Addr) (nh nw nc ns nb ch cw cc cs cb n1 c1:Nat) (hs:List HoR) (wt sh be:List Int) (ca:List (List UInt8)) (tr:List UInt8) (la:List Int)
    (hh:SlL Zc2 3 w w.heap.size (.slice ah nh ch) hs) (hwt:SlL encI 1 w w.heap.size (.slice aw nw cw) wt) (hca:SlL encT 1 w w.heap.size (.slice ac nc cc) ca) (hsh:SlL encI 1 w w.heap.size (.slice az ns cs) sh) (hbe:SlL encI 1 w w.heap.size (.slice ab nb cb) be)
    (ha:SlL encI 1 w w.heap.size (.slice a1 n1 c1) la):
    Calls Tryz.prog 5 #[.agg #[.slice ah nh ch,.slice aw nw cw,.slice ac nc cc,.slice az ns cs,.slice ab nb cb,.string (tx tr)],.slice a1 n1 c1] w (Ret (.bool true) w):=by
 have HFEW:=Zh (fun (u:World) (hu:Below w.heap.size w u)=>few20 u ah aw ac az ab nh nw nc ns nb ch cw cc cs cb hs wt sh be ca tr (hh.later hu) (hwt.later hu) (hca.later hu) (hsh.later hu) (hbe.later hu) 6 (by decide));have HLA:=Zh (SlL.len ha);have HWL:=Zh (fun (u:World) (hu:Below w.heap.size w u)=>Zim u (hw.later hu));have HMF:=Zh (fun (hfw:FewOk hs wt sh be ca tr 6)=>Zoj w hw ah aw ac az ab nh nw nc ns nb ch cw cc cs cb hs wt sh be ca tr hh hwt hca hsh hbe hfw);have HSA:=Zh ha;have HIN:=Zh Zoq;have HIQ:=Zh Zq3;clear hh hwt hca hsh hbe ha hw;obtain ⟨T,hT⟩: ∃T,tx tr=T:=⟨_,rfl⟩;rw [hT];simp only [hT] at HFEW;have HT:=Zh hT;clear hT;have HB:=Zh ((Below.refl w.heap.size w).alloc (Nat.le_refl _) (.cells #[.slice ah nh ch,.slice aw nw cw,.slice ac nc cc,.slice az ns cs,.slice ab nb cb,.string T] 51));have HX:=Zh (Box.new w #[.slice ah nh ch,.slice aw nw cw,.slice ac nc cc,.slice az ns cs,.slice ab nb cb,.string T] 51);obtain ⟨x0,x1,x2,x3,x4,x5,xf,xz⟩:=HX.w6;have HS:=Zh (HFEW.out _ HB.out);go_enter Tryz.func5,Tryz.ntmps5;go_wp2_with fail;refine HS.mono ?_;rintro e4 w4 ⟨t,rfl,hb,hft⟩;replace HB:=Zh (HB.Zg hb);replace HX:=Zh (HX.later hb);clear hb x0 x1 x2 x3 x4 x5 xf xz;obtain ⟨x0,x1,x2,x3,x4,x5,xf,xz⟩:=HX.w6;clear HS HFEW;have HWS:=Zh (HWL.out _ HB.out);cases t with
 | false=>
   clear HMF hft;go_wp2_with fail;refine HWS.mono ?_;rintro e5 w5 ⟨rfl,hb⟩;have HB5:=Zh (HB.Zg hb);clear hb x0 x1 x2 x3 x4 x5 xf xz;go_wp2_with fail;go_ret;exact ⟨rfl,HB5.out⟩
 | true=>
   obtain ⟨s,X⟩:=HMF.out (hft rfl);have hnh:=X.nh12;have HX2:=Zh X;clear HMF hft X;obtain ⟨R1,hm1,hr1⟩:=Zkb w4 ah nh ch (.slice aw nw cw) (.slice ac nc cc) (.slice az ns cs) (.slice ab nb cb) (.string T) a1 n1 c1 la (HSA.later HB.out) hnh;have HR1:=Zh hr1;have HS:=Zh (hm1 w4 (Below.refl _ _));clear hm1 hr1
   by_cases hz1:R1=0
   rotate_left
   ·have hzb:(R1 !=0)=true:=bne_iff_ne.2 hz1;go_wp2_with fail;refine HS.mono ?_;rintro e5 w5 ⟨rfl,hb⟩;have HB5:=Zh (HB.Zg hb);have HWS:=Zh (HWL.out _ HB5.out);clear hb x0 x1 x2 x3 x4 x5 xf xz;go_wp2_with fail;refine HWS.mono ?_;rintro e6 w6 ⟨rfl,hb⟩;have HB6:=Zh (HB5.Zg hb);clear hb;go_wp2_with fail;go_ret;exact ⟨rfl,HB6.out⟩
   subst hz1;have hl1:=(HR1.out rfl).1;have HA1:=Zh (HR1.out rfl).2;clear HR1;go_wp2_with fail;refine HS.mono ?_;rintro e5 w5 ⟨rfl,hb⟩;replace HB:=Zh (HB.Zg hb);replace HX:=Zh (HX.later hb);clear hb x0 x1 x2 x3 x4 x5 xf xz;obtain ⟨x0,x1,x2,x3,x4,x5,xf,xz⟩:=HX.w6;clear HS HWS;have e1:nh=n1:=by rw [<-HLA.out];exact hl1.symm
   subst e1;have HSA:=Zh (HSA.short (by omega));have hsz5:w.heap.size+1<=w5.heap.size:=HX.lt;clear HLA;go_wp2_with fail;clear x0 x1 x2 x3 x4 x5 xf xz;refine Za8 5 (R4J w5 (.agg #[.slice ah nh ch,.slice aw nw cw,.slice ac nc cc,.slice az ns cs,.slice ab nb cb,.string T]) 51 [.slice none 0 0,.slice none 0 0,.slice none 0 0,.slice none 0 0,.slice none 0 0,.string ⟨#[]⟩] [.slice ah nh ch,.slice aw nw cw,.slice ac nc cc,.slice az ns cs,.slice ab nb cb,.string T]) (by kernel_rfl) (by kernel_rfl) R4J.start ?_ ?_
   ·refine ⟨?_,?_,?_,?_,?_,trivial⟩
    all_goals
      intro D vs u hD hdep hJ;simp only [Zac,Z2,Z6,Act.put,Z1,Z4,Z5]
    ·obtain ⟨x0,x1,x2,x3,x4,x5,xf,xz⟩:=(HX.later hJ.later).w6;refine ⟨fun v u'=>v= .agg #[.slice ah nh ch,.slice aw nw cw,.slice ac nc cc,.slice az ns cs,.slice ab nb cb,.string T]/\u'=u,?_,?_⟩
     ·clear hD hdep hJ;go_wp2_with fail;refine ⟨rfl,rfl,.agg #[.slice ah nh ch,.slice aw nw cw,.slice ac nc cc,.slice az ns cs,.slice ab nb cb,.string T],?_,rfl,rfl⟩;intro t h;cases h;rfl
     ·rintro v u' ⟨rfl,rfl⟩;exact hJ.quiet0
    ·obtain ⟨x0,x1,x2,x3,x4,x5,xf,xz⟩:=(HX.later hJ.later).w6;refine ⟨fun v u'=>v= .agg #[.slice ah nh ch,.slice aw nw cw,.slice ac nc cc,.slice az ns cs,.slice ab nb cb,.string T]/\u'=u,?_,?_⟩
     ·clear hD hdep hJ;go_wp2_with fail;refine ⟨rfl,rfl,.agg #[.slice ah nh ch,.slice aw nw cw,.slice ac nc cc,.slice az ns cs,.slice ab nb cb,.string T],?_,rfl,rfl⟩;intro t h;cases h;rfl
     ·rintro v u' ⟨rfl,rfl⟩;exact hJ.quiet1
    ·refine ⟨fun v u'=>v= .pointer (some ⟨u.heap.size,0,none⟩)/\u'=u.alloc (.cells #[.slice none 0 0,.slice none 0 0,.slice none 0 0,.slice none 0 0,.slice none 0 0,.string ⟨#[]⟩] 51),?_,?_⟩
     ·clear hD hdep hJ;go_wp2_with fail;refine ⟨rfl,rfl,.pointer (some ⟨u.heap.size,0,none⟩),?_,rfl,rfl⟩;intro t h;cases h;rfl
     ·rintro v u' ⟨rfl,rfl⟩;exact hJ.new2 hD
    ·refine ⟨fun v u'=>v= .pointer (some ⟨u.heap.size,0,none⟩)/\u'=u.alloc (.cells #[.slice none 0 0,.slice none 0 0,.slice none 0 0,.slice none 0 0,.slice none 0 0,.string ⟨#[]⟩] 51),?_,?_⟩
     ·clear hD hdep hJ;go_wp2_with fail;refine ⟨rfl,rfl,.pointer (some ⟨u.heap.size,0,none⟩),?_,rfl,rfl⟩;intro t h;cases h;rfl
     ·rintro v u' ⟨rfl,rfl⟩;exact hJ.new3
    ·have e0:=hJ.v0 (Zr hdep 0);have h2:=Zr hdep 2;obtain ⟨g,e2,hl,hx⟩:=hJ.b2 h2;rw [hD] at hx;simp only [Bool.false_eq_true,if_false] at hx;have HG:=Zh hx;have HL:=Zh hJ.later;have HLG:=Zh hl;obtain ⟨y0,y1,y2,y3,y4,y5,yf,yz⟩:=hx.w6;refine ⟨fun v u'=>Below w5.heap.size w5 u'/\Box u' g 51 [.slice ah nh ch,.slice aw nw cw,.slice ac nc cc,.slice az ns cs,.slice ab nb cb,.string T]/\∀k t l,k≠g->Box u k t l->Box u' k t l,?_,?_⟩
     ·clear hD hdep hJ hl hx h2;go_wp2_with fail;refine ⟨rfl,rfl,undef,?_,?_,?_,?_⟩
      ·intro t h;cases h
      ·iterate 6 refine Below.setCell ?_ HLG.out _
       exact HL.out
      ·exact ((((((HG.set 0 (.slice ah nh ch)).set 1 (.slice aw nw cw)).set 2 (.slice ac nc cc)).set 3 (.slice az ns cs)).set 4 (.slice ab nb cb)).set 5 (.string T))
      ·intro k t l hk hb
       iterate 6 refine Box.other ?_ _ (Ne.symm hk)
       exact hb
     ·rintro v u' ⟨h3,h4,h5⟩;exact hJ.put h2 e2 h3 hl h4 h5
   intro D vs u hD hJ;have e1:=hJ.v1 (hD 1 (by decide));obtain ⟨g6,e2,hl6,hx6⟩:=hJ.b2 (hD 2 (by decide));obtain ⟨g7,e3,hl7,hx7⟩:=hJ.b3 (hD 3 (by decide));have hne:=hJ.ne (hD 2 (by decide)) (hD 3 (by decide));rw [hD 4 (by decide)] at hx6;simp only [if_true] at hx6;have n67: ¬g6=g7:=fun e=>hne (by rw [e2,e3,e]);have n76: ¬g7=g6:=fun e=>n67 e.symm;simp only [Zac,Z3,Z7,Z2,Z6,Act.put,Z1,Z4,Z5,e1,e2,e3];have HB6:=Zh (HB.trans (hJ.later.mono HB.size));have HX6:=Zh (HX.later hJ.later);have HE6:=Zh hx6;have HM6:=Zh hx7;obtain ⟨y0,y1,y2,y3,y4,y5,yf,yz⟩:=hx6.w6;obtain ⟨z0,z1,z2,z3,z4,z5,zf,zz⟩:=hx7.w6;have HX5:=Zh HX.out;have HB5:=Zh HB.out;have HL6:=Zh hJ.later;clear hD hJ hne hx6 hx7 e1 e2 e3 HB HX;go_wp2_with fail;clear y0 y1 y2 y3 y4 y5 yf yz z0 z1 z2 z3 z4 z5 zf zz;have X:=HX2.out;have hn6:nw<=6:=by rw [<-X.lw];exact X.ok.n6
   have hn0:0<nw:=by rw [<-X.lw];exact X.ok.n0
   have hls:s.sh.length=nw:=by rw [X.ok.ls];exact X.lw
   have hlb:s.be.length=nw:=by rw [X.ok.lb];exact X.lw
   have hlc:s.ca.length=nw:=by rw [X.ok.lc];exact X.lw
   have hlw:s.wt.length=nw:=X.lw;have hns:nw=ns:=by rw [<-hls];exact Sl.len X.sr.ps
   have hnb:nw=nb:=by rw [<-hlb];exact Sl.len X.sr.pb
   have hnc:nw=nc:=by rw [<-hlc];exact Sl.len X.sr.pc
   subst hns hnb hnc;have hps:=X.sr.ps;have hpb:=X.sr.pb;have hpw:=X.sr.pw;have hpc:=X.sr.pc;obtain ⟨bz,oz,ez,loz,lwz,hatz⟩:=Sl.atI hps HB5.out 0 (by omega);obtain ⟨bb,ob,eb,lob,lwb,hatb⟩:=Sl.atI hpb HB5.out 0 (by omega);obtain ⟨bw,ow,ew,z1',z2',z3'⟩:=Sl.atI hpw HB5.out 0 (by omega);clear z1' z2' z3';obtain ⟨bc,oc,ec,z1',z2',z3'⟩:=Sl.atI hpc HB5.out 0 (by omega);clear z1' z2' z3';subst ez eb ew ec;have HCZ:=Zh (fun (u:World) (hu:Below w5.heap.size w5 u)=>(show u.cell? ⟨bz,oz,none⟩=some (.int .i64 (s.sh.getD 0 0))/\bz<u.heap.size from ⟨by have h:=hatz.c1;rw [Nat.zero_mul,Nat.add_zero] at h;rw [Zax (by omega)];exact (hu.cell (p:=⟨bz,oz,none⟩) lwz).trans h,Nat.lt_of_lt_of_le lwz hu.size⟩));have HCB:=Zh (fun (u:World) (hu:Below w5.heap.size w5 u)=>(show u.cell? ⟨bb,ob,none⟩=some (.int .i64 (s.be.getD 0 0))/\bb<u.heap.size from ⟨by have h:=hatb.c1;rw [Nat.zero_mul,Nat.add_zero] at h;rw [Zax (by omega)];exact (hu.cell (p:=⟨bb,ob,none⟩) lwb).trans h,Nat.lt_of_lt_of_le lwb hu.size⟩));have HPW:=Zh hpw;have HPC:=Zh hpc;have HLW:=Zh hlw;have HLC:=Zh hlc;obtain ⟨p0,hp0⟩: ∃p,s.sh.getD 0 0=p:=⟨_,rfl⟩;obtain ⟨q0,hq0⟩: ∃p,s.be.getD 0 0=p:=⟨_,rfl⟩;rw [hp0] at HCZ;rw [hq0] at HCB;have HP0:=Zh hp0;have HQ0:=Zh hq0;clear X hps hpb hpw hpc hatz hatb hp0 hq0 hls hlb hlw hlc
   go_loopw [58] (fun i wr=> ∃ (k:Nat) (f3:Option Addr) (g3:Nat) (f4:Option Addr) (g4:Nat) (fw:Option Addr) (gw:Nat) (fc:Option Addr) (gc:Nat),k<=nw/\i= .int .i64 k/\Hid (Four encI 1 3 encI 1 3 encI 1 3 encQ 1 32 w5.heap.size w5 [(g7,51,[.slice none 0 0,.slice fw k gw,.slice fc k gc,.slice (some ⟨bz,oz,none⟩) nw cs,.slice (some ⟨bb,ob,none⟩) nw cb,.string T])] g6 51 [.slice ah nh ch,.slice (some ⟨bw,ow,none⟩) nw cw,.slice (some ⟨bc,oc,none⟩) nw cc,.slice f3 k g3,.slice f4 k g4,.string T] (.slice f3 k g3) (List.replicate k p0) (.slice f4 k g4) (List.replicate k q0) (.slice fw k gw) (s.wt.reverse.take k) (.slice fc k gc) (s.ca.reverse.take k) wr)) (fun i _=>nw-(intOf i).toNat)
   case atStart=>
     refine ⟨0,none,0,none,0,none,0,none,0,by omega,rfl,Zh ?_⟩;exact Zmz w5 u g6 g7 n67 hl6 hl7 HL6.out _ _ _ _ _ _ HE6.out _ _ _ _ _ _ HM6.out _ _ _ _
   case round=>
     obtain ⟨k,f3,g3,f4,g4,fw,gw,fc,gc,hk,rfl,HFO⟩:=hrel
     by_cases hlt:k<nw
     ·have HB9:=Zh HFO.two.below;have HTO:=Zh HFO.to;have HBK:=Zh (fun (u:World) (ev:List Value) (c1 c2:Value) (l1 l2:List Int) (h:TwoOwnB encI 1 3 encI 1 3 w5.heap.size w5 (rowBox wr (.slice fw k gw)++rowBox wr (.slice fc k gc)++ [(g7,51,[.slice none 0 0,.slice fw k gw,.slice fc k gc,.slice (some ⟨bz,oz,none⟩) nw cs,.slice (some ⟨bb,ob,none⟩) nw cb,.string T])]) g6 51 ev c1 l1 c2 l2 u)=>HFO.of h);obtain ⟨x0,x1,x2,x3,x4,x5,xf,xz⟩:=(HX5.later HB9.out).w6;generalize rowBox wr (.slice fw k gw)++rowBox wr (.slice fc k gc)++ [(g7,51,[.slice none 0 0,.slice fw k gw,.slice fc k gc,.slice (some ⟨bz,oz,none⟩) nw cs,.slice (some ⟨bb,ob,none⟩) nw cb,.string T])]=OB at *;have HLP:=Zh (show (List.replicate k p0).length<=1000000 by rw [List.length_replicate];omega);have HLQ:=Zh (show (List.replicate k q0).length<=1000000 by rw [List.length_replicate];omega);go_wp2_with fail;clear x0 x1 x2 x3 x4 x5 xf xz;refine Za8 19 (J2B encI 1 3 encI 1 3 w5.heap.size w5 OB g6 51 [.slice ah nh ch,.slice (some ⟨bw,ow,none⟩) nw cw,.slice (some ⟨bc,oc,none⟩) nw cc,.slice f3 k g3,.slice f4 k g4,.string T] 3 [some (.pointer (some ⟨g6,3,none⟩)),some (.slice f3 k g3),some (.pointer (some ⟨w.heap.size,3,none⟩)),some (.slice (some ⟨bz,oz,none⟩) nw cs),some (.pointer (some ⟨bz,oz,none⟩)),some (.int .i64 p0),none,none,some (.pointer (some ⟨g6,4,none⟩)),some (.slice f4 k g4),some (.pointer (some ⟨w.heap.size,4,none⟩)),some (.slice (some ⟨bb,ob,none⟩) nw cb),some (.pointer (some ⟨bb,ob,none⟩)),some (.int .i64 q0),none,none,some (.pointer (some ⟨g6,3,none⟩)),none,some (.pointer (some ⟨g6,4,none⟩))] 1 6 7 14 15 17 (.slice f3 k g3) (.slice f4 k g4) (List.replicate k p0) (List.replicate k q0) p0 q0) (by kernel_rfl) (by kernel_rfl) (J2B.start HTO.out) ?_ ?_
      ·refine ⟨?_,?_,?_,?_,?_,?_,?_,?_,?_,?_,?_,?_,?_,?_,?_,?_,?_,?_,?_,trivial⟩
       all_goals
         intro D vs u hD hdep hJ;simp only [Zac,Z2,Z6,Act.put,Z1,Z4,Z5]
       ·refine ⟨fun v w'=>v= .pointer (some ⟨g6,3,none⟩)/\w'=u,?_,?_⟩
        ·clear hD hdep hJ;go_wp2_with fail;refine ⟨rfl,rfl,.pointer (some ⟨g6,3,none⟩),?_,rfl,rfl⟩;intro t h;cases h
         first|rfl
        ·rintro v w' ⟨rfl,rfl⟩;exact hJ.quiet 0 (by decide) (fun v' e=>Option.some.inj (Option.some.inj e)) (Below.refl _ _)
       ·have e0:vs 0=_:=hJ.val 0 _ rfl (Zr hdep 0);have c1:=hJ.field0 hD 3;change u.cell? _=some (.slice f3 k g3) at c1;refine ⟨fun v w'=>v= .slice f3 k g3/\w'=u,?_,?_⟩
        ·clear hD hdep hJ;go_wp2_with fail;refine ⟨rfl,rfl,.slice f3 k g3,?_,rfl,rfl⟩;intro t h;cases h
         first|rfl|exact congrArg some e0
        ·rintro v w' ⟨rfl,rfl⟩;exact hJ.quiet 1 (by decide) (fun v' e=>Option.some.inj (Option.some.inj e)) (Below.refl _ _)
       ·refine ⟨fun v w'=>v= .pointer (some ⟨w.heap.size,3,none⟩)/\w'=u,?_,?_⟩
        ·clear hD hdep hJ;go_wp2_with fail;refine ⟨rfl,rfl,.pointer (some ⟨w.heap.size,3,none⟩),?_,rfl,rfl⟩;intro t h;cases h
         first|rfl
        ·rintro v w' ⟨rfl,rfl⟩;exact hJ.quiet 2 (by decide) (fun v' e=>Option.some.inj (Option.some.inj e)) (Below.refl _ _)
       ·have e2:vs 2=_:=hJ.val 2 _ rfl (Zr hdep 2);obtain ⟨x0,x1,x2,x3,x4,x5,xf,xz⟩:=(HX5.later hJ.two.below).w6;refine ⟨fun v w'=>v= .slice (some ⟨bz,oz,none⟩) nw cs/\w'=u,?_,?_⟩
        ·clear hD hdep hJ;go_wp2_with fail;refine ⟨rfl,rfl,.slice (some ⟨bz,oz,none⟩) nw cs,?_,rfl,rfl⟩;intro t h;cases h
         first|rfl|exact congrArg some e2
        ·rintro v w' ⟨rfl,rfl⟩;exact hJ.quiet 3 (by decide) (fun v' e=>Option.some.inj (Option.some.inj e)) (Below.refl _ _)
       ·have e3:vs 3=_:=hJ.val 3 _ rfl (Zr hdep 3);refine ⟨fun v w'=>v= .pointer (some ⟨bz,oz,none⟩)/\w'=u,?_,?_⟩
        ·clear hD hdep hJ;go_wp2_with fail;refine ⟨rfl,rfl,.pointer (some ⟨bz,oz,none⟩),?_,rfl,rfl⟩;intro t h;cases h
         first|rfl|exact congrArg some e3
        ·rintro v w' ⟨rfl,rfl⟩;exact hJ.quiet 4 (by decide) (fun v' e=>Option.some.inj (Option.some.inj e)) (Below.refl _ _)
       ·have e4:vs 4=_:=hJ.val 4 _ rfl (Zr hdep 4);obtain ⟨t5,t5l⟩:=HCZ.out u hJ.two.below;refine ⟨fun v w'=>v= .int .i64 p0/\w'=u,?_,?_⟩
        ·clear hD hdep hJ;go_wp2_with fail;refine ⟨rfl,rfl,.int .i64 p0,?_,rfl,rfl⟩;intro t h;cases h
         first|rfl|exact congrArg some e4
        ·rintro v w' ⟨rfl,rfl⟩;exact hJ.quiet 5 (by decide) (fun v' e=>Option.some.inj (Option.some.inj e)) (Below.refl _ _)
       ·have e5:vs 5=_:=hJ.val 5 _ rfl (Zr hdep 5);refine ⟨fun v w'=>v= .slice (some ⟨u.heap.size,0,none⟩) 1 1/\w'=u.alloc (.cells #[.int .i64 p0] 3),?_,?_⟩
        ·clear hD hdep hJ;go_wp2_with fail;refine ⟨rfl,rfl,(.slice (some ⟨u.heap.size,0,none⟩) 1 1),?_,rfl,rfl⟩;intro t h;cases h
         first|rfl
        ·rintro v w' ⟨rfl,rfl⟩;exact hJ.new1 (by decide) rfl rfl
       ·have e1:vs 1=_:=hJ.val 1 _ rfl (Zr hdep 1);obtain ⟨g,e6,hbg,_⟩:=hJ.lit1 (Zr hdep 6) hD;have h00:=Zr hdep 1;have ho:=hJ.two.own1;rw [hD] at ho;simp only [Bool.false_eq_true,if_false] at ho;have hbs:=hJ.two.base;refine ⟨fun v w'=>Own encI 1 3 w' w5.heap.size v ((List.replicate k p0)++ [p0])/\u.grownBy w' (.slice f3 k g3:Value).ownBlock/\(v.ownBlock=(.slice f3 k g3:Value).ownBlock∨v.ownBlock=some u.heap.size),?_,?_⟩
        ·have HO:=Zh ho;have HG:=Zh hbg;have HBS:=Zh hbs;clear hD hdep hJ ho hbg hbs h00;rw [e1,e6];refine Zbm encI 1 8 27 3 (.int .i64 0) Tryz.underlying27 HIN.out rfl (by decide) (by decide) (fun _=>rfl) Ze2 ((List.replicate k p0)) (p0) (w5.heap.size) u g #[.int .i64 p0] 3 HG.out rfl (.slice f3 k g3) HO.out HBS.out HLP.out rfl _ _ rfl rfl rfl ?_;intro v' w' ho' hg' hat';refine ⟨rfl,rfl,v',?_,ho',hg',hat'⟩;intro t h;cases h
         first|rfl
        ·rintro v w' ⟨h1,h2,h3⟩;exact hJ.push1 (by decide) rfl hD h00 h1 h2 h3
       ·refine ⟨fun v w'=>v= .pointer (some ⟨g6,4,none⟩)/\w'=u,?_,?_⟩
        ·clear hD hdep hJ;go_wp2_with fail;refine ⟨rfl,rfl,.pointer (some ⟨g6,4,none⟩),?_,rfl,rfl⟩;intro t h;cases h
         first|rfl
        ·rintro v w' ⟨rfl,rfl⟩;exact hJ.quiet 8 (by decide) (fun v' e=>Option.some.inj (Option.some.inj e)) (Below.refl _ _)
       ·have e8:vs 8=_:=hJ.val 8 _ rfl (Zr hdep 8);have c1:=hJ.field 4 (by decide);change u.cell? _=some (.slice f4 k g4) at c1;refine ⟨fun v w'=>v= .slice f4 k g4/\w'=u,?_,?_⟩
        ·clear hD hdep hJ;go_wp2_with fail;refine ⟨rfl,rfl,.slice f4 k g4,?_,rfl,rfl⟩;intro t h;cases h
         first|rfl|exact congrArg some e8
        ·rintro v w' ⟨rfl,rfl⟩;exact hJ.quiet 9 (by decide) (fun v' e=>Option.some.inj (Option.some.inj e)) (Below.refl _ _)
       ·refine ⟨fun v w'=>v= .pointer (some ⟨w.heap.size,4,none⟩)/\w'=u,?_,?_⟩
        ·clear hD hdep hJ;go_wp2_with fail;refine ⟨rfl,rfl,.pointer (some ⟨w.heap.size,4,none⟩),?_,rfl,rfl⟩;intro t h;cases h
         first|rfl
        ·rintro v w' ⟨rfl,rfl⟩;exact hJ.quiet 10 (by decide) (fun v' e=>Option.some.inj (Option.some.inj e)) (Below.refl _ _)
       ·have e10:vs 10=_:=hJ.val 10 _ rfl (Zr hdep 10);obtain ⟨x0,x1,x2,x3,x4,x5,xf,xz⟩:=(HX5.later hJ.two.below).w6;refine ⟨fun v w'=>v= .slice (some ⟨bb,ob,none⟩) nw cb/\w'=u,?_,?_⟩
        ·clear hD hdep hJ;go_wp2_with fail;refine ⟨rfl,rfl,.slice (some ⟨bb,ob,none⟩) nw cb,?_,rfl,rfl⟩;intro t h;cases h
         first|rfl|exact congrArg some e10
        ·rintro v w' ⟨rfl,rfl⟩;exact hJ.quiet 11 (by decide) (fun v' e=>Option.some.inj (Option.some.inj e)) (Below.refl _ _)
       ·have e11:vs 11=_:=hJ.val 11 _ rfl (Zr hdep 11);refine ⟨fun v w'=>v= .pointer (some ⟨bb,ob,none⟩)/\w'=u,?_,?_⟩
        ·clear hD hdep hJ;go_wp2_with fail;refine ⟨rfl,rfl,.pointer (some ⟨bb,ob,none⟩),?_,rfl,rfl⟩;intro t h;cases h
         first|rfl|exact congrArg some e11
        ·rintro v w' ⟨rfl,rfl⟩;exact hJ.quiet 12 (by decide) (fun v' e=>Option.some.inj (Option.some.inj e)) (Below.refl _ _)
       ·have e12:vs 12=_:=hJ.val 12 _ rfl (Zr hdep 12);obtain ⟨t6,t6l⟩:=HCB.out u hJ.two.below;refine ⟨fun v w'=>v= .int .i64 q0/\w'=u,?_,?_⟩
        ·clear hD hdep hJ;go_wp2_with fail;refine ⟨rfl,rfl,.int .i64 q0,?_,rfl,rfl⟩;intro t h;cases h
         first|rfl|exact congrArg some e12
        ·rintro v w' ⟨rfl,rfl⟩;exact hJ.quiet 13 (by decide) (fun v' e=>Option.some.inj (Option.some.inj e)) (Below.refl _ _)
       ·have e13:vs 13=_:=hJ.val 13 _ rfl (Zr hdep 13);refine ⟨fun v w'=>v= .slice (some ⟨u.heap.size,0,none⟩) 1 1/\w'=u.alloc (.cells #[.int .i64 q0] 3),?_,?_⟩
        ·clear hD hdep hJ;go_wp2_with fail;refine ⟨rfl,rfl,(.slice (some ⟨u.heap.size,0,none⟩) 1 1),?_,rfl,rfl⟩;intro t h;cases h
         first|rfl
        ·rintro v w' ⟨rfl,rfl⟩;exact hJ.new2 (by decide) rfl rfl
       ·have e9:vs 9=_:=hJ.val 9 _ rfl (Zr hdep 9);obtain ⟨g,e14,hbg,_⟩:=hJ.lit2 (Zr hdep 14) hD;have h00:=Zr hdep 9;have ho:=hJ.two.own2;rw [hD] at ho;simp only [Bool.false_eq_true,if_false] at ho;have hbs:=hJ.two.base;refine ⟨fun v w'=>Own encI 1 3 w' w5.heap.size v ((List.replicate k q0)++ [q0])/\u.grownBy w' (.slice f4 k g4:Value).ownBlock/\(v.ownBlock=(.slice f4 k g4:Value).ownBlock∨v.ownBlock=some u.heap.size),?_,?_⟩
        ·have HO:=Zh ho;have HG:=Zh hbg;have HBS:=Zh hbs;clear hD hdep hJ ho hbg hbs h00;rw [e9,e14];refine Zbm encI 1 8 27 3 (.int .i64 0) Tryz.underlying27 HIN.out rfl (by decide) (by decide) (fun _=>rfl) Ze2 ((List.replicate k q0)) (q0) (w5.heap.size) u g #[.int .i64 q0] 3 HG.out rfl (.slice f4 k g4) HO.out HBS.out HLQ.out rfl _ _ rfl rfl rfl ?_;intro v' w' ho' hg' hat';refine ⟨rfl,rfl,v',?_,ho',hg',hat'⟩;intro t h;cases h
         first|rfl
        ·rintro v w' ⟨h1,h2,h3⟩;exact hJ.push2 (by decide) rfl hD h1 h2 h3
       ·refine ⟨fun v w'=>v= .pointer (some ⟨g6,3,none⟩)/\w'=u,?_,?_⟩
        ·clear hD hdep hJ;go_wp2_with fail;refine ⟨rfl,rfl,.pointer (some ⟨g6,3,none⟩),?_,rfl,rfl⟩;intro t h;cases h
         first|rfl
        ·rintro v w' ⟨rfl,rfl⟩;exact hJ.quiet 16 (by decide) (fun v' e=>Option.some.inj (Option.some.inj e)) (Below.refl _ _)
       ·have e16:vs 16=_:=hJ.val 16 _ rfl (Zr hdep 16);have hx:=hJ.two.box;rw [hD] at hx;simp only [Bool.false_eq_true,if_false] at hx;obtain ⟨y0,y1,y2,y3,y4,y5,yf,yz⟩:=hx.w6;have ho:=hJ.two.own1;have hp7:=Zr hdep 7;rw [hp7] at ho;simp only [if_true] at ho;obtain ⟨f1,g1,e7⟩:=ho.shape;rw [List.length_append,List.length_replicate] at e7;change vs 7= .slice f1 (k+1) g1 at e7;have hp:=Zr hdep 7;refine ⟨fun v w'=>w'=u.setCell ⟨g6,3,none⟩ (vs 7),?_,?_⟩
        ·clear hD hdep hJ hx hp hp7 ho;go_wp2_with fail;refine ⟨rfl,rfl,undef,?_,by rw [e7]⟩;intro t h;cases h
        ·rintro v w' rfl;exact hJ.put (by decide) rfl (by first|exact Nat.le_refl _|omega) (by decide) hD hp
       ·refine ⟨fun v w'=>v= .pointer (some ⟨g6,4,none⟩)/\w'=u,?_,?_⟩
        ·clear hD hdep hJ;go_wp2_with fail;refine ⟨rfl,rfl,.pointer (some ⟨g6,4,none⟩),?_,rfl,rfl⟩;intro t h;cases h
         first|rfl
        ·rintro v w' ⟨rfl,rfl⟩;exact hJ.quiet 18 (by decide) (fun v' e=>Option.some.inj (Option.some.inj e)) (Below.refl _ _)
      intro D vs u hD hJ;have h2:=hJ.two;have e18:vs 18=_:=hJ.val 18 _ rfl (hD 18 (by decide));rw [hD 7 (by decide),hD 15 (by decide),hD 17 (by decide)] at h2;simp only [if_true] at h2;rw [<-List.replicate_succ',<-List.replicate_succ'] at h2;simp only [Zac,Z3,Z7,Z2,Z6,Act.put,Z1,Z4,Z5];obtain ⟨u1,hu1⟩: ∃u1,vs 7=u1:=⟨_,rfl⟩;obtain ⟨u2,hu2⟩: ∃u2,vs 15=u2:=⟨_,rfl⟩;rw [hu1,hu2] at h2;obtain ⟨f1,g1,e1⟩:=h2.own1.shape;obtain ⟨f2,g2,e2⟩:=h2.own2.shape;rw [List.length_replicate] at e1 e2;subst e1 e2;have h4:=HBK.out _ _ _ _ _ _ (h2.put hl6 4 (.slice f2 (k+1) g2));have hx:Box u g6 51 [.slice ah nh ch,.slice (some ⟨bw,ow,none⟩) nw cw,.slice (some ⟨bc,oc,none⟩) nw cc,.slice f1 (k+1) g1,.slice f4 k g4,.string T]:=h2.box;obtain ⟨y0,y1,y2,y3,y4,y5,yf,yz⟩:=hx.w6;have H4:=Zh h4;clear hD hJ h2 h4 hx HTO HBK HFO HLP HLQ;simp only [hu1,hu2,e18];clear hu1 hu2 e18;go_wp2_with fail;obtain ⟨w9,hw9⟩: ∃W:World,u.setCell ⟨g6,4,none⟩ (.slice f2 (k+1) g2)=W:=⟨_,rfl⟩;rw [hw9] at H4 ⊢;have H5:=Zh (show Four encI 1 3 encQ 1 32 encI 1 3 encI 1 3 w5.heap.size w5 [(g6,51,[.slice ah nh ch,.slice (some ⟨bw,ow,none⟩) nw cw,.slice (some ⟨bc,oc,none⟩) nw cc,.slice f1 (k+1) g1,.slice f2 (k+1) g2,.string T])] g7 51 [.slice none 0 0,.slice fw k gw,.slice fc k gc,.slice (some ⟨bz,oz,none⟩) nw cs,.slice (some ⟨bb,ob,none⟩) nw cb,.string T] (.slice fw k gw) (s.wt.reverse.take k) (.slice fc k gc) (s.ca.reverse.take k) (.slice f1 (k+1) g1) (List.replicate (k+1) p0) (.slice f2 (k+1) g2) (List.replicate (k+1) q0) w9 from (H4.turn (fun x hx=>by cases hx)).swap);have HB9:=Zh H5.two.below;have HTO:=Zh H5.to;have HBK:=Zh (fun (u:World) (ev:List Value) (c1 c2:Value) (l1:List Int) (l2:List Rat) (h:TwoOwnB encI 1 3 encQ 1 32 w5.heap.size w5 (rowBox w9 (.slice f1 (k+1) g1)++rowBox w9 (.slice f2 (k+1) g2)++ [(g6,51,[.slice ah nh ch,.slice (some ⟨bw,ow,none⟩) nw cw,.slice (some ⟨bc,oc,none⟩) nw cc,.slice f1 (k+1) g1,.slice f2 (k+1) g2,.string T])]) g7 51 ev c1 l1 c2 l2 u)=>(H5.of h).swap.turn (fun x hx=>by cases hx));generalize rowBox w9 (.slice f1 (k+1) g1)++rowBox w9 (.slice f2 (k+1) g2)++ [(g6,51,[.slice ah nh ch,.slice (some ⟨bw,ow,none⟩) nw cw,.slice (some ⟨bc,oc,none⟩) nw cc,.slice f1 (k+1) g1,.slice f2 (k+1) g2,.string T])]=OB at *;clear hw9 H4 H5 y0 y1 y2 y3 y4 y5 yf yz;obtain ⟨m,hm⟩: ∃m,m+1+k=nw:=⟨nw-1-k,by omega⟩;have hmi:(nw:Int)-1-(k:Int)=(m:Int):=by omega
      have hm1:m<s.wt.length:=by rw [HLW.out];omega
      have hm2:m<s.ca.length:=by rw [HLC.out];omega
      obtain ⟨b5,o5,ea5,lo5,lw5,hat5⟩:=Sl.atI HPW.out HB5.out m hm1;obtain ⟨b6,o6,ea6,lo6,lw6,hat6⟩:=Sl.atI HPC.out HB5.out m hm2;cases ea5;cases ea6;have hkw:k<s.wt.reverse.length:=by rw [List.length_reverse,HLW.out];omega
      have hkc:k<s.ca.reverse.length:=by rw [List.length_reverse,HLC.out];omega
      have HKW:=Zh (show s.wt.reverse.take (k+1)=s.wt.reverse.take k++ [s.wt[m]] by rw [List.take_succ_eq_append_getElem hkw,List.getElem_reverse];congr 3;have:=HLW.out;omega);have HKC:=Zh (show s.ca.reverse.take (k+1)=s.ca.reverse.take k++ [s.ca[m]] by rw [List.take_succ_eq_append_getElem hkc,List.getElem_reverse];congr 3;have:=HLC.out;omega);have HC5:=Zh (fun (u:World) (hu:Below w5.heap.size w5 u)=>(show u.cell? ⟨bw,ow+m,none⟩=some (.int .i64 s.wt[m])/\bw<u.heap.size from ⟨by have h:=hat5.c1;rw [Nat.mul_one] at h;exact (hu.cell (p:=⟨bw,ow+m,none⟩) lw5).trans h,Nat.lt_of_lt_of_le lw5 hu.size⟩));have HC6:=Zh (fun (u:World) (hu:Below w5.heap.size w5 u)=>(show u.cell? ⟨bc,oc+m,none⟩=some (.string (txq s.ca[m]))/\bc<u.heap.size from ⟨by have h:=hat6.c1;rw [Nat.mul_one] at h;exact (hu.cell (p:=⟨bc,oc+m,none⟩) lw6).trans h,Nat.lt_of_lt_of_le lw6 hu.size⟩));have HLP:=Zh (show (s.wt.reverse.take k).length<=1000000 by rw [List.length_take];omega);have HLQ:=Zh (show (s.ca.reverse.take k).length<=1000000 by rw [List.length_take];omega);generalize s.wt[m]=pw at *;have HLK:=Zh (show (s.wt.reverse.take k++ [pw]).length=k+1 by rw [List.length_append,List.length_take,List.length_reverse,HLW.out,Nat.min_eq_left (by omega)];rfl);generalize s.ca[m]=pc at *;clear hat5 hat6 hkw hkc;refine Za8 27 (J2B encI 1 3 encQ 1 32 w5.heap.size w5 OB g7 51 [.slice none 0 0,.slice fw k gw,.slice fc k gc,.slice (some ⟨bz,oz,none⟩) nw cs,.slice (some ⟨bb,ob,none⟩) nw cb,.string T] 1 [some (.pointer (some ⟨g7,1,none⟩)),some (.slice fw k gw),some (.pointer (some ⟨w.heap.size,1,none⟩)),some (.slice (some ⟨bw,ow,none⟩) nw cw),some (.int .i64 (nw:Int)),some (.int .i64 ((nw:Int)-1)),some (.int .i64 (k:Int)),some (.int .i64 (m:Int)),some (.pointer (some ⟨bw,ow+m,none⟩)),some (.int .i64 pw),none,none,some (.pointer (some ⟨g7,2,none⟩)),some (.slice fc k gc),some (.pointer (some ⟨w.heap.size,2,none⟩)),some (.slice (some ⟨bc,oc,none⟩) nw cc),some (.int .i64 (nw:Int)),some (.int .i64 ((nw:Int)-1)),some (.int .i64 (k:Int)),some (.int .i64 (m:Int)),some (.pointer (some ⟨bc,oc+m,none⟩)),some (.string (txq pc)),none,none,some (.pointer (some ⟨g7,1,none⟩)),none,some (.pointer (some ⟨g7,2,none⟩))] 1 10 11 22 23 25 (.slice fw k gw) (.slice fc k gc) (s.wt.reverse.take k) (s.ca.reverse.take k) pw pc) (by kernel_rfl) (by kernel_rfl) (J2B.start HTO.out) ?_ ?_
      ·refine ⟨?_,?_,?_,?_,?_,?_,?_,?_,?_,?_,?_,?_,?_,?_,?_,?_,?_,?_,?_,?_,?_,?_,?_,?_,?_,?_,?_,trivial⟩
       all_goals
         intro D vs u hD hdep hJ;simp only [Zac,Z2,Z6,Act.put,Z1,Z4,Z5]
       ·refine ⟨fun v w'=>v= .pointer (some ⟨g7,1,none⟩)/\w'=u,?_,?_⟩
        ·clear hD hdep hJ;go_wp2_with fail;refine ⟨rfl,rfl,.pointer (some ⟨g7,1,none⟩),?_,rfl,rfl⟩;intro t h;cases h
         first|rfl
        ·rintro v w' ⟨rfl,rfl⟩;exact hJ.quiet 0 (by decide) (fun v' e=>Option.some.inj (Option.some.inj e)) (Below.refl _ _)
       ·have e0:vs 0=_:=hJ.val 0 _ rfl (Zr hdep 0);have c1:=hJ.field0 hD 1;change u.cell? _=some (.slice fw k gw) at c1;refine ⟨fun v w'=>v= .slice fw k gw/\w'=u,?_,?_⟩
        ·clear hD hdep hJ;go_wp2_with fail;refine ⟨rfl,rfl,.slice fw k gw,?_,rfl,rfl⟩;intro t h;cases h
         first|rfl|exact congrArg some e0
        ·rintro v w' ⟨rfl,rfl⟩;exact hJ.quiet 1 (by decide) (fun v' e=>Option.some.inj (Option.some.inj e)) (Below.refl _ _)
       ·refine ⟨fun v w'=>v= .pointer (some ⟨w.heap.size,1,none⟩)/\w'=u,?_,?_⟩
        ·clear hD hdep hJ;go_wp2_with fail;refine ⟨rfl,rfl,.pointer (some ⟨w.heap.size,1,none⟩),?_,rfl,rfl⟩;intro t h;cases h
         first|rfl
        ·rintro v w' ⟨rfl,rfl⟩;exact hJ.quiet 2 (by decide) (fun v' e=>Option.some.inj (Option.some.inj e)) (Below.refl _ _)
       ·have e2:vs 2=_:=hJ.val 2 _ rfl (Zr hdep 2);obtain ⟨x0,x1,x2,x3,x4,x5,xf,xz⟩:=(HX5.later hJ.two.below).w6;refine ⟨fun v w'=>v= .slice (some ⟨bw,ow,none⟩) nw cw/\w'=u,?_,?_⟩
        ·clear hD hdep hJ;go_wp2_with fail;refine ⟨rfl,rfl,.slice (some ⟨bw,ow,none⟩) nw cw,?_,rfl,rfl⟩;intro t h;cases h
         first|rfl|exact congrArg some e2
        ·rintro v w' ⟨rfl,rfl⟩;exact hJ.quiet 3 (by decide) (fun v' e=>Option.some.inj (Option.some.inj e)) (Below.refl _ _)
       ·refine ⟨fun v w'=>v= .int .i64 (nw:Int)/\w'=u,?_,?_⟩
        ·clear hD hdep hJ;go_wp2_with fail;refine ⟨rfl,rfl,.int .i64 (nw:Int),?_,rfl,rfl⟩;intro t h;cases h
         first|rfl
        ·rintro v w' ⟨rfl,rfl⟩;exact hJ.quiet 4 (by decide) (fun v' e=>Option.some.inj (Option.some.inj e)) (Below.refl _ _)
       ·have e4:vs 4=_:=hJ.val 4 _ rfl (Zr hdep 4);refine ⟨fun v w'=>v= .int .i64 ((nw:Int)-1)/\w'=u,?_,?_⟩
        ·clear hD hdep hJ;go_wp2_with fail;refine ⟨rfl,rfl,.int .i64 ((nw:Int)-1),?_,rfl,rfl⟩;intro t h;cases h
         first|rfl|exact congrArg some e4
        ·rintro v w' ⟨rfl,rfl⟩;exact hJ.quiet 5 (by decide) (fun v' e=>Option.some.inj (Option.some.inj e)) (Below.refl _ _)
       ·refine ⟨fun v w'=>v= .int .i64 (k:Int)/\w'=u,?_,?_⟩
        ·clear hD hdep hJ;go_wp2_with fail;refine ⟨rfl,rfl,.int .i64 (k:Int),?_,rfl,rfl⟩;intro t h;cases h
         first|rfl
        ·rintro v w' ⟨rfl,rfl⟩;exact hJ.quiet 6 (by decide) (fun v' e=>Option.some.inj (Option.some.inj e)) (Below.refl _ _)
       ·have e5:vs 5=_:=hJ.val 5 _ rfl (Zr hdep 5);have e6:vs 6=_:=hJ.val 6 _ rfl (Zr hdep 6);refine ⟨fun v w'=>v= .int .i64 (m:Int)/\w'=u,?_,?_⟩
        ·clear hD hdep hJ;go_wp2_with fail;refine ⟨rfl,rfl,.int .i64 (m:Int),?_,rfl,rfl⟩;intro t h;cases h
         first|rfl|exact congrArg some e5|exact congrArg some e6|rw [hmi]
        ·rintro v w' ⟨rfl,rfl⟩;exact hJ.quiet 7 (by decide) (fun v' e=>Option.some.inj (Option.some.inj e)) (Below.refl _ _)
       ·have e3:vs 3=_:=hJ.val 3 _ rfl (Zr hdep 3);have e7:vs 7=_:=hJ.val 7 _ rfl (Zr hdep 7);refine ⟨fun v w'=>v= .pointer (some ⟨bw,ow+m,none⟩)/\w'=u,?_,?_⟩
        ·clear hD hdep hJ;go_wp2_with fail;refine ⟨rfl,rfl,.pointer (some ⟨bw,ow+m,none⟩),?_,rfl,rfl⟩;intro t h;cases h
         first|rfl|exact congrArg some e3|exact congrArg some e7
        ·rintro v w' ⟨rfl,rfl⟩;exact hJ.quiet 8 (by decide) (fun v' e=>Option.some.inj (Option.some.inj e)) (Below.refl _ _)
       ·have e8:vs 8=_:=hJ.val 8 _ rfl (Zr hdep 8);obtain ⟨t5,t5l⟩:=HC5.out u hJ.two.below;refine ⟨fun v w'=>v= .int .i64 pw/\w'=u,?_,?_⟩
        ·clear hD hdep hJ;go_wp2_with fail;refine ⟨rfl,rfl,.int .i64 pw,?_,rfl,rfl⟩;intro t h;cases h
         first|rfl|exact congrArg some e8
        ·rintro v w' ⟨rfl,rfl⟩;exact hJ.quiet 9 (by decide) (fun v' e=>Option.some.inj (Option.some.inj e)) (Below.refl _ _)
       ·have e9:vs 9=_:=hJ.val 9 _ rfl (Zr hdep 9);refine ⟨fun v w'=>v= .slice (some ⟨u.heap.size,0,none⟩) 1 1/\w'=u.alloc (.cells #[.int .i64 pw] 3),?_,?_⟩
        ·clear hD hdep hJ;go_wp2_with fail;refine ⟨rfl,rfl,(.slice (some ⟨u.heap.size,0,none⟩) 1 1),?_,rfl,rfl⟩;intro t h;cases h
         first|rfl
        ·rintro v w' ⟨rfl,rfl⟩;exact hJ.new1 (by decide) rfl rfl
       ·have e1:vs 1=_:=hJ.val 1 _ rfl (Zr hdep 1);obtain ⟨g,e10,hbg,_⟩:=hJ.lit1 (Zr hdep 10) hD;have h00:=Zr hdep 1;have ho:=hJ.two.own1;rw [hD] at ho;simp only [Bool.false_eq_true,if_false] at ho;have hbs:=hJ.two.base;refine ⟨fun v w'=>Own encI 1 3 w' w5.heap.size v ((s.wt.reverse.take k)++ [pw])/\u.grownBy w' (.slice fw k gw:Value).ownBlock/\(v.ownBlock=(.slice fw k gw:Value).ownBlock∨v.ownBlock=some u.heap.size),?_,?_⟩
        ·have HO:=Zh ho;have HG:=Zh hbg;have HBS:=Zh hbs;clear hD hdep hJ ho hbg hbs h00;rw [e1,e10];refine Zbm encI 1 8 27 3 (.int .i64 0) Tryz.underlying27 HIN.out rfl (by decide) (by decide) (fun _=>rfl) Ze2 ((s.wt.reverse.take k)) (pw) (w5.heap.size) u g #[.int .i64 pw] 3 HG.out rfl (.slice fw k gw) HO.out HBS.out HLP.out rfl _ _ rfl rfl rfl ?_;intro v' w' ho' hg' hat';refine ⟨rfl,rfl,v',?_,ho',hg',hat'⟩;intro t h;cases h
         first|rfl
        ·rintro v w' ⟨h1,h2,h3⟩;exact hJ.push1 (by decide) rfl hD h00 h1 h2 h3
       ·refine ⟨fun v w'=>v= .pointer (some ⟨g7,2,none⟩)/\w'=u,?_,?_⟩
        ·clear hD hdep hJ;go_wp2_with fail;refine ⟨rfl,rfl,.pointer (some ⟨g7,2,none⟩),?_,rfl,rfl⟩;intro t h;cases h
         first|rfl
        ·rintro v w' ⟨rfl,rfl⟩;exact hJ.quiet 12 (by decide) (fun v' e=>Option.some.inj (Option.some.inj e)) (Below.refl _ _)
       ·have e12:vs 12=_:=hJ.val 12 _ rfl (Zr hdep 12);have c1:=hJ.field 2 (by decide);change u.cell? _=some (.slice fc k gc) at c1;refine ⟨fun v w'=>v= .slice fc k gc/\w'=u,?_,?_⟩
        ·clear hD hdep hJ;go_wp2_with fail;refine ⟨rfl,rfl,.slice fc k gc,?_,rfl,rfl⟩;intro t h;cases h
         first|rfl|exact congrArg some e12
        ·rintro v w' ⟨rfl,rfl⟩;exact hJ.quiet 13 (by decide) (fun v' e=>Option.some.inj (Option.some.inj e)) (Below.refl _ _)
       ·refine ⟨fun v w'=>v= .pointer (some ⟨w.heap.size,2,none⟩)/\w'=u,?_,?_⟩
        ·clear hD hdep hJ;go_wp2_with fail;refine ⟨rfl,rfl,.pointer (some ⟨w.heap.size,2,none⟩),?_,rfl,rfl⟩;intro t h;cases h
         first|rfl
        ·rintro v w' ⟨rfl,rfl⟩;exact hJ.quiet 14 (by decide) (fun v' e=>Option.some.inj (Option.some.inj e)) (Below.refl _ _)
       ·have e14:vs 14=_:=hJ.val 14 _ rfl (Zr hdep 14);obtain ⟨x0,x1,x2,x3,x4,x5,xf,xz⟩:=(HX5.later hJ.two.below).w6;refine ⟨fun v w'=>v= .slice (some ⟨bc,oc,none⟩) nw cc/\w'=u,?_,?_⟩
        ·clear hD hdep hJ;go_wp2_with fail;refine ⟨rfl,rfl,.slice (some ⟨bc,oc,none⟩) nw cc,?_,rfl,rfl⟩;intro t h;cases h
         first|rfl|exact congrArg some e14
        ·rintro v w' ⟨rfl,rfl⟩;exact hJ.quiet 15 (by decide) (fun v' e=>Option.some.inj (Option.some.inj e)) (Below.refl _ _)
       ·refine ⟨fun v w'=>v= .int .i64 (nw:Int)/\w'=u,?_,?_⟩
        ·clear hD hdep hJ;go_wp2_with fail;refine ⟨rfl,rfl,.int .i64 (nw:Int),?_,rfl,rfl⟩;intro t h;cases h
         first|rfl
        ·rintro v w' ⟨rfl,rfl⟩;exact hJ.quiet 16 (by decide) (fun v' e=>Option.some.inj (Option.some.inj e)) (Below.refl _ _)
       ·have e16:vs 16=_:=hJ.val 16 _ rfl (Zr hdep 16);refine ⟨fun v w'=>v= .int .i64 ((nw:Int)-1)/\w'=u,?_,?_⟩
        ·clear hD hdep hJ;go_wp2_with fail;refine ⟨rfl,rfl,.int .i64 ((nw:Int)-1),?_,rfl,rfl⟩;intro t h;cases h
         first|rfl|exact congrArg some e16
        ·rintro v w' ⟨rfl,rfl⟩;exact hJ.quiet 17 (by decide) (fun v' e=>Option.some.inj (Option.some.inj e)) (Below.refl _ _)
       ·refine ⟨fun v w'=>v= .int .i64 (k:Int)/\w'=u,?_,?_⟩
        ·clear hD hdep hJ;go_wp2_with fail;refine ⟨rfl,rfl,.int .i64 (k:Int),?_,rfl,rfl⟩;intro t h;cases h
         first|rfl
        ·rintro v w' ⟨rfl,rfl⟩;exact hJ.quiet 18 (by decide) (fun v' e=>Option.some.inj (Option.some.inj e)) (Below.refl _ _)
       ·have e17:vs 17=_:=hJ.val 17 _ rfl (Zr hdep 17);have e18:vs 18=_:=hJ.val 18 _ rfl (Zr hdep 18);refine ⟨fun v w'=>v= .int .i64 (m:Int)/\w'=u,?_,?_⟩
        ·clear hD hdep hJ;go_wp2_with fail;refine ⟨rfl,rfl,.int .i64 (m:Int),?_,rfl,rfl⟩;intro t h;cases h
         first|rfl|exact congrArg some e17|exact congrArg some e18|rw [hmi]
        ·rintro v w' ⟨rfl,rfl⟩;exact hJ.quiet 19 (by decide) (fun v' e=>Option.some.inj (Option.some.inj e)) (Below.refl _ _)
       ·have e15:vs 15=_:=hJ.val 15 _ rfl (Zr hdep 15);have e19:vs 19=_:=hJ.val 19 _ rfl (Zr hdep 19);refine ⟨fun v w'=>v= .pointer (some ⟨bc,oc+m,none⟩)/\w'=u,?_,?_⟩
        ·clear hD hdep hJ;go_wp2_with fail;refine ⟨rfl,rfl,.pointer (some ⟨bc,oc+m,none⟩),?_,rfl,rfl⟩;intro t h;cases h
         first|rfl|exact congrArg some e15|exact congrArg some e19
        ·rintro v w' ⟨rfl,rfl⟩;exact hJ.quiet 20 (by decide) (fun v' e=>Option.some.inj (Option.some.inj e)) (Below.refl _ _)
       ·have e20:vs 20=_:=hJ.val 20 _ rfl (Zr hdep 20);obtain ⟨t6,t6l⟩:=HC6.out u hJ.two.below;refine ⟨fun v w'=>v= .string (txq pc)/\w'=u,?_,?_⟩
        ·clear hD hdep hJ;go_wp2_with fail;refine ⟨rfl,rfl,.string (txq pc),?_,rfl,rfl⟩;intro t h;cases h
         first|rfl|exact congrArg some e20
        ·rintro v w' ⟨rfl,rfl⟩;exact hJ.quiet 21 (by decide) (fun v' e=>Option.some.inj (Option.some.inj e)) (Below.refl _ _)
       ·have e21:vs 21=_:=hJ.val 21 _ rfl (Zr hdep 21);refine ⟨fun v w'=>v= .slice (some ⟨u.heap.size,0,none⟩) 1 1/\w'=u.alloc (.cells #[.string (txq pc)] 32),?_,?_⟩
        ·clear hD hdep hJ;go_wp2_with fail;refine ⟨rfl,rfl,(.slice (some ⟨u.heap.size,0,none⟩) 1 1),?_,rfl,rfl⟩;intro t h;cases h
         first|rfl
        ·rintro v w' ⟨rfl,rfl⟩;exact hJ.new2 (by decide) rfl rfl
       ·have e13:vs 13=_:=hJ.val 13 _ rfl (Zr hdep 13);obtain ⟨g,e22,hbg,_⟩:=hJ.lit2 (Zr hdep 22) hD;have h00:=Zr hdep 13;have ho:=hJ.two.own2;rw [hD] at ho;simp only [Bool.false_eq_true,if_false] at ho;have hbs:=hJ.two.base;refine ⟨fun v w'=>Own encQ 1 32 w' w5.heap.size v ((s.ca.reverse.take k)++ [pc])/\u.grownBy w' (.slice fc k gc:Value).ownBlock/\(v.ownBlock=(.slice fc k gc:Value).ownBlock∨v.ownBlock=some u.heap.size),?_,?_⟩
        ·have HO:=Zh ho;have HG:=Zh hbg;have HBS:=Zh hbs;clear hD hdep hJ ho hbg hbs h00;rw [e13,e22];refine Zbm encQ 1 16 42 32 (.string ⟨#[]⟩) Tryz.underlying42 HIQ.out rfl (by decide) (by decide) (fun _=>rfl) Zoi ((s.ca.reverse.take k)) (pc) (w5.heap.size) u g #[.string (txq pc)] 32 HG.out rfl (.slice fc k gc) HO.out HBS.out HLQ.out rfl _ _ rfl rfl rfl ?_;intro v' w' ho' hg' hat';refine ⟨rfl,rfl,v',?_,ho',hg',hat'⟩;intro t h;cases h
         first|rfl
        ·rintro v w' ⟨h1,h2,h3⟩;exact hJ.push2 (by decide) rfl hD h1 h2 h3
       ·refine ⟨fun v w'=>v= .pointer (some ⟨g7,1,none⟩)/\w'=u,?_,?_⟩
        ·clear hD hdep hJ;go_wp2_with fail;refine ⟨rfl,rfl,.pointer (some ⟨g7,1,none⟩),?_,rfl,rfl⟩;intro t h;cases h
         first|rfl
        ·rintro v w' ⟨rfl,rfl⟩;exact hJ.quiet 24 (by decide) (fun v' e=>Option.some.inj (Option.some.inj e)) (Below.refl _ _)
       ·have e24:vs 24=_:=hJ.val 24 _ rfl (Zr hdep 24);have hx:=hJ.two.box;rw [hD] at hx;simp only [Bool.false_eq_true,if_false] at hx;obtain ⟨y0,y1,y2,y3,y4,y5,yf,yz⟩:=hx.w6;have ho:=hJ.two.own1;have hp7:=Zr hdep 11;rw [hp7] at ho;simp only [if_true] at ho;obtain ⟨f5,g5,e11⟩:=ho.shape;rw [HLK.out] at e11;have hp:=Zr hdep 11;refine ⟨fun v w'=>w'=u.setCell ⟨g7,1,none⟩ (vs 11),?_,?_⟩
        ·clear hD hdep hJ hx hp hp7 ho;go_wp2_with fail;refine ⟨rfl,rfl,undef,?_,by rw [e11]⟩;intro t h;cases h
        ·rintro v w' rfl;exact hJ.put (by decide) rfl (by first|exact Nat.le_refl _|omega) (by decide) hD hp
       ·refine ⟨fun v w'=>v= .pointer (some ⟨g7,2,none⟩)/\w'=u,?_,?_⟩
        ·clear hD hdep hJ;go_wp2_with fail;refine ⟨rfl,rfl,.pointer (some ⟨g7,2,none⟩),?_,rfl,rfl⟩;intro t h;cases h
         first|rfl
        ·rintro v w' ⟨rfl,rfl⟩;exact hJ.quiet 26 (by decide) (fun v' e=>Option.some.inj (Option.some.inj e)) (Below.refl _ _)
      intro D vs u hD hJ;have h2:=hJ.two;have e26:vs 26=_:=hJ.val 26 _ rfl (hD 26 (by decide));rw [hD 11 (by decide),hD 23 (by decide),hD 25 (by decide)] at h2;simp only [if_true] at h2;rw [<-HKW.out,<-HKC.out] at h2;simp only [Zac,Z3,Z7,Z2,Z6,Act.put,Z1,Z4,Z5];obtain ⟨u1,hu1⟩: ∃u1,vs 11=u1:=⟨_,rfl⟩;obtain ⟨u2,hu2⟩: ∃u2,vs 23=u2:=⟨_,rfl⟩;rw [hu1,hu2] at h2;obtain ⟨f5,g5,e1⟩:=h2.own1.shape;obtain ⟨f6,g6',e2⟩:=h2.own2.shape;rw [List.length_take,List.length_reverse,HLW.out,Nat.min_eq_left (by omega)] at e1;rw [List.length_take,List.length_reverse,HLC.out,Nat.min_eq_left (by omega)] at e2;subst e1 e2;have h4:=HBK.out _ _ _ _ _ _ (h2.put hl7 2 (.slice f6 (k+1) g6'));have hx:Box u g7 51 [.slice none 0 0,.slice f5 (k+1) g5,.slice fc k gc,.slice (some ⟨bz,oz,none⟩) nw cs,.slice (some ⟨bb,ob,none⟩) nw cb,.string T]:=h2.box;obtain ⟨y0,y1,y2,y3,y4,y5,yf,yz⟩:=hx.w6;have H4:=Zh h4;clear hD hJ h2 h4 hx HTO HBK HLP HLQ HKW HKC HC5 HC6 HLK HB9;simp only [hu1,hu2,e26];clear hu1 hu2 e26;go_wp2_with fail;go_roundw
      case rel=>exact ⟨k+1,f1,g1,f2,g2,f5,g5,f6,g6',by omega,by go_num,H4⟩
      case measure=>simp [intOf];omega
     ·obtain rfl:nw=k:=by omega
      have htw:s.wt.reverse.take nw=s.wt.reverse:=List.take_of_length_le (by rw [List.length_reverse,HLW.out];exact Nat.le_refl _);have htc:s.ca.reverse.take nw=s.ca.reverse:=List.take_of_length_le (by rw [List.length_reverse,HLC.out];exact Nat.le_refl _);have hfo:=HFO.turn (fun x hx=>by cases hx);rw [htw,htc] at hfo;have HFO:=Zh hfo;have HE:=Zh (hfo.two.oth _ (List.mem_cons_self ..)).1;have HM:=Zh hfo.two.box;have HHX:=Zh (HX5.later hfo.two.below);clear htw htc hfo HCZ HCB;go_wp2_with fail;refine Za8 7 (S1J (World.drew wr) g7 3 (.slice f3 nw g3) [some (.pointer (some ⟨g6,3,none⟩)),some (.slice f3 nw g3),some (.pointer (some ⟨g6,4,none⟩)),some (.slice f4 nw g4),some (.pointer (some ⟨g7,3,none⟩)),none,some (.pointer (some ⟨g7,4,none⟩))] 5 1 0) (by kernel_rfl) (by kernel_rfl) S1J.start ?_ ?_
      ·refine ⟨?_,?_,?_,?_,?_,?_,?_,trivial⟩
       all_goals
         intro D vs u hD hdep hJ;simp only [Zac,Z2,Z6,Act.put,Z1,Z4,Z5]
       ·refine ⟨fun v w'=>v= .pointer (some ⟨g6,3,none⟩)/\w'=u,?_,?_⟩
        ·clear hD hdep hJ;go_wp2_with fail;refine ⟨rfl,rfl,.pointer (some ⟨g6,3,none⟩),?_,rfl,rfl⟩;intro t h;cases h
         first|rfl
        ·rintro v w' ⟨rfl,rfl⟩;exact hJ.zq 0
       ·have e0:vs 0=_:=hJ.val 0 _ rfl (Zr hdep 0);obtain ⟨y0,y1,y2,y3,y4,y5,yf,yz⟩:=(hJ.box HE.drew n76).w6;refine ⟨fun v w'=>v= .slice f3 nw g3/\w'=u,?_,?_⟩
        ·clear hD hdep hJ;go_wp2_with fail;refine ⟨rfl,rfl,.slice f3 nw g3,?_,rfl,rfl⟩;intro t h;cases h
         first|rfl|exact congrArg some e0
        ·rintro v w' ⟨rfl,rfl⟩;exact hJ.quiet 1 (by decide) (fun _=>Zr hdep 0) (fun v' e=>Option.some.inj (Option.some.inj e))
       ·refine ⟨fun v w'=>v= .pointer (some ⟨g6,4,none⟩)/\w'=u,?_,?_⟩
        ·clear hD hdep hJ;go_wp2_with fail;refine ⟨rfl,rfl,.pointer (some ⟨g6,4,none⟩),?_,rfl,rfl⟩;intro t h;cases h
         first|rfl
        ·rintro v w' ⟨rfl,rfl⟩;exact hJ.zq 2
       ·have e2:vs 2=_:=hJ.val 2 _ rfl (Zr hdep 2);obtain ⟨y0,y1,y2,y3,y4,y5,yf,yz⟩:=(hJ.box HE.drew n76).w6;refine ⟨fun v w'=>v= .slice f4 nw g4/\w'=u,?_,?_⟩
        ·clear hD hdep hJ;go_wp2_with fail;refine ⟨rfl,rfl,.slice f4 nw g4,?_,rfl,rfl⟩;intro t h;cases h
         first|rfl|exact congrArg some e2
        ·rintro v w' ⟨rfl,rfl⟩;exact hJ.zq 3
       ·refine ⟨fun v w'=>v= .pointer (some ⟨g7,3,none⟩)/\w'=u,?_,?_⟩
        ·clear hD hdep hJ;go_wp2_with fail;refine ⟨rfl,rfl,.pointer (some ⟨g7,3,none⟩),?_,rfl,rfl⟩;intro t h;cases h
         first|rfl
        ·rintro v w' ⟨rfl,rfl⟩;exact hJ.zq 4
       ·have e4:vs 4=_:=hJ.val 4 _ rfl (Zr hdep 4);have e1:vs 1=_:=hJ.val 1 _ rfl (Zr hdep 1);have hl:=Zr hdep 1;have hu:u=World.drew wr:=by have:=hJ.wor;rw [hD] at this;exact this
        obtain ⟨z0,z1,z2,z3,z4,z5,zf,zz⟩:=(show Box u g7 51 _ by rw [hu];exact HM.drew).w6;clear hu;refine ⟨fun v w'=>w'=u.setCell ⟨g7,3,none⟩ (.slice f3 nw g3),?_,?_⟩
        ·clear hD hdep hJ hl;go_wp2_with fail;refine ⟨rfl,rfl,undef,?_,rfl⟩;intro t h;cases h
        ·rintro v w' rfl;exact hJ.put rfl hD hl (by decide)
       ·refine ⟨fun v w'=>v= .pointer (some ⟨g7,4,none⟩)/\w'=u,?_,?_⟩
        ·clear hD hdep hJ;go_wp2_with fail;refine ⟨rfl,rfl,.pointer (some ⟨g7,4,none⟩),?_,rfl,rfl⟩;intro t h;cases h
         first|rfl
        ·rintro v w' ⟨rfl,rfl⟩;exact hJ.zq 6
      intro D vs u hD hJ;have e3:vs 3=_:=hJ.val 3 _ rfl (hD 3 (by decide));have e6:vs 6=_:=hJ.val 6 _ rfl (hD 6 (by decide));have hwo:=hJ.wor;rw [hD 5 (by decide)] at hwo;simp only [if_true] at hwo;simp only [Zac,Z3,Z7,Z2,Z6,Act.put,Z1,Z4,Z5,e3,e6];have hx:=(show Box u g7 51 _ by rw [hwo];exact HM.drew.set 3 _);obtain ⟨z0,z1,z2,z3,z4,z5,zf,zz⟩:=hx.w6;have H4:=Zh (show Four encI 1 3 encI 1 3 encI 1 3 encQ 1 32 w5.heap.size w5 [(g6,51,[.slice ah nh ch,.slice (some ⟨bw,ow,none⟩) nw cw,.slice (some ⟨bc,oc,none⟩) nw cc,.slice f3 nw g3,.slice f4 nw g4,.string T])] g7 51 [.slice none 0 0,.slice fw nw gw,.slice fc nw gc,.slice f3 nw g3,.slice f4 nw g4,.string T] (.slice f3 nw g3) (List.replicate nw p0) (.slice f4 nw g4) (List.replicate nw q0) (.slice fw nw gw) s.wt.reverse (.slice fc nw gc) s.ca.reverse (u.setCell ⟨g7,4,none⟩ (.slice f4 nw g4)) by
        rw [hwo];exact ((HFO.grow (show Below wr.heap.size wr wr.drew from ⟨rfl,rfl,rfl,Nat.le_refl _,fun _ _=>rfl⟩)).put hl7 3 _).put hl7 4 _)
      clear hD hJ hx hwo HFO HE HM HHX;go_wp2_with fail;obtain ⟨wA,hwA⟩: ∃W:World,u.setCell ⟨g7,4,none⟩ (.slice f4 nw g4)=W:=⟨_,rfl⟩;rw [hwA] at H4 ⊢;clear hwA z0 z1 z2 z3 z4 z5 zf zz;have HTA:=Zh (H4.all Zc2 3 63 encI 1 3);have HBK:=Zh (fun (u:World) (qs':List Value) (c5 c6:Value) (l5:List HoR) (l6:List Int) (h:TwoOwnB Zc2 3 63 encI 1 3 w5.heap.size w5 (rowBox wA (.slice f3 nw g3)++rowBox wA (.slice f4 nw g4)++rowBox wA (.slice fw nw gw)++rowBox wA (.slice fc nw gc)++ [(g6,51,[.slice ah nh ch,.slice (some ⟨bw,ow,none⟩) nw cw,.slice (some ⟨bc,oc,none⟩) nw cc,.slice f3 nw g3,.slice f4 nw g4,.string T])]) g7 51 qs' c5 l5 c6 l6 u)=>H4.back h);generalize rowBox wA (.slice f3 nw g3)++rowBox wA (.slice f4 nw g4)++rowBox wA (.slice fw nw gw)++rowBox wA (.slice fc nw gc)++ [(g6,51,[.slice ah nh ch,.slice (some ⟨bw,ow,none⟩) nw cw,.slice (some ⟨bc,oc,none⟩) nw cc,.slice f3 nw g3,.slice f4 nw g4,.string T])]=OB at HTA HBK;have X:=HX2.out;have hph:=X.sr.ph;have hlh:=X.lh;obtain ⟨bh,oh,eh,zz1,zz2,zz3⟩:=Sl.atI hph HB5.out 0 (by have:=X.ok.h0;omega);clear zz1 zz2 zz3;subst eh;obtain ⟨ba,oa,ea,zz1,zz2,zz3⟩:=Sl.atI HSA.out HB5.out 0 (by have:=X.ok.h0;omega);clear zz1 zz2 zz3;subst ea;have HPH:=Zh hph;have HLH:=Zh hlh;have HLL:=Zh hl1;have HU9:=Zh Tryz.underlying49;have HI9:=Zh Zov;clear X hph hlh H4
      go_loopw [9,10] (fun v9 i wr=> ∃ (k:Nat) (fh:Option Addr) (gh:Nat) (fo:Option Addr) (gq:Nat),k<=nh/\i= .int .i64 ((nh:Int)-1-(k:Int))/\v9= .slice fo k gq/\Hid (TwoOwnB Zc2 3 63 encI 1 3 w5.heap.size w5 OB g7 51 [.slice fh k gh,.slice fw nw gw,.slice fc nw gc,.slice f3 nw g3,.slice f4 nw g4,.string T] (.slice fh k gh) (((s.hs.map (mirH nw)).reverse).take k) (.slice fo k gq) (la.reverse.take k) wr)) (fun _ i _=>(intOf i+1).toNat)
      case atStart=>exact ⟨0,none,0,none,0,by omega,by simp,rfl,HTA⟩
      case round=>
        obtain ⟨k,fh,gh,fo,gq,hk,rfl,rfl,HTW⟩:=hrel
        by_cases hlt:k<nh
        ·obtain ⟨m,hm⟩: ∃m,m+1+k=nh:=⟨nh-1-k,by omega⟩;have hmi:(nh:Int)-1-(k:Int)=(m:Int):=by omega
         have hmk:(m:Int)-1=(nh:Int)-1-((k+1:Nat):Int):=by omega
         have hm1:m<s.hs.length:=by rw [HLH.out];omega
         have hm2:m<la.length:=by rw [HLL.out];omega
         obtain ⟨q1,q2,q3,-⟩:=HX2.ok.ho m hm1;rw [HX2.lw] at q3;have HKH:=Zh (Zom (n:=nw) s.hs k m (by rw [HLH.out];exact hm) hm1);have HKA:=Zh (Zon la k m (by rw [HLL.out];exact hm) hm2);obtain ⟨b5,o5,e5',lo5,lw5,hat5⟩:=Sl.atI HPH.out HB5.out m hm1;obtain ⟨b6,o6,e6',lo6,lw6,hat6⟩:=Sl.atI HSA.out HB5.out m hm2;cases e5';cases e6';have HC5:=Zh (fun (u:World) (hu:Below w5.heap.size w5 u)=>(show u.cell? ⟨bh,oh+m* 3,none⟩=some (.int .i64 s.hs[m].lo)/\u.cell? ⟨bh,oh+m* 3+1,none⟩=some (.int .i64 s.hs[m].hi)/\u.cell? ⟨bh,oh+m* 3+2,none⟩=some (.int .i64 s.hs[m].room)/\bh<u.heap.size from ⟨(hu.cell (p:=⟨bh,oh+m* 3,none⟩) lw5).trans (hat5 0 _ rfl),(hu.cell (p:=⟨bh,oh+m* 3+1,none⟩) lw5).trans (hat5 1 _ rfl),(hu.cell (p:=⟨bh,oh+m* 3+2,none⟩) lw5).trans (hat5 2 _ rfl),Nat.lt_of_lt_of_le lw5 hu.size⟩));have HC6:=Zh (fun (u:World) (hu:Below w5.heap.size w5 u)=>(show u.cell? ⟨ba,oa+m,none⟩=some (.int .i64 la[m])/\ba<u.heap.size from ⟨by have h:=hat6.c1;rw [Nat.mul_one] at h;exact (hu.cell (p:=⟨ba,oa+m,none⟩) lw6).trans h,Nat.lt_of_lt_of_le lw6 hu.size⟩));obtain ⟨y,hy⟩: ∃y,s.hs[m]=y:=⟨_,rfl⟩;rw [hy] at HC5 HKH q1 q2 q3;obtain ⟨zl,zh,zr⟩:=y;dsimp only at HC5 HKH q1 q2 q3;generalize la[m]=pa at *;have HLN:=Zh (show (((s.hs.map (mirH nw)).reverse).take k).length<=1000000 by rw [List.length_take];omega);have HLM:=Zh (show (la.reverse.take k).length<=1000000 by rw [List.length_take];omega);have HLK:=Zh (show (((s.hs.map (mirH nw)).reverse).take (k+1)).length=k+1 by rw [List.length_take,List.length_reverse,List.length_map,HLH.out,Nat.min_eq_left (by omega)]);have HLJ:=Zh (show (la.reverse.take (k+1)).length=k+1 by rw [List.length_take,List.length_reverse,HLL.out,Nat.min_eq_left (by omega)]);obtain ⟨c0,cc1,cc2,cl⟩:=HC5.out wr HTW.below;obtain ⟨x0,x1,x2,x3,x4,x5,xf,xz⟩:=(HX5.later HTW.below).w6;obtain ⟨z0,z1,z2,z3,z4,z5,zf,zz⟩:=HTW.box.w6;have HT2:=Zh ((HTW.grow (Zai wr (.cells #[.int .i64 zl,.int .i64 zh,.int .i64 zr] 63))).grow (Zai _ (.cells #[.int .i64 ((nw:Int)-zh),.int .i64 ((nw:Int)-zl),.int .i64 zr] 63)));have HLT:=Zh (Box.newAt (wr.alloc (.cells #[.int .i64 zl,.int .i64 zh,.int .i64 zr] 63)) #[.int .i64 ((nw:Int)-zh),.int .i64 ((nw:Int)-zl),.int .i64 zr] 63 (n:=wr.heap.size+1) (by simp));clear hat5 hat6 hy hm1 hm2;rw [hmi];go_wp2_with (at_builtin;first
           | (refine Zbm Zc2 3 24 49 63 (.agg #[.int .i64 0,.int .i64 0,.int .i64 0]) HU9.out HI9.out rfl (by decide) (by decide) (fun _=>rfl) Zml (((s.hs.map (mirH nw)).reverse).take k) (mirH nw ⟨zl,zh,zr⟩) w5.heap.size _ (wr.heap.size+1) _ _ HLT.out rfl (.slice fh k gh) HT2.own1 HT2.base HLN.out rfl _ _ rfl rfl rfl ?_;intro v' w' hown' hg' hat';have h2:=HT2.push1 hown' hg' hat';rw [<-HKH.out] at h2;obtain ⟨f5,g5,e5'⟩:=h2.own1.shape;rw [HLK.out] at e5';subst e5';obtain ⟨c6,cl6⟩:=HC6.out w' h2.below;obtain ⟨p0',p1',p2',p3',p4',p5',pf,pz⟩:=h2.box.w6;have HT4:=Zh (((h2.put hl7 0 (.slice f5 (k+1) g5)).grow (Zai _ (.cells #[.int .i64 pa] 3))).swap);have HLT2:=Zh (Box.newAt (w'.setCell ⟨g7,0,none⟩ (.slice f5 (k+1) g5)) #[.int .i64 pa] 3 (n:=w'.heap.size) (by simp));clear h2 hown' hg' hat' HT2 HLT)
           | (refine Zbm encI 1 8 27 3 (.int .i64 0) Tryz.underlying27 HIN.out rfl (by decide) (by decide) (fun _=>rfl) Ze2 (la.reverse.take k) pa w5.heap.size _ w'.heap.size _ _ HLT2.out rfl (.slice fo k gq) HT4.own1 HT4.base HLM.out rfl _ _ rfl rfl rfl ?_;intro v3 w3 hown' hg' hat';have h2:=HT4.push1 hown' hg' hat';rw [<-HKA.out] at h2;obtain ⟨f6,g6',e6'⟩:=h2.own1.shape;rw [HLJ.out] at e6';subst e6';have H5:=Zh h2.swap;clear h2 hown' hg' hat' HT4 HLT2))
         go_roundw
         case rel=>exact ⟨k+1,by omega,by omega,f5,g5,f6,g6',⟨rfl,rfl,rfl⟩,H5⟩
         case measure=>simp [intOf];omega
        ·obtain rfl:nh=k:=by omega
         have hth:((s.hs.map (mirH nw)).reverse).take nh=(s.hs.map (mirH nw)).reverse:=List.take_of_length_le (by rw [List.length_reverse,List.length_map,HLH.out];exact Nat.le_refl _);have hta:la.reverse.take nh=la.reverse:=List.take_of_length_le (by rw [List.length_reverse,HLL.out];exact Nat.le_refl _);have htw:=HTW.out;rw [hth,hta] at htw;obtain ⟨r3,r4,r5,r6,hob⟩:=HBK.out _ _ _ _ _ _ htw;have HE9:=Zh (hob _ (List.mem_singleton.2 rfl));have HM9:=Zh htw.box;have HBW:=Zh (HB5.trans (htw.below.mono HB5.size));have X:=HX2.out;have hr1:(List.replicate nw p0).length<=1000000000:=by rw [List.length_replicate];omega
         have hr2:(List.replicate nw q0).length<=1000000000:=by rw [List.length_replicate];omega
         have hr3:s.wt.reverse.length<=1000000000:=by rw [List.length_reverse,HLW.out];omega
         have hr4:s.ca.reverse.length<=1000000000:=by rw [List.length_reverse,HLC.out];omega
         have hr5:((s.hs.map (mirH nw)).reverse).length<=1000000000:=by rw [List.length_reverse,List.length_map,HLH.out];omega
         have hr6:la.reverse.length<=1000000000:=by rw [List.length_reverse,HLL.out];omega
         have k3:Sl encI 1 wr wr.heap.size (.slice f3 nw g3) (Zbx s).sh:=by
           show Sl encI 1 wr wr.heap.size (.slice f3 nw g3) (List.replicate s.wt.length (s.sh.getD 0 0));rw [HLW.out,HP0.out];exact r3.toSl (fun _=>rfl) hr1
         have k4:Sl encI 1 wr wr.heap.size (.slice f4 nw g4) (Zbx s).be:=by
           show Sl encI 1 wr wr.heap.size (.slice f4 nw g4) (List.replicate s.wt.length (s.be.getD 0 0));rw [HLW.out,HQ0.out];exact r4.toSl (fun _=>rfl) hr2
         have k0:Sl Zc2 3 wr wr.heap.size (.slice fh nh gh) (mirS s).hs:=by
           show Sl Zc2 3 wr wr.heap.size (.slice fh nh gh) (s.hs.reverse.map (mirH s.wt.length));rw [HLW.out,List.map_reverse];exact htw.own1.toSl (fun _=>rfl) hr5
         obtain ⟨ub,us,ue,vb,vs,ve,qt,sf,hfe,hfm,hmp⟩:=Zol wr (X.tb.later HBW.out) s la X.ok (X.cg HLL.out HA1.out) nw HLW.out ⟨some ⟨bh,oh,none⟩,some ⟨bw,ow,none⟩,some ⟨bc,oc,none⟩,f3,f4,nh,nw,nw,nw,nw,ch,cw,cc,g3,g4⟩ ⟨fh,fw,fc,f3,f4,nh,nw,nw,nw,nw,gh,gw,gc,g3,g4⟩ (.slice (some ⟨ba,oa,none⟩) nh c1) (.slice fo nh gq) ⟨X.sr.ph.later HBW.out,X.sr.pw.later HBW.out,X.sr.pc.later HBW.out,k3,k4⟩ ⟨k0,r5.toSl (fun _=>rfl) hr3,r6.toSl (fun _=>rfl) hr4,k3,k4⟩ (HSA.later HBW.out) (htw.own2.toSl (fun _=>rfl) hr6) T (X.t.symm.trans HT.out);dsimp only at hfe hfm;have HFE:=Zh hfe;have HFM:=Zh hfm;have HMP:=Zh hmp;have HBJ:=Zh (Below.refl wr.heap.size wr);clear hth hta htw r3 r4 r5 r6 hob X hr1 hr2 hr3 hr4 hr5 hr6 k3 k4 k0 hfe hfm hmp HTW HBK HTA HX2 HSA HX5 HB5 HPH HLH HLL HU9 HI9 HA1 HIN HIQ HP0 HQ0 HLW HLC HPW HPC;rw [show (nh:Int)-1-(nh:Int)= -1 by omega];obtain ⟨WR,hWR⟩: ∃U:World,U=wr:=⟨_,rfl⟩;subst hWR;have HS:=Zh (HFE.run 27 _ (.inl ⟨rfl,rfl⟩) _ HBJ.out);obtain ⟨y0,y1,y2,y3,y4,y5,yf,yz⟩:=(HE9.later HBJ.out).w6;obtain ⟨z0,z1,z2,z3,z4,z5,zf,zz⟩:=(HM9.later HBJ.out).w6;go_wp2_with fail;refine HS.mono ?_;rintro e11 w11 ⟨q1,d1,rfl,hs,hb⟩;have HQ1:=Zh hs;replace HBJ:=Zh (HBJ.Zg hb);clear hb HS y0 y1 y2 y3 y4 y5 yf yz z0 z1 z2 z3 z4 z5 zf zz hs;have HS:=Zh (HFM.run 27 _ (.inl ⟨rfl,rfl⟩) _ HBJ.out);obtain ⟨y0,y1,y2,y3,y4,y5,yf,yz⟩:=(HE9.later HBJ.out).w6;obtain ⟨z0,z1,z2,z3,z4,z5,zf,zz⟩:=(HM9.later HBJ.out).w6;go_wp2_with fail;refine HS.mono ?_;rintro e12 w12 ⟨q2,d2,rfl,hs,hb⟩;have HQ2:=Zh hs;replace HQ1:=Zh (HQ1.later hb);replace HBJ:=Zh (HBJ.Zg hb);clear hb HS y0 y1 y2 y3 y4 y5 yf yz z0 z1 z2 z3 z4 z5 zf zz hs;have HS:=Zh (HFE.run 23 _ (.inr (.inl ⟨rfl,rfl⟩)) _ HBJ.out);obtain ⟨y0,y1,y2,y3,y4,y5,yf,yz⟩:=(HE9.later HBJ.out).w6;obtain ⟨z0,z1,z2,z3,z4,z5,zf,zz⟩:=(HM9.later HBJ.out).w6;go_wp2_with fail;refine HS.mono ?_;rintro e13 w13 ⟨q3,d3,rfl,hs,hb⟩;have HQ3:=Zh hs;replace HQ1:=Zh (HQ1.later hb);replace HQ2:=Zh (HQ2.later hb);replace HBJ:=Zh (HBJ.Zg hb);clear hb HS y0 y1 y2 y3 y4 y5 yf yz z0 z1 z2 z3 z4 z5 zf zz hs;have HS:=Zh (HFM.run 23 _ (.inr (.inl ⟨rfl,rfl⟩)) _ HBJ.out);obtain ⟨y0,y1,y2,y3,y4,y5,yf,yz⟩:=(HE9.later HBJ.out).w6;obtain ⟨z0,z1,z2,z3,z4,z5,zf,zz⟩:=(HM9.later HBJ.out).w6;go_wp2_with fail;refine HS.mono ?_;rintro e14 w14 ⟨q4,d4,rfl,hs,hb⟩;have HQ4:=Zh hs;replace HQ1:=Zh (HQ1.later hb);replace HQ2:=Zh (HQ2.later hb);replace HQ3:=Zh (HQ3.later hb);replace HBJ:=Zh (HBJ.Zg hb);clear hb HS y0 y1 y2 y3 y4 y5 yf yz z0 z1 z2 z3 z4 z5 zf zz hs;have HS:=Zh (HFE.run 24 _ (.inr (.inr ⟨rfl,rfl⟩)) _ HBJ.out);obtain ⟨y0,y1,y2,y3,y4,y5,yf,yz⟩:=(HE9.later HBJ.out).w6;obtain ⟨z0,z1,z2,z3,z4,z5,zf,zz⟩:=(HM9.later HBJ.out).w6;go_wp2_with fail;refine HS.mono ?_;rintro e15 w15 ⟨q5,d5,rfl,hs,hb⟩;have HQ5:=Zh hs;replace HQ1:=Zh (HQ1.later hb);replace HQ2:=Zh (HQ2.later hb);replace HQ3:=Zh (HQ3.later hb);replace HQ4:=Zh (HQ4.later hb);replace HBJ:=Zh (HBJ.Zg hb);clear hb HS y0 y1 y2 y3 y4 y5 yf yz z0 z1 z2 z3 z4 z5 zf zz hs;have HS:=Zh (HFM.run 24 _ (.inr (.inr ⟨rfl,rfl⟩)) _ HBJ.out);obtain ⟨y0,y1,y2,y3,y4,y5,yf,yz⟩:=(HE9.later HBJ.out).w6;obtain ⟨z0,z1,z2,z3,z4,z5,zf,zz⟩:=(HM9.later HBJ.out).w6;go_wp2_with fail;refine HS.mono ?_;rintro e16 w16 ⟨q6,d6,rfl,hs,hb⟩;have HQ6:=Zh hs;replace HQ1:=Zh (HQ1.later hb);replace HQ2:=Zh (HQ2.later hb);replace HQ3:=Zh (HQ3.later hb);replace HQ4:=Zh (HQ4.later hb);replace HQ5:=Zh (HQ5.later hb);replace HBJ:=Zh (HBJ.Zg hb);clear hb HS y0 y1 y2 y3 y4 y5 yf yz z0 z1 z2 z3 z4 z5 zf zz hs;have HS:=Zh (HFE.trm _ HBJ.out);obtain ⟨y0,y1,y2,y3,y4,y5,yf,yz⟩:=(HE9.later HBJ.out).w6;obtain ⟨z0,z1,z2,z3,z4,z5,zf,zz⟩:=(HM9.later HBJ.out).w6;go_wp2_with fail;refine HS.mono ?_;rintro e17 w17 ⟨rfl,hb⟩;replace HQ1:=Zh (HQ1.later hb);replace HQ2:=Zh (HQ2.later hb);replace HQ3:=Zh (HQ3.later hb);replace HQ4:=Zh (HQ4.later hb);replace HQ5:=Zh (HQ5.later hb);replace HQ6:=Zh (HQ6.later hb);replace HBJ:=Zh (HBJ.Zg hb);clear hb HS y0 y1 y2 y3 y4 y5 yf yz z0 z1 z2 z3 z4 z5 zf zz;have HS:=Zh (HFM.trm _ HBJ.out);obtain ⟨y0,y1,y2,y3,y4,y5,yf,yz⟩:=(HE9.later HBJ.out).w6;obtain ⟨z0,z1,z2,z3,z4,z5,zf,zz⟩:=(HM9.later HBJ.out).w6;go_wp2_with fail;refine HS.mono ?_;rintro e18 w18 ⟨rfl,hb⟩;replace HQ1:=Zh (HQ1.later hb);replace HQ2:=Zh (HQ2.later hb);replace HQ3:=Zh (HQ3.later hb);replace HQ4:=Zh (HQ4.later hb);replace HQ5:=Zh (HQ5.later hb);replace HQ6:=Zh (HQ6.later hb);replace HBJ:=Zh (HBJ.Zg hb);clear hb HS y0 y1 y2 y3 y4 y5 yf yz z0 z1 z2 z3 z4 z5 zf zz;have HS:=Zh (HFE.saf _ HBJ.out);obtain ⟨y0,y1,y2,y3,y4,y5,yf,yz⟩:=(HE9.later HBJ.out).w6;obtain ⟨z0,z1,z2,z3,z4,z5,zf,zz⟩:=(HM9.later HBJ.out).w6;go_wp2_with fail;refine HS.mono ?_;rintro e19 w19 ⟨t9,rfl,hi9,hb⟩;replace HQ1:=Zh (HQ1.later hb);replace HQ2:=Zh (HQ2.later hb);replace HQ3:=Zh (HQ3.later hb);replace HQ4:=Zh (HQ4.later hb);replace HQ5:=Zh (HQ5.later hb);replace HQ6:=Zh (HQ6.later hb);replace HBJ:=Zh (HBJ.Zg hb);clear hb HS y0 y1 y2 y3 y4 y5 yf yz z0 z1 z2 z3 z4 z5 zf zz;have HS:=Zh (HFM.saf _ HBJ.out);obtain ⟨y0,y1,y2,y3,y4,y5,yf,yz⟩:=(HE9.later HBJ.out).w6;obtain ⟨z0,z1,z2,z3,z4,z5,zf,zz⟩:=(HM9.later HBJ.out).w6;go_wp2_with fail;refine HS.mono ?_;rintro e10 w10 ⟨t0,rfl,hi0,hb⟩;replace HQ1:=Zh (HQ1.later hb);replace HQ2:=Zh (HQ2.later hb);replace HQ3:=Zh (HQ3.later hb);replace HQ4:=Zh (HQ4.later hb);replace HQ5:=Zh (HQ5.later hb);replace HQ6:=Zh (HQ6.later hb);replace HBJ:=Zh (HBJ.Zg hb);clear hb HS y0 y1 y2 y3 y4 y5 yf yz z0 z1 z2 z3 z4 z5 zf zz;obtain rfl:t9=t0:=Bool.eq_iff_iff.2 (hi9.trans hi0.symm);have HK1:=Zh (fun u=>Zpm u qt HFE.dt);have HK2:=Zh (fun u=>negD u qt (HFE.dt.mono (show 600<=80003 by decide)));generalize txq (-qt)=S2 at *;generalize txq qt=S1 at *;have e9:(t9 !=t9)=false:=by cases t9 <;> rfl
         clear hi9 hi0 HE9 HM9;go_wp2_with fail;refine (HK1.out _).mono ?_;rintro e11 w11 ⟨rfl,hb⟩;replace HQ1:=Zh (HQ1.later hb);replace HQ2:=Zh (HQ2.later hb);replace HQ3:=Zh (HQ3.later hb);replace HQ4:=Zh (HQ4.later hb);replace HQ5:=Zh (HQ5.later hb);replace HQ6:=Zh (HQ6.later hb);replace HBJ:=Zh (HBJ.Zg hb);clear hb;go_wp2_with fail;refine (HK2.out _).mono ?_;rintro e12 w12 ⟨rfl,rfl⟩;clear HK1 HK2;go_wp2_with fail;obtain ⟨W5,hW5⟩: ∃W:World,w11.alloc (.cells #[.slice q1 nw d1,.slice q2 nw d2,.slice q3 nw d3,.slice q4 nw d4,.slice q5 nw d5,.slice q6 nw d6] 42)=W:=⟨_,rfl⟩;have hbn:=Zai w11 (.cells #[.slice q1 nw d1,.slice q2 nw d2,.slice q3 nw d3,.slice q4 nw d4,.slice q5 nw d5,.slice q6 nw d6] 42);have hfb:=Box.new w11 #[.slice q1 nw d1,.slice q2 nw d2,.slice q3 nw d3,.slice q4 nw d4,.slice q5 nw d5,.slice q6 nw d6] 42;rw [hW5] at hbn hfb ⊢;replace HQ1:=Zh (HQ1.later hbn);replace HQ2:=Zh (HQ2.later hbn);replace HQ3:=Zh (HQ3.later hbn);replace HQ4:=Zh (HQ4.later hbn);replace HQ5:=Zh (HQ5.later hbn);replace HQ6:=Zh (HQ6.later hbn);replace HBJ:=Zh (HBJ.Zg hbn);obtain ⟨R5,hR5e⟩: ∃R,w11.heap.size=R:=⟨_,rfl⟩;rw [hR5e] at hfb ⊢;have HR5:=Zh hfb;have hR5:=hfb.lt;clear hW5 hbn hfb hR5e e9;have HBW:=Zh (HBW.trans (HBJ.mono HBW.size));clear HBJ;have HRW:=Zh (fun (u:World) (hu:Below W5.heap.size W5 u) (k:Nat) (hk:k<6)=>(show∃ak ck,W5.cell? ⟨R5,k,none⟩=some (.slice ak nw ck)/\Calls Tryz.prog 25 #[.slice ak nw ck] u (Ret (.int .i64 0) u) from by
           rcases (by omega:k=0∨k=1∨k=2∨k=3∨k=4∨k=5) with rfl|rfl|rfl|rfl|rfl|rfl
           ·exact ⟨_,_,HR5.cell 0,Zcx u _ _ (HQ1.later hu) (HFE.dn _ (.inl rfl))⟩
           ·exact ⟨_,_,HR5.cell 1,Zcx u _ _ (HQ2.later hu) (HFM.dn _ (.inl rfl))⟩
           ·exact ⟨_,_,HR5.cell 2,Zcx u _ _ (HQ3.later hu) (HFE.dn _ (.inr (.inl rfl)))⟩
           ·exact ⟨_,_,HR5.cell 3,Zcx u _ _ (HQ4.later hu) (HFM.dn _ (.inr (.inl rfl)))⟩
           ·exact ⟨_,_,HR5.cell 4,Zcx u _ _ (HQ5.later hu) (HFE.dn _ (.inr (.inr rfl)))⟩
           ·exact ⟨_,_,HR5.cell 5,Zcx u _ _ (HQ6.later hu) (HFM.dn _ (.inr (.inr rfl)))⟩))
         go_loopw [251] (fun i wr=> ∃ (k:Nat),k<=6/\i= .int .i64 k/\Hid (Below W5.heap.size W5 wr)) (fun i _=>6-(intOf i).toNat)
         case atStart=>exact ⟨0,by omega,rfl,Zh (Below.refl _ _)⟩
         case round=>
           obtain ⟨j,hj6,rfl,HBJ⟩:=hrel
           by_cases hjt:j<6
           ·obtain ⟨ak,ck,hck,hcr⟩:=HRW.out _ HBJ.out j hjt;have r0:=(HBJ.cell (p:=⟨R5,j,none⟩) hR5).trans hck;have HS:=Zh hcr;clear hck hcr;go_wp2_with fail;refine HS.mono ?_;rintro e6 w6' ⟨rfl,hb⟩;have HBJ:=Zh (HBJ.Zg hb);clear hb r0 HS;go_wp2_with fail;go_roundw
            case rel=>exact ⟨j+1,by omega,by go_num,HBJ⟩
            case measure=>simp [intOf];omega
           ·obtain rfl:j=6:=by omega
            clear HRW HR5;rw [show ((6:Nat):Int)=6 from rfl];go_wp2_with fail;obtain ⟨W6,hW6⟩: ∃U:World,U=wr:=⟨_,rfl⟩;subst hW6;have HBX:=Zh (HBW.trans (HBJ.mono HBW.size))
            go_loopw [266] (fun i wr=> ∃ (j:Nat),j<=nw/\i= .int .i64 j/\Hid (Below W6.heap.size W6 wr)) (fun i _=>nw-(intOf i).toNat)
            case atStart=>exact ⟨0,by omega,rfl,Zh (Below.refl _ _)⟩
            case round=>
              obtain ⟨j,hjn,rfl,HBK⟩:=hrel
              by_cases hjt:j<nw
              ·obtain ⟨m1,hm1⟩: ∃m,m+1+j=nw:=⟨nw-1-j,by omega⟩;have i1:(nw:Int)-1-(j:Int)=(m1:Int):=by omega
               have hb5:=HBJ.trans (HBK.mono HBJ.size);have g1:m1<ub.length:=by rw [HFE.len ub (.inl rfl)];omega
               have g2:j<vb.length:=by rw [HFM.len vb (.inl rfl)];omega
               have g4:j<vs.length:=by rw [HFM.len vs (.inr (.inl rfl))];omega
               have g6:j<ve.length:=by rw [HFM.len ve (.inr (.inr rfl))];omega
               obtain ⟨b1,o1,ea1,lo1,lw1,hat1⟩:=Sl.atI HQ1.out hb5 m1 g1;obtain ⟨b2,o2,ea2,lo2,lw2,hat2⟩:=Sl.atI HQ2.out hb5 j g2;obtain ⟨b4,o4,ea4,lo4,lw4,hat4⟩:=Sl.atI HQ4.out hb5 j g4;obtain ⟨b6,o6,ea6,lo6,lw6,hat6⟩:=Sl.atI HQ6.out hb5 j g6;subst ea1 ea2 ea4 ea6;have t1:=hat1.c1;have t2:=hat2.c1;have t4:=hat4.c1;have t6:=hat6.c1;rw [Nat.mul_one] at t1 t2 t4 t6;rw [HMP.b j m1 hm1 g2 g1] at t2;change wr.cell? _=some (.string (txq _)) at t1;change wr.cell? _=some (.string (txq _)) at t2;change wr.cell? _=some (.string (txq _)) at t4;change wr.cell? _=some (.string (txq _)) at t6;generalize txq ub[m1]=S1 at t1 t2;clear hat1 hat2 hat4 hat6
               rcases (by omega:j+3<=nw∨j+2=nw∨j+1=nw) with hq|hq|hq
               ·obtain ⟨m2,hm2⟩: ∃m,m+2+j=nw:=⟨nw-2-j,by omega⟩;have i2:(nw:Int)-2-(j:Int)=(m2:Int):=by omega
                have g3:m2<us.length:=by rw [HFE.len us (.inr (.inl rfl))];omega
                obtain ⟨b3,o3,ea3,lo3,lw3,hat3⟩:=Sl.atI HQ3.out hb5 m2 g3;subst ea3;have t3:=hat3.c1;rw [Nat.mul_one] at t3;change wr.cell? _=some (.string (txq _)) at t3;rw [HMP.s j m2 hm2 g4 g3] at t4;have HS:=Zh (negD wr us[m2] ((HFE.dn us (.inr (.inl rfl)) _ (List.getElem_mem g3)).mono (show 600<=80003 by decide)));generalize txq (-us[m2])=S3 at t4 HS;generalize txq us[m2]=S2 at t3 HS;have d2:decide ((j:Int)<=(nw:Int)-2)=true:=Zt (by omega);clear hat3;obtain ⟨m3,hm3⟩: ∃m,m+3+j=nw:=⟨nw-3-j,by omega⟩;have i3:(nw:Int)-3-(j:Int)=(m3:Int):=by omega
                have g5:m3<ue.length:=by rw [HFE.len ue (.inr (.inr rfl))];omega
                obtain ⟨b5,o5,ea5,lo5,lw5,hat5⟩:=Sl.atI HQ5.out hb5 m3 g5;subst ea5;have t5:=hat5.c1;rw [Nat.mul_one] at t5;change wr.cell? _=some (.string (txq _)) at t5;rw [HMP.e j m3 hm3 g6 g5] at t6;generalize txq ue[m3]=S4 at t5 t6;have d3:decide ((j:Int)<=(nw:Int)-3)=true:=Zt (by omega);clear hat5;go_wp2_with fail;refine HS.mono ?_;rintro e15 w15 ⟨rfl,rfl⟩;clear HS;go_wp2_with fail;clear i2 hm2 t3 d2 d3 i3 hm3 t5 g3 g5 lo3 lw3 lo5 lw5;refine Zah (by kernel_rfl) (by kernel_rfl) ?_
                repeat go_big_quiet_step (fail)
                refine wpQuiet_nil ?_;rintro w16 ⟨⟨_,hb16⟩,rfl⟩;have HBK2:=Zh (HBK.Zg hb16);clear hb16;go_wp2_with fail;clear t1 t2 t4 t6 hq hm1 i1 g1 g2 g4 g6 lo1 lw1 lo2 lw2 lo4 lw4 lo6 lw6 hb5;go_roundw
                case rel=>exact ⟨j+1,hjt,by go_num,HBK2⟩
                case measure=>simp [intOf];omega
               ·obtain ⟨m2,hm2⟩: ∃m,m+2+j=nw:=⟨nw-2-j,by omega⟩;have i2:(nw:Int)-2-(j:Int)=(m2:Int):=by omega
                have g3:m2<us.length:=by rw [HFE.len us (.inr (.inl rfl))];omega
                obtain ⟨b3,o3,ea3,lo3,lw3,hat3⟩:=Sl.atI HQ3.out hb5 m2 g3;subst ea3;have t3:=hat3.c1;rw [Nat.mul_one] at t3;change wr.cell? _=some (.string (txq _)) at t3;rw [HMP.s j m2 hm2 g4 g3] at t4;have HS:=Zh (negD wr us[m2] ((HFE.dn us (.inr (.inl rfl)) _ (List.getElem_mem g3)).mono (show 600<=80003 by decide)));generalize txq (-us[m2])=S3 at t4 HS;generalize txq us[m2]=S2 at t3 HS;have d2:decide ((j:Int)<=(nw:Int)-2)=true:=Zt (by omega);clear hat3;have d3:decide ((j:Int)<=(nw:Int)-3)=false:=Zf (by omega);rw [HMP.e0 j hjt (by omega) g6,Zg2] at t6;go_wp2_with fail;refine HS.mono ?_;rintro e15 w15 ⟨rfl,rfl⟩;clear HS;go_wp2_with fail;clear i2 hm2 t3 d2 d3 g3 lo3 lw3;refine Zah (by kernel_rfl) (by kernel_rfl) ?_
                repeat go_big_quiet_step (fail)
                refine wpQuiet_nil ?_;rintro w16 ⟨⟨_,hb16⟩,rfl⟩;have HBK2:=Zh (HBK.Zg hb16);clear hb16;go_wp2_with fail;clear t1 t2 t4 t6 hq hm1 i1 g1 g2 g4 g6 lo1 lw1 lo2 lw2 lo4 lw4 lo6 lw6 hb5;go_roundw
                case rel=>exact ⟨j+1,hjt,by go_num,HBK2⟩
                case measure=>simp [intOf];omega
               ·have d2:decide ((j:Int)<=(nw:Int)-2)=false:=Zf (by omega);rw [HMP.s0 j hq g4,Zg2] at t4;have d3:decide ((j:Int)<=(nw:Int)-3)=false:=Zf (by omega);rw [HMP.e0 j hjt (by omega) g6,Zg2] at t6;go_wp2_with fail;refine Zah (by kernel_rfl) (by kernel_rfl) ?_
                repeat go_big_quiet_step (fail)
                refine wpQuiet_nil ?_;rintro w16 ⟨⟨_,hb16⟩,rfl⟩;have HBK2:=Zh (HBK.Zg hb16);clear hb16;go_wp2_with fail;clear t1 t2 t4 t6 hq hm1 i1 g1 g2 g4 g6 lo1 lw1 lo2 lw2 lo4 lw4 lo6 lw6 hb5;go_roundw
                case rel=>exact ⟨j+1,hjt,by go_num,HBK2⟩
                case measure=>simp [intOf];omega
              ·obtain rfl:nw=j:=by omega
               have HBY:=Zh (HBX.trans (HBK.mono HBX.size));have HWS:=Zh (HWL.out _ HBY.out);clear HBX HBK HBJ HBW;go_wp2_with fail;refine HWS.mono ?_;rintro e14 w14' ⟨rfl,hb⟩;have HB14:=Zh (HBY.Zg hb);clear hb;go_wp2_with fail;go_ret;exact ⟨rfl,HB14.out⟩
   done
   done
end Go.Proofs.YtijajkfmlghgkaaGreatDoor.Nu
