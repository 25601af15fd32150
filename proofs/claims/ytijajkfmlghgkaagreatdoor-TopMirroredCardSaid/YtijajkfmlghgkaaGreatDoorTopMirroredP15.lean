/- Lemmas on the way to the law TopMirrored: Ua Ub Tp -/
import Derived.Test.YtijajkfmlghgkaaGreatDoorTopMirroredP14
set_option linter.unusedVariables false
set_option linter.unusedSimpArgs false
set_option maxRecDepth 100000
set_option maxHeartbeats 4000000
namespace Go.Proofs.YtijajkfmlghgkaaGreatDoor.Nu
open Go Go.Proofs Go.RowKit Go.Proofs.YtijajkfmlghgkaaGreatDoor
theorem ShR.opened {w:World} {x:ShV} {s:Shp} (hs:ShR w x s) (ok:ShOk s): ∃ (bh oh bw ow bc oc bs os bb ob ch cw cc cz cb:Nat),x=⟨some ⟨bh,oh,none⟩,some ⟨bw,ow,none⟩,some ⟨bc,oc,none⟩,some ⟨bs,os,none⟩,some ⟨bb,ob,none⟩,s.hs.length,s.wt.length,s.wt.length,s.wt.length,s.wt.length,ch,cw,cc,cz,cb⟩/\
    (bh<w.heap.size/\bw<w.heap.size/\bc<w.heap.size/\bs<w.heap.size/\bb<w.heap.size)/\
    (∀i (h:i<s.hs.length),At w bh (oh+i* 3) (Zc2 s.hs[i]))/\(∀i (h:i<s.wt.length),At w bw (ow+i* 1) (encI s.wt[i]))/\(∀i (h:i<s.ca.length),At w bc (oc+i* 1) (encQ s.ca[i]))/\
    (∀i (h:i<s.sh.length),At w bs (os+i* 1) (encI s.sh[i]))/\(∀i (h:i<s.be.length),At w bb (ob+i* 1) (encI s.be[i])):=by
 obtain ⟨ah,aw,ac,az,ab,nh,nw,nc,ns,nb,ch,cw,cc,cz,cb⟩:=x;obtain ⟨h1,h2,h3,h4,h5⟩:=hs;obtain rfl:s.wt.length=nw:=Sl.len h2;obtain rfl:s.wt.length=nc:=ok.lc.symm.trans (Sl.len h3);obtain rfl:s.wt.length=ns:=ok.ls.symm.trans (Sl.len h4);obtain rfl:s.wt.length=nb:=ok.lb.symm.trans (Sl.len h5);obtain rfl:s.hs.length=nh:=Sl.len h1;have hn:=ok.n0;obtain ⟨a,c,e,-,hA1⟩:=h1;injection e with e1 e2 e3
 obtain ⟨bh,oh,rfl,q1,p1⟩:=hA1 ok.h0;obtain ⟨a,c,e,-,hA2⟩:=h2;injection e with e4 e5 e6
 obtain ⟨bw,ow,rfl,q2,p2⟩:=hA2 hn;obtain ⟨a,c,e,-,hA3⟩:=h3;injection e with e7 e8 e9
 obtain ⟨bc,oc,rfl,q3,p3⟩:=hA3 (by rw [ok.lc];exact hn);obtain ⟨a,c,e,-,hA4⟩:=h4;injection e with e10 e11 e12
 obtain ⟨bs,os,rfl,q4,p4⟩:=hA4 (by rw [ok.ls];exact hn);obtain ⟨a,c,e,-,hA5⟩:=h5;injection e with e13 e14 e15
 obtain ⟨bb,ob,rfl,q5,p5⟩:=hA5 (by rw [ok.lb];exact hn);dsimp only at e1 e4 e7 e10 e13;subst e1 e4 e7 e10 e13;exact ⟨bh,oh,bw,ow,bc,oc,bs,os,bb,ob,ch,cw,cc,cz,cb,rfl,⟨q1,q2,q3,q4,q5⟩,p1,p2,p3,p4,p5⟩
theorem Sl.opened {α:Type} {f:α->List Value} {sz:Nat} {w:World} {v:Value} {l:List α} (h:Sl f sz w w.heap.size v l) (h0:0<l.length): ∃b o c,v= .slice (some ⟨b,o,none⟩) l.length c/\b<w.heap.size/\∀i (h:i<l.length),At w b (o+i* sz) (f l[i]):=by
  obtain ⟨a,c,rfl,-,hA⟩:=h;obtain ⟨b,o,rfl,h1,h2⟩:=hA h0;exact ⟨b,o,c,rfl,h1,h2⟩
theorem Zeh (w:World) (z:Int) (h:MsP z):Calls Tryz.prog 155 #[.int .i64 z,.int .i64 0,.int .i64 999999999] w (Ret (.bool true) w):=by
  have d1:decide (0<=z)=true:=Zt h.1;have d2:decide (z<=999999999)=true:=Zt h.2;clear h;go_enter Tryz.func155,Tryz.ntmps155;go_wp2_with fail;go_ret;exact ⟨rfl,Below.refl _ _⟩
theorem Zdn (w:World) (hw:TbR w) (q:Rat) (hq:Dn 600 q) (least:Int) (h:least<=q.num.sign):Calls Tryz.prog 227 #[.string (txq q),.int .i64 least] w (Ret (.int .i64 0) w):=by
  have HC:=Zh (Znv w hw q hq);have HF:=Zh (fun (u:World) (hb:Below w.heap.size w u)=>Zih u (hw.later hb) q (hq.mono (by decide)));have HS:=Zh (fun (u:World) (v:Value) (h:FrR u v q)=>Zlb u v q h);have d1:decide (q.num.sign<least)=false:=Zf (by omega);generalize q.num.sign=sg at *;generalize txq q=X at *;clear hw hq h;go_enter Tryz.func227,Tryz.ntmps227;go_wp2_with fail;refine HC.mono ?_;rintro e3 w3 ⟨rfl,hb⟩;have HB:=Zh hb;clear hb;go_wp2_with fail;refine (HF.out _ HB.out).mono ?_;rintro e4 w4 ⟨v4,rfl,hf4,hb⟩;replace HB:=Zh (HB.Zg hb);have HS4:=Zh (HS.out _ _ hf4);clear hb hf4;go_wp2_with fail;refine HS4.mono ?_;rintro e5 w5 ⟨rfl,hb⟩;replace HB:=Zh (HB.Zg hb);clear hb;go_wp2_with fail;go_ret;exact ⟨rfl,HB.out⟩
theorem Zet (w:World) (hw:TbR w) (x:ShV) (s:Shp) (hs:ShR w x s) (ok:ShOk s):Calls Tryz.prog 226 #[x.v s.t] w (Ret (.int .i64 0) w):=by
  obtain ⟨bh,oh,bw,ow,bc,oc,bs,os,bb,ob,ch,cw,cc,cz,cb,rfl,⟨q1,q2,q3,q4,q5⟩,p1,p2,p3,p4,p5⟩:=hs.opened ok;show Calls Tryz.prog 226 #[.agg #[.slice (some ⟨bh,oh,none⟩) s.hs.length ch,.slice (some ⟨bw,ow,none⟩) s.wt.length cw,.slice (some ⟨bc,oc,none⟩) s.wt.length cc,.slice (some ⟨bs,os,none⟩) s.wt.length cz,.slice (some ⟨bb,ob,none⟩) s.wt.length cb,.string (txq s.t)]] w _;have HP2:=Zh p2;have HP3:=Zh p3;have HP4:=Zh p4;have HP5:=Zh p5;have HL:=Zh (And.intro ok.lc (And.intro ok.ls ok.lb));have HBT:=Zh (fun (u:World) (z:Int) (h:MsP z)=>Zeh u z h);have HCN:=Zh (fun (u:World) (hb:Below w.heap.size w u) (k:Nat) (h:k<s.ca.length)=>(by
    have h1:=ok.ca _ (List.getElem_mem h);exact Zdn u (hw.later hb) s.ca[k] (h1.1.mono (by decide)) 1 (by have:=Zel.2 h1.2;omega):Calls Tryz.prog 227 #[.string (txq s.ca[k]),.int .i64 1] u (Ret (.int .i64 0) u)))
  have HM1:=Zh (fun (k:Nat) (h:k<s.wt.length)=>ok.wt _ (List.getElem_mem h));have HM2:=Zh (fun (k:Nat) (h:k<s.sh.length)=>ok.sh _ (List.getElem_mem h));have HM3:=Zh (fun (k:Nat) (h:k<s.be.length)=>ok.be _ (List.getElem_mem h));have HQ:=Zh (And.intro q2 (And.intro q3 (And.intro q4 q5)));obtain ⟨n,hn⟩: ∃n,s.wt.length=n:=⟨_,rfl⟩;obtain ⟨m,hm⟩: ∃n,s.hs.length=n:=⟨_,rfl⟩;have hn0:=ok.n0;have hn6:=ok.n6;have HN:=Zh hn;rw [hn] at hn0 hn6 ⊢;rw [hm];generalize txq s.t=T;clear hs ok hn hm p1 p2 p3 p4 p5 q1 q2 q3 q4 q5;have HB:=Zh ((Below.refl w.heap.size w).alloc (Nat.le_refl _) (.cells #[.slice (some ⟨bh,oh,none⟩) m ch,.slice (some ⟨bw,ow,none⟩) n cw,.slice (some ⟨bc,oc,none⟩) n cc,.slice (some ⟨bs,os,none⟩) n cz,.slice (some ⟨bb,ob,none⟩) n cb,.string T] 51));have HX:=Zh (Box.new w #[.slice (some ⟨bh,oh,none⟩) m ch,.slice (some ⟨bw,ow,none⟩) n cw,.slice (some ⟨bc,oc,none⟩) n cc,.slice (some ⟨bs,os,none⟩) n cz,.slice (some ⟨bb,ob,none⟩) n cb,.string T] 51);obtain ⟨x0,x1,x2,x3,x4,x5,xf,xz⟩:=HX.w6;have d1:((n:Int)==0)=false:=beq_eq_false_iff_ne.2 (by omega);have d2:(n==0)=false:=beq_eq_false_iff_ne.2 (by omega);have d3:decide ((24:Int)<(n:Int))=false:=Zf (by omega);have d4:decide (24<n)=false:=Zf (by omega);have d5:((n:Int) !=(n:Int))=false:=by simp
  have d6:(n !=n)=false:=by simp
  go_enter Tryz.func226,Tryz.ntmps226;go_wp2_with fail;generalize hW:w.alloc (.cells #[.slice (some ⟨bh,oh,none⟩) m ch,.slice (some ⟨bw,ow,none⟩) n cw,.slice (some ⟨bc,oc,none⟩) n cc,.slice (some ⟨bs,os,none⟩) n cz,.slice (some ⟨bb,ob,none⟩) n cb,.string T] 51)=W at *;clear hW
  go_loopw [36] (fun i wr=> ∃k:Nat,k<=n/\i= .int .i64 k/\Hid (Below w.heap.size w wr)/\Hid (Box wr w.heap.size 51 [.slice (some ⟨bh,oh,none⟩) m ch,.slice (some ⟨bw,ow,none⟩) n cw,.slice (some ⟨bc,oc,none⟩) n cc,.slice (some ⟨bs,os,none⟩) n cz,.slice (some ⟨bb,ob,none⟩) n cb,.string T])) (fun i _=>n-(intOf i).toNat)
  case atStart=>exact ⟨0,by omega,rfl,HB,HX⟩
  case round=>
    obtain ⟨k,hk,rfl,HBE,HXE⟩:=hrel;clear x0 x1 x2 x3 x4 x5 xf xz;obtain ⟨x0,x1,x2,x3,x4,x5,xf,xz⟩:=HXE.w6
    by_cases hlt:k<n
    ·have k1:k<s.wt.length:=by rw [HN.out];exact hlt
     have k2:k<s.ca.length:=by rw [HL.out.1];exact k1
     have k3:k<s.sh.length:=by rw [HL.out.2.1];exact k1
     have k4:k<s.be.length:=by rw [HL.out.2.2];exact k1
     obtain ⟨q2,q3,q4,q5⟩:=HQ.out;have HA1:=Zh (HP2.out k k1);have HA2:=Zh (HP3.out k k2);have HA3:=Zh (HP4.out k k3);have HA4:=Zh (HP5.out k k4);have HC1:=Zh (HBT.out wr _ (HM1.out k k1));have HC2:=Zh (fun (u:World) (hb:Below w.heap.size w u)=>HCN.out u hb k k2);have HC3:=Zh (fun (u:World)=>HBT.out u _ (HM2.out k k3));have HC4:=Zh (fun (u:World)=>HBT.out u _ (HM3.out k k4));have hqz:=HBE.size;generalize s.wt[k]=y1 at *;generalize s.ca[k]=y2 at *;generalize s.sh[k]=y3 at *;generalize s.be[k]=y4 at *;have c1:=(HA1.below HBE.out q2).c1;rw [Nat.mul_one] at c1;go_wp2_with fail;refine HC1.mono ?_;rintro e4 w4 ⟨rfl,hb⟩;replace HBE:=Zh (HBE.Zg hb);replace HXE:=Zh (HXE.later hb);clear hb x0 x1 x2 x3 x4 x5 xf xz c1 hqz;have hqz:=HBE.size;obtain ⟨x0,x1,x2,x3,x4,x5,xf,xz⟩:=HXE.w6;have c2:=(HA2.below HBE.out q3).c1;rw [Nat.mul_one] at c2;go_wp2_with fail;refine (HC2.out _ HBE.out).mono ?_;rintro e5 w5 ⟨rfl,hb⟩;replace HBE:=Zh (HBE.Zg hb);replace HXE:=Zh (HXE.later hb);clear hb x0 x1 x2 x3 x4 x5 xf xz c2 hqz;have hqz:=HBE.size;obtain ⟨x0,x1,x2,x3,x4,x5,xf,xz⟩:=HXE.w6;have c3:=(HA3.below HBE.out q4).c1;rw [Nat.mul_one] at c3;go_wp2_with fail;refine (HC3.out _).mono ?_;rintro e6 w6 ⟨rfl,hb⟩;replace HBE:=Zh (HBE.Zg hb);replace HXE:=Zh (HXE.later hb);clear hb x0 x1 x2 x3 x4 x5 xf xz c3 hqz;have hqz:=HBE.size;obtain ⟨x0,x1,x2,x3,x4,x5,xf,xz⟩:=HXE.w6;have c4:=(HA4.below HBE.out q5).c1;rw [Nat.mul_one] at c4;go_wp2_with fail;refine (HC4.out _).mono ?_;rintro e7 w7 ⟨rfl,hb⟩;replace HBE:=Zh (HBE.Zg hb);replace HXE:=Zh (HXE.later hb);clear hb x0 x1 x2 x3 x4 x5 xf xz c4 hqz;go_wp2_with fail;go_roundw
     case rel=>exact ⟨k+1,by omega,by go_num,HBE,HXE⟩
     case measure=>simp [intOf];omega
    ·obtain rfl:n=k:=by omega
     go_wp2_with fail;go_ret;exact ⟨rfl,HBE.out⟩
theorem Zhr (w:World) (hw:TbR w) (x:ShV) (s:Shp) (hs:ShR w x s) (ok:ShOk s):Calls Tryz.prog 154 #[x.v s.t] w (Ret (.int .i64 0) w):=by
  have HST:=Zh (fun (u:World) (hb:Below w.heap.size w u)=>Zet u (hw.later hb) x s (hs.later hb) ok);obtain ⟨bh,oh,bw,ow,bc,oc,bs,os,bb,ob,ch,cw,cc,cz,cb,rfl,⟨q1,q2,q3,q4,q5⟩,p1,-,-,-,-⟩:=hs.opened ok;have HST:=Zh (fun (u:World) (hb:Below w.heap.size w u)=>(by exact HST.out u hb:Calls Tryz.prog 226 #[.agg #[.slice (some ⟨bh,oh,none⟩) s.hs.length ch,.slice (some ⟨bw,ow,none⟩) s.wt.length cw,.slice (some ⟨bc,oc,none⟩) s.wt.length cc,.slice (some ⟨bs,os,none⟩) s.wt.length cz,.slice (some ⟨bb,ob,none⟩) s.wt.length cb,.string (txq s.t)]] u (Ret (.int .i64 0) u)));show Calls Tryz.prog 154 #[.agg #[.slice (some ⟨bh,oh,none⟩) s.hs.length ch,.slice (some ⟨bw,ow,none⟩) s.wt.length cw,.slice (some ⟨bc,oc,none⟩) s.wt.length cc,.slice (some ⟨bs,os,none⟩) s.wt.length cz,.slice (some ⟨bb,ob,none⟩) s.wt.length cb,.string (txq s.t)]] w _;have HP1:=Zh p1;have HBT:=Zh (fun (u:World) (z:Int) (h:MsP z)=>Zeh u z h);have HCN:=Zh (fun (u:World) (hb:Below w.heap.size w u)=>(Zdn u (hw.later hb) s.t (ok.td.mono (by decide)) 0 (by
    rcases Int.lt_or_le s.t.num.sign 0 with h|h
    ·have:=ok.t0;have h2:=Zca.1 (show s.t.num.sign<0 from h);grind
    ·exact h):Calls Tryz.prog 227 #[.string (txq s.t),.int .i64 0] u (Ret (.int .i64 0) u)))
  have HHO:=Zh ok.ho;have HOR:=Zh ok.ord;have hn6:=ok.n6;obtain ⟨n,hn⟩: ∃n,s.wt.length=n:=⟨_,rfl⟩;obtain ⟨m,hm⟩: ∃n,s.hs.length=n:=⟨_,rfl⟩;have hm0:=ok.h0;have hm12:=ok.h12;have HM:=Zh hm;rw [hn] at HST HHO hn6 ⊢;rw [hm] at HST hm0 hm12 ⊢;generalize txq s.t=T at *;clear hs ok hn hm p1 q2 q3 q4 q5;have HB:=Zh ((Below.refl w.heap.size w).alloc (Nat.le_refl _) (.cells #[.slice (some ⟨bh,oh,none⟩) m ch,.slice (some ⟨bw,ow,none⟩) n cw,.slice (some ⟨bc,oc,none⟩) n cc,.slice (some ⟨bs,os,none⟩) n cz,.slice (some ⟨bb,ob,none⟩) n cb,.string T] 51));have HX:=Zh (Box.new w #[.slice (some ⟨bh,oh,none⟩) m ch,.slice (some ⟨bw,ow,none⟩) n cw,.slice (some ⟨bc,oc,none⟩) n cc,.slice (some ⟨bs,os,none⟩) n cz,.slice (some ⟨bb,ob,none⟩) n cb,.string T] 51);obtain ⟨x0,x1,x2,x3,x4,x5,xf,xz⟩:=HX.w6;have HS1:=Zh (HST.out _ HB.out);have d1:((m:Int)==0)=false:=beq_eq_false_iff_ne.2 (by omega);have d2:(m==0)=false:=beq_eq_false_iff_ne.2 (by omega);have d3:decide ((12:Int)<(m:Int))=false:=Zf (by omega);have d4:decide (12<m)=false:=Zf (by omega);go_enter Tryz.func154,Tryz.ntmps154;go_wp2_with fail;refine HS1.mono ?_;rintro e4 w4 ⟨rfl,hb⟩;replace HB:=Zh (HB.Zg hb);replace HX:=Zh (HX.later hb);clear hb x0 x1 x2 x3 x4 x5 xf xz;obtain ⟨x0,x1,x2,x3,x4,x5,xf,xz⟩:=HX.w6;clear HST HS1;go_wp2_with fail
  go_loopw [4,23] (fun e i wr=> ∃ (k:Nat) (z:Int),k<=m/\i= .int .i64 k/\e= .int .i64 z/\Hid (Below w.heap.size w wr)/\Hid (Box wr w.heap.size 51 [.slice (some ⟨bh,oh,none⟩) m ch,.slice (some ⟨bw,ow,none⟩) n cw,.slice (some ⟨bc,oc,none⟩) n cc,.slice (some ⟨bs,os,none⟩) n cz,.slice (some ⟨bb,ob,none⟩) n cb,.string T])/\Hid (∀h:k<s.hs.length,z<=s.hs[k].lo)) (fun _ i _=>m-(intOf i).toNat)
  case atStart=>exact ⟨0,0,by omega,rfl,rfl,HB,HX,Zh (fun h=>(HHO.out 0 h).1)⟩
  case round=>
    obtain ⟨k,z,hk,rfl,rfl,HBE,HXE,HZ⟩:=hrel;clear x0 x1 x2 x3 x4 x5 xf xz HB HX;obtain ⟨x0,x1,x2,x3,x4,x5,xf,xz⟩:=HXE.w6
    by_cases hlt:k<m
    ·have k1:k<s.hs.length:=by rw [HM.out];exact hlt
     have hc:=(HP1.out k k1).below HBE.out q1;obtain ⟨r1,r2,r3,r4⟩:=HHO.out k k1;have hz:=HZ.out k1;have HNX:=Zh (show∀h:k+1<s.hs.length,s.hs[k].hi<=s.hs[k+1].lo from fun h=>HOR.out k h);have HC1:=Zh (fun (u:World)=>HBT.out u _ r4);obtain ⟨y,hy⟩: ∃y,s.hs[k]=y:=⟨_,rfl⟩;rw [hy] at hc r1 r2 r3 hz HNX HC1;obtain ⟨zl,zh,zr⟩:=y;have c0:=hc 0 _ rfl;have c1:=hc 1 _ rfl;have c2:=hc 2 _ rfl;rw [Nat.add_zero] at c0;dsimp only at r1 r2 r3 hz HNX HC1;have d5:decide (zl<0)=false:=Zf (by omega);have d6:decide (zh<=zl)=false:=Zf (by omega);have d7:decide ((n:Int)<zh)=false:=Zf (by omega);have d8:decide (zl<z)=false:=Zf (by omega);have hbl:bh<wr.heap.size:=Nat.lt_of_lt_of_le q1 HBE.size;have hal:Below wr.heap.size wr (wr.alloc (.cells #[.int .i64 zl,.int .i64 zh,.int .i64 zr] 63)):=(Below.refl _ _).alloc (Nat.le_refl _) _;have HXA:=Zh (HXE.later hal);have HBA:=Zh (HBE.Zg hal);have HHA:=Zh (Box.new wr #[.int .i64 zl,.int .i64 zh,.int .i64 zr] 63);have HRR:=Zh (And.intro r1 (And.intro r2 r3));clear hc hy r1 r2 r3 r4 hz hal HZ;go_wp2_with fail;refine (HC1.out _).mono ?_;rintro e5 w5 ⟨rfl,hb⟩;have HB5:=Zh (HBA.Zg hb);have HX5:=Zh (HXA.later hb);have HH5:=Zh (HHA.later hb);clear hb x0 x1 x2 x3 x4 x5 xf xz c0 c1 c2 HXA HBA HHA HXE;obtain ⟨x0,x1,x2,x3,x4,x5,xf,xz⟩:=HX5.w6;obtain ⟨y0,y1,y2,yf,yz⟩:=HH5.w3;go_wp2_with fail;go_roundw
     case rel=>exact ⟨k+1,zh,by omega,by go_num,rfl,HB5,HX5,HNX⟩
     case measure=>simp [intOf];omega
    ·obtain rfl:m=k:=by omega
     have HS2:=Zh (HCN.out _ HBE.out);go_wp2_with fail;refine HS2.mono ?_;rintro e5 w5 ⟨rfl,hb⟩;have HB5:=Zh (HBE.Zg hb);clear hb;go_wp2_with fail;go_ret;exact ⟨rfl,HB5.out⟩
theorem Zbl (w:World) (hw:TbR w) (x:ShV) (s:Shp) (vm:Value) (ms:List Int) (hs:ShR w x s) (hm:Sl encI 1 w w.heap.size vm ms) (ok:ShOk s) (cg:CgOk s ms):Calls Tryz.prog 75 #[x.v s.t,vm] w (Ret (.int .i64 0) w):=by
  have HST:=Zh (fun (u:World) (hb:Below w.heap.size w u)=>Zhr u (hw.later hb) x s (hs.later hb) ok);obtain ⟨bh,oh,bw,ow,bc,oc,bs,os,bb,ob,ch,cw,cc,cz,cb,rfl,-,-,-,-,-,-⟩:=hs.opened ok;obtain ⟨bm,om,cm,rfl,q1,p1⟩:=Sl.opened hm (by rw [cg.len];exact ok.h0);have HST:=Zh (fun (u:World) (hb:Below w.heap.size w u)=>(by exact HST.out u hb:Calls Tryz.prog 154 #[.agg #[.slice (some ⟨bh,oh,none⟩) s.hs.length ch,.slice (some ⟨bw,ow,none⟩) s.wt.length cw,.slice (some ⟨bc,oc,none⟩) s.wt.length cc,.slice (some ⟨bs,os,none⟩) s.wt.length cz,.slice (some ⟨bb,ob,none⟩) s.wt.length cb,.string (txq s.t)]] u (Ret (.int .i64 0) u)));show Calls Tryz.prog 75 #[.agg #[.slice (some ⟨bh,oh,none⟩) s.hs.length ch,.slice (some ⟨bw,ow,none⟩) s.wt.length cw,.slice (some ⟨bc,oc,none⟩) s.wt.length cc,.slice (some ⟨bs,os,none⟩) s.wt.length cz,.slice (some ⟨bb,ob,none⟩) s.wt.length cb,.string (txq s.t)],.slice (some ⟨bm,om,none⟩) ms.length cm] w _;have HP1:=Zh p1;have HBT:=Zh (fun (u:World) (k:Nat) (h:k<ms.length)=>Zeh u ms[k] (cg.ok _ (List.getElem_mem h)));have hml:=cg.len;have hm12:=ok.h12;obtain ⟨n,hn⟩: ∃n,s.wt.length=n:=⟨_,rfl⟩;obtain ⟨m,hmm⟩: ∃n,s.hs.length=n:=⟨_,rfl⟩;have HM:=Zh (hml.trans hmm);rw [hml];rw [hn] at HST ⊢;rw [hmm] at HST hm12 ⊢;generalize txq s.t=T at *;clear hs ok hn hm p1 hml hmm cg;have HB:=Zh ((Below.refl w.heap.size w).alloc (Nat.le_refl _) (.cells #[.slice (some ⟨bh,oh,none⟩) m ch,.slice (some ⟨bw,ow,none⟩) n cw,.slice (some ⟨bc,oc,none⟩) n cc,.slice (some ⟨bs,os,none⟩) n cz,.slice (some ⟨bb,ob,none⟩) n cb,.string T] 51));have HX:=Zh (Box.new w #[.slice (some ⟨bh,oh,none⟩) m ch,.slice (some ⟨bw,ow,none⟩) n cw,.slice (some ⟨bc,oc,none⟩) n cc,.slice (some ⟨bs,os,none⟩) n cz,.slice (some ⟨bb,ob,none⟩) n cb,.string T] 51);obtain ⟨x0,x1,x2,x3,x4,x5,xf,xz⟩:=HX.w6;have HS1:=Zh (HST.out _ HB.out);have d1:((m:Int) !=(m:Int))=false:=by simp
  have d2:(m !=m)=false:=by simp
  go_enter Tryz.func75,Tryz.ntmps75;go_wp2_with fail;refine HS1.mono ?_;rintro e4 w4 ⟨rfl,hb⟩;replace HB:=Zh (HB.Zg hb);replace HX:=Zh (HX.later hb);clear hb x0 x1 x2 x3 x4 x5 xf xz;obtain ⟨x0,x1,x2,x3,x4,x5,xf,xz⟩:=HX.w6;clear HST HS1;go_wp2_with fail
  go_loopw [21] (fun i wr=> ∃ (k:Nat),k<=m/\i= .int .i64 k/\Hid (Below w.heap.size w wr)) (fun i _=>m-(intOf i).toNat)
  case atStart=>exact ⟨0,by omega,rfl,HB⟩
  case round=>
    obtain ⟨k,hk,rfl,HBE⟩:=hrel;clear x0 x1 x2 x3 x4 x5 xf xz HB HX
    by_cases hlt:k<m
    ·have k1:k<ms.length:=by rw [HM.out];exact hlt
     have c0:=((HP1.out k k1).below HBE.out q1).c1;rw [Nat.mul_one] at c0;have HC1:=Zh (fun (u:World)=>HBT.out u k k1);have hbl:bm<wr.heap.size:=Nat.lt_of_lt_of_le q1 HBE.size;generalize ms[k]=z at *;go_wp2_with fail;refine (HC1.out _).mono ?_;rintro e5 w5 ⟨rfl,hb⟩;have HB5:=Zh (HBE.Zg hb);clear hb c0;go_wp2_with fail;go_roundw
     case rel=>exact ⟨k+1,by omega,by go_num,HB5⟩
     case measure=>simp [intOf];omega
    ·obtain rfl:m=k:=by omega
     go_wp2_with fail;go_ret;exact ⟨rfl,HBE.out⟩
def nwB:Value->Bool
  | .int .u64 _=>false
  | _=>true
theorem Zby {l:List Value} (h:l.all nwB=true): ∀u∈l,∀y:Int,u≠ .int .u64 y:=fun u hu y e=>by
  have:=List.all_eq_true.1 h u hu;rw [e] at this;cases this
def FB (u:World) (g:Nat) (q:Rat):Prop:=∃x:F4,Box u g 135 x.enc/\FrR u x.v q
section
variable {u u':World} {g:Nat} {q:Rat}
theorem FB.later (h:FB u g q) (hb:Below u.heap.size u u'):FB u' g q:=by
  obtain ⟨x,h1,h2⟩:=h;exact ⟨x,Box.later h1 hb,h2.later hb⟩
theorem FB.lt (h:FB u g q):g<u.heap.size:=by
  obtain ⟨x,h1,_⟩:=h;exact Box.lt h1
theorem FB.cln (h:FB u g q):Cln u g:=by
  obtain ⟨x,h1,_⟩:=h;exact Zau h1 (F4.enc_no x)
theorem FB.grown {row:Option Nat} (h:FB u g q) (hg:u.grownBy u' row) (hne:some g≠row) (hc: ∀k,row=some k->Cln u k):FB u' g q:=by
  obtain ⟨x,h1,h2⟩:=h;exact ⟨x,Box.kept h1 hg hne,h2.grown hg hc⟩
end
def put4 (w:World) (k o:Nat) (x:F4):World:=(((w.setCell ⟨k,o,none⟩ (.int .i64 x.s)).setCell ⟨k,o+1,none⟩ (.slice x.a x.n x.c)).setCell ⟨k,o+2,none⟩ (.int .i64 x.t)).setCell ⟨k,o+3,none⟩ (.slice x.b x.m x.d)
theorem Zab (w:World) (k o:Nat) (x:F4):w.grownBy (put4 w k o x) (some k):=
  ⟨rfl,rfl,rfl,by simp [put4],fun b _ hne=>by
    have e:k≠b:=fun e=>hne (by rw [e]);unfold put4;rw [heap_setCell_other _ ⟨k,o+3,none⟩ b _ (Ne.symm e),heap_setCell_other _ ⟨k,o+2,none⟩ b _ (Ne.symm e),heap_setCell_other _ ⟨k,o+1,none⟩ b _ (Ne.symm e),heap_setCell_other _ ⟨k,o,none⟩ b _ (Ne.symm e)]⟩
theorem Zdb (w:World) (k o:Nat) (x:F4):(put4 w k o x).heap.size=w.heap.size:=by simp [put4]
theorem FB.put {w:World} {g:Nat} {y x:F4} {q:Rat} (hB:Box w g 135 y.enc) (hx:FrR w x.v q):FB (put4 w g 0 x) g q:=⟨x,Box.put4 hB x,hx.grown (Zab w g 0 x) (fun k e=>by cases e;exact Zau hB (F4.enc_no y))⟩
theorem Zfu {P:Program} (w:World) (base:Nat) (t ty e:TypeId) (i:TypeInfo) (z:Value) (size bytes:Nat) (ht:P.underlying t=some (.slice e)) (hi:P.info? e=some i) (hz:i.zero=some z)
    (hsize:i.size=size) (hby:i.bytes=bytes) (hzs:z.cells.size=size) (hsz:0<size)
    (v:Value) (n:Nat) (xs:List Value) (hown:w.ownsRow base e size v n xs)
    (a:Addr) (m c:Nat) (news:List Value) (hl:news.length=m* size) (hnews: ∀j u,news[j]?=some u->w.cell? (a.add j)=some u) (h1: ∀u∈news,u.oneCell'=true) (hm:0<m)
    (h63:n+m<=maxLen) (hbytes:(n+m) * bytes<=140737488355328) {v':Value} {w':World} (hr:(Builtin.append_ #[t,t] ty #[v,.slice (some a) m c]).run P w= .ok v' w'):v'.ownBlock=v.ownBlock∨v'.ownBlock=some w.heap.size:=by
 subst hsize;subst hby
 have hsmall:n+m<=9223372036854775807:=by simp only [maxLen] at h63;omega
 rcases hown.2 with ⟨rfl,rfl⟩|⟨g,cap,cur,rfl,hbg,hg,hnc,hcm,hcs,htake⟩
 ·have hr2:=run_append_nil (P:=P) w t ty e i z ht hi hz a m c news hl hnews (by omega) (by omega) (by have hb:=hbytes;simp only [Nat.zero_add] at hb;omega);rw [hr] at hr2;injection hr2 with e1 e2
  subst e1;exact .inr rfl
 ·by_cases hroom:n+m<=cap
  ·have hfit:n* i.size+news.length<=cur.size:=by rw [hl,hcs,<-Nat.add_mul];exact Nat.mul_le_mul_right _ hroom
   have hr2:=run_append_room (P:=P) w t ty e i ht hi g n cap cur hg a m c news hl hnews h1 hroom hfit;rw [hr] at hr2;injection hr2 with e1 e2
   subst e1;exact .inl rfl
  ·have holds: ∀j u,xs[j]?=some u->w.cell? ((⟨g,0,none⟩:Addr).add j)=some u:=hown.cells (g:=g) rfl;have hr2:=run_append_grow (P:=P) w t ty e i z ht hi hz ⟨g,0,none⟩ n cap xs hown.1 holds a m c news hl hnews (by omega) (by omega) (growslice_fits (by omega) hbytes);rw [hr] at hr2;injection hr2 with e1 e2
   subst e1;exact .inr rfl
theorem Zct {P:Program} (t:TypeId) (z:Value) (bytes:Nat) (hT:P.underlying t=some (.slice 135)) (hI:(P.info? 135).map (fun i=>(i.zero,i.size,i.bytes))=some (some z,4,bytes))
    (hzs:z.cells.size=4) (hby:bytes<=1000) (hnz: ∀u∈z.cells.toList,∀y:Int,u≠ .int .u64 y)
    (qs:List Rat) (q:Rat) (x:F4) (base:Nat) (w:World) (g:Nat) (cs:Array Value) (e':TypeId) (hg:w.heap[g]?=some (.cells cs e' (0,0))) (hcs:cs.toList=x.enc) (hx:FrR w x.v q)
    (v:Value) (hown:OwnF w base v qs) (hbase:base<=w.heap.size) (hlen:qs.length<=1000000)
    {ops:Array Oper} {rest:List Oper} {o:Oper} {a:Act} {Q:Exit->Act->World->Prop} (hgd:o.guard=none) (s y:Operand)
    (ho:o.op= .call { callee:= .builtin .append,args:= #[s,y],argTypes:= #[t,t] }) (hs:a.eval s=v) (hy:a.eval y= .slice (some ⟨g,0,none⟩) 1 1)
    (h: ∀v' w',OwnF w' base v' (qs++ [q])->w.grownBy w' v.ownBlock->(v'.ownBlock=v.ownBlock∨v'.ownBlock=some w.heap.size)->wpList P ops Q rest (a.put o.dst v') w'):wpList P ops Q (o::rest) a w:=by
 refine wpList_plain hgd fun K hK=> ?_;obtain ⟨i,hi,hz0,hz1,hz2⟩:=info_parts hI;obtain ⟨l,hw1,hw2,hw3,hw4⟩:=id hown;have hmul:(l.length+1) * bytes<=1000001* 1000:=Nat.mul_le_mul (by omega) hby
 have hnews: ∀j u,x.enc[j]?=some u->w.cell? ((⟨g,0,none⟩:Addr).add j)=some u:=fun j u hu=>by
   rw [Addr.add_lit,Nat.zero_add,cell_of_row _ g j cs e' (0,0) hg];rw [<-hcs] at hu;simpa using hu
 obtain ⟨v',w',hr,h2,h3,h4⟩:=Zc4 (P:=P) w base t o.type 135 i z 4 bytes hT hi hz0 hz1 hz2 hzs (by decide) v l.length (l.flatMap F4.enc) hw1 hw2 ⟨g,0,none⟩ 1 1 x.enc (by rfl) hnews (F4.enc_one x) (by decide) (F4.enc_no x) hnz (by simp [maxLen];omega) (by omega) hbase;have hat:=Zfu (P:=P) w base t o.type 135 i z 4 bytes hT hi hz0 hz1 hz2 hzs (by decide) v l.length (l.flatMap F4.enc) hw1 ⟨g,0,none⟩ 1 1 x.enc (by rfl) hnews (F4.enc_one x) (by decide) (by simp [maxLen];omega) (by omega) hr;unfold Oper.wp execOp;simp only [ho,resolve,invoke,builtin,Sem.run_bind,Sem.run_pure,Result.andThen_ok,List.map_toArray,List.map_cons,List.map_nil,hs,hy,hr];refine hK _ _ (h v' w' ⟨l++ [x],?_,h4,by simp [hw3],fun i hi hi'=> ?_⟩ h3 hat)
 ·unfold Own;rw [List.length_append,List.length_singleton,List.flatMap_append,List.flatMap_singleton];exact h2
 ·rcases Nat.lt_or_ge i l.length with h5|h5
  ·rw [List.getElem_append_left h5,List.getElem_append_left (by omega)];exact (hw4 i h5 (by omega)).grown h3 hw2
  ·have e1:i=l.length:=by simp at hi;omega
   subst e1;rw [List.getElem_append_right (Nat.le_refl _),List.getElem_append_right (by omega)];simp only [Nat.sub_self,List.getElem_singleton];exact hx.grown h3 hw2
def Apt (v v':Value):Prop:=v.ownBlock=none∨v.ownBlock≠v'.ownBlock
theorem Apt.at {w:World} {base:Nat} {v v1 v':Value} {qs:List Rat} (h:Apt v v') (hat:v1.ownBlock=v.ownBlock∨v1.ownBlock=some w.heap.size) (h':OwnF w base v' qs):Apt v1 v':=by
  rcases hat with e|e
  ·unfold Apt;rw [e];exact h
  ·refine .inr (fun e2=> ?_);rw [e] at e2;have:=(h'.lt _ e2.symm).2;omega
theorem Apt.symm {v v':Value} (h:Apt v v'):Apt v' v:=by
  unfold Apt at h ⊢;cases hv:v'.ownBlock with
  | none=>exact .inl rfl
  | some g=>
    right
    rcases h with h|h
    ·rw [h];simp
    ·rw [hv] at h;exact fun e=>h e.symm
theorem Zpn (q:Rat) (k:Nat):q* (((k:Int)^1:Int):Rat)=q* (k:Rat):=by rw [Int.pow_one,Rat.intCast_natCast]
theorem Zsd (q:Rat) (k:Nat):q* (((k:Int)^2:Int):Rat)=q* ((k:Rat) * (k:Rat)):=by
  rw [show ((k:Int)^2)=(k:Int) * (k:Int) by rw [Int.pow_succ,Int.pow_one],Rat.intCast_mul,Rat.intCast_natCast]
theorem Zl6 {α:Type} (l:List α) (d:α):l=(List.range l.length).map (fun k=>l.getD k d):=by
  apply List.ext_getElem
  ·simp
  ·intro i h1 h2;simp [h1]
theorem Zgx {α:Type} (F:Nat->α) (n i:Nat) (q:α):((List.range n).map F).set i q=(List.range n).map (fun j=>if j=i then q else F j):=by
  apply List.ext_getElem
  ·simp
  ·intro j h1 h2
   by_cases e:j=i
   ·subst e;simp
   ·rw [List.getElem_set_ne (by omega)];simp [e]
theorem Zcq {α:Type} {F G:Nat->α} {n:Nat} (h: ∀k,k<n->F k=G k):(List.range n).map F=(List.range n).map G:=List.map_congr_left fun k hk=>h k (List.mem_range.1 hk)
end Go.Proofs.YtijajkfmlghgkaaGreatDoor.Nu
