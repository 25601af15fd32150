/- Lemmas on the way to the law TopMirrored: Ev Ew Ex Rp Ey Ez Fa -/
import Derived.Test.YtijajkfmlghgkaaGreatDoorTopMirroredP05
set_option linter.unusedVariables false
set_option linter.unusedSimpArgs false
set_option maxRecDepth 100000
set_option maxHeartbeats 4000000
namespace Go.Proofs.YtijajkfmlghgkaaGreatDoor.Nu
open Go Go.Proofs Go.RowKit Go.Proofs.YtijajkfmlghgkaaGreatDoor
theorem Znc {w0 w w':World} {g:Nat} (h:Below w0.heap.size w0 w) (hg:w.grownBy w' (some g)) (hle:w0.heap.size<=g):Below w0.heap.size w0 w':=
  h.grown hg h.size (fun k hk=>by cases hk;exact hle)
theorem Zh7 (w:World) (a1 a2:Option Addr) (n1 n2 c1 c2:Nat) (l1 l2:List Nat) (m1 m2:Nat) (h1:WlR w (.slice a1 n1 c1) l1 m1) (h2:WlR w (.slice a2 n2 c2) l2 m2) (hb1:l1.length<=10000000) (hge:m2<=m1) (hn2:2<=l2.length):
    Calls Tryz.prog 267 #[.slice a1 n1 c1,.slice a2 n2 c2] w (DivP w (m1 / m2) (m1 % m2)):=by
 have HC:=Zh (Zd0 w a1 a2 n1 n2 c1 c2 l1 l2 m1 m2 h1 h2);have hic:decide (icmp (m1:Int) (m2:Int)<0)=false:=Zf (by unfold icmp;rw [if_neg (by omega)];split <;> omega)
 obtain ⟨ic,hic2⟩: ∃x,icmp (m1:Int) (m2:Int)=x:=⟨_,rfl⟩;rw [hic2] at HC hic;have hpl:l2.length-1<l2.length:=by omega
 obtain ⟨y,hy⟩: ∃y,l2[l2.length-1]=y:=⟨_,rfl⟩;have hy0:0<y:=by have:=h2.tr.last (by omega);omega
 have hyB:y<2^64:=hy ▸ h2.dg.get _ hpl;obtain ⟨s,hs,hs1,hs2,hlz⟩:=Zra y hy0 hyB;have HLZ:=Zh hlz;have hnl:=Znb h2.dg (by omega) hy hy0 hs2 hs;rw [h2.eq] at hnl;have hle:l2.length<=l1.length:=by
   rcases Nat.lt_or_ge l1.length l2.length with h|h
   ·have h3:=Zbz (by decide) h1.dg h2.tr h;rw [h1.eq,h2.eq] at h3;omega
   ·exact h
 have HSA:=Zh (fun (W:World) (hb:Below w.heap.size w W)=>Zir W a1 n1 c1 l1 m1 s (h1.later hb) hb1 hs);have HSB:=Zh (fun (W:World) (hb:Below w.heap.size w W)=>Zir W a2 n2 c2 l2 m2 s (h2.later hb) (by omega) hs);have hm2:0<m2:=by
   have h3:=h2.tr.le (B:=2^64) (by omega);have h4:0<(2^64)^ (l2.length-1):=Nat.pow_pos (by decide);rw [h2.eq] at h3;omega
 have HLS:=Zh (fun (U q:List Nat) (e:Nat) (he:l1.length=l2.length+e) (hU:U.length=l1.length+1) (hdU:Dg (2^64) U) (hvU:val (2^64) U=2^s* m1) (hq:q.length=e+1)=>by
   have h:=Zjy (S:=2^s) (U:=U) (q:=q) (e:=e) (Nat.pow_pos (by decide)) h1.dg h2.tr (by omega) he hU hdU (by rw [h1.eq];exact hvU) hq
   rwa [h1.eq,h2.eq] at h)
 have HSE:=Zh (show 0<2^s/\2^64=2^s* 2^ (64-s) from ⟨Nat.pow_pos (by decide),by rw [<-Nat.pow_add,show s+(64-s)=64 by omega]⟩);have HM2:=Zh hm2;obtain ⟨⟨a1',c1',e,hl1,hl1',hA1⟩,hd1,ht1,hv1⟩:=h1;injection e with e1 e2 e3
 subst e1 e2 e3;obtain ⟨⟨a2',c2',e,hl2,hl2',hA2⟩,hd2,ht2,hv2⟩:=h2;injection e with e1 e2 e3
 subst e1 e2 e3;obtain ⟨b2,o2,rfl,hbb2,hcells2⟩:=hA2 (by omega);have g2:=(hcells2 (l2.length-1) (by omega)).c1;rw [Nat.mul_one,hy] at g2;obtain ⟨p,hp⟩: ∃p,l2.length-1=p:=⟨_,rfl⟩;rw [hp] at g2;have HG2:=Zh (show∀W:World,Below w.heap.size w W->W.cell? ⟨b2,o2+p,none⟩=some (.int .u64 (y:Int))/\b2<W.heap.size from fun W hb=>⟨(hb.cell (p:=⟨b2,o2+p,none⟩) hbb2).trans g2,by have:=hb.size;omega⟩);have HP:Hid (∀e w',DivP w (m1 / m2) (m1 % m2) e w'↔∃a n c l a2 n2 c2 l2,e= .returned (.tuple #[.slice a n c,.slice a2 n2 c2])/\WlR w' (.slice a n c) l (m1 / m2)/\WlR w' (.slice a2 n2 c2) l2 (m1 % m2)/\Below w.heap.size w w'):=Zh (fun _ _=>Iff.rfl);obtain ⟨Q,hQ⟩: ∃Q,DivP w (m1 / m2) (m1 % m2)=Q:=⟨_,rfl⟩;rw [hQ] at HP ⊢;obtain ⟨e,he⟩: ∃e,l1.length-l2.length=e:=⟨_,rfl⟩;have HNE:=Zh (show l1.length=l2.length+e by omega);obtain ⟨S,hS⟩: ∃S,2^s=S:=⟨_,rfl⟩;obtain ⟨K,hK⟩: ∃K,2^ (64-s)=K:=⟨_,rfl⟩;have HS:=Zh hS;have HK:=Zh hK;rw [hS] at HSA HSB HLS HSE hnl;rw [hK] at HSE;have HNL:=Zh hnl;obtain ⟨N,hN⟩: ∃N,l1.length=N:=⟨_,rfl⟩;obtain ⟨n,hn⟩: ∃n,l2.length=n:=⟨_,rfl⟩;rw [hN] at hb1 hl1' HSA HLS HNE HC hle ⊢;rw [hn] at hl2' HSB HLS HNE HC HNL hn2 hle hp ⊢;have HINFO:=Zh Zea;have kA:IntKind.i64.wrap ((N:Int)-n)=(e:Int):=by have:=HNE.out;rw [IntWalk.i64_in _ (by omega)];omega
 have kB:IntKind.i64.wrap ((e:Int)+1)=((e+1:Nat):Int):=by have:=HNE.out;rw [IntWalk.i64_in _ (by omega)];omega
 have kL:IntKind.i64.wrap ((n:Int)-1)=(p:Int):=by rw [IntWalk.i64_in _ (by omega)];omega
 have hpn:p<n:=by omega
 have d1:decide ((n:Int)=1)=false:=Zf (by omega);have d1':decide (n=1)=false:=Zf (by omega);have heb:e<=10000000:=by have:=HNE.out;omega
 clear hA1 hA2 hN hn hQ hS hK hv1 hd1 ht1 hl1 hd2 ht2 hv2 hl2 hcells2 g2 hy hy0 hyB hs1 hs2 hlz hnl hm2 hge hic2 he hpl;go_enter Tryz.func267,Tryz.ntmps267;go_wp2_with fail;refine HC.mono ?_;rintro e3 w2 ⟨rfl,hb⟩;have HB2:=Zh hb;obtain ⟨x1,x2⟩:=HG2.out _ hb;clear hb;go_wp2_with fail;refine (HLZ.out w2).mono ?_;rintro e4 w4 ⟨rfl,rfl⟩;go_wp2_with fail;refine (HSB.out w2 HB2.out).mono ?_;rintro e5 w5 ⟨gv,L,rfl,hov,hLl,hLd,hLv,hb5⟩;have HOV:=Zh hov;have HB5:=Zh (HB2.Zg hb5);have hgv2:gv<w5.heap.size:=Zaz hov;have hgv1:w2.heap.size<=gv:=hov.lt' gv rfl;have hgv0:w.heap.size<=gv:=Nat.le_trans HB2.size hgv1;have HSV:=Zh (show Za9 L=n from Zkt hLd (by omega) (by omega) (by rw [hLv,hp];have:=HNL.out.1;rwa [hp] at this) (by rw [hLv];exact HNL.out.2));have HSC:=Zh (Sc.of_own Zae (by rw [hLl];omega) hov);clear hov hb5;go_wp2_with fail;refine (Zd2 _ _ _ _ _ HSC.out).mono ?_;rintro e6 w6 ⟨rfl,rfl⟩;rw [HSV.out];go_wp2_with fail;refine (HSA.out w5 HB5.out).mono ?_;rintro e7 w7 ⟨gu,U0,rfl,hou,hUl,hUd,hUv,hb7⟩;have HOU:=Zh hou;have HB7:=Zh (HB5.Zg hb7);have HOV7:=Zh (HOV.later hb7);have hgu2:gu<w7.heap.size:=Zaz hou;have hgu1:w5.heap.size<=gu:=hou.lt' gu rfl;have HUD:=Zh (And.intro hUl (And.intro hUd hUv));have HLD:=Zh (And.intro hLl (And.intro hLd hLv));clear hou hb7 hUl hUd hUv hLl hLd hLv HSC HOV;go_wp2_with (at_make;refine mk1 encW 0 (.int .u64 0) rfl 131 345 8 Tryz.underlying131 HINFO.out rfl (by decide) w.heap.size w7 (e+1) (by omega) HB7.size rfl _ _ rfl .i64 .i64 rfl rfl ?_;intro w8 ho8 hg8);have hb8:=Zbk hg8;have HB8:=Zh (HB7.Zg hb8);have HO8:=Zh ho8;have HOV8:=Zh (HOV7.later hb8);have HOU8:=Zh (HOU.later hb8);have HW0:=Zh HB7.size;clear ho8 hg8 hb8 HOU HOV7 x1 x2;generalize w7.heap.size=gq at *;have HBL:=Zh (show gv≠gu/\gu≠gq/\gv≠gq/\w.heap.size<=gv/\w.heap.size<=gu/\w.heap.size<=gq from ⟨by omega,by omega,by omega,hgv0,by have:=HB5.size;omega,HW0.out⟩);have hLn:(L.take n).length=n:=by rw [List.length_take,HLD.out.1];omega
 have hLv:val (2^64) (L.take n)=S* m2:=by
   have h:=Zaj L;rw [HSV.out] at h;rw [Zar h.1 h.2.2,HLD.out.2.2]
 have hLt:Tr (L.take n):=by
   have h:=Zaj L;rw [HSV.out] at h;exact h.2.1
 obtain ⟨V,hV⟩: ∃V,L.take n=V:=⟨_,rfl⟩;have HLI:=Zh (HLS.out U0 (List.replicate (e+1) 0) e HNE.out HUD.out.1 HUD.out.2.1 HUD.out.2.2 (by rw [List.length_replicate]));rw [<-hLv,hV] at HLI;rw [hV] at hLn hLv hLt;have HVD:=Zh (show V.length=n/\val (2^64) V=S* m2/\Tr V/\Dg (2^64) V/\0<val (2^64) V from ⟨hLn,hLv,hLt,hV ▸ HLD.out.2.1.take n,by rw [hLv];exact Nat.mul_pos HSE.out.1 HM2.out⟩);have HVC:=Zh (show∀W:World,Own encW 1 345 W w2.heap.size (.slice (some ⟨gv,0,none⟩) (n+1) (n+1)) L->∀i (h:i<V.length),W.cell? ⟨gv,0+i,none⟩=some (.int .u64 (V[i]:Int)) from fun W hW i hi=>by
   subst hV;rw [Nat.zero_add,List.getElem_take];exact Zam hW HLD.out.1 Zae i (by rw [HLD.out.1];omega) _ rfl)
 have HUL0:=Zh HUD.out.1;clear hLn hLv hLt hV HLS HSA HSB HC HB2 HB5 HB7 hgv0 hgv1 hgv2 hgu1 hgu2 HG2 HLZ HUD
 go_loopw [14] (fun i wr=> ∃ (k:Nat) (q U:List Nat),k<=e+1/\i= .int .i64 ((k:Int)-1)/\LdI (2^64) (S* m1) (val (2^64) V) U q n k/\Below w.heap.size w wr/\Own encW 1 345 wr w.heap.size (.slice (some ⟨gq,0,none⟩) (e+1) (e+1)) q/\q.length=e+1/\Own encW 1 345 wr w5.heap.size (.slice (some ⟨gu,0,none⟩) (N+1) (N+1)) U/\U.length=N+1/\Own encW 1 345 wr w2.heap.size (.slice (some ⟨gv,0,none⟩) (n+1) (n+1)) L) (fun i _=>(intOf i+1).toNat)
 case atStart=>exact ⟨e+1,_,_,Nat.le_refl _,by simp,HLI.out,HB8.out,HO8.out,by rw [List.length_replicate],HOU8.out,HUL0.out,HOV8.out⟩
 case round=>
   clear HLI HB8 HO8 HOU8 HOV8 kB kL;obtain ⟨k,q,U,hk,rfl,hli,hbe,hoq,hql,hou,hul,hov⟩:=hrel;have HLI:=Zh hli;have HB:=Zh hbe;have HOQ:=Zh hoq;have HQL:=Zh hql;have HOU:=Zh hou;have HUL:=Zh hul;have HOV:=Zh hov;clear hli hbe hoq hql hou hul hov
   by_cases h0:k=0
   ·subst h0;go_wp2_with fail;have HDU:=Zh HLI.du
    go_loopw [97] (fun i wr=> ∃ (k:Nat) (d:List Nat),k<=n/\i= .int .i64 k/\UsI (2^64) S U d k/\Below w.heap.size w wr/\Own encW 1 345 wr w.heap.size (.slice (some ⟨gq,0,none⟩) (e+1) (e+1)) q/\Own encW 1 345 wr w5.heap.size (.slice (some ⟨gu,0,none⟩) (N+1) (N+1)) (d++U.drop k)) (fun i _=>n-(intOf i).toNat)
    case atStart=>exact ⟨0,[],Nat.zero_le _,rfl,UsI.start _ _ _,HB.out,HOQ.out,HOU.out⟩
    case round=>
      clear HB HOQ HOU HOV;obtain ⟨k,d,hk,rfl,hui,hbe,hoq,hou⟩:=hrel;have HUI:=Zh hui;have HB:=Zh hbe;have HOQ:=Zh hoq;have HO:=Zh hou;have hdl:=hui.len;have HLL:=Zh (show (d++U.drop k).length=N+1 by rw [Zhg d U k hdl (by rw [HUL.out];omega),HUL.out]);clear hui hbe hoq hou
      by_cases hkn:k<n
      ·have d2:decide ((k:Int)<(n:Int))=true:=Zt (by omega);have d2':decide (k<n)=true:=Zt (by omega);have hkN:k<N+1:=by omega
       have hkN1:k+1<N+1:=by omega
       have hkU:k<U.length:=by rw [HUL.out];omega
       have hkU1:k+1<U.length:=by rw [HUL.out];omega
       obtain ⟨hst1,hst2⟩:=HUI.step HSE.out.1 HSE.out.2 HDU.out hkU;rw [Zbu hkU1] at hst1 hst2;obtain ⟨hq1,hq2⟩:=Zhf d U k hdl 0 hkU;obtain ⟨hr1,hr2⟩:=Zhf d U k hdl 1 hkU1;have hxB:=HDU.get k hkU;have hyB:=HDU.get (k+1) hkU1;have g0:=Zam HO.out HLL.out Zae k (by rw [HLL.out];exact hkN) (.int .u64 (U[k]:Int)) (by have:=hq2;simp only [Nat.add_zero] at this;rw [this];rfl);have g1:=Zam HO.out HLL.out Zae (k+1) hr1 (.int .u64 (U[k+1]:Int)) (by rw [hr2];rfl);have k3:IntKind.i64.wrap ((k:Int)+1)=((k+1:Nat):Int):=by rw [IntWalk.i64_in _ (by omega)];omega
       clear hq1 hq2 hr2;generalize U[k]=x at *;obtain ⟨y2,hy2⟩: ∃y,U[k+1]=y:=⟨_,rfl⟩;rw [hy2] at hst1 hst2 hyB g1;have HY2:=Zh hy2;clear hy2;have k4:(x:Int) / 2^s=((x / S:Nat):Int):=by
         rw [show (2:Int)^s=((2^s:Nat):Int) by simp,HS.out];exact (Int.natCast_ediv x S).symm
       have k5:IntKind.u64.wrap ((y2:Int) * 2^ (64-s))=((y2 % S* K:Nat):Int):=by
         rw [show (y2:Int) * 2^ (64-s)=((y2* 2^ (64-s):Nat):Int) by simp,HK.out,Zer];have h:y2* K % 2^64=y2 % S* K:=by rw [HSE.out.2,Nat.mul_mod_mul_right]
         rw [<-h];generalize y2* K=t2;omega
       have k6:bits .or .u64 ((x / S:Nat):Int) ((y2 % S* K:Nat):Int)=((x / S+y2 % S* K:Nat):Int):=
         Zfd (64-s) (y2 % S* K) (x / S) (Nat.lt_of_le_of_lt (Nat.le_add_left _ _) hst1) (by rw [HK.out];exact Nat.div_lt_of_lt_mul (by rw [<-HSE.out.2];exact hxB)) (by omega) (by rw [HK.out];exact ⟨_,Nat.mul_comm _ _⟩)
       have k7:IntKind.i64.wrap (64-(s:Int))=((64-s:Nat):Int):=by rw [IntWalk.i64_in _ (by omega)];omega
       have d4:decide (((k+1:Nat):Int)<((N+1:Nat):Int))=true:=Zt (by omega);have d4':decide (k<N)=true:=Zt (by omega);have d4'':decide (k+1<N+1)=true:=Zt (by omega);have HZ:=Zh (show s=0->x / S+y2 % S* K=x / S from fun h=>by
         have:S=1:=by rw [<-HS.out,h]
         rw [this,Nat.mod_one,Nat.zero_mul,Nat.add_zero])
       obtain ⟨z1,hz1⟩: ∃z,x / S=z:=⟨_,rfl⟩;obtain ⟨z2,hz2⟩: ∃z,y2 % S* K=z:=⟨_,rfl⟩;rw [hz1] at k4;rw [hz2] at k5;rw [hz1,hz2] at k6 HZ hst1 hst2;obtain ⟨z,hz⟩: ∃z,z1+z2=z:=⟨_,rfl⟩;rw [hz] at k6 HZ hst1 hst2;have HST:=Zh hst2;have zf:=Own.frozenN HO.out HLL.out k;have zg:gu<wr.heap.size:=Zaz HO.out;have hnew:=Zaq HO.out HLL.out Zae k hkN z1 (.int .u64 (z1:Int)) rfl;rw [Zkw d U k z1 hdl hkU] at hnew;have HNEW:=Zh hnew;have HQN:=Zh (HOQ.other (a:=⟨gu,k,none⟩) (.int .u64 (z1:Int)) (fun h=>HBL.out.2.1 (Option.some.inj h).symm));have HBN:=Zh (HB.setCell (p:=⟨gu,k,none⟩) HBL.out.2.2.2.2.1 (.int .u64 (z1:Int)));have HDL:=Zh hdl;clear hst1 hst2 hxB hyB hz hz1 hz2 hnew hr1 hdl
       by_cases hs0:s=0
       ·have hz0:=HZ.out hs0;subst hz0;have d3:decide ((0:Int)<(s:Int))=false:=Zf (by omega);have d3':decide (0<s)=false:=Zf (by omega);clear hs0;go_wp2_with fail;go_roundw
        case rel=>exact ⟨k+1,d++ [z],by omega,by go_num,HST.out,HBN.out,HQN.out,HNEW.out⟩
        case measure=>simp [intOf];omega
       ·have d3:decide ((0:Int)<(s:Int))=true:=Zt (by omega);have d3':decide (0<s)=true:=Zt (by omega);have hz1U:(d++ [z1]).length=k+1:=by rw [List.length_append,HDL.out];rfl
        have HLL2:=Zh (show ((d++ [z1])++U.drop (k+1)).length=N+1 by rw [Zhg _ U (k+1) hz1U (by omega),HUL.out]);have zg2:gu<(wr.setCell ⟨gu,k,none⟩ (.int .u64 (z1:Int))).heap.size:=Zaz HNEW.out;have zf2:=Own.frozenN HNEW.out HLL2.out k;have e1:((d++ [z1])++U.drop (k+1))[k]'(by rw [HLL2.out];exact hkN)=z1:=by
          rw [List.getElem_append_left (by rw [hz1U];omega),List.getElem_append_right (by rw [HDL.out];exact Nat.le_refl _)];simp
        have e2:((d++ [z1])++U.drop (k+1))[k+1]'(by rw [HLL2.out];exact hkN1)=U[k+1]:=by
          rw [List.getElem_append_right (by rw [hz1U];exact Nat.le_refl _)];simp [HDL.out]
        have g20:=Zam HNEW.out HLL2.out Zae k (by rw [HLL2.out];exact hkN) (.int .u64 (z1:Int)) (by rw [e1];rfl);have g21:=Zam HNEW.out HLL2.out Zae (k+1) (by rw [HLL2.out];exact hkN1) (.int .u64 (y2:Int)) (by rw [e2,HY2.out];rfl);have hset:((d++ [z1])++U.drop (k+1)).set k z=(d++ [z])++U.drop (k+1):=by
          rw [List.set_append_left _ _ (by rw [hz1U];omega),List.set_append_right _ _ (by rw [HDL.out];exact Nat.le_refl _),HDL.out,Nat.sub_self];rfl
        have HSET:=Zh hset;clear e1 e2 hset hs0 hz1U;go_wp2_with fail;refine Za1 14 (by kernel_rfl) (by kernel_rfl) ?_;simp only [Z2,Z6,Z3,Z7]
        repeat go_big_quiet_step (fail)
        refine wpQuiet_nil ?_;rintro _ ⟨nq,rfl⟩;have HOW:=Zh (HNEW.drewN nq);have HQW:=Zh (HQN.drewN nq);have HBW:=Zh (below_drewN HBN.out nq);have hpu:=Zaq HOW.out HLL2.out Zae k hkN z (.int .u64 (z:Int)) rfl;rw [HSET.out] at hpu;have HPU:=Zh hpu;have HPQ:=Zh (HQW.other (a:=⟨gu,k,none⟩) (.int .u64 (z:Int)) (fun h=>HBL.out.2.1 (Option.some.inj h).symm));have HPB:=Zh (HBW.setCell (p:=⟨gu,k,none⟩) HBL.out.2.2.2.2.1 (.int .u64 (z:Int)));have yg:=Zaz HOW.out;have yf:=Own.frozenN HOW.out HLL2.out k;have yc:=Zam HOW.out HLL2.out Zae k (by rw [HLL2.out];exact hkN) _ rfl;clear hpu g0 g1 g20 g21 zf zg zf2 zg2;generalize (wr.setCell ⟨gu,k,none⟩ (.int .u64 (z1:Int))).drewN nq=W1 at *;go_wp2_with fail;go_roundw
        case rel=>exact ⟨k+1,d++ [z],by omega,by go_num,HST.out,HPB.out,HPQ.out,HPU.out⟩
        case measure=>simp [intOf];omega
      ·obtain rfl:n=k:=by omega
       have HDN:=Zh (Zkv HSE.out.1 HM2.out HVD.out.2.1 HNL.out.2 (by rw [HVD.out.1];exact HLI.out) (by rw [HUL.out];omega) HUI.out);have hnd: ¬ (n:Int)<(n:Int):=by omega
       have HSQ:=Zh (Sc.of_own Zae (by rw [HQL.out];omega) HOQ.out);have htk:(d++U.drop n).take n=d:=List.take_left' hdl;have hsu:=(Sc.of_own Zae (by rw [HLL.out];omega) HO.out).take n (by rw [HLL.out];omega);rw [htk] at hsu;have HSU:=Zh hsu;have HT1:=Zh (fun (W:World) (hW:Below wr.heap.size wr W)=>Zd2 W _ _ _ _ (HSQ.later hW));have HT2:=Zh (fun (W:World) (hW:Below wr.heap.size wr W)=>Zd2 W _ _ _ _ (HSU.later hW));have HW1:=Zh (show∀W:World,Below wr.heap.size wr W->WlR W (.slice (some ⟨gq,0,none⟩) (Za9 q) (e+1)) (q.take (Za9 q)) (m1 / m2) from fun W hW=>
         ⟨(HSQ.later hW).take _ (Zaj q).1,HDN.out.2.1.take _,(Zaj q).2.1,by rw [Zar (Zaj q).1 (Zaj q).2.2,HDN.out.1]⟩)
       have HW2:=Zh (show∀W:World,Below wr.heap.size wr W->WlR W (.slice (some ⟨gu,0,none⟩) (Za9 d) (N+1)) (d.take (Za9 d)) (m1 % m2) from fun W hW=>
         ⟨(HSU.later hW).take _ (Zaj d).1,HDN.out.2.2.2.1.take _,(Zaj d).2.1,by rw [Zar (Zaj d).1 (Zaj d).2.2,HDN.out.2.2.2.2]⟩)
       have zg:=Zaz HO.out;clear htk hsu hkn;go_wp2_with fail;refine Zbn 6 (by kernel_rfl) (by kernel_rfl) ?_;simp only [Z2,Z6,Z3,Z7]
       repeat go_big_quiet_step ((go_at_call 323;first|with_reducible exact Calls.later_same (HT1.out _ (Later.h _))|with_reducible exact Calls.later_same (HT2.out _ (Later.h _))))
       refine wpQuiet_nil ?_;rintro _ ⟨⟨wz,hbz⟩,rfl⟩;have HZ:=Zh (HB.Zg hbz);have HBZ:=Zh hbz;clear hbz;go_wp2_with fail;exact (HP.out _ _).2 ⟨_,_,_,_,_,_,_,_,rfl,HW1.out _ HBZ.out,HW2.out _ HBZ.out,HZ.out⟩
   ·obtain ⟨j,rfl⟩: ∃j,k=j+1:=⟨k-1,by omega⟩;have k5:(((j+1:Nat):Int)-1)=(j:Int):=by omega
    rw [k5];have hjN:j+n<=N:=by have:=HNE.out;omega
    have k1:IntKind.i64.wrap ((j:Int)-1)=(j:Int)-1:=IntWalk.i64_in _ (by omega);have k2:decide ((0:Int)<=(j:Int))=true:=Zt (by omega);have k3:IntKind.i64.wrap ((j:Int)+(n:Int))=((j+n:Nat):Int):=by rw [IntWalk.i64_in _ (by omega)];omega
    have k4:IntKind.i64.wrap (((j+n:Nat):Int)+1)=((j+n+1:Nat):Int):=by rw [IntWalk.i64_in _ (by omega)];omega
    have hW:=LdI.win HVD.out.2.2.2.1 HVD.out.2.2.1 (by rw [HVD.out.1];exact hn2) (k:=j) (by rw [HQL.out];omega) (by rw [HVD.out.1];exact HLI.out);have HST:=Zh (Zpv wr gu (N+1) (N+1) w5.heap.size j gv 0 n (N+1-j) (n+1) U V HOU.out HUL.out hW HLI.du (HVC.out _ HOV.out) (Zaz HOV.out) HBL.out.1 HVD.out.1 (by omega));clear hW;go_wp2_with fail;rw [show j+n+1-j=n+1 by omega];refine HST.mono ?_;rintro e9 w9 ⟨U',t,rfl,hst⟩;have HS9:=Zh hst;have HQ9:=Zh (HOQ.kept hst.gb (.inr (fun h=>HBL.out.2.1 (Option.some.inj h).symm)));have HV9:=Zh (HOV.kept hst.gb (.inr (fun h=>HBL.out.1 (Option.some.inj h))));have HB9:=Zh (Znc HB.out hst.gb HBL.out.2.2.2.2.1);have hje:j<e+1:=by omega
    have zf:=Own.frozenN HQ9.out HQL.out j;have zc:=Zam HQ9.out HQL.out Zae j (by rw [HQL.out];exact hje) _ rfl;have zg:gq<w9.heap.size:=Zaz HQ9.out;have HQN:=Zh (Zaq HQ9.out HQL.out Zae j hje t (.int .u64 (t:Int)) rfl);have HVN:=Zh (HV9.other (a:=⟨gq,j,none⟩) (.int .u64 (t:Int)) (fun h=>HBL.out.2.2.1 (Option.some.inj h)));have HUN:=Zh (hst.own.other (a:=⟨gq,j,none⟩) (.int .u64 (t:Int)) (fun h=>HBL.out.2.1 (Option.some.inj h)));have HBN:=Zh (HB9.setCell (p:=⟨gq,j,none⟩) HBL.out.2.2.2.2.2 (.int .u64 (t:Int)));have HLN:=Zh (LdI.step (k:=j) (u':=U') HVD.out.2.2.2.1 HVD.out.2.2.2.2 (by rw [HQL.out];exact hje) (by rw [HVD.out.1];exact HLI.out) hst.len hst.dg hst.tk hst.zer hst.eq hst.lt hst.tB);rw [HVD.out.1] at HLN;clear hst;go_wp2_with fail;go_roundw
    case rel=>exact ⟨j,q.set j t,U',by omega,rfl,HLN.out,HBN.out,HQN.out,by rw [List.length_set,HQL.out],HUN.out,by rw [HS9.len,HUL.out],HVN.out⟩
    case measure=>simp [intOf];try omega
theorem Zo4 (w:World) (a1 a2:Option Addr) (n1 n2 c1 c2:Nat) (l1 l2:List Nat) (m1 m2:Nat) (h1:WlR w (.slice a1 n1 c1) l1 m1) (h2:WlR w (.slice a2 n2 c2) l2 m2) (hb1:l1.length<=10000000) (h0:0<m2):
    Calls Tryz.prog 267 #[.slice a1 n1 c1,.slice a2 n2 c2] w (DivP w (m1 / m2) (m1 % m2)):=by
 rcases Nat.lt_or_ge m1 m2 with h|h
 ·exact Zku w a1 a2 n1 n2 c1 c2 l1 l2 m1 m2 h1 h2 h
 ·rcases Nat.lt_or_ge l2.length 2 with hl|hl
  ·have hv:=h2.eq
   match l2,h2,hl,hv with
   | [],_,_,hv=>have:0=m2:=hv;omega
   | [v0],h2,_,hv=>
     have e:v0=m2:=by rw [<-hv];exact (Zbr _ _).symm
     subst e;obtain ⟨a',c',e,_⟩:=h2.sc;injection e with e1 e2 e3
     have e2':n2=1:=e2;subst e2';exact Zjx w a1 a2 n1 c1 c2 l1 v0 m1 h1 h2 hb1 h
   | _::_::_,_,hl,_=>simp at hl;omega
  ·exact Zh7 w a1 a2 n1 n2 c1 c2 l1 l2 m1 m2 h1 h2 hb1 h hl
def RetD (w:World) (z1 z2:Int) (e:Ending) (w':World):Prop:=∃u v,e= .returned (.tuple #[u,v])/\IntR w' u z1/\IntR w' v z2/\Below w.heap.size w w'
theorem RetD.mk {w w':World} {z1 z2:Int} {u v x:Value} (h:x= .tuple #[u,v]) (h1:IntR w' u z1) (h2:IntR w' v z2) (hb:Below w.heap.size w w'):RetD w z1 z2 (.returned x) w':=⟨u,v,by rw [h],h1,h2,hb⟩
theorem Zkx {a b:Int} (hb:0<b) (h1: -9223372036854775808<a) (h2:a<=9223372036854775807):
    (a.tmod b<0/\a / b=a.tdiv b-1/\a % b=a.tmod b+b∨¬a.tmod b<0/\a / b=a.tdiv b/\a % b=a.tmod b)/\ -9223372036854775807<=a.tdiv b/\a.tdiv b<=9223372036854775807/\ -b<a.tmod b/\a.tmod b<b:=by
 have e:=Int.mul_tdiv_add_tmod a b;have l1:=Int.tmod_lt_of_pos a hb;have l2:=Int.lt_tmod_of_pos a hb;have l3:=Int.natAbs_tdiv a b;have l4:=Nat.div_le_self a.natAbs b.natAbs;have l5:(a.tdiv b).natAbs<=a.natAbs:=by rw [Int.natAbs_tdiv];exact l4
 clear l3 l4;generalize a.tdiv b=q at *;generalize a.tmod b=r at *;refine ⟨?_,by omega,by omega,l2,l1⟩
 by_cases hr:r<0
 ·left
  have h:=(Int.ediv_emod_unique (a:=a) (b:=b) (r:=r+b) (q:=q-1) hb).2 ⟨by rw [Int.mul_sub];omega,by omega,by omega⟩;exact ⟨hr,h.1,h.2⟩
 ·right
  have h:=(Int.ediv_emod_unique (a:=a) (b:=b) (r:=r) (q:=q) hb).2 ⟨by omega,by omega,by omega⟩;exact ⟨hr,h.1,h.2⟩
theorem Zhh (w:World) (s1 s2:Int) (h0:0<s2) (h1: -9223372036854775808<s1) (h2:s1<=9223372036854775807) (h3:s2<=9223372036854775807):Calls Tryz.prog 256 #[.agg #[.int .i64 s1,.slice none 0 0],.agg #[.int .i64 s2,.slice none 0 0]] w (RetD w (s1 / s2) (s1 % s2)):=by
  have hq:=fun (w:World) (a:Option Addr) (n c:Nat)=>Lib.run_eql_slice_nil w 131 345 a n c 0 0 Tryz.underlying131;have HB0:=Zh ((Below.refl w.heap.size w).alloc (Nat.le_refl _) (.cells #[.int .i64 s1,.slice none 0 0] 133));have HB1:=Zh (HB0.alloc HB0.size (.cells #[.int .i64 s2,.slice none 0 0] 133));have HB2:=Zh (HB1.alloc HB1.size (.cells #[.int .i64 0,.slice none 0 0] 133));have HB:=Zh (HB2.alloc HB2.size (.cells #[.int .i64 0,.slice none 0 0] 133));have HX:=Zh ((((Box.new w #[.int .i64 s1,.slice none 0 0] 133).alloc (.cells #[.int .i64 s2,.slice none 0 0] 133)).alloc (.cells #[.int .i64 0,.slice none 0 0] 133)).alloc (.cells #[.int .i64 0,.slice none 0 0] 133));have HY:=Zh (((Box.newAt (w.alloc (.cells #[.int .i64 s1,.slice none 0 0] 133)) #[.int .i64 s2,.slice none 0 0] 133 (n:=w.heap.size+1) (by simp)).alloc (.cells #[.int .i64 0,.slice none 0 0] 133)).alloc (.cells #[.int .i64 0,.slice none 0 0] 133));obtain ⟨x0,x1,xf,xz⟩:=HX.v2;obtain ⟨y0,y1,yf,yz⟩:=HY.v2;obtain ⟨hway,hr1,hr2,hr3,hr4⟩:=Zkx h0 h1 h2;have HV:Hid (∀u v:Int,s1 / s2=u->s1 % s2=v->True):=Zh (fun _ _ _ _=>trivial);have d0:(s2==0)=false:=beq_eq_false_iff_ne.2 (by omega);have d0': ¬s2=0:=by omega
  have d1:(s1== -9223372036854775808)=false:=beq_eq_false_iff_ne.2 (by omega);have d1': ¬s1= -9223372036854775808:=by omega
  have k1:IntKind.i64.wrap (s1.tdiv s2)=s1.tdiv s2:=IntWalk.i64_in _ (by omega);have k2:IntKind.i64.wrap (s1.tmod s2)=s1.tmod s2:=IntWalk.i64_in _ (by omega);clear HV
  rcases hway with ⟨hr,e1,e2⟩|⟨hr,e1,e2⟩
  ·rw [e1,e2];clear e1 e2;have d2:decide (s1.tmod s2<0)=true:=Zt hr;have k3:IntKind.i64.wrap (s1.tdiv s2-1)=s1.tdiv s2-1:=IntWalk.i64_in _ (by omega);have k4:IntKind.i64.wrap (s1.tmod s2+s2)=s1.tmod s2+s2:=IntWalk.i64_in _ (by omega);have HR:=Zh (show (-9223372036854775808<=s1.tdiv s2-1/\s1.tdiv s2-1<=9223372036854775807)/\(-9223372036854775808<=s1.tmod s2+s2/\s1.tmod s2+s2<=9223372036854775807) by omega);clear hr hr1 hr2 hr3 hr4 h0 h1 h2 h3;go_enter Tryz.func256,Tryz.ntmps256;go_wp2_with fail;refine Za1 11 (by kernel_rfl) (by kernel_rfl) ?_;simp only [Z2,Z6,Z3,Z7]
   repeat go_big_quiet_step (fail)
   refine wpQuiet_nil ?_;rintro _ ⟨nq,rfl⟩;go_wp2_with fail;refine Za1 7 (by kernel_rfl) (by kernel_rfl) ?_;simp only [Z2,Z6,Z3,Z7]
   repeat go_big_quiet_step (fail)
   refine wpQuiet_nil ?_;rintro _ ⟨nq,rfl⟩;go_wp2_with fail;refine bodyPost_ret (v:= .tuple #[.agg #[.int .i64 (s1.tdiv s2-1),.slice none 0 0],.agg #[.int .i64 (s1.tmod s2+s2),.slice none 0 0]]) (by simp [results,Tryz.results256,go_sem, *]) rfl ?_;refine RetD.mk rfl (IntR.small _ HR.out.1.1 HR.out.1.2) (IntR.small _ HR.out.2.1 HR.out.2.2) ?_
   repeat (first|with_reducible exact below_drewN HB.out _|with_reducible exact Below.refl _ _|refine .Zs ?_ _|refine .Za ?_ _|refine .drew ?_)
  ·rw [e1,e2];clear e1 e2;have d2:decide (s1.tmod s2<0)=false:=Zf hr;have HR:=Zh (show (-9223372036854775808<=s1.tdiv s2/\s1.tdiv s2<=9223372036854775807)/\(-9223372036854775808<=s1.tmod s2/\s1.tmod s2<=9223372036854775807) by omega);clear hr hr1 hr2 hr3 hr4 h0 h1 h2 h3;go_enter Tryz.func256,Tryz.ntmps256;go_wp2_with fail;refine Za1 11 (by kernel_rfl) (by kernel_rfl) ?_;simp only [Z2,Z6,Z3,Z7]
   repeat go_big_quiet_step (fail)
   refine wpQuiet_nil ?_;rintro _ ⟨nq,rfl⟩;go_wp2_with fail;refine bodyPost_ret (v:= .tuple #[.agg #[.int .i64 (s1.tdiv s2),.slice none 0 0],.agg #[.int .i64 (s1.tmod s2),.slice none 0 0]]) (by simp [results,Tryz.results256,go_sem, *]) rfl ?_;refine RetD.mk rfl (IntR.small _ HR.out.1.1 HR.out.1.2) (IntR.small _ HR.out.2.1 HR.out.2.2) ?_
   repeat (first|with_reducible exact below_drewN HB.out _|with_reducible exact Below.refl _ _|refine .Zs ?_ _|refine .Za ?_ _|refine .drew ?_)
end Go.Proofs.YtijajkfmlghgkaaGreatDoor.Nu
namespace Go
open Go.RowKit
section
def Region.relB (ops:Array Oper) (n:Nat):Bool:=
  Region.noSelect ops && decide (n<ops.size) && Region.sinkB .any ops n && Region.chainB .any ops n && Region.seqB .any ops (ops.size-n) n (Region.marked ops.size n) &&
  ((List.range n).all fun i=>match ops[i]? with|some o=>o.after.all fun e=> !Region.binds .any e || decide (e.on<i)|none=>true) &&
  ((List.range n).all fun i=>(List.range n).all fun j=>Region.flowPair ops i j) &&
  ((List.range n).all fun i=>match ops[i]? with|some o=>o.guard.isNone && o.dst.isSome|none=>true)
def Zac (vs:Nat->Value):Nat->Act->List Oper->Act
  | _,a,[]=>a
  | k,a,o::os=>Zac vs (k+1) (a.put o.dst (vs k)) os
theorem Zb0 (vs:Nat->Value) (t:Tmp): ∀ (os:List Oper) (k:Nat) (a:Act),(∀o∈os,o.dst≠some t)->(Zac vs k a os).tmps[t]?=a.tmps[t]?
  | [],_,_,_=>rfl
  | o::os,k,a,h=>by
    rw [Zac,Zb0 vs t os (k+1) _ (fun o' ho'=>h o' (List.mem_cons_of_mem _ ho')),Zaf,if_neg (h o (by simp))]
theorem Zb8 (vs:Nat->Value): ∀ (os:List Oper) (k:Nat) (a:Act),(Zac vs k a os).defers=a.defers
  | [],_,_=>rfl
  | o::os,k,a=>by rw [Zac,Zb8 vs os,Zal]
theorem Zd3 (vs:Nat->Value) (t:Tmp): ∀ (os:List Oper) (k:Nat) (a:Act) (j:Nat) (o:Oper),os.Pairwise (fun o o'=> ∀t,o.dst=some t->o'.dst≠some t)->os[j]?=some o->o.dst=some t->
    (Zac vs k a os).tmps[t]?=a.tmps[t]?.map (fun _=>vs (k+j))
 | [],_,_,j,_,_,h,_=>by simp at h
 | o1::os,k,a,0,o,hp,h,hd=>by
   obtain ⟨hp1,hp2⟩:=List.pairwise_cons.1 hp;have e:o1=o:=by simpa using h
   subst e;rw [Zac,Zb0 vs t os (k+1) _ (fun o' ho'=>hp1 o' ho' t hd),Zaf,if_pos hd];rfl
 | o1::os,k,a,j+1,o,hp,h,hd=>by
   obtain ⟨hp1,hp2⟩:=List.pairwise_cons.1 hp;have h':os[j]?=some o:=by simpa using h
   rw [Zac,Zd3 vs t os (k+1) _ j o hp2 h' hd,Zaf,if_neg (fun e=>hp1 o (List.mem_of_getElem? h') t e hd),show k+1+j=k+(j+1) by omega]
structure RelFlow (ops:Array Oper) (n:Nat) (W:World) (a0:Act) (R:Nat->Value->World->Prop) (vs:Nat->Value) (listed:Array Bool) (a:Act) (w:World):Prop where
  inv:HeadInv .any ops n listed
  later:Below W.heap.size W w
  size:a.tmps.size=a0.tmps.size
  defers:a.defers=a0.defers
  slot: ∀j o t,j<n->ops[j]?=some o->o.dst=some t->a.tmps[t]?=if listed.getD j false=true then a0.tmps[t]?.map (fun _=>vs j) else a0.tmps[t]?
  other: ∀t,(∀j o,j<n->ops[j]?=some o->o.dst≠some t)->a.tmps[t]?=a0.tmps[t]?
  rel: ∀j,j<n->listed.getD j false=true->R j (vs j) w
def RelPost (W:World) (a0:Act) (o:Oper) (Ri:Value->World->Prop) (e:Exit) (a:Act) (w:World):Prop:=e= .normal/\a.defers=a0.defers/\∃t v,o.dst=some t/\a.tmps[t]?=some v/\Below W.heap.size W w/\Ri v w
theorem RelPost.out {W:World} {a0:Act} {o:Oper} {Ri:Value->World->Prop}: ¬LetsOut (RelPost W a0 o Ri):=fun ⟨_,_,h⟩=>by cases h.1
theorem Zrd {P:Program} {Q:Exit->Act->World->Prop} {ops:Array Oper} {o:Oper} {i:Nat} (hi:ops[i]?=some o) (hg:o.guard=none) {t:Tmp} (hd:o.dst=some t) {Ri:Value->World->Prop} {a a':Act} {w:World} {K:Act->World->Prop} (he:execOp a'.eval o=execOp a.eval o)
    (h:wpList P ops (RelPost w a' o Ri) [o] a' w) (hK: ∀v w',Below w.heap.size w w'->Ri v w'->K (a.put o.dst v) w'):wpOp P ops Q i K a w:=by
 have hwant: ∀x,Region.wanted o x=true:=fun x=>by simp [Region.wanted,hg]
 unfold wpOp;simp only [hi];rw [if_pos (hwant _)];unfold wpList at h;rw [if_pos (hwant _)] at h
 rcases h with h|h
 rotate_left
 ·exact absurd h.2 RelPost.out
 refine .inl ?_;have hpost: ∀v w',RelPost w a' o Ri .normal (a'.put o.dst v) w'->K (a.put o.dst v) w':=fun v w' hp=>by
   obtain ⟨_,_,t',v',hd',hv',hb,hR⟩:=hp;rw [hd] at hd';injection hd' with hd'
   subst hd';rw [Zaf,if_pos hd] at hv';have e:v=v':=by
     cases hx:a'.tmps[t]? with
     | none=>rw [hx] at hv';cases hv'
     | some y=>rw [hx] at hv';injection hv'
   subst e;exact hK v w' hb hR
 unfold Oper.wp at h ⊢;rw [he] at h;generalize (execOp a.eval o).run P w=r at *;cases r with
 | ok x w'=>
   cases x with
   | value v=>exact hpost v w' h
   | skip=>exact hpost undef w' h
   | defer d=>
     exfalso
     obtain ⟨_,hdf,_⟩:=h;rw [Zal] at hdf;have:=congrArg List.length hdf;simp at this
   | enter f args=>
     refine Calls.mono h ?_;intro e w'' he;cases e with
     | returned v=>exact hpost v w'' he
     | panicked chain=>cases he.1
     | outgrown=>exact absurd he RelPost.out
   | row row args=>exact Rows.mono h (fun v w'' he=>hpost v w'' he)
   | _=>exact h.elim
 | halt x w'=>
   cases x with
   | panic v=>cases h.1
   | _=>exact h.elim
variable {P:Program} {l:List Oper} {n:Nat} {W:World} {a0:Act} {R:Nat->Value->World->Prop} {Q:Exit->Act->World->Prop}
theorem Zpw (hB:Region.relB l.toArray n=true)
    (hst: ∀j v w w',R j v w->Below w.heap.size w w'->R j v w')
    (hq: ∀i o,i<n->l[i]?=some o->∀ (vs:Nat->Value) (w:World),Below W.heap.size W w->(∀j,j<i->Region.blindTo l.toArray i j=false->R j (vs j) w)->wpList P l.toArray (RelPost w (Zac vs 0 a0 (l.take i)) o (R i)) [o] (Zac vs 0 a0 (l.take i)) w)
    (ht: ∀ (vs:Nat->Value) (w:World),Below W.heap.size W w->(∀j,j<n->R j (vs j) w)->wpList P l.toArray Q (l.drop n) (Zac vs 0 a0 (l.take n)) w):
    ∀ (f:Nat) (U:List Nat) (vs:Nat->Value) (listed:Array Bool) (a:Act) (w:World),U.length=f->U.Nodup->(∀i,i∈U↔i<n/\listed.getD i false=false)->
      RelFlow l.toArray n W a0 R vs listed a w->wpAny P .any l.toArray Q (f+(l.toArray.size-n)) listed a w:=by
 simp only [Region.relB,Bool.and_eq_true,decide_eq_true_eq,List.all_eq_true,List.mem_range] at hB;obtain ⟨⟨⟨⟨⟨⟨⟨hsel,hn⟩,hsink⟩,hchain⟩,hseq⟩,hedge⟩,hpair⟩,hguard⟩:=hB;have hn':n<=l.length:=by have h:=hn;rw [List.size_toArray] at h;omega
 have hsz:l.toArray.size=l.length:=by simp
 have hget: ∀i:Nat,l.toArray[i]?=l[i]?:=fun i=>by simp
 have hselect:=Region.noSelect_spec hsel;have hpw: ∀m,m<=n->(l.take m).Pairwise (fun o o'=> ∀t,o.dst=some t->o'.dst≠some t):=fun m hm=>by
   rw [List.pairwise_iff_getElem];intro i j hi hj hij t ht;rw [List.length_take] at hi hj;rw [List.getElem_take] at ht ⊢;exact Region.flowPair_dst (hpair i (by omega) j (by omega)) (by rw [hget];exact List.getElem?_eq_getElem (by omega)) (by rw [hget];exact List.getElem?_eq_getElem (by omega)) (fun e=>by subst e;omega) ht
 have hputAt: ∀ (vs:Nat->Value) m,m<=n->∀j o t,j<m->l.toArray[j]?=some o->o.dst=some t->(Zac vs 0 a0 (l.take m)).tmps[t]?=a0.tmps[t]?.map (fun _=>vs j):=fun vs m hm j o t hj ho hd=>by
   rw [Zd3 vs t (l.take m) 0 a0 j o (hpw m hm) (by rw [List.getElem?_take,if_pos hj,<-hget];exact ho) hd,Nat.zero_add]
 have hputO: ∀ (vs:Nat->Value) m,m<=n->∀t,(∀j o,j<n->l.toArray[j]?=some o->o.dst≠some t)->(Zac vs 0 a0 (l.take m)).tmps[t]?=a0.tmps[t]?:=fun vs m hm t h=>
   Zb0 vs t _ 0 a0 fun o ho=>by
     obtain ⟨q,hq'⟩:=List.mem_iff_getElem?.1 ho;rw [List.getElem?_take] at hq'
     split at hq'
     ·exact h q o (by omega) (by rw [hget];exact hq')
     ·cases hq'
 intro f
 induction f with
 | zero=>
   intro U vs listed a w hU _ hUm hF;obtain rfl:U=[]:=List.eq_nil_of_length_eq_zero hU;have hall: ∀i,i<n->listed.getD i false=true:=fun i hi=>by
     cases h:listed.getD i false with
     | true=>rfl
     | false=>have:=(hUm i).2 ⟨hi,h⟩;simp at this
   have hl:listed=Region.marked l.toArray.size n:=by
     apply Array.ext_getElem?;intro i
     by_cases hi:i<l.toArray.size
     ·have hil:i<listed.size:=by rw [hF.inv.size];exact hi
      have e2:(Region.marked l.toArray.size n)[i]?=some (decide (i<n)):=by
        rw [List.size_toArray] at hi;unfold Region.marked;simp [hi]
      rw [e2,Array.getElem?_eq_getElem hil]
      by_cases hin:i<n
      ·have:=hall i hin;simp [hil] at this;simp [this,hin]
      ·have:=hF.inv.tail i (by omega) hi;simp [hil] at this;simp [this,hin]
     ·rw [Array.getElem?_eq_none (by rw [hF.inv.size];omega),Array.getElem?_eq_none (by rw [List.size_toArray] at hi;unfold Region.marked;simp;omega)]
   have ha:a=Zac vs 0 a0 (l.take n):=by
     have htm:a.tmps=(Zac vs 0 a0 (l.take n)).tmps:=by
       apply Array.ext_getElem?;intro t
       by_cases h: ∃j o,j<n/\l.toArray[j]?=some o/\o.dst=some t
       ·obtain ⟨j,o,h1,h2,h3⟩:=h;rw [hF.slot j o t h1 h2 h3,if_pos (hall j h1),hputAt vs n (Nat.le_refl _) j o t h1 h2 h3]
       ·have h': ∀j o,j<n->l.toArray[j]?=some o->o.dst≠some t:=fun j o h1 h2 h3=>h ⟨j,o,h1,h2,h3⟩;rw [hF.other t h',hputO vs n (Nat.le_refl _) t h']
     have hd:a.defers=(Zac vs 0 a0 (l.take n)).defers:=by rw [Zb8,hF.defers]
     cases a;simp only at htm hd;cases hX:Zac vs 0 a0 (l.take n);rw [hX] at htm hd;simp only at htm hd;rw [htm,hd]
   rw [ha];have hdl:(l.drop n).length=l.toArray.size-n:=by simp
   have:=wpAny_of_seq (md:= .any) (Q':=Q) (ops:=l.toArray) (l.drop n) n listed (Zac vs 0 a0 (l.take n)) w (fun j=>by simp [List.getElem?_drop]) (by rw [hdl,hl];exact hseq) (ht vs w hF.later (fun j hj=>hF.rel j hj (hall j hj)));rw [hdl] at this
   rwa [Nat.zero_add]
 | succ f ih=>
   intro U vs listed a w hU hnd hUm hF;obtain ⟨i0,hi0,hleast⟩:=Zay U (fun e=>by rw [e] at hU;simp at hU);obtain ⟨hi0n,hi0u⟩:=(hUm i0).1 hi0;have hin: ∀i,i<n->i<listed.size:=fun i hi=>by rw [hF.inv.size];omega
   have hready:i0∈Region.ready .any l.toArray listed:=by
     have hlt:i0<l.toArray.size:=by omega
     refine mem_ready.2 ⟨getD_in (hin _ hi0n) hi0u,l.toArray[i0],Array.getElem?_eq_getElem hlt,fun e he hbd=> ?_⟩;have h1:=hedge i0 hi0n;rw [Array.getElem?_eq_getElem hlt] at h1;simp only [Array.all_eq_true_iff_forall_mem] at h1;have h2:=h1 e he;simp only [hbd,Bool.not_true,Bool.false_or,decide_eq_true_eq] at h2;cases h:listed.getD e.on false with
     | true=>rfl
     | false=>
       have:=hleast e.on ((hUm e.on).2 ⟨by omega,h⟩);omega
   rw [show f+1+(l.toArray.size-n)=(f+(l.toArray.size-n))+1 by omega];refine ⟨fun h=>(by rw [h] at hready;cases hready),fun i hi=> ?_⟩;obtain ⟨hiu,o,ho,hdep⟩:=mem_ready.1 hi;have hilt:i<n:=Nat.lt_of_not_le fun h=>tail_waits hsink hchain hn hF.inv _ i0 rfl hi0n (getD_in (hin _ hi0n) hi0u) i h hi;have hiU:i∈U:=(hUm i).2 ⟨hilt,getD_both hiu⟩;have hinv:=hF.inv.set hi hilt;have hlist: ∀j,(listed.setIfInBounds i true).getD j false=if j=i then true else listed.getD j false:=fun j=>by
    by_cases h:j=i
    ·subst h;rw [if_pos rfl];simp [hin j hilt]
    ·rw [if_neg h,getD_set_ne false (Ne.symm h)]
   have hUm': ∀j,j∈U.erase i↔j<n/\(listed.setIfInBounds i true).getD j false=false:=fun j=>by
     rw [hnd.mem_erase_iff,hUm j,hlist j]
     by_cases h:j=i
     ·simp [h]
     ·simp [h]
   have hlen':(U.erase i).length=f:=by rw [List.length_erase_of_mem hiU];omega
   have hnd':=hnd.erase i;have hseen: ∀t∈o.looksAt l.toArray,∀j oj,j<n->l.toArray[j]?=some oj->oj.dst=some t->i≠j/\j<i/\listed.getD j false=true:=by
     intro t ht j oj hj hoj hd;have hne:i≠j:=fun e=>by
       subst e;rw [ho] at hoj;cases hoj;exact Region.flowPair_self (hpair i hilt i hilt) ho hd ht
     have h1:=Region.flowPair_looks (hpair i hilt j hj) ho hoj hne hd ht;obtain ⟨o',ho',e,he,hbd,hon⟩:=Region.waitsFor_spec h1.2;rw [ho] at ho';cases ho';have:=hdep e he hbd;rw [hon] at this;exact ⟨hne,h1.1,this⟩
   have hgd:=hguard i hilt;rw [ho] at hgd;simp only [Bool.and_eq_true,Option.isNone_iff_eq_none] at hgd;obtain ⟨hg,hds⟩:=hgd;obtain ⟨t0,hd0⟩:=Option.isSome_iff_exists.1 hds;have hex:execOp (Zac vs 0 a0 (l.take i)).eval o=execOp a.eval o:=(Za0 (ops:=l.toArray) (fun cs bb=>hselect i o cs bb ho) fun t htl=>by
     by_cases h: ∃j o,j<n/\l.toArray[j]?=some o/\o.dst=some t
     ·obtain ⟨j,oj,h1,h2,h3⟩:=h;obtain ⟨k1,k2,k3⟩:=hseen t htl j oj h1 h2 h3;rw [hputAt vs i (by omega) j oj t k2 h2 h3,hF.slot j oj t h1 h2 h3,if_pos k3]
     ·have h': ∀j o,j<n->l.toArray[j]?=some o->o.dst≠some t:=fun j o h1 h2 h3=>h ⟨j,o,h1,h2,h3⟩;rw [hputO vs i (by omega) t h',hF.other t h']).1
   refine Zrd ho hg hd0 hex (hq i o hilt (by rw [<-hget];exact ho) vs w hF.later (fun j hj hbl=> ?_)) (fun v w' hb hR=> ?_)
   ·refine hF.rel j (by omega) ?_;have hjl:j<l.toArray.size:=by omega
    unfold Region.blindTo at hbl;rw [ho,Array.getElem?_eq_getElem hjl] at hbl;simp only at hbl
    split at hbl
    ·rename_i d hdj;have hmem:d∈o.looksAt l.toArray:=by simpa using hbl
     exact (hseen d hmem j _ (by omega) (Array.getElem?_eq_getElem hjl) hdj).2.2
    ·cases hbl
   ·refine ih (U.erase i) (fun j=>if j=i then v else vs j) _ _ _ hlen' hnd' hUm' ⟨hinv,hF.later.trans (hb.mono hF.later.size),by rw [Zbd,hF.size],by rw [Zal,hF.defers],?_,?_,?_⟩
    ·intro j oj t hj hoj hd;rw [Zaf,hlist j]
     by_cases hji:j=i
     ·subst hji;rw [ho] at hoj;cases hoj;rw [if_pos hd,if_pos rfl,if_pos rfl,if_pos rfl,hF.slot j o t hj ho hd,if_neg (by rw [getD_both hiu];simp)]
     ·have hne:o.dst≠some t:=fun h=>Region.flowPair_dst (hpair i hilt j hj) ho hoj (Ne.symm hji) h hd;rw [if_neg hne,if_neg hji,if_neg hji,hF.slot j oj t hj hoj hd]
    ·intro t h;rw [Zaf,if_neg (h i o hilt ho),hF.other t h]
    ·intro j hj hlj;rw [hlist j] at hlj
     by_cases hji:j=i
     ·subst hji;rw [if_pos rfl];exact hR
     ·rw [if_neg hji] at hlj ⊢;exact hst j _ _ _ (hF.rel j hj hlj) hb
def relAll (F:Nat->Oper->Prop):Nat->List Oper->Prop
  | _,[]=>True
  | k,o::os=>F k o/\relAll F (k+1) os
theorem relAll.get {F:Nat->Oper->Prop}: ∀ (os:List Oper) (k:Nat),relAll F k os->∀i o,os[i]?=some o->F (k+i) o
  | [],_,_,i,o,h=>by simp at h
  | o1::os,k,h,0,o,ho=>by
    have e:o1=o:=by simpa using ho
    subst e;exact h.1
  | o1::os,k,h,i+1,o,ho=>by
    have:=relAll.get os (k+1) h.2 i o (by simpa using ho)
    rwa [show k+1+i=k+(i+1) by omega] at this
theorem Zap {id:Nat} (n:Nat) (R:Nat->Value->World->Prop) (hm:P.follows .mixedOrders=true) (hB:Region.relB l.toArray n=true)
    (hst: ∀j v w w',R j v w->Below w.heap.size w w'->R j v w')
    (hq:relAll (fun i o=> ∀ (vs:Nat->Value) (w:World),Below W.heap.size W w->(∀j,j<i->Region.blindTo l.toArray i j=false->R j (vs j) w)->wpList P l.toArray (RelPost w (Zac vs 0 a0 (l.take i)) o (R i)) [o] (Zac vs 0 a0 (l.take i)) w) 0 (l.take n))
    (ht: ∀ (vs:Nat->Value) (w:World),Below W.heap.size W w->(∀j,j<n->R j (vs j) w)->wpList P l.toArray Q (l.drop n) (Zac vs 0 a0 (l.take n)) w):
    (Code.region id l.toArray true).wp P Q a0 W:=by
 refine wp_region_any hm ?_;have hB':=hB;simp only [Region.relB,Bool.and_eq_true,decide_eq_true_eq] at hB';have hn:=hB'.1.1.1.1.1.1.2;have inv0:HeadInv .any l.toArray n (Array.replicate l.toArray.size false):=
   ⟨by simp,fun j oj _ hl=>(by rw [getD_replicate_false] at hl;cases hl),fun t _ ht=>getD_in (by simpa using ht) (getD_replicate_false _ _)⟩
 have h:=Zpw (W:=W) (a0:=a0) (R:=R) (Q:=Q) hB hst
   (fun i o hi ho=>by
     have:=relAll.get _ 0 hq i o (by rw [List.getElem?_take,if_pos hi];exact ho)
     rwa [Nat.zero_add] at this) ht n (List.range n) (fun _=>undef) (Array.replicate l.toArray.size false) a0 { W with drawn:=W.drawn+1 } (by simp) List.nodup_range (fun i=>by rw [List.mem_range];exact ⟨fun h=>⟨h,getD_replicate_false _ _⟩,fun h=>h.1⟩)
   ⟨inv0,⟨rfl,rfl,rfl,Nat.le_refl _,fun _ _=>rfl⟩,rfl,rfl,fun j o t _ _ _=>by rw [getD_replicate_false];rfl,fun t _=>rfl,fun j _ h=>by rw [getD_replicate_false] at h;cases h⟩
 rwa [show n+(l.toArray.size-n)=l.toArray.size by omega] at h
end
end Go
namespace Go.Proofs.YtijajkfmlghgkaaGreatDoor.Nu
open Go Go.Proofs Go.RowKit Go.Proofs.YtijajkfmlghgkaaGreatDoor
theorem Zpx {z1 z2:Int} (h0:0<z2) {p:Bool} (hp:decide (z1<0)=p) {q0 r0:Int} (hq:Zbb p (z1.natAbs / z2.natAbs)=q0) (hr:Zbb p (z1.natAbs % z2.natAbs)=r0):
    ((r0<0/\z1 / z2=q0-1/\z1 % z2=r0+z2)∨(¬r0<0/\z1 / z2=q0/\z1 % z2=r0))/\q0.natAbs<=z1.natAbs/\r0.natAbs<=z1.natAbs:=by
 have e:=Nat.div_add_mod z1.natAbs z2.natAbs;have l1:=Nat.mod_lt z1.natAbs (show 0<z2.natAbs by omega);have l2:=Nat.div_le_self z1.natAbs z2.natAbs;have l3:=Nat.mod_le z1.natAbs z2.natAbs;generalize z1.natAbs / z2.natAbs=q at *;generalize z1.natAbs % z2.natAbs=r at *;have e2:(z2.natAbs:Int) * (q:Int)+(r:Int)=(z1.natAbs:Int):=by rw [<-Int.natCast_mul,<-Int.natCast_add,e]
 rw [show (z2.natAbs:Int)=z2 by omega] at e2;cases p
 ·have hz: ¬z1<0:=of_decide_eq_false hp;rw [Zb6] at hq hr;refine ⟨.inr ?_,by omega,by omega⟩;have h:=(Int.ediv_emod_unique (a:=z1) (b:=z2) (r:=r0) (q:=q0) h0).2 ⟨by rw [<-hq,<-hr];omega,by omega,by omega⟩;exact ⟨by omega,h.1,h.2⟩
 ·have hz:z1<0:=of_decide_eq_true hp;rw [Zck] at hq hr;refine ⟨?_,by omega,by omega⟩
  by_cases hr0:r0<0
  ·left
   have h:=(Int.ediv_emod_unique (a:=z1) (b:=z2) (r:=r0+z2) (q:=q0-1) h0).2 ⟨by rw [<-hq,<-hr,Int.mul_sub,Int.mul_neg];omega,by omega,by omega⟩;exact ⟨hr0,h.1,h.2⟩
  ·right
   have h:=(Int.ediv_emod_unique (a:=z1) (b:=z2) (r:=r0) (q:=q0) h0).2 ⟨by rw [<-hq,<-hr,Int.mul_neg];omega,by omega,by omega⟩;exact ⟨hr0,h.1,h.2⟩
theorem Zo5 (w:World) (v1 v2:Value) (z1 z2:Int) (h1:IntR w v1 z1) (h2:IntR w v2 z2) (hw1:Wds 1000000 z1) (hw2:Wds 1000000 z2) (h0:0<z2):Calls Tryz.prog 256 #[v1,v2] w (RetD w (z1 / z2) (z1 % z2)):=by
  obtain ⟨s1,a1,n1,c1,rfl,_,hs1,hs1',hf1⟩:=h1.form;obtain ⟨s2,a2,n2,c2,rfl,_,hs2,hs2',hf2⟩:=h2.form
  by_cases hcase:a1=none/\a2=none/\s1≠ -9223372036854775808
  ·obtain ⟨rfl,rfl,hne⟩:=hcase
   rcases hf1 with ⟨_,rfl,rfl,rfl⟩|h
   rotate_left
   ·cases h
   rcases hf2 with ⟨_,rfl,rfl,rfl⟩|h
   rotate_left
   ·cases h
   exact Zhh w s1 s2 h0 (by omega) hs1' hs2'
  have hq:=fun (w:World) (a:Option Addr) (n c:Nat)=>Lib.run_eql_slice_nil w 131 345 a n c 0 0 Tryz.underlying131;have HP1:=Zh (fun (w1:World) (hb:Below w.heap.size w w1)=>Zcz w1 _ z1 (h1.later hb));have HP2:=Zh (fun (w1:World) (hb:Below w.heap.size w w1)=>Zcz w1 _ z2 (h2.later hb));have HI2:=Zh (fun (w1:World) (hb:Below w.heap.size w w1)=>h2.later hb);have HB0:=Zh ((Below.refl w.heap.size w).alloc (Nat.le_refl _) (.cells #[.int .i64 s1,.slice a1 n1 c1] 133));have HB1:=Zh (HB0.alloc HB0.size (.cells #[.int .i64 s2,.slice a2 n2 c2] 133));have HB2:=Zh (HB1.alloc HB1.size (.cells #[.int .i64 0,.slice none 0 0] 133));have HB:=Zh (HB2.alloc HB2.size (.cells #[.int .i64 0,.slice none 0 0] 133));have HX:=Zh ((((Box.new w #[.int .i64 s1,.slice a1 n1 c1] 133).alloc (.cells #[.int .i64 s2,.slice a2 n2 c2] 133)).alloc (.cells #[.int .i64 0,.slice none 0 0] 133)).alloc (.cells #[.int .i64 0,.slice none 0 0] 133));have HY:=Zh (((Box.newAt (w.alloc (.cells #[.int .i64 s1,.slice a1 n1 c1] 133)) #[.int .i64 s2,.slice a2 n2 c2] 133 (n:=w.heap.size+1) (by simp)).alloc (.cells #[.int .i64 0,.slice none 0 0] 133)).alloc (.cells #[.int .i64 0,.slice none 0 0] 133));have HZ:=Zh ((Box.newAt ((w.alloc (.cells #[.int .i64 s1,.slice a1 n1 c1] 133)).alloc (.cells #[.int .i64 s2,.slice a2 n2 c2] 133)) #[.int .i64 0,.slice none 0 0] 133 (n:=w.heap.size+1+1) (by simp)).alloc (.cells #[.int .i64 0,.slice none 0 0] 133));have HT:=Zh (Box.newAt (((w.alloc (.cells #[.int .i64 s1,.slice a1 n1 c1] 133)).alloc (.cells #[.int .i64 s2,.slice a2 n2 c2] 133)).alloc (.cells #[.int .i64 0,.slice none 0 0] 133)) #[.int .i64 0,.slice none 0 0] 133 (n:=w.heap.size+1+1+1) (by simp));obtain ⟨x0,x1,xf,xz⟩:=HX.v2;obtain ⟨y0,y1,yf,yz⟩:=HY.v2;obtain ⟨p1,hp1⟩: ∃p,decide (z1<0)=p:=⟨_,rfl⟩;obtain ⟨q0,hq0⟩: ∃q0,Zbb p1 (z1.natAbs / z2.natAbs)=q0:=⟨_,rfl⟩;obtain ⟨r0,hr0⟩: ∃r0,Zbb p1 (z1.natAbs % z2.natAbs)=r0:=⟨_,rfl⟩;obtain ⟨hbd,hbq,hbr⟩:=Zpx h0 hp1 hq0 hr0;have HBD:=Zh hbd;have HWQ:=Zh (hw1.le hbq);have HWR:=Zh (hw1.le hbr);have HW1:=Zh hw1;have HW2:=Zh hw2;have HM:=Zh (show (∀ (w6:World) (a6:Option Addr) (n6 c6:Nat) (l6:List Nat),WlR w6 (.slice a6 n6 c6) l6 (z1.natAbs / z2.natAbs)->Calls Tryz.prog 299 #[.bool p1,.slice a6 n6 c6] w6 (RetI w6 q0))/\
    (∀ (w6:World) (a6:Option Addr) (n6 c6:Nat) (l6:List Nat),WlR w6 (.slice a6 n6 c6) l6 (z1.natAbs % z2.natAbs)->Calls Tryz.prog 299 #[.bool p1,.slice a6 n6 c6] w6 (RetI w6 r0)) from
    ⟨fun w6 a6 n6 c6 l6 hw6=>by have h:=Zf5 w6 p1 a6 n6 c6 l6 _ hw6;rwa [hq0] at h,fun w6 a6 n6 c6 l6 hw6=>by have h:=Zf5 w6 p1 a6 n6 c6 l6 _ hw6;rwa [hr0] at h⟩)
  have H0:=Zh h0;unfold Zdz at HP1 HP2;rw [hp1] at HP1;rw [Zf (show¬z2<0 by omega)] at HP2;have hway:(∃q,a1=some q)∨(a1=none/\∃q,a2=some q)∨(a1=none/\a2=none/\s1= -9223372036854775808):=by
    rcases a1 with _|q
    ·rcases a2 with _|q
     ·exact .inr (.inr ⟨rfl,rfl,Decidable.not_not.1 fun h=>hcase ⟨rfl,rfl,h⟩⟩)
     ·exact .inr (.inl ⟨rfl,q,rfl⟩)
    ·exact .inl ⟨q,rfl⟩
  obtain ⟨QQ,hQQ⟩: ∃Q,RetD w (z1 / z2) (z1 % z2)=Q:=⟨_,rfl⟩;have HQQ:=Zh hQQ;rw [hQQ];clear hp1 hq0 hr0 h0 h1 h2 hw1 hw2 hbd hbq hbr hcase hf1 hf2 hs1 hs1' hs2 hs2' HB0 HB1 HB2 hQQ
  rcases hway with ⟨q,rfl⟩|⟨rfl,q,rfl⟩|⟨rfl,rfl,rfl⟩
  all_goals
    go_enter Tryz.func256,Tryz.ntmps256;go_wp2_with fail;refine (HP1.out _ HB.out).mono ?_;rintro e4 w4 ⟨a4,n4,c4,l4,rfl,hw4,hn4,hb⟩;have HB4:=Zh (HB.Zg hb);have HY4:=Zh (HY.later hb);have HZ4:=Zh (HZ.later hb);have HT4:=Zh (HT.later hb);have HW4:=Zh hw4;clear hb hw4 hn4 x0 x1 xf xz y0 y1 yf yz;obtain ⟨y0,y1,yf,yz⟩:=HY4.v2;go_wp2_with fail;refine (HP2.out _ HB4.out).mono ?_;rintro e5 w5 ⟨a5,n5,c5,l5,rfl,hw5,hn5,hb⟩;have HB5:=Zh (HB4.Zg hb);have HY5:=Zh (HY4.later hb);have HZ5:=Zh (HZ4.later hb);have HT5:=Zh (HT4.later hb);have HDV:=Zh (Zo4 w5 _ _ _ _ _ _ _ _ _ _ (HW4.later hb) hw5 (by have:=HW4.len HW1.abs;omega) (by have:=H0.out;omega));clear hb hw5 hn5 y0 y1 yf yz HW4;go_wp2_with fail;refine HDV.mono ?_;rintro e6 w6 ⟨a6,n6,c6,l6,a7,n7,c7,l7,rfl,hw6,hw7,hb⟩;have HB6:=Zh (HB5.Zg hb);have HY6:=Zh (HY5.later hb);have HZ6:=Zh (HZ5.later hb);have HT6:=Zh (HT5.later hb);have HC6:=Zh (HM.out.1 w6 _ _ _ _ hw6);have HW7:=Zh hw7;clear hb hw6 hw7;go_wp2_with fail;refine HC6.mono ?_;rintro e7 w7 ⟨v7,rfl,hi7,hb⟩;have HI7:=Zh hi7;have HB7:=Zh (HB6.Zg hb);have HY7:=Zh (HY6.later hb);have HZ7:=Zh (HZ6.later hb);have HT7:=Zh (HT6.later hb);have HC7:=Zh (HM.out.2 w7 _ _ _ _ (HW7.later hb));obtain ⟨s7,a7',n7',c7',rfl,_,_,_,_⟩:=hi7.form;clear hb hi7;go_wp2_with fail;refine HC7.mono ?_;rintro e8 w8 ⟨v8,rfl,hi8,hb⟩;have HI8:=Zh hi8;have HI7':=Zh (HI7.later hb);have HB8:=Zh (HB7.Zg hb);have HY8:=Zh (HY7.later hb);have HZ8:=Zh (HZ7.later hb);have HT8:=Zh (HT7.later hb);obtain ⟨s8,a8,n8,c8,rfl,_,_,_,_⟩:=hi8.form;clear hb hi8;go_wp2_with fail;have HBa:=Zh (HB8.alloc HB8.size (.cells #[.int .i64 s7,.slice a7' n7' c7'] 133));have HB9:=Zh (HBa.alloc HBa.size (.cells #[.int .i64 s8,.slice a8 n8 c8] 133));have HQ9:=Zh ((Box.new w8 #[.int .i64 s7,.slice a7' n7' c7'] 133).alloc (.cells #[.int .i64 s8,.slice a8 n8 c8] 133));have HR9:=Zh (Box.newAt (w8.alloc (.cells #[.int .i64 s7,.slice a7' n7' c7'] 133)) #[.int .i64 s8,.slice a8 n8 c8] 133 (n:=w8.heap.size+1) (by simp));have HY9:=Zh ((HY8.alloc (.cells #[.int .i64 s7,.slice a7' n7' c7'] 133)).alloc (.cells #[.int .i64 s8,.slice a8 n8 c8] 133));have HZ9:=Zh ((HZ8.alloc (.cells #[.int .i64 s7,.slice a7' n7' c7'] 133)).alloc (.cells #[.int .i64 s8,.slice a8 n8 c8] 133));have HT9:=Zh ((HT8.alloc (.cells #[.int .i64 s7,.slice a7' n7' c7'] 133)).alloc (.cells #[.int .i64 s8,.slice a8 n8 c8] 133));have hbl:Below w8.heap.size w8 ((w8.alloc (.cells #[.int .i64 s7,.slice a7' n7' c7'] 133)).alloc (.cells #[.int .i64 s8,.slice a8 n8 c8] 133)):=
      ((Below.refl _ _).alloc (Nat.le_refl _) _).alloc (by simp) _
    have HI79:=Zh (HI7'.later hbl);have HI89:=Zh (HI8.later hbl);have hk:w.heap.size+1+1+1<w8.heap.size:=HT8.lt;clear hbl HY8 HZ8 HT8 HI7' HI8 HBa HB8 HI7 HB4 HY4 HZ4 HT4 HB5 HY5 HZ5 HT5 HB6 HY6 HZ6 HT6 HB7 HY7 HZ7 HT7 HW7 HC7 HC6 HDV HX HY HZ HT HB HP1 HP2 HM;generalize (w8.alloc (.cells #[.int .i64 s7,.slice a7' n7' c7'] 133)).alloc (.cells #[.int .i64 s8,.slice a8 n8 c8] 133)=w9 at *;generalize w8.heap.size=g at *;refine (Zd9 w9 _ r0 HI89.out).mono ?_;rintro e10 w10 ⟨rfl,hb⟩;have HB10:=Zh (HB9.Zg hb);have HQ10:=Zh (HQ9.later hb);have HR10:=Zh (HR9.later hb);have HY10:=Zh (HY9.later hb);have HZ10:=Zh (HZ9.later hb);have HT10:=Zh (HT9.later hb);have HI7:=Zh (HI79.later hb);have HI8:=Zh (HI89.later hb);clear hb HQ9 HR9 HY9 HZ9 HT9 HI79 HI89 HB9
    rcases HBD.out with ⟨hn,e1,e2⟩|⟨hn,e1,e2⟩
    ·have d3:decide (r0.sign<0)=true:=Zt (by rw [Int.sign_eq_neg_one_of_neg hn];decide);have d3':decide (r0<0)=true:=Zt hn;have HE:=Zh (And.intro e1 e2);clear hn e1 e2;obtain ⟨x0,x1,xf,xz⟩:=HQ10.v2;go_wp2_with fail;refine Zap 6 (fun j v u=>IntR u v ([q0,1,q0-1,r0,z2,r0+z2].getD j 0)) (by kernel_rfl) (by kernel_rfl) (fun j v u u' h hb=>h.later hb) ?_ ?_
     ·refine ⟨?_,?_,?_,?_,?_,?_,trivial⟩
      all_goals
        intro vs u hu hR;simp only [Zac,Z2,Z6,Act.put,Z1,Z4,Z5]
      ·obtain ⟨x0,x1,xf,xz⟩:=(HQ10.later hu).v2;have HI:=Zh (HI7.later hu);clear hR hu;go_wp2_with fail;exact ⟨rfl,rfl,_,_,rfl,rfl,Below.refl _ _,HI.out⟩
      ·clear hR hu;go_wp2_with fail;refine (of94 1 u).mono ?_;rintro e11 w11 ⟨rfl,hb⟩;go_wp2_with fail;exact ⟨rfl,rfl,_,_,rfl,rfl,hb,IntR.small _ (by decide) (by decide)⟩
      ·have k0:IntR u (vs 0) _:=Zr hR 0;have k1:IntR u (vs 1) _:=Zr hR 1;have HS:=Zh (Zo1 u _ _ q0 1 k0 k1 HWQ.out ((Wds.small (by decide) (by decide)).mono (by decide)));clear hR hu k0 k1;go_wp2_with fail;refine HS.mono ?_;rintro e11 w11 ⟨v11,rfl,hi11,hb⟩;go_wp2_with fail;exact ⟨rfl,rfl,_,_,rfl,rfl,hb,hi11⟩
      ·have hlt:=HQ10.lt;obtain ⟨x0,x1,xf,xz⟩:=(HR10.later hu).v2;have HI:=Zh (HI8.later hu);clear hR hu;go_wp2_with fail;exact ⟨rfl,rfl,_,_,rfl,rfl,Below.refl _ _,HI.out⟩
      ·obtain ⟨x0,x1,xf,xz⟩:=(HY10.later hu).v2;have HI:=Zh (HI2.out u (HB10.Zg hu));clear hR hu;go_wp2_with fail;exact ⟨rfl,rfl,_,_,rfl,rfl,Below.refl _ _,HI.out⟩
      ·have k0:IntR u (vs 3) _:=Zr hR 3;have k1:IntR u (vs 4) _:=Zr hR 4;have HS:=Zh (Zjs u _ _ r0 z2 k0 k1 HWR.out HW2.out);clear hR hu k0 k1;go_wp2_with fail;refine HS.mono ?_;rintro e11 w11 ⟨v11,rfl,hi11,hb⟩;go_wp2_with fail;exact ⟨rfl,rfl,_,_,rfl,rfl,hb,hi11⟩
     ·intro vs u hu hR;have k2:IntR u (vs 2) _:=hR 2 (by decide);have k5:IntR u (vs 5) _:=hR 5 (by decide);obtain ⟨s11,a11,n11,c11,e11,_,_,_,_⟩:=k2.form;obtain ⟨s12,a12,n12,c12,e12,_,_,_,_⟩:=k5.form;have hlt:=HR10.lt;obtain ⟨x0,x1,xf,xz⟩:=(HQ10.later hu).v2;obtain ⟨y0,y1,yf,yz⟩:=(HR10.later hu).v2;rw [e11] at k2;rw [e12] at k5;have HK2:=Zh k2;have HK5:=Zh k5;have hg:w.heap.size<=g:=by omega
      have HZu:=Zh (HZ10.later hu);have HTu:=Zh (HT10.later hu);have HQ1:=(HQ10.later hu).set 0 (.int .i64 s11);have HQ2:=HQ1.set 1 (.slice a11 n11 c11);have HQt:=Zh ((HQ2.other (a:=⟨g+1,0,none⟩) (.int .i64 s12) (by simp)).other (a:=⟨g+1,1,none⟩) (.slice a12 n12 c12) (by simp));have HR2:=((HR10.later hu).other (a:=⟨g,0,none⟩) (.int .i64 s11) (by simp)).other (a:=⟨g,1,none⟩) (.slice a11 n11 c11) (by simp);have HRt:=Zh ((HR2.set 0 (.int .i64 s12)).set 1 (.slice a12 n12 c12));have HZt:=Zh ((((HZu.other (a:=⟨g,0,none⟩) (.int .i64 s11) (by dsimp only;omega)).other (a:=⟨g,1,none⟩) (.slice a11 n11 c11) (by dsimp only;omega)).other (a:=⟨g+1,0,none⟩) (.int .i64 s12) (by dsimp only;omega)).other (a:=⟨g+1,1,none⟩) (.slice a12 n12 c12) (by dsimp only;omega));have HTt:=Zh ((((HTu.other (a:=⟨g,0,none⟩) (.int .i64 s11) (by dsimp only;omega)).other (a:=⟨g,1,none⟩) (.slice a11 n11 c11) (by dsimp only;omega)).other (a:=⟨g+1,0,none⟩) (.int .i64 s12) (by dsimp only;omega)).other (a:=⟨g+1,1,none⟩) (.slice a12 n12 c12) (by dsimp only;omega));have HIQ:=Zh ((k2.put (HQ10.later hu) s11 (.slice a11 n11 c11)).put HR2 s12 (.slice a12 n12 c12));have HIR:=Zh ((k5.put (HQ10.later hu) s11 (.slice a11 n11 c11)).put HR2 s12 (.slice a12 n12 c12));have HBt:=Zh ((((((HB10.Zg hu).setCell (p:=⟨g,0,none⟩) hg (.int .i64 s11)).setCell (p:=⟨g,1,none⟩) hg (.slice a11 n11 c11)).setCell (p:=⟨g+1,0,none⟩) (Nat.le_succ_of_le hg) (.int .i64 s12)).setCell (p:=⟨g+1,1,none⟩) (Nat.le_succ_of_le hg) (.slice a12 n12 c12)));have hqr:=HQQ.out;rw [HE.out.1,HE.out.2] at hqr;have HQR:=Zh hqr;simp only [Zac,Z3,Z7,Z2,Z6,Act.put,Z1,Z4,Z5,e11,e12];clear hR hu k2 k5 e11 e12 HQ1 HQ2 HR2 hqr;go_wp2_with fail;clear x0 x1 xf xz y0 y1 yf yz;generalize (((u.setCell ⟨g,0,none⟩ (.int .i64 s11)).setCell ⟨g,1,none⟩ (.slice a11 n11 c11)).setCell ⟨g+1,0,none⟩ (.int .i64 s12)).setCell ⟨g+1,1,none⟩ (.slice a12 n12 c12)=u2 at *;obtain ⟨x0,x1,xf,xz⟩:=HQt.v2;obtain ⟨y0,y1,yf,yz⟩:=HRt.v2;obtain ⟨z0,z1',zf,zz⟩:=HZt.v2;obtain ⟨t0,t1,tf,tz⟩:=HTt.v2
      go_region
      all_goals go_wp2_with fail
      all_goals
        refine bodyPost_ret (v:= .tuple #[.agg #[.int .i64 s11,.slice a11 n11 c11],.agg #[.int .i64 s12,.slice a12 n12 c12]]) (by simp [results,Tryz.results256,go_sem, *]) rfl ?_;rw [<-HQR.out];have HTs:=(HTt.other (a:=⟨w.heap.size+1+1,0,none⟩) (.int .i64 s11) (by simp)).other (a:=⟨w.heap.size+1+1,1,none⟩) (.slice a11 n11 c11) (by simp);refine RetD.mk rfl (((HIQ.put HZt.out _ _).put HTs _ _).later ((Below.refl _ _).drew)) (((HIR.put HZt.out _ _).put HTs _ _).later ((Below.refl _ _).drew)) ?_
        repeat (first|with_reducible exact HBt.out|with_reducible exact Below.refl _ _|refine .Zs ?_ _|refine .Za ?_ _|refine .drew ?_)
    ·have d3:decide (r0.sign<0)=false:=Zf (by
       rcases Int.lt_or_eq_of_le (show 0<=r0 by omega) with h|h
       ·rw [Int.sign_eq_one_of_pos h];decide
       ·rw [<-h];decide)
     have d3':decide (r0<0)=false:=Zf (by omega);have hqr:=HQQ.out;rw [e1,e2] at hqr;have HQR:=Zh hqr;clear hn e1 e2 hqr;go_wp2_with fail;have HQt:=HQ10;have HRt:=HR10;have HZt:=HZ10;have HTt:=HT10;have HIQ:=HI7;have HIR:=HI8;have HBt:=HB10;obtain ⟨x0,x1,xf,xz⟩:=HQt.v2;obtain ⟨y0,y1,yf,yz⟩:=HRt.v2;obtain ⟨z0,z1',zf,zz⟩:=HZt.v2;obtain ⟨t0,t1,tf,tz⟩:=HTt.v2
     go_region
     all_goals go_wp2_with fail
     all_goals
       refine bodyPost_ret (v:= .tuple #[.agg #[.int .i64 s7,.slice a7' n7' c7'],.agg #[.int .i64 s8,.slice a8 n8 c8]]) (by simp [results,Tryz.results256,go_sem, *]) rfl ?_;rw [<-HQR.out];have HTs:=(HTt.other (a:=⟨w.heap.size+1+1,0,none⟩) (.int .i64 s7) (by simp)).other (a:=⟨w.heap.size+1+1,1,none⟩) (.slice a7' n7' c7') (by simp);refine RetD.mk rfl (((HIQ.put HZt.out _ _).put HTs _ _).later ((Below.refl _ _).drew)) (((HIR.put HZt.out _ _).put HTs _ _).later ((Below.refl _ _).drew)) ?_
       repeat (first|with_reducible exact HBt.out|with_reducible exact Below.refl _ _|refine .Zs ?_ _|refine .Za ?_ _|refine .drew ?_)
theorem Zo6 (w:World) (v1 v2:Value) (z1 z2:Int) (h1:IntR w v1 z1) (h2:IntR w v2 z2) (hw1:Wds 1000000 z1) (hw2:Wds 1000000 z2) (h0:0<z2):Calls Tryz.prog 296 #[v1,v2] w (RetI w (z1 / z2)):=by
  obtain ⟨s1,a1,n1,c1,rfl,_,hs1,hs1',hf1⟩:=h1.form;obtain ⟨s2,a2,n2,c2,rfl,_,hs2,hs2',hf2⟩:=h2.form;have HSG:=Zh (fun (w1:World) (hb:Below w.heap.size w w1)=>Zd9 w1 _ z2 (h2.later hb));have HDV:=Zh (fun (w1:World) (hb:Below w.heap.size w w1)=>Zo5 w1 _ _ z1 z2 (h1.later hb) (h2.later hb) hw1 hw2 h0);have HB0:=Zh ((Below.refl w.heap.size w).alloc (Nat.le_refl _) (.cells #[.int .i64 s1,.slice a1 n1 c1] 133));have HB1:=Zh (HB0.alloc HB0.size (.cells #[.int .i64 s2,.slice a2 n2 c2] 133));have HB:=Zh (HB1.alloc HB1.size (.cells #[.int .i64 0,.slice none 0 0] 133));have HX:=Zh (((Box.new w #[.int .i64 s1,.slice a1 n1 c1] 133).alloc (.cells #[.int .i64 s2,.slice a2 n2 c2] 133)).alloc (.cells #[.int .i64 0,.slice none 0 0] 133));have HY:=Zh ((Box.newAt (w.alloc (.cells #[.int .i64 s1,.slice a1 n1 c1] 133)) #[.int .i64 s2,.slice a2 n2 c2] 133 (n:=w.heap.size+1) (by simp)).alloc (.cells #[.int .i64 0,.slice none 0 0] 133));have HZ:=Zh (Box.newAt ((w.alloc (.cells #[.int .i64 s1,.slice a1 n1 c1] 133)).alloc (.cells #[.int .i64 s2,.slice a2 n2 c2] 133)) #[.int .i64 0,.slice none 0 0] 133 (n:=w.heap.size+1+1) (by simp));obtain ⟨x0,x1,xf,xz⟩:=HX.v2;obtain ⟨y0,y1,yf,yz⟩:=HY.v2;have d3:decide (z2.sign<0)=false:=Zf (by rw [Int.sign_eq_one_of_pos h0];decide);have d3':decide (z2<0)=false:=Zf (by omega);obtain ⟨zd,hzd⟩: ∃z,z1 / z2=z:=⟨_,rfl⟩;obtain ⟨zm,hzm⟩: ∃z,z1 % z2=z:=⟨_,rfl⟩;rw [hzd,hzm] at HDV;rw [hzd];clear h0 h1 h2 hw1 hw2 hf1 hf2 hs1 hs1' hs2 hs2' HB0 HB1 hzd hzm;go_enter Tryz.func296,Tryz.ntmps296;go_wp2_with fail;refine (HSG.out _ HB.out).mono ?_;rintro e4 w4 ⟨rfl,hb⟩;have HB4:=Zh (HB.Zg hb);have HX4:=Zh (HX.later hb);have HY4:=Zh (HY.later hb);have HZ4:=Zh (HZ.later hb);clear hb x0 x1 xf xz y0 y1 yf yz;obtain ⟨x0,x1,xf,xz⟩:=HX4.v2;obtain ⟨y0,y1,yf,yz⟩:=HY4.v2;go_wp2_with fail;refine (HDV.out _ HB4.out).mono ?_;rintro e5 w5 ⟨v5,v6,rfl,hi5,hi6,hb⟩;have HB5:=Zh (HB4.Zg hb);have HZ5:=Zh (HZ4.later hb);have HI:=Zh hi5;obtain ⟨s5,a5,n5,c5,rfl,_,_,_,_⟩:=hi5.form;obtain ⟨s6,a6,n6,c6,rfl,_,_,_,_⟩:=hi6.form;clear hb hi5 hi6 x0 x1 xf xz y0 y1 yf yz;have hZ6:=(HZ5.alloc (.cells #[.int .i64 s5,.slice a5 n5 c5] 133)).alloc (.cells #[.int .i64 s6,.slice a6 n6 c6] 133);have HZ6:=Zh hZ6;have HB6:=Zh ((HB5.alloc HB5.size (.cells #[.int .i64 s5,.slice a5 n5 c5] 133)).alloc (by have:=HB5.size;simp;omega) (.cells #[.int .i64 s6,.slice a6 n6 c6] 133));have hbl:Below w5.heap.size w5 ((w5.alloc (.cells #[.int .i64 s5,.slice a5 n5 c5] 133)).alloc (.cells #[.int .i64 s6,.slice a6 n6 c6] 133)):=
      ((Below.refl _ _).alloc (Nat.le_refl _) _).alloc (by simp) _
  have HI6:=Zh (HI.later hbl);obtain ⟨z0,z1',zf,zz⟩:=hZ6.v2;clear hZ6 hbl;go_wp2_with fail;refine bodyPost_ret (v:= .agg #[.int .i64 s5,.slice a5 n5 c5]) (by simp [results,Tryz.results296,go_sem, *]) rfl ?_;refine RetI.mk rfl (HI6.put HZ6.out _ _) ?_
  repeat (first|with_reducible exact HB6.out|with_reducible exact Below.refl _ _|refine .Zs ?_ _|refine .Za ?_ _|refine .drew ?_)
theorem IntR.uniq {w:World} {v:Value} {z z':Int} (h:IntR w v z) (h':IntR w v z'):z=z':=by
  rcases h with ⟨rfl,h1,h2⟩|⟨s,b,off,n,c,l,rfl,hsc,hn,hn0,hdg,htr,hbig,hs⟩
  ·rcases h' with ⟨e,_,_⟩|⟨s,b,off,n,c,l,e,_⟩
   ·simp at e;exact e
   ·simp at e
  ·rcases h' with ⟨e,_,_⟩|⟨s',b',off',n',c',l',e,hsc',hn',hn0',hdg',htr',hbig',hs'⟩
   ·simp at e
   ·simp only [Value.agg.injEq,Array.mk.injEq,List.cons.injEq,Value.int.injEq,Value.slice.injEq,Option.some.injEq,Addr.mk.injEq,true_and,and_true] at e;obtain ⟨rfl,⟨rfl,rfl⟩,rfl,rfl⟩:=e;have el:l=l':=by
      refine List.ext_getElem (by omega) (fun i hi hi'=> ?_);have g1:=(hsc.at i hi).c1;have g2:=(hsc'.at i hi').c1;rw [g1] at g2;simp at g2;omega
    subst el;omega
open Classical in
noncomputable def boxZ (w:World) (b:Nat):Nat:=
  if h: ∃k:Nat,∃s a n c,Box w b 133 [.int .i64 s,.slice a n c]/\IntR w (.agg #[.int .i64 s,.slice a n c]) (k:Int) then Classical.choose h else 0
theorem Zky {w:World} {b k:Nat} {s:Int} {a:Option Addr} {n c:Nat} (hB:Box w b 133 [.int .i64 s,.slice a n c]) (hI:IntR w (.agg #[.int .i64 s,.slice a n c]) (k:Int)):boxZ w b=k:=by
  have h: ∃k:Nat,∃s a n c,Box w b 133 [.int .i64 s,.slice a n c]/\IntR w (.agg #[.int .i64 s,.slice a n c]) (k:Int):=⟨k,s,a,n,c,hB,hI⟩;unfold boxZ;rw [dif_pos h];obtain ⟨s',a',n',c',hB',hI'⟩:=Classical.choose_spec h;unfold Box at hB hB';rw [hB] at hB';simp at hB';obtain ⟨rfl,rfl,rfl,rfl⟩:=hB';have:=hI.uniq hI';omega
theorem Zre (w:World) (v1 v2:Value) (z1 z2:Int) (h1:IntR w v1 z1) (h2:IntR w v2 z2) (hw1:Wds 1000000 z1) (hw2:Wds 1000000 z2):Calls Tryz.prog 190 #[v1,v2] w (RetI w ((Nat.gcd z1.natAbs z2.natAbs:Nat):Int)):=by
  obtain ⟨s1,a1,n1,c1,rfl,_,hs1,hs1',hf1⟩:=h1.form;obtain ⟨s2,a2,n2,c2,rfl,_,hs2,hs2',hf2⟩:=h2.form;have HI1:=Zh (fun (w1:World) (hb:Below w.heap.size w w1)=>h1.later hb);have HI2:=Zh (fun (w1:World) (hb:Below w.heap.size w w1)=>h2.later hb);have HB0:=Zh ((Below.refl w.heap.size w).alloc (Nat.le_refl _) (.cells #[.int .i64 s1,.slice a1 n1 c1] 133));have HB1:=Zh (HB0.alloc HB0.size (.cells #[.int .i64 s2,.slice a2 n2 c2] 133));have HB:=Zh (HB1.alloc HB1.size (.cells #[.int .i64 0,.slice none 0 0] 133));have HX:=Zh (((Box.new w #[.int .i64 s1,.slice a1 n1 c1] 133).alloc (.cells #[.int .i64 s2,.slice a2 n2 c2] 133)).alloc (.cells #[.int .i64 0,.slice none 0 0] 133));have HY:=Zh ((Box.newAt (w.alloc (.cells #[.int .i64 s1,.slice a1 n1 c1] 133)) #[.int .i64 s2,.slice a2 n2 c2] 133 (n:=w.heap.size+1) (by simp)).alloc (.cells #[.int .i64 0,.slice none 0 0] 133));have HZ:=Zh (Box.newAt ((w.alloc (.cells #[.int .i64 s1,.slice a1 n1 c1] 133)).alloc (.cells #[.int .i64 s2,.slice a2 n2 c2] 133)) #[.int .i64 0,.slice none 0 0] 133 (n:=w.heap.size+1+1) (by simp));have HW1:=Zh hw1.abs;have HW2:=Zh hw2.abs;have HG:=Zh (show Nat.gcd z1.natAbs z2.natAbs=Nat.gcd z1.natAbs z2.natAbs from rfl);obtain ⟨m1,hm1⟩: ∃m,z1.natAbs=m:=⟨_,rfl⟩;obtain ⟨m2,hm2⟩: ∃m,z2.natAbs=m:=⟨_,rfl⟩;have HA1:=Zh (fun (u:World) (v:Value) (h:IntR u v z1)=>(by have h:=Zoz u v z1 h;rwa [hm1] at h:Calls Tryz.prog 255 #[v] u (RetI u (m1:Int))));have HA2:=Zh (fun (u:World) (v:Value) (h:IntR u v z2)=>(by have h:=Zoz u v z2 h;rwa [hm2] at h:Calls Tryz.prog 255 #[v] u (RetI u (m2:Int))));rw [hm1] at HW1;rw [hm2] at HW2;rw [hm1,hm2];clear HG;obtain ⟨G,hG⟩: ∃G,Nat.gcd m1 m2=G:=⟨_,rfl⟩;rw [hG];have HGG:=Zh hG;clear hG;clear hm1 hm2 h1 h2 hw1 hw2 hf1 hf2 hs1 hs1' hs2 hs2' HB0 HB1;go_enter Tryz.func190,Tryz.ntmps190;go_wp2_with fail;refine Zap 4 (fun j v u=>IntR u v ([z1,(m1:Int),z2,(m2:Int)].getD j 0)) (by kernel_rfl) (by kernel_rfl) (fun j v u u' h hb=>h.later hb) ?_ ?_
  ·refine ⟨?_,?_,?_,?_,trivial⟩
   all_goals
     intro vs u hu hR;simp only [Zac,Z2,Z6,Act.put,Z1,Z4,Z5]
   obtain ⟨x0,x1,xf,xz⟩:=(HX.later hu).v2;have HI:=Zh (HI1.out u (HB.Zg hu));rotate_left;have k0:IntR u (vs 0) _:=Zr hR 0;have HS:=Zh (HA1.out u _ k0);clear k0;rotate_left;obtain ⟨x0,x1,xf,xz⟩:=(HY.later hu).v2;have HI:=Zh (HI2.out u (HB.Zg hu));rotate_left;have k0:IntR u (vs 2) _:=Zr hR 2;have HS:=Zh (HA2.out u _ k0);clear k0;rotate_left
   all_goals
     clear hR
     try clear hu
     go_wp2_with fail
     first|exact ⟨rfl,rfl,_,_,rfl,rfl,Below.refl _ _,HI.out⟩|(refine HS.mono ?_;rintro e11 w11 ⟨v11,rfl,hi11,hb⟩;go_wp2_with fail;exact ⟨rfl,rfl,_,_,rfl,rfl,hb,hi11⟩)
  ·intro vs u hu hR;have k1:IntR u (vs 1) _:=hR 1 (by decide);have k3:IntR u (vs 3) _:=hR 3 (by decide);obtain ⟨s11,a11,n11,c11,e11,_,_,_,_⟩:=k1.form;obtain ⟨s12,a12,n12,c12,e12,_,_,_,_⟩:=k3.form;rw [e11] at k1;rw [e12] at k3;obtain ⟨x0,x1,xf,xz⟩:=(HX.later hu).v2;obtain ⟨y0,y1,yf,yz⟩:=(HY.later hu).v2;have HX2:=Zh (((((HX.later hu).set 0 (.int .i64 s11)).set 1 (.slice a11 n11 c11)).other (a:=⟨w.heap.size+1,0,none⟩) (.int .i64 s12) (by simp)).other (a:=⟨w.heap.size+1,1,none⟩) (.slice a12 n12 c12) (by simp));have hY2:=((HY.later hu).other (a:=⟨w.heap.size,0,none⟩) (.int .i64 s11) (by simp)).other (a:=⟨w.heap.size,1,none⟩) (.slice a11 n11 c11) (by simp);have HY2:=Zh ((hY2.set 0 (.int .i64 s12)).set 1 (.slice a12 n12 c12));have HZ2:=Zh (((((HZ.later hu).other (a:=⟨w.heap.size,0,none⟩) (.int .i64 s11) (by dsimp only;omega)).other (a:=⟨w.heap.size,1,none⟩) (.slice a11 n11 c11) (by dsimp only;omega)).other (a:=⟨w.heap.size+1,0,none⟩) (.int .i64 s12) (by simp)).other (a:=⟨w.heap.size+1,1,none⟩) (.slice a12 n12 c12) (by simp));have HIX:=Zh ((k1.put (HX.later hu) s11 (.slice a11 n11 c11)).put hY2 s12 (.slice a12 n12 c12));have HIY:=Zh ((k3.put (HX.later hu) s11 (.slice a11 n11 c11)).put hY2 s12 (.slice a12 n12 c12));have HB2:=Zh ((((((HB.Zg hu).setCell (p:=⟨w.heap.size,0,none⟩) (Nat.le_refl _) (.int .i64 s11)).setCell (p:=⟨w.heap.size,1,none⟩) (Nat.le_refl _) (.slice a11 n11 c11)).setCell (p:=⟨w.heap.size+1,0,none⟩) (Nat.le_succ _) (.int .i64 s12)).setCell (p:=⟨w.heap.size+1,1,none⟩) (Nat.le_succ _) (.slice a12 n12 c12)));simp only [Zac,Z3,Z7,Z2,Z6,Act.put,Z1,Z4,Z5,e11,e12];clear hR hu k1 k3 e11 e12 hY2 HX HY HZ HB HI1 HI2 HA1 HA2;go_wp2_with fail;clear x0 x1 xf xz y0 y1 yf yz;generalize (((u.setCell ⟨w.heap.size,0,none⟩ (.int .i64 s11)).setCell ⟨w.heap.size,1,none⟩ (.slice a11 n11 c11)).setCell ⟨w.heap.size+1,0,none⟩ (.int .i64 s12)).setCell ⟨w.heap.size+1,1,none⟩ (.slice a12 n12 c12)=u2 at *
   go_loopw [] (fun wr=> ∃ (m k:Nat) (sx:Int) (ax:Option Addr) (nx cx:Nat) (sy:Int) (ay:Option Addr) (ny cy:Nat),Nat.gcd m k=G/\Wds 1000000 (m:Int)/\Wds 1000000 (k:Int)/\Below w.heap.size w wr/\Box wr w.heap.size 133 [.int .i64 sx,.slice ax nx cx]/\IntR wr (.agg #[.int .i64 sx,.slice ax nx cx]) (m:Int)/\Box wr (w.heap.size+1) 133 [.int .i64 sy,.slice ay ny cy]/\IntR wr (.agg #[.int .i64 sy,.slice ay ny cy]) (k:Int)/\Box wr (w.heap.size+1+1) 133 [.int .i64 0,.slice none 0 0]) (fun wr=>boxZ wr (w.heap.size+1))
   case atStart=>exact ⟨m1,m2,_,_,_,_,_,_,_,_,HGG.out,HW1.out,HW2.out,HB2.out,HX2.out,HIX.out,HY2.out,HIY.out,HZ2.out⟩
   case round=>
     clear HX2 HY2 HZ2 HIX HIY HB2 HGG HW1 HW2;obtain ⟨m,k,sx,ax,nx,cx,sy,ay,ny,cy,hg,hwm,hwk,hbe,hbx,hix,hby,hiy,hbz⟩:=hrel;have HX:=Zh hbx;have HY:=Zh hby
     have HZ:=Zh hbz;have HIX:=Zh hix;have HIY:=Zh hiy;have HB:=Zh hbe;have HGK:=Zh hg;have HWM:=Zh hwm;have HWK:=Zh hwk;have HME:=Zh (Zky hby hiy);have hsg:=Zd9 wr _ _ hiy;obtain ⟨y0,y1,yf,yz⟩:=hby.v2;clear hg hwm hwk hbe hbx hix hby hiy hbz
     by_cases h0:k=0
     ·subst h0;have HSG:=Zh hsg;rw [show ((0:Nat):Int).sign=0 from rfl] at HSG;have HG0:=Zh (show m=G by have:=HGK.out;rwa [Nat.gcd_zero_right] at this);clear hsg;go_wp2_with fail;refine HSG.mono ?_;rintro e5 w5 ⟨rfl,hb⟩;have HB5:=Zh (HB.Zg hb);have HX5:=Zh (HX.later hb);have HZ5:=Zh (HZ.later hb);have HI5:=Zh (HIX.later hb);clear hb y0 y1 yf yz;obtain ⟨x0,x1,xf,xz⟩:=HX5.v2;obtain ⟨z0,z1',zf,zz⟩:=HZ5.v2;go_wp2_with fail;refine bodyPost_ret (v:= .agg #[.int .i64 sx,.slice ax nx cx]) (by simp [results,Tryz.results190,go_sem, *]) rfl ?_;rw [<-HG0.out];refine RetI.mk rfl (HI5.put HZ5.out _ _) ?_
      repeat (first|with_reducible exact HB5.out|with_reducible exact Below.refl _ _|refine .Zs ?_ _|refine .Za ?_ _|refine .drew ?_)
     ·have HSG:=Zh hsg;rw [Int.sign_eq_one_of_pos (show (0:Int)<(k:Int) by omega)] at HSG;have HK0:=Zh (show 0<k by omega);clear hsg h0;go_wp2_with fail;refine HSG.mono ?_;rintro e5 w5 ⟨rfl,hb⟩;have HB5:=Zh (HB.Zg hb);have HX5:=Zh (HX.later hb);have HY5:=Zh (HY.later hb);have HZ5:=Zh (HZ.later hb);have HI5:=Zh (HIX.later hb);have HJ5:=Zh (HIY.later hb);clear hb y0 y1 yf yz;obtain ⟨x0,x1,xf,xz⟩:=HX5.v2;obtain ⟨y0,y1,yf,yz⟩:=HY5.v2;go_wp2_with fail;refine (Zo5 w5 _ _ _ _ HI5.out HJ5.out HWM.out HWK.out (by have:=HK0.out;omega)).mono ?_;rintro e6 w6 ⟨u6,v6,rfl,hu6,hv6,hb⟩;have HV6:=Zh (hv6.cong (show (m:Int) % (k:Int)=((m % k:Nat):Int) from (Int.natCast_emod m k).symm));obtain ⟨sq,aq,nq,cq,rfl,_,_,_,_⟩:=hu6.form;obtain ⟨sr,ar,nr,cr,rfl,_,_,_,_⟩:=hv6.form;have hbl:Below w6.heap.size w6 ((w6.alloc (.cells #[.int .i64 sq,.slice aq nq cq] 133)).alloc (.cells #[.int .i64 sr,.slice ar nr cr] 133)):=
        ((Below.refl _ _).alloc (Nat.le_refl _) _).alloc (by simp) _
      have hb8:=hb.trans (hbl.mono hb.size);have HB8:=Zh (HB5.Zg hb8);have HX8:=Zh (HX5.later hb8);have HY8:=Zh (HY5.later hb8);have HZ8:=Zh (HZ5.later hb8);have HJ8:=Zh (HJ5.later hb8);have HV8:=Zh (HV6.later hbl);have HR8:=Zh (Box.newAt (w6.alloc (.cells #[.int .i64 sq,.slice aq nq cq] 133)) #[.int .i64 sr,.slice ar nr cr] 133 (n:=w6.heap.size+1) (by simp));have hsz6:=hb.size;clear hu6 hv6 hb hbl hb8 x0 x1 xf xz y0 y1 yf yz;go_wp2_with fail;have hlt:w.heap.size+1+1<w6.heap.size:=by have:=HZ5.lt;have:=hsz6;omega
      generalize (w6.alloc (.cells #[.int .i64 sq,.slice aq nq cq] 133)).alloc (.cells #[.int .i64 sr,.slice ar nr cr] 133)=w8 at *;generalize w6.heap.size=g at *;obtain ⟨x0,x1,xf,xz⟩:=HX8.v2;obtain ⟨y0,y1,yf,yz⟩:=HY8.v2;obtain ⟨r0,r1,rf,rz⟩:=HR8.v2;have HX9:=Zh ((((HX8.set 0 (.int .i64 sy)).set 1 (.slice ay ny cy)).other (a:=⟨w.heap.size+1,0,none⟩) (.int .i64 sr) (by simp)).other (a:=⟨w.heap.size+1,1,none⟩) (.slice ar nr cr) (by simp));have hY9:=(HY8.other (a:=⟨w.heap.size,0,none⟩) (.int .i64 sy) (by simp)).other (a:=⟨w.heap.size,1,none⟩) (.slice ay ny cy) (by simp);have HY9:=Zh ((hY9.set 0 (.int .i64 sr)).set 1 (.slice ar nr cr));have HZ9:=Zh ((((HZ8.other (a:=⟨w.heap.size,0,none⟩) (.int .i64 sy) (by dsimp only;omega)).other (a:=⟨w.heap.size,1,none⟩) (.slice ay ny cy) (by dsimp only;omega)).other (a:=⟨w.heap.size+1,0,none⟩) (.int .i64 sr) (by simp)).other (a:=⟨w.heap.size+1,1,none⟩) (.slice ar nr cr) (by simp));have HJ9:=Zh ((HJ8.put HX8.out sy (.slice ay ny cy)).put hY9 sr (.slice ar nr cr));have HV9:=Zh ((HV8.put HX8.out sy (.slice ay ny cy)).put hY9 sr (.slice ar nr cr));have HB9:=Zh ((((HB8.setCell (p:=⟨w.heap.size,0,none⟩) (Nat.le_refl _) (.int .i64 sy)).setCell (p:=⟨w.heap.size,1,none⟩) (Nat.le_refl _) (.slice ay ny cy)).setCell (p:=⟨w.heap.size+1,0,none⟩) (Nat.le_succ _) (.int .i64 sr)).setCell (p:=⟨w.heap.size+1,1,none⟩) (Nat.le_succ _) (.slice ar nr cr));have HGN:=Zh (show Nat.gcd k (m % k)=G by rw [<-HGK.out,Nat.gcd_comm k (m % k),<-Nat.gcd_rec k m,Nat.gcd_comm]);have HWN:=Zh (HWM.le (show ((m % k:Nat):Int).natAbs<=(m:Int).natAbs by have:=Nat.mod_le m k;omega));have HLT:=Zh (Nat.mod_lt m HK0.out);clear hY9 hsz6
      go_region
      all_goals go_wp2_with fail
      all_goals go_roundw
      case rel=>exact ⟨_,_,_,_,_,_,_,_,_,_,_,_,_,⟨k,m % k,_,_,_,_,_,_,_,_,HGN.out,HWK.out,HWN.out,HB9.drew,HX9.drew,HJ9.later ((Below.refl _ _).drew),HY9.drew,HV9.later ((Below.refl _ _).drew),HZ9.drew⟩,rfl⟩
      case measure=>
        rw [Zky HY9.drew (HV9.later ((Below.refl _ _).drew)),HME.out];exact HLT.out
end Go.Proofs.YtijajkfmlghgkaaGreatDoor.Nu
