/- Lemmas on the way to the law TopMirrored: Mk Ml Mn Mp Ms Mu Mv -/
import Derived.Test.YtijajkfmlghgkaaGreatDoorTopMirroredP12
set_option linter.unusedVariables false
set_option linter.unusedSimpArgs false
set_option maxRecDepth 100000
set_option maxHeartbeats 4000000
namespace Go.Proofs.YtijajkfmlghgkaaGreatDoor.Nu
open Go Go.Proofs Go.RowKit Go.Proofs.YtijajkfmlghgkaaGreatDoor
def RvD (l:List (Option (Option Value))) (r:Nat) (j:Nat) (v:Value) (w:World):Prop:=
  match l.getD j none with
  | some (some x)=>v=x
  | some none=> ∃a n k q,v= .tuple #[.slice a n k,.int .i64 0]/\DlR w (.slice a n k) q r
  | none=> ∃a n k q,v= .slice a n k/\DlR w (.slice a n k) q r
theorem RvD.later {l:List (Option (Option Value))} {r j:Nat} {v:Value} {u u':World} (h:RvD l r j v u) (hb:Below u.heap.size u u'):RvD l r j v u':=by
  unfold RvD at h ⊢
  split <;> rename_i e <;> rw [e] at h
  ·exact h
  ·obtain ⟨a,n,k,q,h1,h2⟩:=h;exact ⟨a,n,k,q,h1,h2.later hb⟩
  ·obtain ⟨a,n,k,q,h1,h2⟩:=h;exact ⟨a,n,k,q,h1,h2.later hb⟩
theorem Zcv (l:List Nat) (p:Nat):(neL l p).length=l.length:=by unfold neL;rw [List.length_set,List.length_map]
theorem Zjg {w:World} {base g n c p i:Nat} {l:List Nat} (h:Own encI 1 3 w base (.slice (some ⟨g,0,none⟩) n c) (neL l p)) (hn:l.length=n) (hne:i≠p) (hi:i<l.length):w.cell? ⟨g,i,none⟩=some (.int .i64 ((l[i]:Nat):Int)):=by
  refine Zam h (by rw [Zcv];exact hn) Zda i (by rw [Zcv];exact hi) _ ?_;have:=Zqq (p:=p) hne hi;rw [List.getElem?_eq_getElem (by rw [Zcv];exact hi)] at this;rw [Option.some.inj this];rfl
theorem Zqr {w:World} {base g n c p i:Nat} {l:List Nat} (h:Own encI 1 3 w base (.slice (some ⟨g,0,none⟩) n c) (neL l p)) (hn:l.length=n) (hne:i≠p) (hi:i<n) (y:Nat):Own encI 1 3 (w.setCell ⟨g,i,none⟩ (.int .i64 (y:Int))) base (.slice (some ⟨g,0,none⟩) n c) (neL (l.set i y) p):=by
  have:=Zaq h (by rw [Zcv];exact hn) Zda i hi (y:Int) (.int .i64 (y:Int)) rfl
  rwa [Zqo hne] at this
theorem Zl1 {w:World} {base g n c p:Nat} {l:List Nat} (h:Own encI 1 3 w base (.slice (some ⟨g,0,none⟩) n c) (neL l p)) (hn:l.length=n) (hp:p<l.length):w.cell? ⟨g,p,none⟩=some (.int .i64 (-1)):=by
  refine Zam h (by rw [Zcv];exact hn) Zda p (by rw [Zcv];exact hp) _ ?_;unfold neL;rw [List.getElem_set_self];rfl
theorem Zn2 {w:World} {base g n c p:Nat} {l:List Nat} (h:Own encI 1 3 w base (.slice (some ⟨g,0,none⟩) n c) (neL l p)) (hn:l.length=n) (hp:p<n):Own encD 1 3 (w.setCell ⟨g,p,none⟩ (.int .i64 0)) base (.slice (some ⟨g,0,none⟩) n c) (l.set p 0):=by
  have:=Zaq h (by rw [Zcv];exact hn) Zda p hp 0 (.int .i64 0) rfl;rw [Zqp] at this;exact Zsb this
theorem Zl2 {w:World} {base g n c p:Nat} {l:List Nat} (h:Own encD 1 3 w base (.slice (some ⟨g,0,none⟩) n c) l) (hn:l.length=n) (hp:p<n):Own encI 1 3 (w.setCell ⟨g,p,none⟩ (.int .i64 (-1))) base (.slice (some ⟨g,0,none⟩) n c) (neL (l.set p 0) p):=by
  have:=Zaq (Zsa h) (by rw [List.length_map];exact hn) Zda p hp (-1) (.int .i64 (-1)) rfl;unfold neL;rw [List.map_set,List.set_set];exact this
theorem Zfr (w:World) (o:Obj):Below w.heap.size w (w.alloc o):=(Below.refl _ _).alloc (Nat.le_refl _) _
theorem Zl3 (w:World) (a1 a2:Option Addr) (n1 n2 c1 c2:Nat) (l1 l2:List Nat) (m1 m2:Nat) (h1:DlR w (.slice a1 n1 c1) l1 m1) (h2:DlR w (.slice a2 n2 c2) l2 m2) (hb1:l1.length<=400000) (h2l:2<=l2.length) (hle:m2<=m1):
    Calls Tryz.prog 139 #[.slice a1 n1 c1,.slice a2 n2 c2] w (Znz w (m1 / m2) (m1 % m2)):=by
 have HC:=Zh (Zef w a1 a2 n1 n2 c1 c2 l1 l2 m1 m2 h1 h2);have hll:l2.length<=l1.length:=by
   rcases Nat.lt_or_ge l1.length l2.length with h|h
   ·have:=Zbz (B:=1000000000) (by decide) h1.dg h2.tr h;rw [h1.eq,h2.eq] at this;omega
   ·exact h
 obtain ⟨b2,o2,rfl,hn2,hb2,hc2⟩:=Zl0 h2.sc (by omega);have hn1:n1=l1.length:=by obtain ⟨a,c,e,_⟩:=h1.sc;injection e
 subst hn1;obtain ⟨mt,hmt⟩: ∃m,n2=m+1:=⟨n2-1,by omega⟩;obtain ⟨b0,hb0⟩: ∃b,l2[mt]'(by omega)=b:=⟨_,rfl⟩;have hlast:l2[l2.length-1]'(by omega)=b0:=by rw [<-hb0];congr 1;omega
 have hb00:0<b0:=by have:=h2.tr.last (by omega);omega
 have hb09:b0<1000000000:=by rw [<-hb0];exact h2.dg.get mt (by omega)
 have gt:=hc2 mt (by omega);rw [hb0] at gt;obtain ⟨s1,s2,s3,s4,s5⟩:=Zr9 h2.dg (by omega) hlast hb00;have HSL:=Zh (fun (v:List Nat) (dv:Dg 1000000000 v) (tv:Tr v) (hv:val 1000000000 v=1000000000 / (b0+1) * val 1000000000 l2)=>Zly h2.dg (by omega) hlast hb00 dv tv hv);rw [h2.eq] at HSL;have hq3:((1000000000:Int).tdiv ((b0:Int)+1))=((1000000000 / (b0+1):Nat):Int):=by rw [Int.tdiv_eq_ediv_of_nonneg (by omega)];exact (Int.natCast_ediv 1000000000 (b0+1)).symm
 obtain ⟨S,hS⟩: ∃S,1000000000 / (b0+1)=S:=⟨_,rfl⟩;rw [hS] at s1 s2 s3 s4 s5 HSL hq3;have hm2:0<m2:=by
   rw [<-h2.eq];have h5:=h2.tr.le (B:=1000000000) (by omega);have:0<1000000000^ (l2.length-1):=Nat.pow_pos (by decide);omega
 have HL1:=Zh (fun (w1:World) (hb:Below w.heap.size w w1)=>h1.later hb);have HL2:=Zh (fun (w1:World) (hb:Below w.heap.size w w1)=>h2.later hb);have HD1:=Zh h1.dg;have HE1:=Zh h1.eq;have HE2:=Zh h2.eq;have HT2:=Zh h2.tr;obtain ⟨x0,hx0⟩: ∃x,icmp (m1:Int) (m2:Int)=x:=⟨_,rfl⟩;have k0:decide (x0<0)=false:=by rw [<-hx0];unfold icmp;rw [if_neg (by omega)];split <;> decide
 rw [hx0] at HC;have k1:((n2:Int)==1)=false:=beq_eq_false_iff_ne.2 (by omega);have kn:(n2:Int)-1=(mt:Int):=by omega
 have hmn:mt<n2:=by omega
 have hnb:n2<=1000000:=by omega
 have hdz:(((b0:Int)+1)==0)=false:=beq_eq_false_iff_ne.2 (by omega);have hqw:IntKind.i64.wrap (S:Int)=(S:Int):=IntWalk.i64_in _ (by omega);have HN2:=Zh hn2;have HLL:=Zh hll;obtain ⟨la,hla⟩: ∃n,l1.length=n:=⟨_,rfl⟩;have HLA:=Zh hla;rw [hla] at hb1 HC HL1 hll ⊢;have HLE:=Zh hle;have HM2:=Zh hm2;have HLL2:=Zh hll;have H2L:=Zh h2l;clear h1 h2 hc2 hlast hb0 hx0 hS hmt s3 s4 s5 hla hn2 hll hle hm2 h2l;go_enter Tryz.func139,Tryz.ntmps139;go_wp2_with fail;refine HC.mono ?_;rintro e4 w4 ⟨rfl,hbe⟩;have HB:=Zh hbe;have g4:=(hbe.cell (p:=⟨b2,o2+mt,none⟩) hb2).trans gt;have hz4:=Nat.lt_of_lt_of_le hb2 hbe.size;clear hbe gt;go_wp2_with fail;have hba:=Zfr w4 (.cells #[.int .i64 (S:Int)] 3);have HB5:=Zh (HB.Zg hba);have HF:=Zh (show DlR (w4.alloc (.cells #[.int .i64 (S:Int)] 3)) (.slice (some ⟨w4.heap.size,0,none⟩) 1 1) [S] S from ⟨Zpk w4 S,Dg.one s2,Tr.of_last (fun _=>by simp;omega),Zbr _ _⟩);have HFC:=Zh (show (w4.alloc (.cells #[.int .i64 (S:Int)] 3)).cell? ⟨w4.heap.size,0,none⟩=some (.int .i64 (S:Int)) from (Box.new w4 #[.int .i64 (S:Int)] 3).cell 0);have HFZ:=Zh (show w4.heap.size<(w4.alloc (.cells #[.int .i64 (S:Int)] 3)).heap.size by simp);obtain ⟨pf,hpf⟩: ∃p,w4.heap.size=p:=⟨_,rfl⟩;rw [hpf] at HF HFC HFZ ⊢;have HPF:=Zh (show w.heap.size<=pf by rw [<-hpf];exact HB.size);clear hba hpf g4 hz4 hq3 hqw hdz k0 k1 kn hmn;generalize w4.alloc (.cells #[.int .i64 (S:Int)] 3)=w5 at *;refine (Zpi w5 (some ⟨b2,o2,none⟩) (some ⟨pf,0,none⟩) n2 1 c2 1 l2 [S] m2 S (HL2.out _ HB5.out) HF.out (by have:=HLL2.out;omega) (by simp)).mono ?_;rintro e6 w6 ⟨av,nv,cv,V,rfl,hV,hb⟩;obtain ⟨hvl,hvt⟩:=HSL.out V hV.dg hV.tr (by rw [hV.eq,Nat.mul_comm]);have hnv:nv=n2:=by obtain ⟨a,c,e,_⟩:=id hV.sc;injection e with _ e _;rw [e,hvl,HN2.out]
 subst hnv;have HV6:=Zh hV;have HVL:=Zh (show V.length=nv by rw [hvl,HN2.out]);have HVT:=Zh hvt;have HB6:=Zh (HB5.Zg hb);have HF6:=Zh (HF.later hb);have HFC6:=Zh ((hb.cell (p:=⟨pf,0,none⟩) HFZ.out).trans HFC.out);have HFZ6:=Zh (Nat.lt_of_lt_of_le HFZ.out hb.size);clear hb hV hvl hvt HF HFC HFZ HSL;go_wp2_with fail;have hba:=Zfr w6 (.cells #[] 3);have HW7:=Zh hba;have HF7:=Zh (HF6.later hba);have HOE7:=Zh (Own.lit (f:=encD) (sz:=1) Zao 3 ([]:List Nat) w6 #[] 0 w6.heap.size rfl rfl (by simp) (Nat.le_refl _));clear hba;obtain ⟨pe,hpe⟩: ∃p,w6.heap.size=p:=⟨_,rfl⟩;rw [hpe] at HOE7 HW7 HFZ6 ⊢;have HPE:=Zh hpe;clear hpe;generalize w6.alloc (.cells #[] 3)=w7 at *;have HX:=Zh (fun (w1:World) (h:Below pe w6 w1)=>(show Below w.heap.size w w1 from HB6.trans (Below.mono h (by have h1:=HB6.size;have h2:=HPE.out;omega))));refine (Zpi w7 a1 (some ⟨pf,0,none⟩) la 1 c1 1 l1 [S] m1 S (HL1.out _ (HX.out _ HW7.out)) HF7.out (by rw [HLA.out];exact hb1) (by simp)).mono ?_;rintro e8 w8 ⟨au,nu0,cu,U0,rfl,hU,hb⟩;have hupos:0<U0.length:=by
   rcases Nat.eq_zero_or_pos U0.length with h|h
   ·have e:=hU.eq;rw [List.length_eq_zero_iff.1 h] at e;have h6:=Nat.mul_pos (Nat.lt_of_lt_of_le HM2.out HLE.out) s1;simp [val] at e;omega
   ·exact h
 have hule:U0.length<=la+1:=Ze7 (B:=1000000000) (by decide) hU.tr (by
   rw [hU.eq];have h5:=Zbg HD1.out;rw [HE1.out,HLA.out] at h5;rw [Nat.pow_succ];exact Nat.mul_lt_mul'' h5 s2)
 obtain ⟨bu,ou,rfl,hnu,hbu,hcu⟩:=Zl0 hU.sc hupos;subst hnu;have HAT:=Zh (fun (i:Nat) (hi:i<U0.length) (j:Nat) (u:Value) (hu:(encD U0[i])[j]?=some u)=>(show w8.cell? ((⟨bu,ou,none⟩:Addr).add (i* 1+j))=some u from by
   match j,hu with
   | 0,hu=>
     simp [encD] at hu;subst hu;have:=hcu i hi;rw [Addr.add_lit,Nat.mul_one,Nat.add_zero];exact this))
 have HU8:=Zh (And.intro hU.dg hU.eq);have HS7:=Zh (show pe<=w7.heap.size by have:=HW7.size;have:=HPE.out;omega);have HW8:=Zh (HW7.trans (hb.mono HS7.out));have HOE8:=Zh (HOE7.later hb);have HULE:=Zh hule;clear hb hU hcu hbu HF7 HOE7 hupos hule;have HS8:=Zh (show pe<=w8.heap.size by have:=HW8.size;have:=HPE.out;omega);go_wp2_with (at_builtin;refine Zj5 encD 1 8 27 3 _ Tryz.underlying27 Zgs rfl (by decide) (by decide) Zao Zde [] U0 pe w8 (.slice (some ⟨pe,0,none⟩) 0 0) HOE8.out HS8.out (by have:=HULE.out;simp;omega) ⟨bu,ou,none⟩ cu HAT.out rfl _ _ rfl rfl rfl ?_;intro v9 w9 hown9 hg9);have HW9:=Zh (HW8.grown hg9 HS8.out (fun k hk=>by cases hk;exact Nat.le_refl _));rw [List.nil_append] at hown9;have HO9:=Zh hown9;clear hown9 hg9 HOE8 HAT HW8 HS8 HS7 HW7
 go_loopw [11] (fun v wr=> ∃U:List Nat,U.length<=la+1/\Dg 1000000000 U/\val 1000000000 U=m1* S/\Below pe w6 wr/\Own encD 1 3 wr pe v U) (fun v _=>la+1-(match v with | .slice _ n _=>n|_=>0))
 case atStart=>exact ⟨U0,HULE.out,HU8.out.1,HU8.out.2,HW9.out,HO9.out⟩
 case round=>
   clear HO9 HW9 HU8 HULE;obtain ⟨U,hul,hdg,hval,hbe,hown⟩:=hrel;obtain ⟨a,c,rfl⟩:=hown.shape;have HW:=Zh hbe;have HO:=Zh hown;have HDG:=Zh hdg;have HVA:=Zh hval;clear hbe hown hdg hval;obtain ⟨lu,hlu⟩: ∃n,U.length=n:=⟨_,rfl⟩;have HLU:=Zh hlu;rw [hlu] at HO hul ⊢;clear hlu
   by_cases hlt:lu<la+1
   ·have d1:decide (lu<la+1)=true:=Zt hlt;have d1':decide ((lu:Int)<(la:Int)+1)=true:=Zt (by omega);have HSZ0:=Zh (show pe<=wr.heap.size by have:=HW.size;have:=HPE.out;omega);have HOA:=Zh (HO.alloc (.cells #[.int .i64 0] 3));have HRH:=Zh (Box.new wr #[.int .i64 0] 3);have HSZ:=Zh (show pe<=(wr.alloc (.cells #[.int .i64 0] 3)).heap.size by have:=HSZ0.out;simp;omega);have HWA:=Zh (HW.alloc HSZ0.out (.cells #[.int .i64 0] 3));have HLN:=Zh (show U.length<=1000000 by rw [HLU.out];omega);go_wp2_with (at_builtin;refine Zbt encD 1 8 27 3 _ Tryz.underlying27 Zgs rfl (by decide) (by decide) Zao Zde U 0 pe _ _ _ _ HRH.out rfl _ HOA.out HSZ.out HLN.out rfl _ _ rfl rfl rfl ?_;intro v' w' hown' hg');obtain ⟨a5,c5,rfl⟩:=hown'.shape;have HLV:=Zh (show (U++ [0]).length=lu+1 by rw [List.length_append,List.length_singleton,HLU.out]);have HO5:=Zh hown';have HW5:=Zh (HWA.grown hg' HSZ.out (fun j hj=>HOA.lt' j hj));clear hown' hg' HOA HRH HWA;go_roundw
    case rel=>exact ⟨U++ [0],by have:=HLV.out;omega,HDG.app (Dg.one (by decide)),by rw [Zcj,Zbr,Nat.mul_zero,Nat.add_zero];exact HVA.out,HW5.out,HO5.out⟩
    case measure=>have:=HLV.out;simp only [];omega
   ·obtain rfl:lu=la+1:=by omega
    have d1:decide (la+1<la+1)=false:=Zf hlt;have d1':decide (((la:Int)+1)<(la:Int)+1)=false:=Zf (by omega);obtain ⟨N,hN⟩: ∃N,la+1=N+nv:=⟨la+1-nv,by have:=HLL2.out;have:=HN2.out;omega⟩;have kN:(la:Int)+1-(nv:Int)=(N:Int):=by omega
    obtain ⟨gu,cu2,eu,hgu,hguz⟩:=HO.form (by rw [HLU.out];omega);injection eu with eu1 eu2 eu3
    clear eu2;subst eu1 eu3;have HSZ0:=Zh (show pe<=wr.heap.size by have:=HW.size;have:=HPE.out;omega);have HGU:=Zh hguz;have HNN:=Zh hN;have hN6:N<=1000000:=by omega
    have kw:IntKind.i64.wrap ((N:Int)-1)=(N:Int)-1:=IntWalk.i64_in _ (by omega);clear hgu hguz hN hlt;go_wp2_with (at_make;refine mk1 encD 0 (.int .i64 0) rfl 27 3 8 Tryz.underlying27 Zgs rfl (by decide) pe wr N (by omega) HSZ0.out rfl _ _ rfl .i64 .i64 rfl rfl ?_;intro wq hoq hgq);have HGQ:=Zh (Zbk hgq);have HOQ:=Zh hoq;have HOU:=Zh (HO.later HGQ.out);have HWQ:=Zh (HW.grown hgq HSZ0.out (fun k hk=>by cases hk));obtain ⟨gq,hgqe⟩: ∃g,wr.heap.size=g:=⟨_,rfl⟩;rw [hgqe] at HOQ HGU ⊢;clear hoq hgq hgqe HO HW;have HLD:=Zh (fun (q:List Nat) (hq:q.length=N)=>Zlz (B:=1000000000) (l1:=l1) (l2:=l2) (V:=V) (U:=U) (q:=q) s1 HD1.out HT2.out (by have:=H2L.out;omega) (by have:=HLL2.out;have:=HLA.out;omega) (by rw [HLU.out,HLA.out]) HDG.out (by rw [HVA.out,HE1.out,Nat.mul_comm]) (by rw [HV6.eq,HE2.out,Nat.mul_comm]) (by rw [HVL.out,HN2.out]) (by rw [hq,HLA.out];have:=HNN.out;have:=HN2.out;omega));rw [HE1.out] at HLD;have hdv:=HV6.dg;have HDV:=Zh hdv;have HTV:=Zh HV6.tr;have HV2:=Zh (show 2<=V.length by rw [HVL.out,HN2.out];exact H2L.out);have HV0:=Zh (show 0<val 1000000000 V by rw [HV6.eq];exact Nat.mul_pos HM2.out s1);have hgqu:=Zaz HOQ.out;have HGQZ:=Zh hgqu;obtain ⟨bv,ov,rfl,-,hbv,hcv⟩:=Zl0 HV6.sc (by have:=HV2.out;omega);have HCV:=Zh hcv;have HBV:=Zh (show bv<pe by rw [<-HPE.out];exact hbv);clear hdv hgqu hbv hcv;go_wp2_with fail
    go_loopw [13] (fun i wr=> ∃ (k:Nat) (U q:List Nat),k<=N/\i= .int .i64 ((k:Int)-1)/\LdI 1000000000 (S* m1) (val 1000000000 V) U q V.length k/\U.length=la+1/\q.length=N/\Below pe w6 wr/\Own encD 1 3 wr pe (.slice (some ⟨gu,0,none⟩) (la+1) c) U/\Own encD 1 3 wr pe (.slice (some ⟨gq,0,none⟩) N N) q) (fun i _=>(intOf i+1).toNat)
    case atStart=>exact ⟨N,U,List.replicate N 0,Nat.le_refl _,rfl,(by have h:=HLD.out (List.replicate N 0) List.length_replicate;rwa [List.length_replicate] at h),HLU.out,List.length_replicate,HWQ.out,HOU.out,HOQ.out⟩
    case round=>
      clear HLD HWQ HOU HOQ HDG HVA HLU;obtain ⟨k,U,q,hk,rfl,hld,hlu,hlq,hbe,hou,hoq⟩:=hrel;have HLD:=Zh hld;have HLU:=Zh hlu;have HLQ:=Zh hlq;have HW:=Zh hbe;have HOU:=Zh hou;have HOQ:=Zh hoq;clear hld hlu hlq hbe hou hoq kw kN
      by_cases h0:k=0
      ·subst h0;obtain ⟨hq1,hq2,hq3⟩:=Zn0 s1 HM2.out HDV.out (by rw [HV6.eq,Nat.mul_comm]) HLD.out (by rw [HLU.out,HVL.out];have:=HNN.out;omega);rw [HVL.out] at hq3;have HQ1:=Zh hq1;have HQ2:=Zh hq2;have hsu:=Sc.of_own Zao (by rw [HLU.out];omega) HOU.out;have hst:=Sc.take hsu nv (by rw [HLU.out];have:=HNN.out;omega);have HDT:=Zh (show DzR wr (.slice (some ⟨gu,0,none⟩) (Za9 (U.take nv)) c) ((U.take nv).take (Za9 (U.take nv))) (S* (m1 % m2)) from ⟨hst.take _ (Zaj _).1,(HLD.du.take nv).take _,by rw [Zco];exact hq3⟩);have HTR:=Zh (fun (u:World) (hu:Below wr.heap.size wr u)=>Zee u (some ⟨gu,0,none⟩) nv c (U.take nv) (hst.later hu));have HSQ:=Zh (Sc.of_own Zao (by rw [HLQ.out];omega) HOQ.out);have g8:=(HW.cell (p:=⟨pf,0,none⟩) HFZ6.out).trans HFC6.out;have g9:pf<wr.heap.size:=by have:=HFZ6.out;have:=HW.size;have:=HPE.out;omega
       have hnl:nv<=la+1:=by have:=HNN.out;omega
       have hlc:la+1<=c:=by obtain ⟨a',c',e',_,h,_⟩:=hsu;injection e' with _ _ e3;rw [e3,<-HLU.out];exact h
       have hnc:nv<=c:=by omega
       have hlt9:((U.take nv).take (Za9 (U.take nv))).length<=900000:=by rw [List.length_take,List.length_take];omega
       have HXR:=Zh (HX.out wr HW.out);clear hq1 hq2 hq3 hst hsu HOU HOQ;go_wp2_with fail;have HDV7:=Zh (fun (u:World) (hu:Below wr.heap.size wr u)=>(by
         have h:=Zpj u (some ⟨gu,0,none⟩) (Za9 (U.take nv)) c _ (S* (m1 % m2)) (HDT.later hu) hlt9 S s1 (by omega);rw [Nat.mul_mod_right,Nat.mul_div_cancel_left _ s1] at h;exact h:Calls Tryz.prog 212 #[.slice (some ⟨gu,0,none⟩) (Za9 (U.take nv)) c,.int .i64 (S:Int)] u fun e w'=> ∃a' n' c' q,e= .returned (.tuple #[.slice a' n' c',.int .i64 ((0:Nat):Int)])/\DlR w' (.slice a' n' c') q (m1 % m2)/\Below u.heap.size u w'))
       clear HDT hlt9;refine Zap 12 (RvD [some (some (.slice (some ⟨gu,0,none⟩) (la+1) c)),some (some (.int .i64 (nv:Int))),some (some (.slice (some ⟨gu,0,none⟩) nv c)),some (some (.slice (some ⟨gu,0,none⟩) (Za9 (U.take nv)) c)),some (some (.slice (some ⟨pf,0,none⟩) 1 1)),some (some (.pointer (some ⟨pf,0,none⟩))),some (some (.int .i64 (S:Int))),some none,some none,none,some (some (.int .i64 0)),none] (m1 % m2)) (by kernel_rfl) (by kernel_rfl) (fun j v u u' h hb=>RvD.later h hb) ?_ ?_
       ·refine ⟨?_,?_,?_,?_,?_,?_,?_,?_,?_,?_,?_,?_,trivial⟩
        all_goals
          intro vs u hu hR;simp only [Zac,Z2,Z6,Act.put,Z1,Z4,Z5]
        rotate_left;rotate_left;have e0:vs 0=_:=Zr hR 0;have e1:vs 1=_:=Zr hR 1;rotate_left
        ·have e2:vs 2=_:=Zr hR 2;have HS:=Zh (HTR.out u hu);clear hR hu;go_wp2_with fail;refine HS.mono ?_;rintro e11 w11 ⟨rfl,rfl⟩;go_wp2_with fail;exact ⟨rfl,rfl,_,_,rfl,rfl,Below.refl _ _,rfl⟩
        rotate_left;have e4:vs 4=_:=Zr hR 4;rotate_left;have e5:vs 5=_:=Zr hR 5;have c8:=(hu.cell (p:=⟨pf,0,none⟩) g9).trans g8;have c9:=Nat.lt_of_lt_of_le g9 hu.size;rotate_left
        ·have e3:vs 3=_:=Zr hR 3;have e6:vs 6=_:=Zr hR 6;have HS:=Zh (HDV7.out u hu);clear hR hu;go_wp2_with fail;refine HS.mono ?_;rintro e11 w11 ⟨a7,n7,k7,q7,rfl,hq7,hb⟩;go_wp2_with fail;exact ⟨rfl,rfl,_,_,rfl,rfl,hb,_,_,_,_,rfl,hq7⟩
        ·obtain ⟨a7,n7,k7,q7,e7,hq7⟩: ∃a n k q,vs 7= .tuple #[.slice a n k,.int .i64 0]/\DlR u (.slice a n k) q (m1 % m2):=Zr hR 7;have HQ7:=Zh hq7;clear hR hu hq7;go_wp2_with fail;exact ⟨rfl,rfl,_,_,rfl,rfl,Below.refl _ _,_,_,_,_,e7,HQ7.out⟩
        ·obtain ⟨a7,n7,k7,q7,e8,hq7⟩: ∃a n k q,vs 8= .tuple #[.slice a n k,.int .i64 0]/\DlR u (.slice a n k) q (m1 % m2):=Zr hR 8;have HQ7:=Zh hq7;clear hR hu hq7;go_wp2_with fail;exact ⟨rfl,rfl,_,_,rfl,rfl,Below.refl _ _,_,_,_,_,rfl,HQ7.out⟩
        ·obtain ⟨a7,n7,k7,q7,e8,hq7⟩: ∃a n k q,vs 8= .tuple #[.slice a n k,.int .i64 0]/\DlR u (.slice a n k) q (m1 % m2):=Zr hR 8;clear hR hu hq7;go_wp2_with fail;exact ⟨rfl,rfl,_,_,rfl,rfl,Below.refl _ _,rfl⟩
        ·obtain ⟨a7,n7,k7,q7,e9,hq7⟩: ∃a n k q,vs 9= .slice a n k/\DlR u (.slice a n k) q (m1 % m2):=Zr hR 9;have HQ7:=Zh hq7;clear hR hu hq7;go_wp2_with fail;exact ⟨rfl,rfl,_,_,rfl,rfl,Below.refl _ _,_,_,_,_,e9,HQ7.out⟩
        all_goals
          clear hR
          try clear hu
          go_wp2_with fail;exact ⟨rfl,rfl,_,_,rfl,rfl,Below.refl _ _,rfl⟩
       ·intro vs u hu hR;obtain ⟨a7,n7,k7,q7,e11,hq7⟩: ∃a n k q,vs 11= .slice a n k/\DlR u (.slice a n k) q (m1 % m2):=hR 11 (by decide);have HQ7:=Zh hq7;have hsq:=HSQ.later hu;have HSQ7:=Zh hsq;have HT7:=Zh (Zee u _ _ _ _ hsq);have HB7:=Zh (HXR.Zg hu);simp only [Zac,Z3,Z7,Z2,Z6,Act.put,Z1,Z4,Z5,Nat.reduceAdd,Nat.zero_add,e11];clear hR hu hq7 hsq;go_wp2_with fail;refine HT7.mono ?_;rintro e12 w12 ⟨rfl,rfl⟩;go_wp2_with fail;refine bodyPost_ret (v:= .tuple #[.slice (some ⟨gq,0,none⟩) (Za9 q) N,.slice a7 n7 k7]) (by simp [results,Tryz.results139,go_sem, *]) rfl ?_;exact ⟨_,_,_,_,_,_,_,_,rfl,DlR.cutz HSQ7.out HQ2.out HQ1.out,HQ7.out,HB7.out⟩
      ·obtain ⟨j,rfl⟩: ∃j,k=j+1:=⟨k-1,by omega⟩;have hW:=HLD.win HDV.out HTV.out HV2.out (by rw [HLQ.out];omega);have hnm:=HVT.out;have HGS:=Zh (Zn1 wr (some ⟨gu,0,none⟩) (some ⟨bv,ov,none⟩) (la+1) c nv cv j U V (Sc.of_own Zao (by rw [HLU.out];omega) HOU.out) ((HV6.later (Below.mono HW.out (Nat.le_of_eq HPE.out))).sc) (by rw [HLU.out];omega) (un:=U[j+V.length]'(by have:=hW.len;rw [List.length_drop] at this;omega)) ⟨hW,by rw [List.getElem_drop],rfl,rfl,rfl,rfl,hnm.2⟩);have HWN:=Zh hW;have HKN:=Zh hk;have hpz:pe<=wr.heap.size:=by have:=HW.size;have:=HPE.out;omega
       have HPZ:=Zh hpz;clear hW hnm hpz;go_wp2_with fail;refine HGS.mono ?_;rintro e5 w5 ⟨t,rfl,hgue,hb⟩;have HGE:=Zh hgue;have HW5:=Zh (HW.trans (hb.mono HPZ.out));have HO5:=Zh (HOU.later hb);have HQ5:=Zh (HOQ.later hb);have HDU:=Zh HLD.du;clear hb hgue HW HOU HOQ HGS;go_wp2_with fail
       go_loopw [15,16] (fun b i wr=> ∃ (i' c':Nat) (U':List Nat),i'<=nv/\b= .int .i64 (c':Int)/\i= .int .i64 (i':Int)/\SbD 1000000000 U V U' j t c' i'/\Below pe w6 wr/\Own encD 1 3 wr pe (.slice (some ⟨gu,0,none⟩) (la+1) c) U'/\Own encD 1 3 wr pe (.slice (some ⟨gq,0,none⟩) N N) q) (fun _ i _=>nv-(intOf i).toNat)
       case atStart=>exact ⟨0,0,U,Nat.zero_le _,rfl,rfl,SbD.start HDU.out,HW5.out,HO5.out,HQ5.out⟩
       case round=>
         clear HW5 HO5 HQ5;obtain ⟨i,b,U',hi,rfl,rfl,hsb,hbe,hou,hoq⟩:=hrel;have HSB:=Zh hsb;have HW:=Zh hbe;have HOU:=Zh hou;have HOQ:=Zh hoq;have HL':=Zh (show U'.length=la+1 by rw [hsb.len,HLU.out]);clear hsb hbe hou hoq
         by_cases hin:i<nv
         ·have d1:decide (i<nv)=true:=Zt hin;have d1':decide ((i:Int)<(nv:Int))=true:=Zt (by omega);obtain ⟨a,ha⟩: ∃a,j+i=a:=⟨_,rfl⟩;have hala:a<la+1:=by have:=HKN.out;have:=HNN.out;omega
          have haU:a<U'.length:=by rw [HL'.out];exact hala
          have hiV:i<V.length:=by rw [HVL.out];exact hin
          have gv:=(HW.cell (p:=⟨bv,ov+i,none⟩) HBV.out).trans (HCV.out i hiV);have gz:bv<wr.heap.size:=by have:=HBV.out;have:=HW.size;have:=HPE.out;omega
          have gx:=Zam HOU.out HL'.out Zao a haU (.int .i64 (U'[a]:Int)) rfl;have guz:=Zaz HOU.out;have gfz:=Own.frozenN HOU.out HL'.out a;have HSET:=Zh (fun (y:Nat)=>Zaq HOU.out HL'.out Zao a hala y (.int .i64 (y:Int)) rfl);have HQS:=Zh (fun (y:Value)=>Own.other HOQ.out (a:=⟨gu,a,none⟩) y (fun e=>absurd (show gq=gu from Option.some.inj e) (by have:=HGU.out;omega)));have HWS:=Zh (fun (y:Value)=>Below.setCell HW.out (p:=⟨gu,a,none⟩) (HOU.lt' gu rfl) y);have hxB:=HSB.dg.get a haU;have hyB:=HDV.get i hiV;obtain ⟨m1c,hways⟩:=Zqn (B:=1000000000) (x:=U'[a]) (y:=V[i]) (by decide) HGE.lt hyB HSB.cB hxB;have HST:=Zh (fun (s c':Nat) (h1:c'<=1000000000) (h2:s<1000000000) (h3:s+t* V[i]+b=U'[a]+1000000000* c')=>HSB.step hiV (by rw [ha];exact haU) h1 h2 (by simp only [ha];exact h3));simp only [ha] at HST;have htB:=HGE.lt;have hbB:=HSB.cB;generalize U'[a]=x at *;generalize V[i]=y at *;clear hiV haU;obtain ⟨ty,hty⟩: ∃z,t* y=z:=⟨_,rfl⟩;obtain ⟨p,hp⟩: ∃z,ty+b=z:=⟨_,rfl⟩;simp only [hty,hp] at m1c hways HST;have q4:(p:Int).tmod 1000000000=((p % 1000000000:Nat):Int):=by rw [Int.tmod_eq_emod_of_nonneg (by omega)];exact (Int.natCast_emod p 1000000000).symm
          have q5:(p:Int).tdiv 1000000000=((p / 1000000000:Nat):Int):=by rw [Int.tdiv_eq_ediv_of_nonneg (by omega)];exact (Int.natCast_ediv p 1000000000).symm
          have hpm:p % 1000000000<1000000000:=Nat.mod_lt _ (by decide);have hpp:p=1000000000* (p / 1000000000)+p % 1000000000:=(Nat.div_add_mod p 1000000000).symm;obtain ⟨pm,hpme⟩: ∃z,p % 1000000000=z:=⟨_,rfl⟩;obtain ⟨pd,hpde⟩: ∃z,p / 1000000000=z:=⟨_,rfl⟩;rw [hpme] at q4 hpm hpp;rw [hpde] at q5 m1c hpp;simp only [hpme,hpde] at hways;have ww1:IntKind.i64.wrap ((t:Int) * (y:Int))=(ty:Int):=by rw [<-Int.natCast_mul,hty];exact IntWalk.i64_in _ (by omega)
          have ww2:IntKind.i64.wrap ((ty:Int)+(b:Int))=(p:Int):=by rw [IntWalk.i64_in _ (by omega)];omega
          have ww3:(i:Int)+(j:Int)=(a:Int):=by omega
          have ha2:a<=1000000:=by omega
          clear hty hp hpp hpme hpde
          rcases hways with ⟨hz,s,hs1,hs2,hs3⟩|⟨hz,s,hs1,hs2,hs3⟩
          ·obtain ⟨z,hzz⟩: ∃z,(x:Int)-(pm:Int)=z:=⟨_,rfl⟩;rw [hzz] at hz hs1;have d2:decide (z<0)=true:=Zt hz;have hz1: -1000000000<=z:=by omega
           have hs1':z+1000000000=(s:Int):=hs1;have HS3:=Zh (HST.out s (pd+1) m1c hs2 hs3);clear hs3 hs1;go_wp2_with fail;go_roundw
           case rel=>exact ⟨i+1,pd+1,U'.set a s,by omega,by go_num,by go_num,HS3.out,HWS.out _,HSET.out s,HQS.out _⟩
           case measure=>simp [intOf];omega
          ·have d2:decide ((s:Int)<0)=false:=Zf (by omega);have HS3:=Zh (HST.out s pd (by omega) hs2 hs3);clear hs3 hz;go_wp2_with fail;go_roundw
           case rel=>exact ⟨i+1,pd,U'.set a s,by omega,by go_num,by go_num,HS3.out,HWS.out _,HSET.out s,HQS.out _⟩
           case measure=>simp [intOf];omega
         ·obtain rfl:i=nv:=by omega
          have hsb:=HSB.out;rw [<-HVL.out] at hsb;have hW:=HWN.out;have hkN:=HKN.out;have hNN:=HNN.out;have hVL:=HVL.out;have hala:j+i<la+1:=by omega
          have hk2:j+V.length<U.length:=by rw [HLU.out,hVL];exact hala
          have hk3:j+V.length<U'.length:=by rw [HL'.out,hVL];exact hala
          have hun:=hsb.un hk3 hk2;have hdone:=hsb.done hW HGE.out hk2;have hgood:=hsb.good hW HGE.out;have HBAD:=Zh (fun (u3:List Nat) (c3:Nat) (hlt:val 1000000000 (U.drop j)<t* val 1000000000 V) (he:val 1000000000 ((U'.drop j).take V.length)+t* val 1000000000 V=val 1000000000 (U.drop j)+1000000000^V.length) (h3:AbD 1000000000 U (U'.set (j+V.length) 0) V u3 j c3 V.length)=>AbD.bad hsb hW HGE.out hlt he h3);have HABS:=Zh (AbD.start hsb (by decide));obtain ⟨a,ha⟩: ∃a,j+i=a:=⟨_,rfl⟩;rw [hVL,ha] at HABS;have haU:a<U'.length:=by rw [HL'.out];omega
          have hUa:U'[a]=U[j+V.length]:=by rw [<-hun];congr 1;omega
          have gx:=Zam HOU.out HL'.out Zao a haU (.int .i64 (U'[a]:Int)) rfl;rw [hUa] at gx;obtain ⟨un,hune⟩: ∃x,U[j+V.length]=x:=⟨_,rfl⟩;rw [hune] at gx hdone;have guz:=Zaz HOU.out;have gfz:=Own.frozenN HOU.out HL'.out a;have ha1:a<la+1:=by omega
          have HQS:=Zh (fun (y:Value)=>Own.other HOQ.out (a:=⟨gu,a,none⟩) y (fun e=>absurd (show gq=gu from Option.some.inj e) (by have:=HGU.out;omega)));have HWS:=Zh (fun (y:Value)=>Below.setCell HW.out (p:=⟨gu,a,none⟩) (HOU.lt' gu rfl) y);have HZT:=Zh (Zaq HOU.out HL'.out Zao a ha1 0 (.int .i64 (0:Int)) rfl);have HNT:=Zh (Zl2 HOU.out HL'.out ha1);have d1:decide (i<i)=false:=Zf (by omega);have d1':decide ((i:Int)<(i:Int))=false:=Zf (by omega);have ww3:(j:Int)+(i:Int)=(a:Int):=by omega
          have ha2:a<=1000000:=by omega
          have htB:=HGE.lt;have hbB:=HSB.cB;have hjN:j<N:=by omega
          have HJN:=Zh hjN;clear hun hUa hune hk2 hk3 haU hW hsb hkN hNN hVL hala
          rcases hdone with ⟨hle1,rfl,he⟩|⟨hlt1,rfl,he⟩
          ·have HSTD:=Zh (StD.ld (by have h:=hgood he;rwa [HVL.out,ha] at h) HDV.out HV0.out (by rw [HLQ.out];exact hjN) HLD.out);have ww4:(b:Int)-(b:Int)=0:=Int.sub_self _;clear hgood hle1 he ha;have hgz:=Zaz (HQS.out (.int .i64 (0:Int)));have hqc:=Zam (HQS.out (.int .i64 (0:Int))) HLQ.out Zao j (by rw [HLQ.out];omega) (.int .i64 (q[j]'(by rw [HLQ.out];omega):Int)) rfl;have hqf:=Own.frozenN (HQS.out (.int .i64 (0:Int))) HLQ.out j;have HQF:=Zh (Zaq (HQS.out (.int .i64 (0:Int))) HLQ.out Zao j (by omega) t (.int .i64 (t:Int)) rfl);have HUF:=Zh (Own.other (HZT.out) (a:=⟨gq,j,none⟩) (.int .i64 (t:Int)) (fun e=>absurd (show gu=gq from Option.some.inj e) (by have:=HGU.out;omega)));have HWF:=Zh (Below.setCell (HWS.out (.int .i64 (0:Int))) (p:=⟨gq,j,none⟩) (HOQ.lt' gq rfl) (.int .i64 (t:Int)));go_wp2_with fail;go_roundw
           case rel=>exact ⟨j,U'.set a 0,q.set j t,by have:=HKN.out;omega,rfl,HSTD.out,by rw [List.length_set];exact HL'.out,by rw [List.length_set];exact HLQ.out,HWF.out,HUF.out,HQF.out⟩
           case measure=>simp [intOf]
          ·have ht0:0<t:=by
             rcases Nat.eq_zero_or_pos t with h|h
             ·rw [h,Nat.zero_mul] at hlt1;omega
             ·exact h
           obtain ⟨t',rfl⟩: ∃t',t=t'+1:=⟨t-1,by omega⟩;have HBB:=Zh (fun (u3:List Nat) (c3:Nat) (h3:AbD 1000000000 U (U'.set (j+V.length) 0) V u3 j c3 V.length)=>HBAD.out u3 c3 hlt1 he h3);have HAA:=Zh ha;have ww4:(un:Int)-((un:Int)+1)= -1:=by omega
           have ww5:(un:Int)-((un+1:Nat):Int)= -1:=by omega
           have HQ0:=Zh (HQS.out (.int .i64 (-1)));have HW0:=Zh (HWS.out (.int .i64 (-1)));have HIB:=Zh hi;clear hgood hlt1 he ha HBAD HQS HWS HZT hi ht0 hbB;go_wp2_with fail
           go_loopw [19,20] (fun cy x wr=> ∃ (e c':Nat) (U3:List Nat),e<=i/\cy= .int .i64 (c':Int)/\x= .int .i64 (e:Int)/\AbD 1000000000 U (U'.set a 0) V U3 j c' e/\Below pe w6 wr/\Own encI 1 3 wr pe (.slice (some ⟨gu,0,none⟩) (la+1) c) (neL U3 a)/\Own encD 1 3 wr pe (.slice (some ⟨gq,0,none⟩) N N) q) (fun _ x _=>i-(intOf x).toNat)
           case atStart=>exact ⟨0,0,_,Nat.zero_le _,rfl,rfl,HABS.out,HW0.out,HNT.out,HQ0.out⟩
           case round=>
             clear HABS HW0 HNT HQ0 gx guz gfz HW HOU HOQ;obtain ⟨e,b,U3,hei,rfl,rfl,hab,hbe,hou,hoq⟩:=hrel;have HAB:=Zh hab;have HW:=Zh hbe;have HOU:=Zh hou;have HOQ:=Zh hoq;have HL3:=Zh (show U3.length=la+1 by rw [hab.len,HLU.out]);clear hab hbe hou hoq
             by_cases hen:e<i
             ·have d2:decide (e<i)=true:=Zt hen;have d2':decide ((e:Int)<(i:Int))=true:=Zt (by omega);obtain ⟨a',ha'⟩: ∃z,j+e=z:=⟨_,rfl⟩;have hne:a'≠a:=by have:=HAA.out;omega
              have hala:a'<la+1:=by have:=HAA.out;omega
              have haU:a'<U3.length:=by rw [HL3.out];exact hala
              have heV:e<V.length:=by rw [HVL.out];exact hen
              have gv:=(HW.cell (p:=⟨bv,ov+e,none⟩) HBV.out).trans (HCV.out e heV);have gz:bv<wr.heap.size:=by have:=HBV.out;have:=HW.size;have:=HPE.out;omega
              have gx:=Zjg HOU.out HL3.out hne haU;have guz:=Zaz HOU.out;have gfz:=Own.frozenN HOU.out (by rw [Zcv];exact HL3.out) a';have hxB:=HAB.dg.get a' haU;have hyB:=HDV.get e heV;have hbB:=HAB.ab.carry;have HST:=Zh (fun (s:Nat) (h3:s=U3[a']+V[e]+b)=>HAB.step HDV.out (by decide) heV (by rw [ha'];exact haU) (s:=s) (by simp only [ha'];exact h3));simp only [ha'] at HST;generalize U3[a']=x at *;generalize V[e]=y at *;clear heV haU;obtain ⟨xy,hxy⟩: ∃z,x+y=z:=⟨_,rfl⟩;obtain ⟨s,hs⟩: ∃z,xy+b=z:=⟨_,rfl⟩;have HS3:=Zh (HST.out s (by omega));have q4:(s:Int).tmod 1000000000=((s % 1000000000:Nat):Int):=by rw [Int.tmod_eq_emod_of_nonneg (by omega)];exact (Int.natCast_emod s 1000000000).symm
              have q5:(s:Int).tdiv 1000000000=((s / 1000000000:Nat):Int):=by rw [Int.tdiv_eq_ediv_of_nonneg (by omega)];exact (Int.natCast_ediv s 1000000000).symm
              have hpm:s % 1000000000<1000000000:=Nat.mod_lt _ (by decide);have hpd:s / 1000000000<=s:=Nat.div_le_self _ _;obtain ⟨pm,hpme⟩: ∃z,s % 1000000000=z:=⟨_,rfl⟩;obtain ⟨pd,hpde⟩: ∃z,s / 1000000000=z:=⟨_,rfl⟩;rw [hpme] at q4 hpm HS3;rw [hpde] at q5 hpd HS3;have ww6:(x:Int)+(y:Int)=(xy:Int):=by omega
              have ww7:(xy:Int)+(b:Int)=(s:Int):=by omega
              have ww8:(e:Int)+(j:Int)=(a':Int):=by omega
              have ha2':a'<=1000000:=by have:=HAA.out;omega
              have hsb:s<3000000000:=by omega
              have HNE:=Zh hne;have haX:a'<U3.length:=by rw [HL3.out];exact hala
              have HHX:=Zh haX;have HLA2:=Zh hala;clear hxy hs hpme hpde hne haX;go_wp2_with fail
              go_quiet (fail)
              have HOU2:=Zh (HOU.drewN nq);have HOQ2:=Zh (HOQ.drewN nq);have HW2:=Zh (below_drewN HW.out nq);clear HOU HOQ HW gx gv gz guz gfz ww6 ww7;generalize wr.drewN nq=w7 at *;have gx:=Zjg HOU2.out HL3.out HNE.out HHX.out;have guz:=Zaz HOU2.out;have gfz:=Own.frozenN HOU2.out (by rw [Zcv];exact HL3.out) a';have HSET:=Zh (Zqr HOU2.out HL3.out HNE.out HLA2.out pm);have HQS:=Zh (Own.other HOQ2.out (a:=⟨gu,a',none⟩) (.int .i64 (pm:Int)) (fun e=>absurd (show gq=gu from Option.some.inj e) (by have:=HGU.out;omega)));have HWS:=Zh (Below.setCell HW2.out (p:=⟨gu,a',none⟩) (HOU2.lt' gu rfl) (.int .i64 (pm:Int)));go_wp2_with fail;go_roundw
              case rel=>exact ⟨e+1,pd,U3.set a' pm,by omega,by go_num,by go_num,HS3.out,HWS.out,HSET.out,HQS.out⟩
              case measure=>simp [intOf];omega
             ·obtain rfl:e=i:=by omega
              have d2:decide (e<e)=false:=Zf (by omega);have d2':decide ((e:Int)<(e:Int))=false:=Zf (by omega);obtain ⟨rfl,-,hstd⟩:=HBB.out U3 b (by have h:=HAB.out;rw [HVL.out,HAA.out];exact h);rw [HVL.out,HAA.out,Nat.add_sub_cancel] at hstd;have HSTD:=Zh (StD.ld hstd HDV.out HV0.out (by rw [HLQ.out];exact HJN.out) HLD.out);have haU:a<U3.length:=by rw [HL3.out];exact ha1
              have gx:=Zl1 HOU.out HL3.out haU;have guz:=Zaz HOU.out;have gfz:=Own.frozenN HOU.out (by rw [Zcv];exact HL3.out) a;have HZT:=Zh (Zn2 HOU.out HL3.out ha1);have HQ7:=Zh (Own.other HOQ.out (a:=⟨gu,a,none⟩) (.int .i64 (0:Int)) (fun e=>absurd (show gq=gu from Option.some.inj e) (by have:=HGU.out;omega)));have HW7:=Zh (Below.setCell HW.out (p:=⟨gu,a,none⟩) (HOU.lt' gu rfl) (.int .i64 (0:Int)));clear hstd;have hgz:=Zaz (HQ7.out);have hqc:=Zam (HQ7.out) HLQ.out Zao j (by rw [HLQ.out];omega) (.int .i64 (q[j]'(by rw [HLQ.out];omega):Int)) rfl;have hqf:=Own.frozenN (HQ7.out) HLQ.out j;have HQF:=Zh (Zaq (HQ7.out) HLQ.out Zao j (by omega) t' (.int .i64 (t':Int)) rfl);have HUF:=Zh (Own.other (HZT.out) (a:=⟨gq,j,none⟩) (.int .i64 (t':Int)) (fun e=>absurd (show gu=gq from Option.some.inj e) (by have:=HGU.out;omega)));have HWF:=Zh (Below.setCell (HW7.out) (p:=⟨gq,j,none⟩) (HOQ.lt' gq rfl) (.int .i64 (t':Int)));go_wp2_with fail;go_roundw
              case rel=>exact ⟨j,U3.set a 0,q.set j t',by have:=HKN.out;omega,rfl,HSTD.out,by rw [List.length_set];exact HL3.out,by rw [List.length_set];exact HLQ.out,HWF.out,HUF.out,HQF.out⟩
              case measure=>simp [intOf]
theorem Zhp (w:World) (a1 a2:Option Addr) (n1 n2 c1 c2:Nat) (l1 l2:List Nat) (m1 m2:Nat) (h1:DlR w (.slice a1 n1 c1) l1 m1) (h2:DlR w (.slice a2 n2 c2) l2 m2) (hlt:m1<m2):
    Calls Tryz.prog 139 #[.slice a1 n1 c1,.slice a2 n2 c2] w (Znz w (m1 / m2) (m1 % m2)):=by
 have HC:=Zh (Zef w a1 a2 n1 n2 c1 c2 l1 l2 m1 m2 h1 h2);have HL:=Zh (fun (w1:World) (h:Below w.heap.size w w1)=>h1.later h);have HQ:=Zh (show m1 / m2=0 from Nat.div_eq_of_lt hlt);have HR:=Zh (show m1 % m2=m1 from Nat.mod_eq_of_lt hlt);have k0:icmp (m1:Int) (m2:Int)= -1:=by unfold icmp;rw [if_pos (by omega)]
 rw [k0] at HC;rw [HQ.out,HR.out];clear k0 hlt HQ HR h1 h2;go_enter Tryz.func139,Tryz.ntmps139;go_wp2_with fail;refine HC.mono ?_;rintro e4 w4 ⟨rfl,hbe⟩;have HB:=Zh hbe;clear hbe;go_wp2_with fail;refine bodyPost_ret (v:= .tuple #[.slice none 0 0,.slice a1 n1 c1]) (by simp [results,Tryz.results139,go_sem, *]) rfl ?_;exact ⟨_,_,_,_,_,_,_,_,rfl,DlR.nil _,HL.out _ HB.out,HB.out⟩
theorem divK (K:Nat):DivK K:=fun w a1 a2 n1 n2 c1 c2 l1 l2 m1 m2 h1 h2 hb h0 hk=>by
  by_cases hlt:m1<m2
  ·exact Zhp w a1 a2 n1 n2 c1 c2 l1 l2 m1 m2 h1 h2 hlt
  ·by_cases h2l:l2.length=1
   ·exact Zj4 w a1 a2 n1 n2 c1 c2 l1 l2 m1 m2 h1 h2 (by omega) h2l
   ·exact Zl3 w a1 a2 n1 n2 c1 c2 l1 l2 m1 m2 h1 h2 hb (by omega) (by omega)
theorem Zl4 (n:Nat):txz (n:Int)=tx (Lib.decDigits n):=by
  unfold txz;rw [Zav (by omega)];simp
structure Nq (K:Nat) (q:Rat):Prop where
  num:Nd K q.num
  den:Nd K (q.den:Int)
theorem Nd.mul {K L:Nat} {a b:Int} (h1:Nd K a) (h2:Nd L b):Nd (K+L) (a* b):=⟨by
  rw [Int.natAbs_mul,Nat.pow_add];exact Nat.mul_lt_mul'' h1.lt h2.lt⟩
theorem Nd.add {K:Nat} {a b:Int} (h1:Nd K a) (h2:Nd K b):Nd (K+1) (a+b):=⟨by
  have h3:=h1.lt;have h4:=h2.lt;have h5:=Int.natAbs_add_le a b;rw [Nat.pow_succ];omega⟩
theorem Nq.up {K K':Nat} {q:Rat} (h:Nq K q) (hk:K<=K'):Nq K' q:=⟨h.num.up hk,h.den.up hk⟩
theorem _root_.Go.Proofs.YtijajkfmlghgkaaGreatDoor.Dn.nq {k:Nat} {q:Rat} (h:Dn k q):Nq k q:=
  have hb:10^k<=1000000000^k:=Nat.pow_le_pow_left (by decide) k
  ⟨⟨Nat.lt_of_lt_of_le h.n hb⟩,⟨Nat.lt_of_lt_of_le (by rw [Int.natAbs_natCast];exact h.d) hb⟩⟩
theorem Nq.len {K:Nat} {q:Rat} (h:Nq K q) (hK:K<=100000):(ratL q).length<=2000000:=by
  have s1:=Zjc h.num.lt;have s2:=Zjc h.den.lt;rw [Int.natAbs_natCast] at s2;rw [Zho];unfold Zlv Znx
  split <;> split <;> simp <;> omega
theorem Zsc (w:World) (q:Rat) (h:Dn 80003 q):Calls Tryz.prog 82 #[.string (txq q)] w fun e w'=>e= .returned (.int .i64 q.num.sign)/\w=w':=
  Zlu w q (by have:=h.nq.len (by decide);omega)
theorem negD (w:World) (q:Rat) (h:Dn 80003 q):Calls Tryz.prog 30 #[.string (txq q)] w fun e w'=>e= .returned (.string (txq (-q)))/\w=w':=
  Zqm w q (by have:=h.nq.len (by decide);omega)
theorem Zca {q:Rat}:q.num.sign<0↔q<0:=by
  have h:=Rat.num_nonneg (q:=q);rw [Int.sign_neg_iff,<-Int.not_le,<-Rat.not_le,h]
theorem Zel {q:Rat}:0<q.num.sign↔0<q:=by
  have h:=Zca (q:= -q);rw [Rat.neg_num,Int.sign_neg] at h;have h2: -q<0↔0<q:=by constructor <;> intro <;> grind
  rw [<-h2,<-h];omega
theorem Zqs (w:World) (l:List UInt8) (hl:l.length<=1000000000):Calls Tryz.prog 157 #[.string (tx l)] w fun e w'=>e= .returned (.bool (l.all digB))/\w=w':=by
  have HI:=Zh (fun (k:Nat) (hk:k<l.length) (w:World)=>Zcu (P:=Tryz.prog) (t:=9) Tryz.underlying9 l k hk w);have HT:=Zh (show (∀k (hk:k<l.length),digB l[k]=true)->l.all digB=true from fun h=>by
    rw [List.all_eq_true];intro c hc;obtain ⟨k,hk,rfl⟩:=List.getElem_of_mem hc;exact h k hk)
  have HF:=Zh (show∀k (hk:k<l.length),digB l[k]=false->l.all digB=false from fun k hk h=>by
    rw [Bool.eq_false_iff,Ne,List.all_eq_true];intro hh;have:=hh _ (List.getElem_mem hk);rw [h] at this;cases this)
  have hsz:=Zan l;obtain ⟨B,hB⟩: ∃B,l.all digB=B:=⟨_,rfl⟩;rw [hB] at HT HF ⊢;obtain ⟨X,hX⟩: ∃X,tx l=X:=⟨_,rfl⟩;obtain ⟨n,hn⟩: ∃n,l.length=n:=⟨_,rfl⟩;have HN:=Zh hn;rw [hX] at HI hsz ⊢;rw [hn] at hsz hl;clear hX hn hB;go_enter Tryz.func157,Tryz.ntmps157;go_wp2_with fail
  go_loop [3] (fun i=> ∃k:Nat,k<=n/\i= .int .i64 k/\Hid (∀j (hj:j<l.length),j<k->digB l[j]=true)) (fun i=>n-(intOf i).toNat)
  case atStart=>exact ⟨0,by omega,rfl,Zh (fun j _ h=>by omega)⟩
  case round=>
    obtain ⟨k,hk,rfl,HK⟩:=hrel
    by_cases hlt:k<n
    ·have hkl:k<l.length:=by rw [HN.out];exact hlt
     have hi:=HI.out k hkl;have HF1:=Zh (HF.out k hkl);have HS:=Zh (show digB l[k]=true->∀j (hj:j<l.length),j<k+1->digB l[j]=true from fun hc j hj h=>by
       rcases Nat.lt_or_ge j k with h1|h1
       ·exact HK.out j hj h1
       ·have:j=k:=by omega
        subst this;exact hc)
     have hdg:digB l[k]=(decide (48<=l[k].toNat) && decide (l[k].toNat<=57)):=rfl;obtain ⟨D,hD⟩: ∃D,digB l[k]=D:=⟨_,rfl⟩;rw [hD] at HS HF1 hdg;clear hD;generalize l[k]=c at *;generalize c.toNat=m at *
     rcases (show m<48∨(¬m<48/\57<m)∨(¬m<48/\¬57<m) by omega) with h1|⟨h1,h2⟩|⟨h1,h2⟩
     ·have HR:=Zh (HF1.out (by rw [hdg];simp;omega));have d0:decide ((m:Int)<48)=true:=Zt (by omega);have d2:decide (m<48)=true:=Zt h1;clear hdg HF1 HS HK;go_wp2_with fail;go_ret;exact ⟨by rw [HR.out];rfl,rfl⟩
     ·have HR:=Zh (HF1.out (by rw [hdg];simp;omega));have d0:decide ((m:Int)<48)=false:=Zf (by omega);have d1:decide ((57:Int)<(m:Int))=true:=Zt (by omega);have d2:decide (m<48)=false:=Zf (by omega);have d3:decide (57<m)=true:=Zt (by omega);clear hdg HF1 HS HK;go_wp2_with fail;go_ret;exact ⟨by rw [HR.out];rfl,rfl⟩
     ·have HR:=Zh (HS.out (by rw [hdg];simp;omega));have d0:decide ((m:Int)<48)=false:=Zf (by omega);have d1:decide ((57:Int)<(m:Int))=false:=Zf (by omega);have d2:decide (m<48)=false:=Zf (by omega);have d3:decide (57<m)=false:=Zf (by omega);clear hdg HF1 HS HK;go_wp2_with fail
      go_round
      case rel=>exact ⟨k+1,by omega,by go_num,HR⟩
      case measure=>simp [intOf];omega
    ·have HR:=Zh (HT.out (fun j hj=>HK.out j hj (by rw [HN.out] at hj;omega)));clear HK;go_wp2_with fail;go_ret;exact ⟨by rw [HR.out];rfl,rfl⟩
theorem Zgu (w:World) (l:List UInt8) (hl:l.length<=1000000000):Calls Tryz.prog 80 #[.string (tx l)] w fun e w'=>e= .returned (.bool (dfB l))/\w=w':=by
  have HD:=Zh (fun (w1:World)=>Zqs w1 l hl);have hsz:(tx l).size=l.length:=Zan _;have hdf:dfB l=(!l.isEmpty && (decide (l.length=1) || !(l.head?==some 48)) && l.all digB):=rfl
  by_cases hlt:0<l.length
  ·have hi: ∀ (w:World),(Instr.index 9 (.string (tx l)) (.int .i64 0)).run Tryz.prog w= .ok (.int .u8 (l[0].toNat:Int)) w:=fun w=>Zcu (P:=Tryz.prog) (t:=9) Tryz.underlying9 _ 0 hlt w;have hem:l.isEmpty=false:=by cases l with|nil=>cases hlt|cons a r=>rfl
   have hway:(l.length=1/\dfB l=l.all digB)∨(1<l.length/\((l[0].toNat:Int)==48)=true/\dfB l=false)∨(1<l.length/\((l[0].toNat:Int)==48)=false/\dfB l=l.all digB):=by
     rcases (show l.length=1∨1<l.length by omega) with h|h
     ·exact .inl ⟨h,by rw [hdf,hem,h];simp⟩
     ·have hh:l.head?=some l[0]:=by rw [List.head?_eq_getElem?,List.getElem?_eq_getElem hlt]
      by_cases hc:l[0]=48
      ·exact .inr (.inl ⟨h,by rw [hc];rfl,by rw [hdf,hh,hc];simp;omega⟩)
      ·refine .inr (.inr ⟨h,beq_eq_false_iff_ne.2 fun e=>hc (UInt8.toNat_inj.1 (by rw [show (48:UInt8).toNat=48 from rfl];omega)),?_⟩);rw [hdf,hem,hh];simp [hc]
   clear hdf hem;generalize dfB l=B at *;generalize l.all digB=A at *;generalize (l[0].toNat:Int)=c at *;generalize tx l=X at *;generalize l.length=m at *;have d0:(m==0)=false:=beq_eq_false_iff_ne.2 (by omega);have d0':((m:Int)==0)=false:=beq_eq_false_iff_ne.2 (by omega)
   rcases hway with ⟨rfl,rfl⟩|⟨h1,h2,rfl⟩|⟨h1,h2,rfl⟩
   ·clear hlt hl;go_enter Tryz.func80,Tryz.ntmps80;go_wp2_with fail;refine (HD.out _).mono ?_;rintro e4 w4 ⟨rfl,rfl⟩;go_wp2_with fail;go_ret;exact ⟨rfl,rfl⟩
   ·have d1:decide (1<m)=true:=Zt h1;have d2:decide ((1:Int)<(m:Int))=true:=Zt (by omega);go_enter Tryz.func80,Tryz.ntmps80;go_wp2_with fail;go_ret;exact ⟨rfl,rfl⟩
   ·have d1:decide (1<m)=true:=Zt h1;have d2:decide ((1:Int)<(m:Int))=true:=Zt (by omega);go_enter Tryz.func80,Tryz.ntmps80;go_wp2_with fail;refine (HD.out _).mono ?_;rintro e4 w4 ⟨rfl,rfl⟩;go_wp2_with fail;go_ret;exact ⟨rfl,rfl⟩
  ·have h0:l=[]:=List.length_eq_zero_iff.1 (by omega);subst h0;have e1:dfB []=false:=rfl;rw [e1];have e2:(tx [])=⟨#[]⟩:=rfl;rw [e2];clear HD hsz hdf e1 e2 hl hlt;go_enter Tryz.func80,Tryz.ntmps80;go_wp2_with fail;go_ret;exact ⟨rfl,rfl⟩
theorem Zj6 (w:World) (z:Int) (d:Nat) (K:Nat) (h1:Nd K z) (h2:Nd K (d:Int)) (hK:K<=400000):Calls Tryz.prog 60 #[.string (tx (Lib.itoa z++47::Lib.decDigits d))] w (Zr8 w z (d:Int)):=by
  obtain ⟨L,hL⟩: ∃L,L=Lib.itoa z++47::Lib.decDigits d:=⟨_,rfl⟩;rw [<-hL];have s1:=Zey h1;have s2:=Zey h2;have e1:(txz z).size=(Lib.itoa z).length:=Zan _;have e2:(txz (d:Int)).size=(Lib.decDigits d).length:=by rw [Zl4];exact Zan _
  have hN:(L).length=(Lib.itoa z).length+1+(Lib.decDigits d).length:=by rw [hL];simp;omega
  have hsz:(tx L).size=(L).length:=Zan _;have hx1:(tx L).extract 0 (Lib.itoa z).length=txz z:=by rw [Za7,hL];unfold txz;simp
  have hx2:(tx L).extract ((Lib.itoa z).length+1) (L).length=txz (d:Int):=by
    rw [Za7,List.take_length,hL,Zl4,<-List.drop_drop];simp
  have HSL:=Zh (fun (w1:World)=>(by
    have h:=Zid w1 (L) (by omega);rw [show Za2 L=(Lib.itoa z).length by rw [hL];exact Zfi (Zcw z)] at h;exact h:Calls Tryz.prog 79 #[.string (tx L)] w1 fun e w'=>e= .returned (.int .i64 (((Lib.itoa z).length:Nat):Int))/\w1=w'))
  have HPN:=Zh (fun (w1:World)=>Zjd w1 z K h1 (by omega));have HPD:=Zh (fun (w1:World)=>Zjd w1 (d:Int) K h2 (by omega));obtain ⟨X,hX⟩: ∃X,tx L=X:=⟨_,rfl⟩;obtain ⟨XN,hXN⟩: ∃X,txz z=X:=⟨_,rfl⟩;obtain ⟨XD,hXD⟩: ∃X,txz (d:Int)=X:=⟨_,rfl⟩;obtain ⟨k,hk⟩: ∃k,(Lib.itoa z).length=k:=⟨_,rfl⟩;obtain ⟨N,hNN⟩: ∃k,(L).length=k:=⟨_,rfl⟩;rw [hX] at HSL hsz hx1 hx2 ⊢;rw [hXN] at HPN hx1 e1 s1;rw [hXD] at HPD hx2 e2 s2;rw [hk] at HSL hx1 hx2 hN e1;rw [hNN] at hN hsz hx2;have hkN:k<N:=by omega
  have hNb:N<=1000000000:=by omega
  have k0:((k:Int)==(N:Int))=false:=beq_eq_false_iff_ne.2 (by omega);obtain ⟨zn,hzn⟩: ∃y,y=z:=⟨_,rfl⟩;rw [<-hzn] at HPN ⊢;obtain ⟨zd,hzd⟩: ∃y,y=(d:Int):=⟨_,rfl⟩;rw [<-hzd] at HPD ⊢;obtain ⟨k1,hk1⟩: ∃z,k+1=z:=⟨_,rfl⟩;rw [hk1] at hx2;have kk:(k:Int)+1=(k1:Int):=by omega
  have hk1N:k1<=N:=by omega
  clear hzn hzd hX hXN hXD hk hNN hN e1 e2 s1 s2 h1 h2 hL hk1;have HB_0:=Zh ((Below.refl w.heap.size w).alloc (Nat.le_refl _) (.cells #[.bool false,.slice none 0 0] 114));have HB:=Zh (HB_0.alloc HB_0.size (.cells #[.bool false,.slice none 0 0] 114));have HY:=Zh ((Box.new w #[.bool false,.slice none 0 0] 114).alloc (.cells #[.bool false,.slice none 0 0] 114));have HZ:=Zh (Box.newAt (w.alloc (.cells #[.bool false,.slice none 0 0] 114)) #[.bool false,.slice none 0 0] 114 (n:=w.heap.size+1) (by simp));obtain ⟨y0,y1,yf,yz⟩:=HY.v2;obtain ⟨z0,z1,zf,zz⟩:=HZ.v2;clear HB_0;go_enter Tryz.func60,Tryz.ntmps60;go_wp2_with fail;refine (HSL.out _).mono ?_;rintro e4 w4 ⟨rfl,rfl⟩;go_wp2_with fail;generalize hW:(w.alloc (.cells #[.bool false,.slice none 0 0] 114)).alloc (.cells #[.bool false,.slice none 0 0] 114)=w5 at *;refine Zap 9 (Zr7 [.is (.string X),.is (.int .i64 (k:Int)),.is (.string XN),.ig zn,.is (.string X),.is (.int .i64 (k:Int)),.is (.int .i64 (k1:Int)),.is (.string XD),.ig zd]) (by kernel_rfl) (by kernel_rfl) (fun j v u u' h hb=>Kg.later h hb) ?_ ?_
  ·refine ⟨?_,?_,?_,?_,?_,?_,?_,?_,?_,trivial⟩
   all_goals
     intro vs u hu hR;simp only [Zac,Z2,Z6,Act.put,Z1,Z4,Z5]
   rotate_left;rotate_left
   ·have e0:vs 0=_:=Zr hR 0;have e1:vs 1=_:=Zr hR 1;clear hR hu;go_wp2_with fail;exact ⟨rfl,rfl,_,_,rfl,rfl,Below.refl _ _,by rw [<-hx1];rfl⟩
   have e2:vs 2=_:=Zr hR 2;have HS:=Zh (HPN.out u);rotate_left;rotate_left;rotate_left;have e5:vs 5=_:=Zr hR 5;rotate_left
   ·have e4:vs 4=_:=Zr hR 4;have e6:vs 6=_:=Zr hR 6;clear hR hu;go_wp2_with fail;exact ⟨rfl,rfl,_,_,rfl,rfl,Below.refl _ _,by rw [<-hx2];rfl⟩
   have e7:vs 7=_:=Zr hR 7;have HS:=Zh (HPD.out u);rotate_left
   all_goals
     clear hR
     try clear hu
     go_wp2_with fail
     first|exact ⟨rfl,rfl,_,_,rfl,rfl,Below.refl _ _,rfl⟩|(refine HS.mono ?_;rintro e11 w11 ⟨v11,rfl,hi11,hb⟩;go_wp2_with fail;exact ⟨rfl,rfl,_,_,rfl,rfl,hb,hi11⟩)
  ·intro vs u hu hR;have hi3:IgR u (vs 3) zn:=hR 3 (by decide);have hi8:IgR u (vs 8) zd:=hR 8 (by decide);have HI3:=Zh hi3;have HI8:=Zh hi8;obtain ⟨a5,n5,c5,l5,e3,-⟩:=hi3;obtain ⟨a6,n6,c6,l6,e8,-⟩:=hi8;rw [e3] at HI3;rw [e8] at HI8;replace HB:=Zh (HB.Zg hu);replace HY:=Zh (HY.later hu);replace HZ:=Zh (HZ.later hu);simp only [Zac,Z3,Z7,Z2,Z6,Act.put,Z1,Z4,Z5,Nat.reduceAdd,Nat.zero_add,e3,e8];clear hR hu y0 y1 yf yz z0 z1 zf zz e3 e8;obtain ⟨y0,y1,yf,yz⟩:=HY.v2;obtain ⟨z0,z1,zf,zz⟩:=HZ.v2;obtain ⟨p5,hp5⟩: ∃p,decide (zn<0)=p:=⟨_,rfl⟩;obtain ⟨p6,hp6⟩: ∃p,decide (zd<0)=p:=⟨_,rfl⟩;rw [hp5] at HI3 ⊢;rw [hp6] at HI8 ⊢;clear hp5 hp6;go_wp2_with fail;refine bodyPost_ret (v:= .tuple #[.agg #[.bool p5,.slice a5 n5 c5],.agg #[.bool p6,.slice a6 n6 c6]]) (by simp [results,Tryz.results60,go_sem, *]) rfl ?_;have HZ2:=Zh ((HZ.other (a:=⟨w.heap.size,0,none⟩) (.bool p5) (by simp)).other (a:=⟨w.heap.size,1,none⟩) (.slice a5 n5 c5) (by simp));refine ⟨_,_,rfl,IgR.put (IgR.put HI3.out HY.out _ _) HZ2.out _ _,IgR.put (IgR.put HI8.out HY.out _ _) HZ2.out _ _,?_⟩
   repeat (first|with_reducible exact HB.out|with_reducible exact Below.refl _ _|refine .Zs ?_ _|refine .Za ?_ _|refine .drew ?_)
end Go.Proofs.YtijajkfmlghgkaaGreatDoor.Nu
