/- Lemmas on the way to the law TopMirrored: Kh Ki Kj Kk Ma Mg Mi Mj -/
import Derived.Test.YtijajkfmlghgkaaGreatDoorTopMirroredP11
set_option linter.unusedVariables false
set_option linter.unusedSimpArgs false
set_option maxRecDepth 100000
set_option maxHeartbeats 4000000
namespace Go.Proofs.YtijajkfmlghgkaaGreatDoor.Nu
open Go Go.Proofs Go.RowKit Go.Proofs.YtijajkfmlghgkaaGreatDoor
def DivK (K:Nat):Prop:=∀ (w:World) (a1 a2:Option Addr) (n1 n2 c1 c2:Nat) (l1 l2:List Nat) (m1 m2:Nat),DlR w (.slice a1 n1 c1) l1 m1->DlR w (.slice a2 n2 c2) l2 m2->l1.length<=400000->0<l2.length->l2.length<=K->
  Calls Tryz.prog 139 #[.slice a1 n1 c1,.slice a2 n2 c2] w (Znz w (m1 / m2) (m1 % m2))
theorem DlR.size {w:World} {a:Option Addr} {n c:Nat} {l:List Nat} {m:Nat} (h:DlR w (.slice a n c) l m):n=l.length:=by
  obtain ⟨a',c',e,_⟩:=h.sc;injection e
theorem DlR.lt {w w':World} {v v':Value} {l l':List Nat} {m m' K:Nat} (h:DlR w v l m) (h':DlR w' v' l' m') (hk:l'.length<=K) (hm:m<=m'):l.length<=K:=
  Ze7 (B:=1000000000) (by decide) h.tr (by
    rw [h.eq];have h1:=Zbg h'.dg;rw [h'.eq] at h1;have h2:(1000000000:Nat)^l'.length<=1000000000^K:=Nat.pow_le_pow_right (by decide) hk;omega)
theorem DlR.pos {w:World} {v:Value} {l:List Nat} {m:Nat} (h:DlR w v l m) (hl:0<l.length):0<m:=by
  have:=h.tr.le (B:=1000000000) hl;rw [h.eq] at this;have:0<(1000000000:Nat)^ (l.length-1):=Nat.pow_pos (by decide);omega
theorem DlR.zero {w:World} {v:Value} {l:List Nat} {m:Nat} (h:DlR w v l m) (hl:l.length=0):m=0:=by
  rw [<-h.eq,List.eq_nil_of_length_eq_zero hl];rfl
theorem DlR.uniq {w:World} {v:Value} {l l':List Nat} {m m':Nat} (h:DlR w v l m) (h':DlR w v l' m'):m=m':=by
  obtain ⟨a,c,rfl,_,_,hA⟩:=h.sc;obtain ⟨a',c',e,_,_,hA'⟩:=h'.sc;injection e with e1 e2 e3
  subst e1 e3;have hl:l=l':=by
    apply List.ext_getElem e2;intro i h1 h2;obtain ⟨b,off,rfl,_,hc⟩:=hA (by omega);obtain ⟨b',off',e,_,hc'⟩:=hA' (by omega);cases e;have k1:=Zny (hc i h1);rw [Zny (hc' i h2)] at k1;injection k1 with k1
    injection k1 with _ k1
    exact Int.ofNat.inj k1.symm
  rw [<-h.eq,<-h'.eq,hl]
noncomputable def theN (p:Nat->Prop):Nat:=open Classical in if h: ∃n,p n then Classical.choose h else 0
theorem Zlw {p:Nat->Prop} {m:Nat} (h:p m) (hu: ∀k,p k->k=m):theN p=m:=by
  unfold theN;rw [dif_pos ⟨m,h⟩];exact hu _ (Classical.choose_spec _)
theorem Zjb (w:World) (K:Nat) (hK:DivK K) (hK2:K<=400000) (a1 a2:Option Addr) (n1 n2 c1 c2:Nat) (l1 l2:List Nat) (m1 m2:Nat) (h1:DlR w (.slice a1 n1 c1) l1 m1) (h2:DlR w (.slice a2 n2 c2) l2 m2) (hb1:l1.length<=400000) (hb2:l2.length<=K):
    Calls Tryz.prog 81 #[.slice a1 n1 c1,.slice a2 n2 c2] w (RetDl w (Nat.gcd m1 m2)):=by
 have HK:=Zh hK;obtain ⟨G,hG⟩: ∃G,Nat.gcd m1 m2=G:=⟨_,rfl⟩;rw [hG];have H1:=Zh h1;have H2:=Zh h2;clear hK h1 h2;go_enter Tryz.func81,Tryz.ntmps81;go_wp2_with fail
 go_loopw [0,1] (fun x y wr=> ∃ (a1 a2:Option Addr) (n1 n2 c1 c2:Nat) (l1 l2:List Nat) (m1 m2:Nat),x= .slice a1 n1 c1/\y= .slice a2 n2 c2/\DlR wr (.slice a1 n1 c1) l1 m1/\DlR wr (.slice a2 n2 c2) l2 m2/\l1.length<=400000/\l2.length<=K/\Nat.gcd m1 m2=G/\Below w.heap.size w wr) (fun _ y wr=>theN fun m=> ∃l,DlR wr y l m)
 case atStart=>exact ⟨_,_,_,_,_,_,l1,l2,m1,m2,rfl,rfl,H1.out,H2.out,hb1,hb2,hG,Below.refl _ _⟩
 case round=>
   clear H1 H2 hb1 hb2 hG;obtain ⟨a1,a2,n1,n2,c1,c2,l1,l2,m1,m2,rfl,rfl,h1,h2,hb1,hb2,hg,hbe⟩:=hrel;have H1:=Zh h1;have H2:=Zh h2;have HB:=Zh hbe;have HG:=Zh hg;have hn2:=h2.size;have hl9:l2.length<=400000:=by omega
   subst hn2;obtain ⟨N,hN⟩: ∃N,l2.length=N:=⟨_,rfl⟩;rw [hN] at H2 hl9 ⊢;clear h1 h2 hbe hg
   rcases Nat.eq_zero_or_pos N with h0|h0
   ·subst h0;have HF:=Zh (show G=m1 by rw [<-HG.out,H2.zero hN];exact Nat.gcd_zero_right m1);clear hN;go_wp2_with fail;go_ret;exact ⟨_,_,_,_,rfl,by rw [HF.out];exact H1.out,HB.out⟩
   ·have k0:decide (0<N)=true:=Zt h0;have HC:=Zh (HK.out wr a1 a2 n1 N c1 c2 l1 l2 m1 m2 H1.out H2.out hb1 (by omega) hb2);have HM:=Zh (H2.pos (by omega));have HN:=Zh hN;have HL:=Zh (And.intro hb2 hl9);clear hN h0 hb1 hb2 hl9;go_wp2_with fail;refine HC.mono ?_;rintro e4 w4 ⟨a4,n4,c4,l4,a5,n5,c5,l5,rfl,hq,hr,hb⟩;have HR:=Zh hr;have HQ:=Zh (H2.later hb);have HB4:=Zh (HB.Zg hb);clear hq hr hb;go_wp2_with fail;go_roundw
    case rel=>exact ⟨_,_,_,_,_,_,l2,l5,m2,_,rfl,rfl,HQ.out,HR.out,by rw [HN.out];exact HL.out.2,HR.lt HQ.out HL.out.1 (Nat.le_of_lt (Nat.mod_lt _ HM.out)),by rw [<-HG.out,Nat.gcd_comm m1 m2,Nat.gcd_rec m2 m1,Nat.gcd_comm],HB4.out⟩
    case measure=>
      show theN (fun m=> ∃l,DlR _ _ l m)<theN (fun m=> ∃l,DlR _ _ l m);rw [Zlw ⟨l5,HR.out⟩ (fun k ⟨l,h⟩=>h.uniq HR.out),Zlw ⟨l2,H2.out⟩ (fun k ⟨l,h⟩=>h.uniq H2.out)];exact Nat.mod_lt _ HM.out
theorem Zjc {K m:Nat} (h:m<1000000000^K):(Lib.decDigits m).length<=9* K+1:=
  (Zaw (k:=9* K+1) (by omega)).2 (by
    have e:(1000000000:Nat)^K=10^ (9* K):=by rw [Nat.pow_mul]
    have:(10:Nat)^ (9* K)<=10^ (9* K+1):=Nat.pow_le_pow_right (by decide) (by omega);omega)
theorem Zey {K:Nat} {z:Int} (h:Nd K z):(txz z).size<=9* K+2:=by
  unfold txz;rw [Zan];have h1:=Zjc h.lt
  rcases Int.lt_or_le z 0 with h0|h0
  ·rw [Zbc h0,List.length_cons];omega
  ·rw [Zav h0,Zfq h0];omega
theorem Nd.mono {K:Nat} {z z':Int} (h:Nd K z) (hz:z'.natAbs<=z.natAbs):Nd K z':=⟨Nat.lt_of_le_of_lt hz h.lt⟩
theorem Nd.up {K K':Nat} {z:Int} (h:Nd K z) (hk:K<=K'):Nd K' z:=⟨Nat.lt_of_lt_of_le h.lt (Nat.pow_le_pow_right (by decide) hk)⟩
structure PaI (L m:Nat) (c:List UInt8) (d:List Nat):Prop where
  pos:0<c.length
  len:9* d.length+c.length=L
  dig: ∀x∈c,Zcb x
  dg:Dg 1000000000 d
  eq:val 1000000000 d+1000000000^d.length* dval c=m
theorem PaI.step {L m:Nat} {c:List UInt8} {d:List Nat} (h:PaI L m c d) (hc:9<c.length):
    PaI L m (c.take (c.length-9)) (d++ [dval (c.drop (c.length-9))])/\dval (c.drop (c.length-9))<1000000000/\∀x∈c.drop (c.length-9),Zcb x:=by
 have hd: ∀x∈c.drop (c.length-9),Zcb x:=fun x hx=>h.dig x (List.mem_of_mem_drop hx);have hl:(c.drop (c.length-9)).length=9:=by rw [List.length_drop];omega
 have hx:dval (c.drop (c.length-9))<1000000000:=by
   have:=Zc0 hd;rw [hl,show (10:Nat)^9=1000000000 by decide] at this;exact this
 refine ⟨⟨by rw [List.length_take];omega,by rw [List.length_append,List.length_singleton,List.length_take];have:=h.len;omega,fun x hx=>h.dig x (List.mem_of_mem_take hx),h.dg.app (Dg.one hx),?_⟩,hx,hd⟩;have e:=Zgh (c.take (c.length-9)) (c.drop (c.length-9));rw [List.take_append_drop,hl,show (10:Nat)^9=1000000000 by decide] at e;rw [Zcj,Zbr,List.length_append,List.length_singleton,Nat.pow_succ,Nat.add_assoc,Nat.mul_assoc,<-Nat.mul_add,show dval (c.drop (c.length-9))+1000000000* dval (c.take (c.length-9))=dval c by omega];exact h.eq
theorem PaI.done {L m:Nat} {c:List UInt8} {d:List Nat} (h:PaI L m c d) (hc:c.length<=9):dval c<1000000000/\val 1000000000 (d++ [dval c])=m/\Dg 1000000000 (d++ [dval c]):=by
  have hx:dval c<1000000000:=by
    have h1:=Zc0 h.dig;have h2:(10:Nat)^c.length<=10^9:=Nat.pow_le_pow_right (by decide) hc;rw [show (10:Nat)^9=1000000000 by decide] at h2;omega
  exact ⟨hx,by rw [Zcj,Zbr];exact h.eq,h.dg.app (Dg.one hx)⟩
theorem Zjd (w:World) (z:Int) (K:Nat) (hz:Nd K z) (hK:K<=900000):Calls Tryz.prog 137 #[.string (txz z)] w (RetG w z):=by
  obtain ⟨p,hp⟩: ∃p,decide (z<0)=p:=⟨_,rfl⟩;have HZS:=Zh (show Zbb p z.natAbs=z by rw [<-hp];unfold Zbb;by_cases h:z<0 <;> simp [h] <;> omega)
  have HSG:=Zh (fun (w1:World) (v:Value) (l:List Nat) (h:Sc encD 1 w1 w1.heap.size v l) (hd:Dg 1000000000 l) (hv:val 1000000000 l=z.natAbs)=>(by
    obtain ⟨a,c,rfl,_⟩:=h.shape;have h:=Znw w1 p a _ c l h hd;rw [hv,HZS.out] at h;exact ⟨a,l.length,c,rfl,h⟩: ∃a n c,v= .slice a n c/\Calls Tryz.prog 140 #[.bool p,.slice a n c] w1 (RetG w1 z)))
  have hln:=Zjc hz.lt;have h0:=Zdt z.natAbs;obtain ⟨b,hb⟩: ∃b,Lib.decDigits z.natAbs=b:=⟨_,rfl⟩;rw [hb] at hln h0;have HPA:=Zh (show PaI b.length z.natAbs b [] from ⟨h0,by simp,by rw [<-hb];exact Zcl _,Dg.nil _,by rw [<-hb,Zbv];simp [val]⟩);have hsg:(p=true/\txz z=tx (45::b))∨(p=false/\txz z=tx b):=by
    by_cases hn:z<0
    ·exact .inl ⟨by rw [<-hp];exact Zt hn,by unfold txz;rw [Zbc hn,hb]⟩
    ·exact .inr ⟨by rw [<-hp];exact Zf hn,by unfold txz;rw [Zav (by omega),Zfq (by omega),hb]⟩
  have hsb:(tx b).size=b.length:=Zan _;have hh0:b.head?≠some 45:=by
    rw [<-hb];intro e;exact Ziz _ (List.mem_of_mem_head? e)
  have hi0: ∀ (w:World),(Instr.index 9 (.string (tx b)) (.int .i64 0)).run Tryz.prog w= .ok (.int .u8 (b[0].toNat:Int)) w:=fun w=>Zcu (P:=Tryz.prog) (t:=9) Tryz.underlying9 _ 0 h0 w;have hc0:((b[0].toNat:Int)==45)=false:=beq_eq_false_iff_ne.2 (fun e=>by
    rw [List.head?_eq_getElem?,List.getElem?_eq_getElem h0] at hh0;exact hh0 (congrArg some (UInt8.toNat_inj.1 (by rw [show (45:UInt8).toNat=45 from rfl];omega))))
  have hi1: ∀ (w:World),(Instr.index 9 (.string (tx (45::b))) (.int .i64 0)).run Tryz.prog w= .ok (.int .u8 45) w:=fun w=>Zcu (P:=Tryz.prog) (t:=9) Tryz.underlying9 (45::b) 0 (by simp) w;have hx0:(tx (45::b)).extract 1 (b.length+1)=tx b:=by
    rw [Za7];simp
  have hs1:(tx (45::b)).size=b.length+1:=Zan _;have hL:b.length<=8100001:=by omega
  have d1:decide (0<b.length)=true:=Zt h0;generalize hTX:txz z=X at *;clear hTX hln hh0 hb hp hz hK;have HB:=Zh ((Below.refl w.heap.size w).alloc (Nat.le_refl _) (.cells #[.bool false,.slice none 0 0] 114));have HZ:=Zh (Box.new w #[.bool false,.slice none 0 0] 114);obtain ⟨z0,z1,zf,zz⟩:=HZ.v2;generalize b[0].toNat=cc at *;generalize hX1:tx (45::b)=X1 at *;generalize hB1:tx b=B1 at *;obtain ⟨L,hLb⟩: ∃L,b.length=L:=⟨_,rfl⟩;have HT0:=Zh hB1;rw [hLb] at hsb hx0 hs1 hL d1 HPA;clear hX1 hB1 hLb h0
  rcases hsg with ⟨rfl,rfl⟩|⟨rfl,rfl⟩
  ·clear hi0 hc0 HZS;go_enter Tryz.func137,Tryz.ntmps137;go_wp2_with fail;clear hsb d1
   go_loopw [0,4] (fun s o wr=> ∃ (c:List UInt8) (v:Value) (d:List Nat),s= .string (tx c)/\v=o/\PaI L z.natAbs c d/\Below w.heap.size w wr/\Box wr w.heap.size 114 [.bool false,.slice none 0 0]/\w.heap.size+1<=wr.heap.size/\Own encD 1 3 wr (w.heap.size+1) v d) (fun s _ _=>slen s)
   case atStart=>exact ⟨b,_,[],by rw [HT0.out],rfl,HPA.out,HB.out,HZ.out,by simp,Own.nil _ _ _ _ _⟩
   case round=>
     clear HPA HT0 HB HZ z0 z1 zf zz;obtain ⟨c,v,d,rfl,rfl,hpa,hbe,hbz,hsz,hown⟩:=hrel;have HPA:=Zh hpa;have HB:=Zh hbe;have HZ:=Zh hbz;have HO:=Zh hown;have HNZ:=Zh hsz;have hcz:(tx c).size=c.length:=Zan c;have hdl:d.length<=1000000:=by have:=hpa.len;omega
     have hcl:c.length<=8100001:=by have:=hpa.len;omega
     by_cases h9:9<c.length
     ·obtain ⟨hn,hx9,hdd⟩:=hpa.step h9;have HN:=Zh hn;have hv1: ∀w1:World,Calls Tryz.prog 136 #[.string (tx (c.drop (c.length-9)))] w1 fun e w'=>e= .returned (.int .i64 ((dval (c.drop (c.length-9)):Nat):Int))/\w1=w':=fun w1=>Zez w1 _ (by rw [List.length_drop];omega) hdd;have HV:=Zh hv1;have e1:(tx c).extract (c.length-9) c.length=tx (c.drop (c.length-9)):=by rw [Za7,List.take_length]
      have e2:(tx c).extract 0 (c.length-9)=tx (c.take (c.length-9)):=by rw [Za7];simp
      have HM:=Zh (show slen (.string (tx (c.take (c.length-9))))<slen (.string (tx c)) by simp only [slen,Zan,List.length_take];omega);have k1:decide (9<c.length)=true:=Zt h9;have k1':decide ((9:Int)<(c.length:Int))=true:=Zt (by omega);have k3:(9<c.length)=True:=eq_true h9;obtain ⟨M,hM⟩: ∃M,c.length-9=M:=⟨_,rfl⟩;have k2:IntKind.i64.wrap ((c.length:Int)-9)=(M:Int):=by rw [IntWalk.i64_in _ (by omega)];omega
      have hmn:M<=c.length:=by omega
      rw [hM] at HN HV e1 e2 HM hx9;generalize tx (c.drop M)=T1 at *;obtain ⟨T2,hT2⟩: ∃T,tx (c.take M)=T:=⟨_,rfl⟩;have HT2:=Zh hT2;rw [hT2] at e2 HM;generalize dval (c.drop M)=x at *;have HBA:=Zh (HB.alloc HB.size (.cells #[.int .i64 (x:Int)] 3));have HOA:=Zh (HO.alloc (.cells #[.int .i64 (x:Int)] 3));have HZA:=Zh (HZ.alloc (.cells #[.int .i64 (x:Int)] 3));have HSZ:=Zh (show w.heap.size+1<=(wr.alloc (.cells #[.int .i64 (x:Int)] 3)).heap.size by simp;omega);have HRH:=Zh (Box.new wr #[.int .i64 (x:Int)] 3);have HDL:=Zh hdl;clear hpa hbe hbz hsz hown hn hx9 hdd hv1 h9 hM hT2 hdl HPA HB HO HZ;generalize tx c=T0 at *;generalize c.length=N at *;go_wp2_with fail;refine (HV.out _).mono ?_;rintro e4 w4 ⟨rfl,rfl⟩;go_wp2_with (at_builtin;(refine Zbt encD 1 8 27 3 _ Tryz.underlying27 Zgs rfl (by decide) (by decide) Zao Zde d x (w.heap.size+1) _ _ _ _ HRH.out rfl _ HOA.out HSZ.out HDL.out rfl _ _ rfl rfl rfl ?_);intro v' w' hown' hg');go_roundw
      case rel=>exact ⟨c.take M,v',d++ [x],by rw [HT2.out],rfl,HN.out,HBA.grown hg' (by have:=HBA.size;omega) (fun k hk=>by have:=HOA.lt' k hk;omega),HZA.kept hg' (fun e=>by have:=HOA.lt' _ e.symm;omega),Nat.le_trans HSZ.out hg'.size,hown'⟩
      case measure=>exact HM.out
     ·obtain ⟨hx9,hve,hdd⟩:=hpa.done (by omega);have HVE:=Zh (And.intro hve hdd);have HV:=Zh (fun w1:World=>Zez w1 c (by omega) hpa.dig);have k1:decide (9<c.length)=false:=Zf h9;have k1':decide ((9:Int)<(c.length:Int))=false:=Zf (by omega);generalize dval c=x at *;have HBA:=Zh (HB.alloc HB.size (.cells #[.int .i64 (x:Int)] 3));have HOA:=Zh (HO.alloc (.cells #[.int .i64 (x:Int)] 3));have HZA:=Zh (HZ.alloc (.cells #[.int .i64 (x:Int)] 3));have HSZ:=Zh (show w.heap.size+1<=(wr.alloc (.cells #[.int .i64 (x:Int)] 3)).heap.size by simp;omega);have HRH:=Zh (Box.new wr #[.int .i64 (x:Int)] 3);have HDL:=Zh hdl;have HDL2:=Zh (show (d++ [x]).length<=1000000000 by rw [List.length_append,List.length_singleton];omega);clear hpa hbe hbz hsz hown hve hx9 hdd h9 hdl HPA HB HO HZ;generalize tx c=T0 at *;generalize c.length=N at *;go_wp2_with fail;refine (HV.out _).mono ?_;rintro e4 w4 ⟨rfl,rfl⟩;go_wp2_with (at_builtin;(refine Zbt encD 1 8 27 3 _ Tryz.underlying27 Zgs rfl (by decide) (by decide) Zao Zde d x (w.heap.size+1) _ _ _ _ HRH.out rfl _ HOA.out HSZ.out HDL.out rfl _ _ rfl rfl rfl ?_);intro v' w' hown' hg';obtain ⟨a',n',c',e',hcall⟩:=HSG.out w' v' _ (Sc.of_own Zao HDL2.out hown') HVE.out.2 HVE.out.1;subst e');refine hcall.mono ?_;rintro e5 w5 ⟨v5,rfl,hi5,hb⟩;have HI5:=Zh hi5;have HBW:=Zh (HBA.grown hg' (by have:=HBA.size;omega) (fun k hk=>by have:=HOA.lt' k hk;omega));have HZW:=Zh (HZA.kept hg' (fun e=>by have:=HOA.lt' _ e.symm;omega));have HB5:=Zh (HBW.Zg hb);have HZ5:=Zh (HZW.later hb);obtain ⟨a5,n5,c5,l5,rfl,_⟩:=hi5;obtain ⟨z0,z1,zf,zz⟩:=HZ5.v2;clear hb hcall hown' hg';go_wp2_with fail;refine bodyPost_ret (v:= .agg #[.bool (decide (z<0)),.slice a5 n5 c5]) (by simp [results,Tryz.results137,go_sem, *]) rfl ?_;refine ⟨_,rfl,IgR.put HI5.out HZ5.out _ _,?_⟩
      repeat (first|with_reducible exact HB5.out|with_reducible exact Below.refl _ _|refine .Zs ?_ _|refine .Za ?_ _|refine .drew ?_)
  ·clear hi1 hx0 hs1 HZS;go_enter Tryz.func137,Tryz.ntmps137;go_wp2_with fail;clear hsb d1
   go_loopw [0,4] (fun s o wr=> ∃ (c:List UInt8) (v:Value) (d:List Nat),s= .string (tx c)/\v=o/\PaI L z.natAbs c d/\Below w.heap.size w wr/\Box wr w.heap.size 114 [.bool false,.slice none 0 0]/\w.heap.size+1<=wr.heap.size/\Own encD 1 3 wr (w.heap.size+1) v d) (fun s _ _=>slen s)
   case atStart=>exact ⟨b,_,[],by rw [HT0.out],rfl,HPA.out,HB.out,HZ.out,by simp,Own.nil _ _ _ _ _⟩
   case round=>
     clear HPA HT0 HB HZ z0 z1 zf zz;obtain ⟨c,v,d,rfl,rfl,hpa,hbe,hbz,hsz,hown⟩:=hrel;have HPA:=Zh hpa;have HB:=Zh hbe;have HZ:=Zh hbz;have HO:=Zh hown;have HNZ:=Zh hsz;have hcz:(tx c).size=c.length:=Zan c;have hdl:d.length<=1000000:=by have:=hpa.len;omega
     have hcl:c.length<=8100001:=by have:=hpa.len;omega
     by_cases h9:9<c.length
     ·obtain ⟨hn,hx9,hdd⟩:=hpa.step h9;have HN:=Zh hn;have hv1: ∀w1:World,Calls Tryz.prog 136 #[.string (tx (c.drop (c.length-9)))] w1 fun e w'=>e= .returned (.int .i64 ((dval (c.drop (c.length-9)):Nat):Int))/\w1=w':=fun w1=>Zez w1 _ (by rw [List.length_drop];omega) hdd;have HV:=Zh hv1;have e1:(tx c).extract (c.length-9) c.length=tx (c.drop (c.length-9)):=by rw [Za7,List.take_length]
      have e2:(tx c).extract 0 (c.length-9)=tx (c.take (c.length-9)):=by rw [Za7];simp
      have HM:=Zh (show slen (.string (tx (c.take (c.length-9))))<slen (.string (tx c)) by simp only [slen,Zan,List.length_take];omega);have k1:decide (9<c.length)=true:=Zt h9;have k1':decide ((9:Int)<(c.length:Int))=true:=Zt (by omega);have k3:(9<c.length)=True:=eq_true h9;obtain ⟨M,hM⟩: ∃M,c.length-9=M:=⟨_,rfl⟩;have k2:IntKind.i64.wrap ((c.length:Int)-9)=(M:Int):=by rw [IntWalk.i64_in _ (by omega)];omega
      have hmn:M<=c.length:=by omega
      rw [hM] at HN HV e1 e2 HM hx9;generalize tx (c.drop M)=T1 at *;obtain ⟨T2,hT2⟩: ∃T,tx (c.take M)=T:=⟨_,rfl⟩;have HT2:=Zh hT2;rw [hT2] at e2 HM;generalize dval (c.drop M)=x at *;have HBA:=Zh (HB.alloc HB.size (.cells #[.int .i64 (x:Int)] 3));have HOA:=Zh (HO.alloc (.cells #[.int .i64 (x:Int)] 3));have HZA:=Zh (HZ.alloc (.cells #[.int .i64 (x:Int)] 3));have HSZ:=Zh (show w.heap.size+1<=(wr.alloc (.cells #[.int .i64 (x:Int)] 3)).heap.size by simp;omega);have HRH:=Zh (Box.new wr #[.int .i64 (x:Int)] 3);have HDL:=Zh hdl;clear hpa hbe hbz hsz hown hn hx9 hdd hv1 h9 hM hT2 hdl HPA HB HO HZ;generalize tx c=T0 at *;generalize c.length=N at *;go_wp2_with fail;refine (HV.out _).mono ?_;rintro e4 w4 ⟨rfl,rfl⟩;go_wp2_with (at_builtin;(refine Zbt encD 1 8 27 3 _ Tryz.underlying27 Zgs rfl (by decide) (by decide) Zao Zde d x (w.heap.size+1) _ _ _ _ HRH.out rfl _ HOA.out HSZ.out HDL.out rfl _ _ rfl rfl rfl ?_);intro v' w' hown' hg');go_roundw
      case rel=>exact ⟨c.take M,v',d++ [x],by rw [HT2.out],rfl,HN.out,HBA.grown hg' (by have:=HBA.size;omega) (fun k hk=>by have:=HOA.lt' k hk;omega),HZA.kept hg' (fun e=>by have:=HOA.lt' _ e.symm;omega),Nat.le_trans HSZ.out hg'.size,hown'⟩
      case measure=>exact HM.out
     ·obtain ⟨hx9,hve,hdd⟩:=hpa.done (by omega);have HVE:=Zh (And.intro hve hdd);have HV:=Zh (fun w1:World=>Zez w1 c (by omega) hpa.dig);have k1:decide (9<c.length)=false:=Zf h9;have k1':decide ((9:Int)<(c.length:Int))=false:=Zf (by omega);generalize dval c=x at *;have HBA:=Zh (HB.alloc HB.size (.cells #[.int .i64 (x:Int)] 3));have HOA:=Zh (HO.alloc (.cells #[.int .i64 (x:Int)] 3));have HZA:=Zh (HZ.alloc (.cells #[.int .i64 (x:Int)] 3));have HSZ:=Zh (show w.heap.size+1<=(wr.alloc (.cells #[.int .i64 (x:Int)] 3)).heap.size by simp;omega);have HRH:=Zh (Box.new wr #[.int .i64 (x:Int)] 3);have HDL:=Zh hdl;have HDL2:=Zh (show (d++ [x]).length<=1000000000 by rw [List.length_append,List.length_singleton];omega);clear hpa hbe hbz hsz hown hve hx9 hdd h9 hdl HPA HB HO HZ;generalize tx c=T0 at *;generalize c.length=N at *;go_wp2_with fail;refine (HV.out _).mono ?_;rintro e4 w4 ⟨rfl,rfl⟩;go_wp2_with (at_builtin;(refine Zbt encD 1 8 27 3 _ Tryz.underlying27 Zgs rfl (by decide) (by decide) Zao Zde d x (w.heap.size+1) _ _ _ _ HRH.out rfl _ HOA.out HSZ.out HDL.out rfl _ _ rfl rfl rfl ?_);intro v' w' hown' hg';obtain ⟨a',n',c',e',hcall⟩:=HSG.out w' v' _ (Sc.of_own Zao HDL2.out hown') HVE.out.2 HVE.out.1;subst e');refine hcall.mono ?_;rintro e5 w5 ⟨v5,rfl,hi5,hb⟩;have HI5:=Zh hi5;have HBW:=Zh (HBA.grown hg' (by have:=HBA.size;omega) (fun k hk=>by have:=HOA.lt' k hk;omega));have HZW:=Zh (HZA.kept hg' (fun e=>by have:=HOA.lt' _ e.symm;omega));have HB5:=Zh (HBW.Zg hb);have HZ5:=Zh (HZW.later hb);obtain ⟨a5,n5,c5,l5,rfl,_⟩:=hi5;obtain ⟨z0,z1,zf,zz⟩:=HZ5.v2;clear hb hcall hown' hg';go_wp2_with fail;refine bodyPost_ret (v:= .agg #[.bool (decide (z<0)),.slice a5 n5 c5]) (by simp [results,Tryz.results137,go_sem, *]) rfl ?_;refine ⟨_,rfl,IgR.put HI5.out HZ5.out _ _,?_⟩
      repeat (first|with_reducible exact HB5.out|with_reducible exact Below.refl _ _|refine .Zs ?_ _|refine .Za ?_ _|refine .drew ?_)
def Zr8 (w:World) (p q:Int) (e:Ending) (w':World):Prop:=∃x y,e= .returned (.tuple #[x,y])/\IgR w' x p/\IgR w' y q/\Below w.heap.size w w'
end Go.Proofs.YtijajkfmlghgkaaGreatDoor.Nu
namespace Go.Proofs.YtijajkfmlghgkaaGreatDoor
structure WinR (B:Nat) (W0 v:List Nat) (un u1 u2 v1 v2:Nat):Prop where
  win:Win B W0 v
  hun:W0[v.length]'win.len=un
  hu1:W0[v.length-1]'(by have:=win.len;omega)=u1
  hu2:W0[v.length-2]'(by have:=win.len;omega)=u2
  hv1:v[v.length-1]'(by have:=win.two;omega)=v1
  hv2:v[v.length-2]'(by have:=win.two;omega)=v2
  nm:B<4* v1
theorem WinR.lts {B:Nat} {W0 v:List Nat} {un u1 u2 v1 v2:Nat} (h:WinR B W0 v un u1 u2 v1 v2):un<=v1/\u1<B/\u2<B/\v1<B/\v2<B/\un<B:=by
  have h1:=h.win.un_le;rw [h.hun,h.hv1] at h1;have h2:=h.win.dw.get (v.length-1) (by have:=h.win.len;omega);have h3:=h.win.dw.get (v.length-2) (by have:=h.win.len;omega);have h4:=h.win.dv.get (v.length-1) (by have:=h.win.two;omega);have h5:=h.win.dv.get (v.length-2) (by have:=h.win.two;omega);rw [h.hu1] at h2;rw [h.hu2] at h3;rw [h.hv1] at h4;rw [h.hv2] at h5;exact ⟨h1,h2,h3,h4,h5,by omega⟩
theorem Zlx {B:Nat} {W0 v:List Nat} {un u1 u2 v1 v2:Nat} (h:WinR B W0 v un u1 u2 v1 v2):Gue B W0 v un u1 v1 ((B* un+u1) / v1) ((B* un+u1) % v1):=by
  have hv:0<v1:=by have:=h.nm;omega
  have e:=Gue.start h.win (t:=(B* un+u1) / v1) (r:=(B* un+u1) % v1) (by rw [h.hun,h.hu1,h.hv1,Nat.mul_comm _ v1];exact Nat.div_add_mod _ _) (by rw [h.hv1];exact Nat.mod_lt _ hv)
  rwa [h.hun,h.hu1,h.hv1] at e
theorem Zpl {B:Nat} {W0 v:List Nat} {un u1 u2 v1 v2 t r:Nat} (h:WinR B W0 v un u1 u2 v1 v2) (g:Gue B W0 v un u1 v1 t r):t<B+4/\(B<=r->t<B):=by
  obtain ⟨l1,l2,l3,l4,l5,l6⟩:=h.lts;have hn:=h.nm;have e:=g.top;have e1:B* un<=B* v1:=Nat.mul_le_mul_left _ l1;refine ⟨?_,fun hr=> ?_⟩
  ·have e2:t* v1<(B+4) * v1:=by rw [Nat.add_mul];omega
   exact Nat.lt_of_mul_lt_mul_right e2
  ·have e2:t* v1<B* v1:=by omega
   exact Nat.lt_of_mul_lt_mul_right e2
theorem Zje {B:Nat} {W0 v:List Nat} {un u1 u2 v1 v2 t r:Nat} (h:WinR B W0 v un u1 u2 v1 v2) (g:Gue B W0 v un u1 v1 t r) (hc:B<=t∨r* B+u2<t* v2):0<t/\Gue B W0 v un u1 v1 (t-1) (r+v1):=by
  obtain ⟨win,hun,hu1,hu2,hv1,hv2,_⟩:=h;rw [<-hun,<-hu1,<-hv1] at g ⊢;exact g.step win (hc.imp id fun hc=>by rw [hu2,hv2];exact hc)
structure GuE (B:Nat) (W0 v:List Nat) (t:Nat):Prop where
  ge:val B W0<(t+1) * val B v
  le:t* val B v<=val B W0+val B v
  lt:t<B
theorem Zgt {B:Nat} {W0 v:List Nat} {un u1 u2 v1 v2 t r:Nat} (h:WinR B W0 v un u1 u2 v1 v2) (g:Gue B W0 v un u1 v1 t r) (hc:B<=r∨(t<B/\t* v2<=r* B+u2)):GuE B W0 v t:=by
  have hb:=Zpl h g;have ht:t<B:=hc.elim hb.2 And.left;refine ⟨g.ge,?_,ht⟩;obtain ⟨win,hun,hu1,hu2,hv1,hv2,_⟩:=h;rw [<-hun,<-hu1,<-hv1] at g;exact g.done win (by omega) (hc.imp id fun hc=>by rw [hu2,hv2];exact hc.2)
theorem Zr9 {B:Nat} {l:List Nat} (hd:Dg B l) (h0:0<l.length) {b1:Nat} (hb:l[l.length-1]=b1) (h1:0<b1):
    0<B / (b1+1)/\B / (b1+1)<B/\B / (b1+1) * val B l<B^l.length/\B^ (l.length-1) * (B / (b1+1) * b1)<=B / (b1+1) * val B l/\B<4* (B / (b1+1) * b1):=by
 have hbB:b1<B:=by rw [<-hb];exact hd.get _ (by omega)
 obtain ⟨f,hf⟩: ∃f,B / (b1+1)=f:=⟨_,rfl⟩;have hf0:0<f:=by rw [<-hf];exact Nat.div_pos (by omega) (by omega)
 have hf1:f* (b1+1)<=B:=by rw [<-hf];exact Nat.div_mul_le_self _ _
 have hf2:B<(f+1) * (b1+1):=by
   have:=Nat.div_add_mod B (b1+1);have:=Nat.mod_lt B (show 0<b1+1 by omega);rw [hf] at *;rw [Nat.add_mul,Nat.mul_comm f];omega
 have e2:val B l=val B (l.take (l.length-1))+B^ (l.length-1) * b1:=by
   rw [<-hb,<-Zag B l _ (by omega),List.take_of_length_le (by omega)]
 have e3:=Zbg (hd.take (l.length-1));rw [List.length_take,Nat.min_eq_left (by omega)] at e3;have e5:B^l.length=B* B^ (l.length-1):=by rw [<-Nat.pow_succ',show (l.length-1).succ=l.length by omega]
 rw [hf,e5];generalize B^ (l.length-1)=P at *;generalize val B (l.take (l.length-1))=a at *;refine ⟨hf0,?_,?_,?_,?_⟩
 ·have:f* 2<=f* (b1+1):=Nat.mul_le_mul_left _ (by omega);omega
 ·rw [e2];have h6:f* (a+P* b1)<f* (P* (b1+1)):=Nat.mul_lt_mul_of_pos_left (by rw [Nat.mul_add];omega) hf0;have h7:f* (P* (b1+1))=P* (f* (b1+1)):=Nat.mul_left_comm _ _ _;have h8:P* (f* (b1+1))<=P* B:=Nat.mul_le_mul_left _ hf1;rw [Nat.mul_comm B P];omega
 ·rw [e2,Nat.mul_add,Nat.mul_left_comm f P b1];omega
 ·have h9:(f+1) * (b1+1)<=(2* f) * (2* b1):=Nat.mul_le_mul (by omega) (by omega);have h10:(2* f) * (2* b1)=4* (f* b1):=by rw [Nat.mul_mul_mul_comm]
  omega
theorem Zly {B:Nat} {l v:List Nat} (hd:Dg B l) (h0:0<l.length) {b1:Nat} (hb:l[l.length-1]=b1) (h1:0<b1) (dv:Dg B v) (tv:Tr v) (hv:val B v=B / (b1+1) * val B l):
    v.length=l.length/\∃h:v.length-1<v.length,B<4* v[v.length-1]'h:=by
 obtain ⟨s1,s2,s3,s4,s5⟩:=Zr9 hd h0 hb h1;have hB:2<=B:=by omega
 have hlt:=Zbg dv;have hle:v.length<=l.length:=Ze7 hB tv (by rw [hv];exact s3);have hpos:0<B / (b1+1) * b1:=by omega
 generalize B / (b1+1) * b1=x at *;have h3:B^ (l.length-1) * x<B^v.length:=by omega
 have h4:B^ (l.length-1)<B^v.length:=Nat.lt_of_le_of_lt (Nat.le_mul_of_pos_right _ hpos) h3;have h5:l.length-1<v.length:=(Nat.pow_lt_pow_iff_right (by omega)).1 h4;have hL:v.length=l.length:=by omega
 refine ⟨hL,by omega,?_⟩;have e2:val B v=val B (v.take (v.length-1))+B^ (v.length-1) * v[v.length-1]'(by omega):=by
   rw [<-Zag B v _ (by omega),List.take_of_length_le (by omega)]
 have e3:=Zbg (dv.take (v.length-1));rw [List.length_take,Nat.min_eq_left (by omega)] at e3;have h6:B^ (v.length-1) * x<B^ (v.length-1) * (v[v.length-1]'(by omega)+1):=by rw [Nat.mul_add];rw [<-hL] at s4;omega
 have:=Nat.lt_of_mul_lt_mul_left h6;omega
theorem Zlz {B S:Nat} {l1 l2 V U q:List Nat} (hS:0<S) (hd1:Dg B l1) (t2:Tr l2) (hn:0<l2.length) (hle:l2.length<=l1.length) (hU:U.length=l1.length+1) (hdU:Dg B U) (hvU:val B U=S* val B l1) (hV:val B V=S* val B l2) (hVl:V.length=l2.length) (hq:q.length=l1.length+1-l2.length):
    LdI B (S* val B l1) (val B V) U q V.length q.length:=by
 refine LdI.start (by omega) hdU hvU ?_;have h1:=Zbg hd1;have h2:=t2.le (B:=B) hn;rw [hV,Nat.mul_assoc];refine Nat.mul_lt_mul_of_pos_left ?_ hS;have h3:B^ (l2.length-1) * B^q.length<=val B l2* B^q.length:=Nat.mul_le_mul_right _ h2;rw [<-Nat.pow_add,show l2.length-1+q.length=l1.length by omega] at h3;omega
theorem Zn0 {B S m1 m2:Nat} {V U q:List Nat} (hS:0<S) (hm2:0<m2) (dV:Dg B V) (hV:val B V=S* m2) (h:LdI B (S* m1) (val B V) U q V.length 0) (hn:V.length<=U.length):
    val B q=m1 / m2/\Dg B q/\val B (U.take V.length)=S* (m1 % m2):=by
 have hv0:0<val B V:=by rw [hV];exact Nat.mul_pos hS hm2
 obtain ⟨h1,h2,h3⟩:=h.done hv0;rw [hV,Nat.mul_div_mul_left _ _ hS] at h1;refine ⟨h1,h3,?_⟩;have h4:=Za3 B U V.length hn;have h5:val B U<B^V.length:=by
   have:=Zbg dV;have:=Nat.mod_lt (S* m1) hv0;omega
 have h6:val B (U.drop V.length)=0:=by
   rcases Nat.eq_zero_or_pos (val B (U.drop V.length)) with h|h
   ·exact h
   ·have:=Nat.le_mul_of_pos_right (B^V.length) h;omega
 rw [h6,Nat.mul_zero,Nat.add_zero] at h4;rw [<-h4,h2,hV,Nat.mul_mod_mul_left]
end Go.Proofs.YtijajkfmlghgkaaGreatDoor
namespace Go.Proofs.YtijajkfmlghgkaaGreatDoor.Nu
open Go Go.Proofs Go.RowKit Go.Proofs.YtijajkfmlghgkaaGreatDoor
theorem Zl0 {w:World} {a:Option Addr} {n c:Nat} {l:List Nat} (h:Sc encD 1 w w.heap.size (.slice a n c) l) (h0:0<l.length): ∃b o,a=some ⟨b,o,none⟩/\n=l.length/\b<w.heap.size/\∀i (hi:i<l.length),w.cell? ⟨b,o+i,none⟩=some (.int .i64 (l[i]:Int)):=by
  obtain ⟨a',c',e,h1,h2,h⟩:=h;injection e with e1 e2 e3
  subst e1 e2 e3;obtain ⟨b,o,rfl,hb,hc⟩:=h h0;exact ⟨b,o,rfl,rfl,hb,fun i hi=>by have:=(hc i hi).c1;rwa [Nat.mul_one] at this⟩
theorem Zn1 (w:World) (a1 a2:Option Addr) (n1 c1 n c2 j:Nat) (U V:List Nat) (h1:Sc encD 1 w w.heap.size (.slice a1 n1 c1) U) (h2:Sc encD 1 w w.heap.size (.slice a2 n c2) V) (hU:U.length<=1000000000) {un u1 u2 v1 v2:Nat} (hw:WinR 1000000000 (U.drop j) V un u1 u2 v1 v2):
    Calls Tryz.prog 214 #[.slice a1 n1 c1,.slice a2 n c2,.int .i64 (j:Int)] w fun e w'=> ∃t:Nat,e= .returned (.int .i64 (t:Int))/\GuE 1000000000 (U.drop j) V t/\Below w.heap.size w w':=by
 have hlw:=hw.win.len;have htw:=hw.win.two;rw [List.length_drop] at hlw;obtain ⟨b1,o1,rfl,rfl,hb1,hc1⟩:=Zl0 h1 (by omega);obtain ⟨b2,o2,rfl,hnV,hb2,hc2⟩:=Zl0 h2 (by omega);have f0:=hw.hun;have f1:=hw.hu1;have f2:=hw.hu2;have f3:=hw.hv1;have f4:=hw.hv2;obtain ⟨q,hq⟩: ∃q,j+n=q:=⟨_,rfl⟩;obtain ⟨q1,hq1⟩: ∃q1,q=q1+1:=⟨q-1,by omega⟩;obtain ⟨q2,hq2⟩: ∃q2,q=q2+2:=⟨q-2,by omega⟩;obtain ⟨m1,hm1⟩: ∃m1,n=m1+1:=⟨n-1,by omega⟩;obtain ⟨m,hm⟩: ∃m,n=m+2:=⟨n-2,by omega⟩;simp only [List.getElem_drop] at f0 f1 f2;have e0:U[q]'(by omega)=un:=(show U[q]'(by omega)=U[j+V.length]'(by omega) from by congr 1;omega).trans f0;have e1:U[q1]'(by omega)=u1:=(show U[q1]'(by omega)=U[j+(V.length-1)]'(by omega) from by congr 1;omega).trans f1;have e2:U[q2]'(by omega)=u2:=(show U[q2]'(by omega)=U[j+(V.length-2)]'(by omega) from by congr 1;omega).trans f2;have e3:V[m1]'(by omega)=v1:=(show V[m1]'(by omega)=V[V.length-1]'(by omega) from by congr 1;omega).trans f3;have e4:V[m]'(by omega)=v2:=(show V[m]'(by omega)=V[V.length-2]'(by omega) from by congr 1;omega).trans f4;have g0:=hc1 q (by omega);have g1:=hc1 q1 (by omega);have g2:=hc1 q2 (by omega);have g3:=hc2 m1 (by omega);have g4:=hc2 m (by omega);rw [e0] at g0;rw [e1] at g1;rw [e2] at g2;rw [e3] at g3;rw [e4] at g4;have hqU:q<U.length:=by omega
 have hqU1:q1<U.length:=by omega
 have hqU2:q2<U.length:=by omega
 have hmn1:m1<n:=by omega
 have hmn:m<n:=by omega
 have hnb:n<=1000000000:=by omega
 have kn1:(n:Int)-1=(m1:Int):=by omega
 have kn2:(n:Int)-2=(m:Int):=by omega
 have kq:(j:Int)+(n:Int)=(q:Int):=by omega
 have kq1:(q:Int)-1=(q1:Int):=by omega
 have kq2:(q:Int)-2=(q2:Int):=by omega
 obtain ⟨l1,l2,l3,l4,l5,l6⟩:=hw.lts;have hnm:=hw.nm;have HW:=Zh hw;obtain ⟨nu,hnu⟩: ∃n,U.length=n:=⟨_,rfl⟩;rw [hnu] at hlw hU hqU hqU1 hqU2 ⊢;obtain ⟨Q,hQ⟩: ∃Q:Nat->Prop,GuE 1000000000 (U.drop j) V=Q:=⟨_,rfl⟩;rw [hQ];have HQ:=Zh hQ;clear hQ h1 h2 hc1 hc2 f0 f1 f2 f3 f4 hw hnu e0 e1 e2 e3 e4 hq hq1 hq2 hm1 hm hnV hlw htw;obtain ⟨p,hp⟩: ∃p,un* 1000000000=p:=⟨_,rfl⟩;obtain ⟨s,hs⟩: ∃s,p+u1=s:=⟨_,rfl⟩;have HST:=Zh (Zlx HW.out);rw [show 1000000000* un+u1=s by omega] at HST;have ww1:IntKind.i64.wrap ((un:Int) * 1000000000)=(p:Int):=by rw [IntWalk.i64_in _ (by omega)];omega
 have ww2:IntKind.i64.wrap ((p:Int)+(u1:Int))=(s:Int):=by rw [IntWalk.i64_in _ (by omega)];omega
 have hv10: ¬v1=0:=by omega
 have hv11: ¬ (v1:Int)=0:=by omega
 have hdb:((v1:Int)==0)=false:=beq_eq_false_iff_ne.2 hv11;have hs9:s<2000000000000000000:=by omega
 have hsq:s / v1<=s:=Nat.div_le_self _ _;have hsr:s % v1<v1:=Nat.mod_lt _ (by omega);have ww4:(s:Int).tdiv (v1:Int)=((s / v1:Nat):Int):=by rw [Int.tdiv_eq_ediv_of_nonneg (by omega)];exact (Int.natCast_ediv s v1).symm
 have ww5:(s:Int).tmod (v1:Int)=((s % v1:Nat):Int):=by rw [Int.tmod_eq_emod_of_nonneg (by omega)];exact (Int.natCast_emod s v1).symm
 obtain ⟨t0,ht0⟩: ∃t,s / v1=t:=⟨_,rfl⟩;obtain ⟨r0,hr0⟩: ∃t,s % v1=t:=⟨_,rfl⟩;rw [ht0] at ww4 hsq HST;rw [hr0] at ww5 hsr HST;have ww6:IntKind.i64.wrap (t0:Int)=(t0:Int):=IntWalk.i64_in _ (by omega);have ww7:IntKind.i64.wrap (r0:Int)=(r0:Int):=IntWalk.i64_in _ (by omega);clear ht0 hr0 hp hs;go_enter Tryz.func214,Tryz.ntmps214;go_wp2_with fail
 go_quiet (fail)
 have hb0:=below_drewN (Below.refl w.heap.size w) nq;have g3q:=(hb0.cell (p:=⟨b2,o2+m1,none⟩) hb2).trans g3;have hb2q:=Nat.lt_of_lt_of_le hb2 hb0.size;generalize w.drewN nq=W0 at *;go_wp2_with fail
 go_quiet (fail)
 have HB0:=Zh (below_drewN hb0 nq);generalize W0.drewN nq=W2 at *;clear ww1 ww2 ww4 ww5 ww6 ww7 hdb g0 g1 g3q hb2q hb0;go_wp2_with fail
 go_loopw [9,10] (fun t r wr=> ∃tn rn:Nat,t= .int .i64 (tn:Int)/\r= .int .i64 (rn:Int)/\Gue 1000000000 (U.drop j) V un u1 v1 tn rn/\rn<1000000000/\Below w.heap.size w wr) (fun t _ _=>(intOf t).toNat)
 case atStart=>exact ⟨t0,r0,rfl,rfl,HST.out,by omega,HB0.out⟩
 case round=>
   obtain ⟨t,r,rfl,rfl,hge,hr,hbe⟩:=hrel;have HB:=Zh hbe;have htl:=(Zpl HW.out hge).1;have g2':=(hbe.cell (p:=⟨b1,o1+q2,none⟩) hb1).trans g2;have g3':=(hbe.cell (p:=⟨b2,o2+m1,none⟩) hb2).trans g3;have g4':=(hbe.cell (p:=⟨b2,o2+m,none⟩) hb2).trans g4;have hbz1:=Nat.lt_of_lt_of_le hb1 hbe.size;have hbz2:=Nat.lt_of_lt_of_le hb2 hbe.size;clear hbe HB0 HST hsr hsq hs9 W0 W2;obtain ⟨x,hx⟩: ∃x,t* v2=x:=⟨_,rfl⟩;obtain ⟨y,hy⟩: ∃y,r* 1000000000=y:=⟨_,rfl⟩;obtain ⟨z,hz⟩: ∃z,y+u2=z:=⟨_,rfl⟩;have hxb:x<=1000000004* 1000000000:=by rw [<-hx];exact Nat.mul_le_mul (by omega) (by omega)
   have ww1:IntKind.i64.wrap ((t:Int) * (v2:Int))=(x:Int):=by rw [IntWalk.i64_in _ (by rw [<-Int.natCast_mul,hx];omega),<-Int.natCast_mul,hx]
   have ww2:IntKind.i64.wrap ((r:Int) * 1000000000)=(y:Int):=by rw [IntWalk.i64_in _ (by omega)];omega
   have ww3:IntKind.i64.wrap ((y:Int)+(u2:Int))=(z:Int):=by rw [IntWalk.i64_in _ (by omega)];omega
   by_cases hB:1000000000<=t
   ·have d1:decide ((1000000000:Int)<=(t:Int))=true:=Zt (by omega);have d1':decide (1000000000<=t)=true:=Zt hB;have HC:=Zh (show 1000000000<=t∨r* 1000000000+u2<t* v2 from .inl hB);clear hB;go_wp2_with fail
    go_quiet (fail)
    have HB1:=Zh (below_drewN HB.out nq);have c3:=((below_drewN (Below.refl wr.heap.size wr) nq).cell (p:=⟨b2,o2+m1,none⟩) hbz2).trans g3';have hbz3:=Nat.lt_of_lt_of_le hbz2 (below_drewN (Below.refl wr.heap.size wr) nq).size;generalize wr.drewN nq=W1 at *;obtain ⟨hp0,hg2⟩:=Zje HW.out hge HC.out;obtain ⟨t',rfl⟩: ∃t',t=t'+1:=⟨t-1,by omega⟩;rw [Nat.add_sub_cancel] at hg2;obtain ⟨r2,hr2⟩: ∃x,r+v1=x:=⟨_,rfl⟩;rw [hr2] at hg2;have HG2:=Zh hg2;have w8:(r:Int)+(v1:Int)=(r2:Int):=by omega
    have hr2b:r2<2000000000:=by omega
    clear hg2 hge ww1 ww2 ww3 hx hy hz hxb g2' g4' hr2
    by_cases hr9:1000000000<=r2
    ·have d3:decide ((1000000000:Int)<=(r2:Int))=true:=Zt (by omega);have d3':decide (1000000000<=r2)=true:=Zt hr9;have HD:=Zh (Zgt HW.out HG2.out (.inl hr9));clear hr9;go_wp2_with fail;go_ret;exact ⟨t',by go_num,by rw [<-HQ.out];exact HD.out,HB1.out⟩
    ·have d3:decide ((1000000000:Int)<=(r2:Int))=false:=Zf (by omega);have d3':decide (1000000000<=r2)=false:=Zf hr9;have HR2:=Zh (show r2<1000000000 by omega);clear hr9;go_wp2_with fail;go_roundw
     case rel=>exact ⟨t',r2,by go_num,by go_num,HG2.out,HR2.out,HB1.out⟩
     case measure=>simp [intOf]
   ·have d1:decide ((1000000000:Int)<=(t:Int))=false:=Zf (by omega);have d1':decide (1000000000<=t)=false:=Zf hB
    by_cases hzx:z<x
    ·have d2:decide ((z:Int)<(x:Int))=true:=Zt (by omega);have d2':decide (z<x)=true:=Zt hzx;have HC:=Zh (show 1000000000<=t∨r* 1000000000+u2<t* v2 from .inr (by omega));clear hzx hB;go_wp2_with fail
     go_quiet (fail)
     have HB1:=Zh (below_drewN HB.out nq);have c3:=((below_drewN (Below.refl wr.heap.size wr) nq).cell (p:=⟨b2,o2+m1,none⟩) hbz2).trans g3';have hbz3:=Nat.lt_of_lt_of_le hbz2 (below_drewN (Below.refl wr.heap.size wr) nq).size;generalize wr.drewN nq=W1 at *;obtain ⟨hp0,hg2⟩:=Zje HW.out hge HC.out;obtain ⟨t',rfl⟩: ∃t',t=t'+1:=⟨t-1,by omega⟩;rw [Nat.add_sub_cancel] at hg2;obtain ⟨r2,hr2⟩: ∃x,r+v1=x:=⟨_,rfl⟩;rw [hr2] at hg2;have HG2:=Zh hg2;have w8:(r:Int)+(v1:Int)=(r2:Int):=by omega
     have hr2b:r2<2000000000:=by omega
     clear hg2 hge ww1 ww2 ww3 hx hy hz hxb g2' g4' hr2
     by_cases hr9:1000000000<=r2
     ·have d3:decide ((1000000000:Int)<=(r2:Int))=true:=Zt (by omega);have d3':decide (1000000000<=r2)=true:=Zt hr9;have HD:=Zh (Zgt HW.out HG2.out (.inl hr9));clear hr9;go_wp2_with fail;go_ret;exact ⟨t',by go_num,by rw [<-HQ.out];exact HD.out,HB1.out⟩
     ·have d3:decide ((1000000000:Int)<=(r2:Int))=false:=Zf (by omega);have d3':decide (1000000000<=r2)=false:=Zf hr9;have HR2:=Zh (show r2<1000000000 by omega);clear hr9;go_wp2_with fail;go_roundw
      case rel=>exact ⟨t',r2,by go_num,by go_num,HG2.out,HR2.out,HB1.out⟩
      case measure=>simp [intOf]
    ·have d2:decide ((z:Int)<(x:Int))=false:=Zf (by omega);have d2':decide (z<x)=false:=Zf hzx;have HD:=Zh (Zgt HW.out hge (.inr ⟨by omega,by omega⟩));clear hzx hB;go_wp2_with fail
     go_quiet (fail)
     have HB1:=Zh (below_drewN HB.out nq);go_wp2_with fail;go_ret;exact ⟨t,rfl,by rw [<-HQ.out];exact HD.out,HB1.out⟩
end Go.Proofs.YtijajkfmlghgkaaGreatDoor.Nu
namespace Go.Proofs.YtijajkfmlghgkaaGreatDoor
theorem Zcp {α:Type} (l:List α) (k i:Nat) (y:α):(l.set (k+i) y).drop k=(l.drop k).set i y:=by
  rw [List.drop_set,if_neg (by omega),Nat.add_sub_cancel_left]
theorem Zc9 {α:Type} (l:List α) (k i:Nat) (y:α):(l.set (k+i) y).take k=l.take k:=List.take_set_of_le (by omega)
theorem Zeg {α:Type} {a b:List α} {n:Nat} (h:a.drop n=b.drop n):a.drop (n+1)=b.drop (n+1):=by
  have h2:=congrArg (List.drop 1) h
  rwa [List.drop_drop,List.drop_drop] at h2
structure StD (B k:Nat) (u v u':List Nat) (t:Nat):Prop where
  len:u'.length=u.length
  tk:u'.take k=u.take k
  dg:Dg B u'
  zer: ∀x∈ (u'.drop k).drop v.length,x=0
  eq:val B ((u'.drop k).take v.length)+t* val B v=val B (u.drop k)
  lt:val B (u.drop k)<(t+1) * val B v
  tB:t<B
structure SbD (B:Nat) (u v u':List Nat) (k t c i:Nat):Prop where
  len:u'.length=u.length
  tk:u'.take k=u.take k
  dg:Dg B u'
  cB:c<=B
  sm:SmI B (u.drop k) v (u'.drop k) t c i
section
variable {B:Nat} {u v u' u3:List Nat} {k t c i x:Nat}
theorem SbD.start (h:Dg B u):SbD B u v u k t 0 0:=⟨rfl,rfl,h,by omega,SmI.start (h.drop k)⟩
theorem SbD.step (h:SbD B u v u' k t c i) (hi:i<v.length) (hw:k+i<u'.length) {s c':Nat} (hc:c'<=B) (hs:s<B) (he:s+t* v[i]+c=u'[k+i]+B* c'):SbD B u v (u'.set (k+i) s) k t c' (i+1):=
  ⟨by rw [List.length_set];exact h.len,by rw [Zc9];exact h.tk,h.dg.set _ hs,hc,by
    rw [Zcp];exact h.sm.step hi (by rw [List.length_drop];omega) hs (by rw [List.getElem_drop];exact he)⟩
theorem SbD.un (h:SbD B u v u' k t c v.length) (hk:k+v.length<u'.length) (hk2:k+v.length<u.length):u'[k+v.length]=u[k+v.length]:=by
  have h1:=h.sm.rest;rw [List.drop_drop,List.drop_drop,List.drop_eq_getElem_cons hk,List.drop_eq_getElem_cons hk2] at h1;injection h1
theorem SbD.done (h:SbD B u v u' k t c v.length) (hW:Win B (u.drop k) v) (hd:GuE B (u.drop k) v t) (hk2:k+v.length<u.length):
    (t* val B v<=val B (u.drop k)/\c=u[k+v.length]/\val B ((u'.drop k).take v.length)+t* val B v=val B (u.drop k))∨
    (val B (u.drop k)<t* val B v/\c=u[k+v.length]+1/\val B ((u'.drop k).take v.length)+t* val B v=val B (u.drop k)+B^v.length):=by
 have h1:=h.sm.done hW hd.ge hd.le;rw [List.getElem_drop] at h1;exact h1
theorem SbD.good (h:SbD B u v u' k t c v.length) (hW:Win B (u.drop k) v) (hd:GuE B (u.drop k) v t) (he:val B ((u'.drop k).take v.length)+t* val B v=val B (u.drop k)):StD B k u v (u'.set (k+v.length) 0) t:=by
  have hB:0<B:=by have:=hd.lt;omega
  refine ⟨by rw [List.length_set];exact h.len,by rw [Zc9];exact h.tk,h.dg.set _ hB,?_,?_,hd.ge,hd.lt⟩
  ·rw [Zcp];have hl:v.length<((u'.drop k).set v.length 0).length:=by
    rw [List.length_set,h.sm.len];exact hW.len
   rw [List.drop_eq_getElem_cons hl,List.getElem_set_self,List.drop_set_of_lt (by omega)];intro x hx
   rcases List.mem_cons.1 hx with rfl|hx
   ·rfl
   ·rw [Zeg h.sm.rest] at hx;exact hW.zer x hx
  ·rw [Zcp,List.take_set_of_le (Nat.le_refl _)];exact he
structure AbD (B:Nat) (u u2 v u3:List Nat) (k c i:Nat):Prop where
  len:u3.length=u.length
  tk:u3.take k=u.take k
  dg:Dg B u3
  ab:AbI B (u2.drop k) v (u3.drop k) c i
theorem AbD.start (h:SbD B u v u' k t c v.length) (hB:0<B):AbD B u (u'.set (k+v.length) 0) v (u'.set (k+v.length) 0) k 0 0:=
  ⟨by rw [List.length_set];exact h.len,by rw [Zc9];exact h.tk,h.dg.set _ hB,AbI.start ((h.dg.set _ hB).drop k)⟩
theorem AbD.step {u2:List Nat} (h:AbD B u u2 v u3 k c i) (hv:Dg B v) (hB:0<B) (hi:i<v.length) (hw:k+i<u3.length) {s:Nat} (hs:s=u3[k+i]+v[i]+c):AbD B u u2 v (u3.set (k+i) (s % B)) k (s / B) (i+1):=
  ⟨by rw [List.length_set];exact h.len,by rw [Zc9];exact h.tk,h.dg.set _ (Nat.mod_lt _ hB),by
    rw [Zcp];exact h.ab.step hv hi (by rw [List.length_drop];omega) (by rw [List.getElem_drop];exact hs)⟩
theorem AbD.un (h3:AbD B u (u'.set (k+v.length) x) v u3 k c v.length) (hw2:k+v.length<u'.length):u3[k+v.length]?=some x:=by
  have h1:=congrArg (fun l:List Nat=>l[0]?) h3.ab.rest;simp only [List.getElem?_drop,Nat.add_zero] at h1;rw [h1,List.getElem?_set_self hw2]
theorem AbD.bad {c3:Nat} (h:SbD B u v u' k t c v.length) (hW:Win B (u.drop k) v) (hd:GuE B (u.drop k) v t) (hlt:val B (u.drop k)<t* val B v) (he:val B ((u'.drop k).take v.length)+t* val B v=val B (u.drop k)+B^v.length)
    (h3:AbD B u (u'.set (k+v.length) x) v u3 k c3 v.length):c3=1/\0<t/\StD B k u v (u3.set (k+v.length) 0) (t-1):=by
 have hB:0<B:=by have:=hd.lt;omega
 have ht:0<t:=by
   rcases Nat.eq_zero_or_pos t with rfl|h0
   ·omega
   ·exact h0
 have hd2:(u'.set (k+v.length) x).drop k=(u'.drop k).set v.length x:=Zcp _ _ _ _;have hab:=h3.ab;rw [hd2] at hab;obtain ⟨hc,hval⟩:=AbI.done hW (by rw [List.length_set];exact h.sm.len) ht hlt hd.le (by rw [List.take_set_of_le (Nat.le_refl _)];exact he) hab;refine ⟨hc,ht,by rw [List.length_set];exact h3.len,by rw [Zc9];exact h3.tk,h3.dg.set _ hB,?_,?_,?_,by have:=hd.lt;omega⟩
 ·rw [Zcp];have hl:v.length<((u3.drop k).set v.length 0).length:=by
   rw [List.length_set,hab.len,List.length_set,h.sm.len];exact hW.len
  rw [List.drop_eq_getElem_cons hl,List.getElem_set_self,List.drop_set_of_lt (by omega)];intro y hy
  rcases List.mem_cons.1 hy with rfl|hy
  ·rfl
  ·rw [Zeg hab.rest,List.drop_set_of_lt (by omega),Zeg h.sm.rest] at hy;exact hW.zer y hy
 ·rw [Zcp,List.take_set_of_le (Nat.le_refl _)];exact hval
 ·rw [show t-1+1=t by omega];exact hlt
theorem StD.ld {A:Nat} {q:List Nat} (h:StD B k u v u' t) (hv:Dg B v) (hv0:0<val B v) (hk:k<q.length) (hl:LdI B A (val B v) u q v.length (k+1)):LdI B A (val B v) u' (q.set k t) v.length k:=
  hl.step hv hv0 hk h.len h.dg h.tk h.zer h.eq h.lt h.tB
theorem Zqn {B t y c x:Nat} (hB2:2<=B) (ht:t<B) (hy:y<B) (hc:c<=B) (hx:x<B):(t* y+c) / B+1<=B/\
    (((x:Int)-(((t* y+c) % B:Nat):Int)<0/\∃s:Nat,(x:Int)-(((t* y+c) % B:Nat):Int)+(B:Int)=(s:Int)/\s<B/\s+t* y+c=x+B* ((t* y+c) / B+1))∨
     (0<=(x:Int)-(((t* y+c) % B:Nat):Int)/\∃s:Nat,(x:Int)-(((t* y+c) % B:Nat):Int)=(s:Int)/\s<B/\s+t* y+c=x+B* ((t* y+c) / B))):=by
 have hB:0<B:=by omega
 have h1:t* y+c<B* B:=by
   obtain ⟨b,rfl⟩: ∃b,B=b+1:=⟨B-1,by omega⟩;have h2:t* y<=b* b:=Nat.mul_le_mul (by omega) (by omega);have:(b+1) * (b+1)=b* b+2* b+1:=by grind
   omega
 have h3:(t* y+c) / B<B:=Nat.div_lt_of_lt_mul h1;have h4:=Nat.div_add_mod (t* y+c) B;have h5:=Nat.mod_lt (t* y+c) hB;generalize (t* y+c) / B=d at *;generalize (t* y+c) % B=m at *;refine ⟨by omega,?_⟩
 by_cases h:x<m
 ·refine .inl ⟨by omega,x+B-m,by omega,by omega,?_⟩;rw [Nat.mul_add];omega
 ·refine .inr ⟨by omega,x-m,by omega,by omega,?_⟩;omega
end
end Go.Proofs.YtijajkfmlghgkaaGreatDoor
namespace Go.Proofs.YtijajkfmlghgkaaGreatDoor.Nu
open Go Go.Proofs Go.RowKit Go.Proofs.YtijajkfmlghgkaaGreatDoor
theorem Zj5 {α:Type} (f:α->List Value) (sz bytes:Nat) (t e:TypeId) (z:Value) {P:Program} (hT:P.underlying t=some (.slice e)) (hI:(P.info? e).map (fun i=>(i.zero,i.size,i.bytes))=some (some z,sz,bytes))
    (hzs:z.cells.size=sz) (hsz:0<sz) (hby:bytes<=1000) (hf: ∀x,(f x).length=sz) (h1c: ∀x,∀u∈f x,u.oneCell'=true)
    (l l2:List α) (base:Nat) (w:World) (v:Value) (hown:Own f sz e w base v l) (hbase:base<=w.heap.size) (hlen:l.length+l2.length<=2000000000) (p:Addr) (c:Nat)
    (hat: ∀i (h:i<l2.length),∀j u,(f l2[i])[j]?=some u->w.cell? (p.add (i* sz+j))=some u)
    {ops:Array Oper} {rest:List Oper} {o:Oper} {a:Act} {Q:Exit->Act->World->Prop} (hgd:o.guard=none) (s y:Operand)
    (ho:o.op= .call { callee:= .builtin .append,args:= #[s,y],argTypes:= #[t,t] }) (hs:a.eval s=v) (hy:a.eval y= .slice (some p) l2.length c)
    (h: ∀v' w',Own f sz e w' base v' (l++l2)->w.grownBy w' v.ownBlock->wpList P ops Q rest (a.put o.dst v') w'):wpList P ops Q (o::rest) a w:=by
 obtain ⟨i,hi,hz0,hz1,hz2⟩:=info_parts hI;have hmul:(l.length+l2.length) * bytes<=2000000000* 1000:=Nat.mul_le_mul hlen hby
 refine wpList_append_own _ hgd s y t ho base e i z sz bytes hT hi hz0 hz1 hz2 hzs hsz v l.length _ hs hown p l2.length c (l2.flatMap f) hy (Zbq f sz hf l2) ?_ ?_ (by simp [maxLen];omega) (by omega) hbase ?_
 ·intro j u hu;have hj:j<l2.length* sz:=by rw [<-Zbq f sz hf l2];exact (List.getElem?_eq_some_iff.1 hu).1
  have hd:j / sz<l2.length:=(Nat.div_lt_iff_lt_mul hsz).2 hj;have hm:=Nat.div_add_mod j sz;rw [Nat.mul_comm] at hm;have h2:=Zce f sz hf l2 (j / sz) hd (j % sz) (Nat.mod_lt _ hsz);rw [hm,hu] at h2;have h3:=hat (j / sz) hd (j % sz) u h2.symm
  rwa [hm] at h3
 ·intro u hu;obtain ⟨x,_,hx⟩:=List.mem_flatMap.1 hu;exact h1c x u hx
 ·intro v' w' h1 h2 _;refine h v' w' ?_ h2;unfold Own;rw [List.length_append,List.flatMap_append];exact h1
def neL (l:List Nat) (p:Nat):List Int:=(l.map fun x:Nat=>(x:Int)).set p (-1)
theorem Zjf (l:List Nat):(l.map fun x:Nat=>(x:Int)).flatMap encI=l.flatMap encD:=by
  induction l with
  | nil=>rfl
  | cons x r ih=>rw [List.map_cons,List.flatMap_cons,List.flatMap_cons,ih];rfl
theorem Zsa {w:World} {base:Nat} {v:Value} {l:List Nat} (h:Own encD 1 3 w base v l):Own encI 1 3 w base v (l.map fun x:Nat=>(x:Int)):=by
  unfold Own at *;rw [List.length_map,Zjf];exact h
theorem Zsb {w:World} {base:Nat} {v:Value} {l:List Nat} (h:Own encI 1 3 w base v (l.map fun x:Nat=>(x:Int))):Own encD 1 3 w base v l:=by
  unfold Own at *;rw [List.length_map,Zjf] at h;exact h
theorem Zda (x:Int):(encI x).length=1:=rfl
theorem Zqo {l:List Nat} {p i y:Nat} (h:i≠p):(neL l p).set i (y:Int)=neL (l.set i y) p:=by
  unfold neL;rw [List.set_comm _ _ (fun e=>h e.symm),List.map_set]
theorem Zqp {l:List Nat} {p:Nat}:(neL l p).set p 0=(l.set p 0).map fun x:Nat=>(x:Int):=by
  unfold neL;rw [List.set_set,List.map_set];rfl
theorem Zqq {l:List Nat} {p i:Nat} (h:i≠p) (hi:i<l.length):(neL l p)[i]?=some ((l[i]:Nat):Int):=by
  unfold neL;rw [List.getElem?_set_ne (fun e=>h e.symm),List.getElem?_map,List.getElem?_eq_getElem hi];rfl
end Go.Proofs.YtijajkfmlghgkaaGreatDoor.Nu
