/- Lemmas on the way to the law TopMirrored: Vq Vr Vz -/
import Derived.Test.YtijajkfmlghgkaaGreatDoorTopMirroredP20
set_option linter.unusedVariables false
set_option linter.unusedSimpArgs false
set_option maxRecDepth 100000
set_option maxHeartbeats 4000000
namespace Go.Proofs.YtijajkfmlghgkaaGreatDoor.Nu
open Go Go.Proofs Go.RowKit Go.Maps Go.Proofs.YtijajkfmlghgkaaGreatDoor
theorem infoP:(Tryz.prog.info? 221).map (fun i=>(i.zero,i.size,i.bytes))=some (some (.agg #[.int .i64 0,.int .i64 0]),2,16):=by kernel_rfl
theorem Zou (x:Int×Int): ∀u∈encP x,u.oneCell'=true:=by intro u hu;simp [encP] at hu;rcases hu with rfl|rfl <;> rfl
theorem Own.capN {α:Type} {f:α->List Value} {sz:Nat} {e:TypeId} {w:World} {base g n c:Nat} {l:List α} (h:Own f sz e w base (.slice (some ⟨g,0,none⟩) n c) l) (_hn:l.length=n):n<=c/\c<=maxLen:=by
  obtain ⟨_,h2⟩:=h
  rcases h2 with ⟨h0,_⟩|⟨g',cap',cur,hv,hg,hh,hn,hcap,hsz,htake⟩
  ·cases h0
  ·injection hv with e1 e2 e3
   omega
theorem Zba {w:World} {b:Nat} {e:TypeId} {vs:List Value} (h:Box w b e vs) (k:Nat) (x:Value) (hx:vs[k]?=some x):w.cell? ⟨b,k,none⟩=some x:=(h.cell k).trans hx
theorem Zbs (W0:World) (hw:TbR W0) (s:SqN) (so:SqO W0.heap.size s) (hx:ShR W0 s.x wShip) (w:World) (i j:Nat) (v:Value) (l:List (Int×Int)) (h:SqS W0 s w i j v l) (hi:i<=2) (hj:j<=2) (hl:l.length=i+j) (hsf:SafeS wShip [(20* i:Int),(20* j:Int)])
    (q0 q1:Bool) (h0:i<2->∀ (u:World) (v':Value) (l':List (Int×Int)),l'.length=i+1+j->SqS W0 s u (i+1) j v' l'->Calls Tryz.prog 148 s.cap u (SqP W0 s u q0)) (h1:j<2->∀ (u:World) (v':Value) (l':List (Int×Int)),l'.length=i+(j+1)->SqS W0 s u i (j+1) v' l'->Calls Tryz.prog 148 s.cap u (SqP W0 s u q1))
    (hr:(i<2/\q0=true)∨(j<2/\q1=true)∨(i=2/\j=2)):Calls Tryz.prog 148 s.cap w (SqP W0 s w true):=by
 have HR:=Zh h;have HSO:=Zh so;have HSFE:=Zh hsf;have HK:=Zh (fun (u:World) (hb:Below w.heap.size w u)=>SqS.key (h.later hb) hw hi hj);have HSF:=Zh (fun (u:World) (hb:Below w.heap.size w u)=>(by exact SqS.safe (h.later hb) hw hx hi hj:Calls Tryz.prog 76 #[.agg #[.slice s.x.ah s.x.nh s.x.ch,.slice s.x.aw s.x.nw s.x.cw,.slice s.x.ac s.x.nc s.x.cc,.slice s.x.az s.x.ns s.x.cs,.slice s.x.ab s.x.nb s.x.cb,.string (txq wShip.t)],.slice (some ⟨s.c,0,none⟩) 2 2] u (fun e w'=> ∃t:Bool,e= .returned (.bool t)/\(t=true↔SafeS wShip [(20* i:Int),(20* j:Int)])/\Below u.heap.size u w')));have H0:=Zh h0;have H1:=Zh h1;have HQR:=Zh hr;have HL:=Zh hl;clear hw hx h so h0 h1 hr hsf hl;obtain ⟨⟨ah,aw,ac,az,ab,nh,nw,nc,ns,nb,ch,cw,cc,cz,cb⟩,p0,p1,p2,p3,p4,p5,p6,d,c,m,G,r0,r1,gc⟩:=s;obtain ⟨T,hT⟩: ∃T,txq wShip.t=T:=⟨_,rfl⟩;dsimp only at HK HSF;simp only [hT] at HSF;have HP:=Zh (fun (u:World) (hb:SqS W0 ⟨⟨ah,aw,ac,az,ab,nh,nw,nc,ns,nb,ch,cw,cc,cz,cb⟩,p0,p1,p2,p3,p4,p5,p6,d,c,m,G,r0,r1,gc⟩ u i j v l)=>(show Box u p2 51 [.slice ah nh ch,.slice aw nw cw,.slice ac nc cc,.slice az ns cz,.slice ab nb cb,.string T] by have:=hb.bs;unfold ShV.cells at this;rw [hT] at this;exact this));have H0:=Zh (fun (h:i<2) (u:World) (v':Value) (l':List (Int×Int)) (hl:l'.length=i+1+j) (hs:SqS W0 ⟨⟨ah,aw,ac,az,ab,nh,nw,nc,ns,nb,ch,cw,cc,cz,cb⟩,p0,p1,p2,p3,p4,p5,p6,d,c,m,G,r0,r1,gc⟩ u (i+1) j v' l')=>(by exact H0.out h u v' l' hl hs:Calls Tryz.prog 148 #[.pointer (some ⟨p0,0,none⟩),.pointer (some ⟨p1,0,none⟩),.pointer (some ⟨p2,0,none⟩),.pointer (some ⟨p3,0,none⟩),.pointer (some ⟨p4,0,none⟩),.pointer (some ⟨p5,0,none⟩),.pointer (some ⟨p6,0,none⟩)] u (SqP W0 ⟨⟨ah,aw,ac,az,ab,nh,nw,nc,ns,nb,ch,cw,cc,cz,cb⟩,p0,p1,p2,p3,p4,p5,p6,d,c,m,G,r0,r1,gc⟩ u q0)));have H1:=Zh (fun (h:j<2) (u:World) (v':Value) (l':List (Int×Int)) (hl:l'.length=i+(j+1)) (hs:SqS W0 ⟨⟨ah,aw,ac,az,ab,nh,nw,nc,ns,nb,ch,cw,cc,cz,cb⟩,p0,p1,p2,p3,p4,p5,p6,d,c,m,G,r0,r1,gc⟩ u i (j+1) v' l')=>(by exact H1.out h u v' l' hl hs:Calls Tryz.prog 148 #[.pointer (some ⟨p0,0,none⟩),.pointer (some ⟨p1,0,none⟩),.pointer (some ⟨p2,0,none⟩),.pointer (some ⟨p3,0,none⟩),.pointer (some ⟨p4,0,none⟩),.pointer (some ⟨p5,0,none⟩),.pointer (some ⟨p6,0,none⟩)] u (SqP W0 ⟨⟨ah,aw,ac,az,ab,nh,nw,nc,ns,nb,ch,cw,cc,cz,cb⟩,p0,p1,p2,p3,p4,p5,p6,d,c,m,G,r0,r1,gc⟩ u q1)));have hox:=HSO.out;obtain ⟨o1,o2,o3,o4,o5,o6,o7,o8,o9,o10,o11,o12,o13⟩:=hox;dsimp only at o1 o2 o3 o4 o5 o6 o7 o8 o9 o10 o11 o12 o13;show Calls Tryz.prog 148 #[.pointer (some ⟨p0,0,none⟩),.pointer (some ⟨p1,0,none⟩),.pointer (some ⟨p2,0,none⟩),.pointer (some ⟨p3,0,none⟩),.pointer (some ⟨p4,0,none⟩),.pointer (some ⟨p5,0,none⟩),.pointer (some ⟨p6,0,none⟩)] w _;have HBS:=Zh (HP.out w HR.out);obtain ⟨y0,yf,yz⟩:=HR.bd.v1;obtain ⟨S,hS⟩: ∃S:SqN,S=⟨⟨ah,aw,ac,az,ab,nh,nw,nc,ns,nb,ch,cw,cc,cz,cb⟩,p0,p1,p2,p3,p4,p5,p6,d,c,m,G,r0,r1,gc⟩:=⟨_,rfl⟩;have HS0:=Zh hS;obtain ⟨QQ,hQQ⟩: ∃Q,SqP W0 ⟨⟨ah,aw,ac,az,ab,nh,nw,nc,ns,nb,ch,cw,cc,cz,cb⟩,p0,p1,p2,p3,p4,p5,p6,d,c,m,G,r0,r1,gc⟩ w true=Q:=⟨_,rfl⟩;rw [hQQ];have HQQ:=Zh hQQ;clear hT hQQ hS;have HKY:=Zh (Zpr (Zjm i j hi hj));generalize tx (keyL [(i:Int),(j:Int)])=K at *;dsimp only at y0 yf yz;have HKA:=Zh (HK.out w (Below.refl _ _));have HIN:=Zh infoP;clear HK;go_enter Tryz.func148,Tryz.ntmps148;go_wp2_with fail;refine HKA.mono ?_;rintro e3 w3 ⟨rfl,hb⟩;have HB3:=Zh hb;have HR3:=Zh (HR.later hb);have HX3:=Zh (HBS.later hb);have HM:=Zh HR3.mm;clear hb y0 yf yz HKA HR HBS;obtain ⟨y0,yf,yz⟩:=HR3.bd.v1;obtain ⟨m0,mf,mz⟩:=HR3.bf.v1;obtain ⟨c0,cf,cz'⟩:=HR3.bc.v1;obtain ⟨x0,x1,x2,x3,x4,x5,xf,xz⟩:=HX3.w6;dsimp only at y0 yf yz m0 mf mz c0 cf cz';have HS:=Zh (HSF.out _ HB3.out);clear HSF HP;go_wp2_with (first|(at_lookup;refine Zdd (f:=Zdo) HM.out Zmx Tryz.underlying218 Tryz.underlying4 (Tryz.zeroValue4 _) HKY.out rfl _ _ rfl rfl rfl ?_));refine HS.mono ?_;rintro e4 w4 ⟨t,rfl,ht,hb⟩;obtain rfl:t=true:=ht.2 HSFE.out;have HR4:=Zh (HR3.later hb);clear hb ht y0 yf yz m0 mf mz c0 cf cz' x0 x1 x2 x3 x4 x5 xf xz HS HX3 HM HR3 HB3 HSFE;obtain ⟨z0,zf,zz⟩:=HR4.bp.v1;dsimp only at z0 zf zz;go_wp2_with fail;clear z0 zf zz
 go_loopw [9,26] (fun b9 ct wr=> ∃ (k:Nat) (b:Bool) (v:Value) (l:List (Int×Int)),k<=2/\ct= .int .i64 (k:Int)/\b9= .bool b/\Hid (SqS W0 ⟨⟨ah,aw,ac,az,ab,nh,nw,nc,ns,nb,ch,cw,cc,cz,cb⟩,p0,p1,p2,p3,p4,p5,p6,d,c,m,G,r0,r1,gc⟩ wr i j v l)/\Hid (l.length=i+j)/\Hid ((i=2->j=2->b=false)/\(1<=k->i=2∨q0=false)/\(2<=k->j=2∨q1=false))) (fun _ ct _=>2-(intOf ct).toNat)
 case atStart=>exact ⟨0,false,v,l,by omega,rfl,rfl,HR4,HL,Zh ⟨fun _ _=>rfl,fun h=>by omega,fun h=>by omega⟩⟩
 case round=>
   clear HR4 HL;obtain ⟨k,b9,v,l,hk,rfl,rfl,HR,HL,HF⟩:=hrel;obtain ⟨y0,yf,yz⟩:=HR.bd.v1;dsimp only at y0 yf yz
   by_cases hk2:k<2
   ·obtain ⟨n,r,x1,x2,a1,b1,qk,hn2,g1,hr,hd0,hc0,hd1,hc1,hup,hdn,hrec,hi2,hi3⟩: ∃ (n r:Nat) (x1 x2 a1 b1:Int) (qk:Bool),n<=2/\wr.cell? ⟨G,k,none⟩=some (.slice (some ⟨r,0,none⟩) 2 2)/\Box wr r 3 [.int .i64 20,.int .i64 20]/\
        [Value.int .i64 (i:Int),.int .i64 (j:Int)][k]?=some (.int .i64 (n:Int))/\ [Value.int .i64 (20* i:Int),.int .i64 (20* j:Int)][k]?=some (.int .i64 (20* n:Int))/\ [Value.int .i64 x1,.int .i64 x2][k]?=some (.int .i64 ((n:Int)+1))/\ [Value.int .i64 a1,.int .i64 b1][k]?=some (.int .i64 (20* n+20:Int))/\
        (∀u v l,SqS W0 ⟨⟨ah,aw,ac,az,ab,nh,nw,nc,ns,nb,ch,cw,cc,cz,cb⟩,p0,p1,p2,p3,p4,p5,p6,d,c,m,G,r0,r1,gc⟩ u i j v l->SqR W0 ⟨⟨ah,aw,ac,az,ab,nh,nw,nc,ns,nb,ch,cw,cc,cz,cb⟩,p0,p1,p2,p3,p4,p5,p6,d,c,m,G,r0,r1,gc⟩ ((u.setCell ⟨d,k,none⟩ (.int .i64 ((n:Int)+1))).setCell ⟨c,k,none⟩ (.int .i64 (20* n+20:Int))) x1 x2 a1 b1 v l)/\
        (∀u v l,SqR W0 ⟨⟨ah,aw,ac,az,ab,nh,nw,nc,ns,nb,ch,cw,cc,cz,cb⟩,p0,p1,p2,p3,p4,p5,p6,d,c,m,G,r0,r1,gc⟩ u x1 x2 a1 b1 v l->SqS W0 ⟨⟨ah,aw,ac,az,ab,nh,nw,nc,ns,nb,ch,cw,cc,cz,cb⟩,p0,p1,p2,p3,p4,p5,p6,d,c,m,G,r0,r1,gc⟩ ((u.setCell ⟨d,k,none⟩ (.int .i64 (n:Int))).setCell ⟨c,k,none⟩ (.int .i64 (20* n:Int))) i j v l)/\
        (n<2->∀ (u:World) (v':Value) (l':List (Int×Int)),l'.length=i+j+1->SqR W0 ⟨⟨ah,aw,ac,az,ab,nh,nw,nc,ns,nb,ch,cw,cc,cz,cb⟩,p0,p1,p2,p3,p4,p5,p6,d,c,m,G,r0,r1,gc⟩ u x1 x2 a1 b1 v' l'->Calls Tryz.prog 148 #[.pointer (some ⟨p0,0,none⟩),.pointer (some ⟨p1,0,none⟩),.pointer (some ⟨p2,0,none⟩),.pointer (some ⟨p3,0,none⟩),.pointer (some ⟨p4,0,none⟩),.pointer (some ⟨p5,0,none⟩),.pointer (some ⟨p6,0,none⟩)] u (SqP W0 ⟨⟨ah,aw,ac,az,ab,nh,nw,nc,ns,nb,ch,cw,cc,cz,cb⟩,p0,p1,p2,p3,p4,p5,p6,d,c,m,G,r0,r1,gc⟩ u qk))/\
        (n=2->(i=2->j=2->b9=false)/\(1<=k+1->i=2∨q0=false)/\(2<=k+1->j=2∨q1=false))/\(n<2->qk=false->(i=2->j=2->true=false)/\(1<=k+1->i=2∨q0=false)/\(2<=k+1->j=2∨q1=false)):=by
     rcases (by omega:k=0∨k=1) with rfl|rfl
     ·refine ⟨i,r0,(i:Int)+1,j,20* i+20,20* j,q0,hi,HR.bg0.c1,HR.b0,rfl,rfl,rfl,rfl,fun u v l h=>SqR.c0 (SqR.d0 h HSO.out _) HSO.out _,fun u v l h=>SqR.c0 (SqR.d0 h HSO.out _) HSO.out _,fun hlt u v' l' hl hs=>H0.out hlt u v' l' (by omega) ?_,fun h=>⟨HF.out.1,fun _=> .inl h,fun h=>by omega⟩,fun h e=>⟨fun h'=>by omega,fun _=> .inr e,fun h=>by omega⟩⟩;show SqR W0 _ u _ _ _ _ _ _;rw [show (((i+1:Nat)):Int)=(i:Int)+1 from by omega,show (20:Int) * ((i:Int)+1)=20* (i:Int)+20 from by omega];exact hs
     ·refine ⟨j,r1,i,(j:Int)+1,20* i,20* j+20,q1,hj,HR.bg1.c1,HR.b1,rfl,rfl,rfl,rfl,fun u v l h=>SqR.c1 (SqR.d1 h HSO.out _) HSO.out _,fun u v l h=>SqR.c1 (SqR.d1 h HSO.out _) HSO.out _,fun hlt u v' l' hl hs=>H1.out hlt u v' l' (by omega) ?_,fun h=>⟨HF.out.1,fun _=>HF.out.2.1 (by omega),fun _=> .inl h⟩,fun h e=>⟨fun _ h'=>by omega,fun _=>HF.out.2.1 (by omega),fun _=> .inr e⟩⟩;show SqR W0 _ u _ _ _ _ _ _;rw [show (((j+1:Nat)):Int)=(j:Int)+1 from by omega,show (20:Int) * ((j:Int)+1)=20* (j:Int)+20 from by omega];exact hs
    have HUP:=Zh hup;have HDN:=Zh hdn;have HREC:=Zh hrec;have HI2:=Zh hi2;have HI3:=Zh hi3;have HD0:=Zh hd0;have HC0:=Zh hc0;have HD1:=Zh hd1;have HC1:=Zh hc1;have HRB:=Zh hr;clear hup hdn hrec hi2 hi3 hd0 hc0 hd1 hc1 hr;have dk:=Zba HR.dd k _ HD0.out;have df:=HR.dd.frozen;have dl:=HR.dd.lt;dsimp only at dk df dl
    by_cases hlt:n<2
    rotate_left
    ·obtain rfl:n=2:=by omega
     go_wp2_with fail;go_roundw
     case rel=>exact ⟨k+1,b9,v,l,by omega,by go_num,rfl,HR,HL,Zh (HI2.out rfl)⟩
     case measure=>simp [intOf];omega
    ·have e1:(((n:Nat):Int)==2)=false:=beq_eq_false_iff_ne.2 (by omega);have ck:=Zba HR.cc k _ HC0.out;have cf:=HR.cc.frozen;have cl:=HR.cc.lt;have rk:=Zba HRB.out n (.int .i64 20) (by rcases (by omega:n=0∨n=1) with e|e <;> rw [e] <;> rfl)
     have v0:=Zba HR.bo 0 _ rfl;have vl:=HR.bo.lt;dsimp only at ck cf cl rk v0 vl;obtain ⟨av,cv,ev⟩:=HR.oo.shape;rw [HL.out] at ev;subst ev;have hln:l.length<=1000000:=by rw [HL.out];omega
     have HLN:=Zh hln;have hzz:=HR.bq.lt;dsimp only at hzz;have hRa:=HR.later (Zai wr (.cells #[.int .i64 (k:Int),.int .i64 20] 221));have HXQ:=Zh (Box.new wr #[.int .i64 (k:Int),.int .i64 20] 221);have hRa:=hRa.later (Zai _ (.cells #[.int .i64 (k:Int),.int .i64 20] 221));have HRA:=Zh hRa;have HOO:=Zh hRa.oo;have HBZ:=Zh (show p6+1<=((wr.alloc (.cells #[.int .i64 (k:Int),.int .i64 20] 221)).alloc (.cells #[.int .i64 (k:Int),.int .i64 20] 221)).heap.size by simp;omega);have HLT:=Zh (show (((wr.alloc (.cells #[.int .i64 (k:Int),.int .i64 20] 221)).alloc (.cells #[.int .i64 (k:Int),.int .i64 20] 221)).heap)[wr.heap.size+1]?=some (.cells #[.int .i64 (k:Int),.int .i64 20] 221 (0,0)) from Box.newAt (wr.alloc (.cells #[.int .i64 (k:Int),.int .i64 20] 221)) #[.int .i64 (k:Int),.int .i64 20] 221 (n:=wr.heap.size+1) (by simp));clear hln hRa;go_wp2_with (at_builtin;refine Zbt encP 2 16 124 221 (.agg #[.int .i64 0,.int .i64 0]) Tryz.underlying124 HIN.out rfl (by decide) (by decide) Zjn Zou l ((k:Int),20) (p6+1) _ (wr.heap.size+1) _ _ HLT.out rfl (.slice av (i+j) cv) HOO.out HBZ.out HLN.out rfl _ _ rfl rfl rfl ?_;intro v' w' hown' hg';obtain ⟨a',c',e'⟩:=hown'.shape;rw [List.length_append,List.length_singleton,HL.out] at e';subst e';have HOW:=Zh hown';have HG:=Zh hg';obtain ⟨pf1,pf2,pf3⟩:=(HRA.bo.kept hg' (fun e=>by have:=HRA.oo.lt' _ e.symm;dsimp only at this;omega)).v1;clear hown' hg');have hR5:SqS W0 ⟨⟨ah,aw,ac,az,ab,nh,nw,nc,ns,nb,ch,cw,cc,cz,cb⟩,p0,p1,p2,p3,p4,p5,p6,d,c,m,G,r0,r1,gc⟩ (w'.setCell ⟨p5,0,none⟩ (.slice a' (i+j+1) c')) i j (.slice a' (i+j+1) c') (l++ [((k:Int),20)]):=SqR.push HRA.out HSO.out HOW.out HG.out;have hlo: ∀x,(Value.slice av (i+j) cv).ownBlock=some x->p6+1<=x/\x<wr.heap.size:=fun x hx=>World.ownsRow.lt HR.oo x hx;have hq5:Box (w'.setCell ⟨p5,0,none⟩ (.slice a' (i+j+1) c')) wr.heap.size 221 [.int .i64 (k:Int),.int .i64 20]:=(Box.kept (HXQ.alloc _) HG.out (fun e=>by have:=(hlo _ e.symm).2;omega)).other _ (by dsimp only;omega);generalize w'.setCell ⟨p5,0,none⟩ (.slice a' (i+j+1) c')=W5 at *;have HR5:=Zh hR5;have HQ5:=Zh hq5;obtain ⟨q,hq⟩: ∃q,wr.heap.size=q:=⟨_,rfl⟩;rw [hq] at HQ5 hzz ⊢;have hql:q<W5.heap.size:=HQ5.lt;clear hR5 hlo hq5 HRA HXQ HG HOW HOO HBZ HLT HLN g1 dk df dl ck cf cl rk v0 vl pf1 pf2 pf3 y0 yf yz HR hq;have HDK:=Zh HR5.dd;have HCK:=Zh HR5.cc;have HP0:=Zh HR5.bd;have HP3:=Zh HR5.bc;dsimp only at HDK HCK HP0 HP3;refine Za8 19 (S1J (World.drew W5) d k (.int .i64 ((n:Int)+1)) [some (.slice (some ⟨d,0,none⟩) 2 2),some (.int .i64 (k:Int)),some (.slice (some ⟨c,0,none⟩) 2 2),some (.int .i64 (k:Int)),some (.slice (some ⟨d,0,none⟩) 2 2),some (.int .i64 (k:Int)),some (.pointer (some ⟨d,k,none⟩)),some (.int .i64 (n:Int)),some (.int .i64 ((n:Int)+1)),some (.slice (some ⟨c,0,none⟩) 2 2),some (.int .i64 (k:Int)),some (.pointer (some ⟨c,k,none⟩)),some (.int .i64 (20* (n:Int))),some (.pointer (some ⟨q,1,none⟩)),some (.int .i64 20),some (.int .i64 (20* (n:Int)+20)),some (.pointer (some ⟨d,k,none⟩)),none,some (.pointer (some ⟨c,k,none⟩))] 17 8 7) (by kernel_rfl) (by kernel_rfl) S1J.start ?_ ?_
     ·refine ⟨?_,?_,?_,?_,?_,?_,?_,?_,?_,?_,?_,?_,?_,?_,?_,?_,?_,?_,?_,trivial⟩
      all_goals
        intro D vs u hD hdep hJ;simp only [Zac,Z2,Z6,Act.put,Z1,Z4,Z5]
      ·obtain ⟨y0,yf,yz⟩:=(hJ.box HP0.drew (by omega)).v1;refine ⟨fun v w'=>v= .slice (some ⟨d,0,none⟩) 2 2/\w'=u,?_,?_⟩
       ·clear hD hdep hJ;go_wp2_with fail;refine ⟨rfl,rfl,.slice (some ⟨d,0,none⟩) 2 2,?_,rfl,rfl⟩;intro t h;cases h
        first|rfl
       ·rintro v w' ⟨rfl,rfl⟩;exact hJ.zq 0
      ·refine ⟨fun v w'=>v= .int .i64 (k:Int)/\w'=u,?_,?_⟩
       ·clear hD hdep hJ;go_wp2_with fail;refine ⟨rfl,rfl,.int .i64 (k:Int),?_,rfl,rfl⟩;intro t h;cases h
        first|rfl
       ·rintro v w' ⟨rfl,rfl⟩;exact hJ.zq 1
      ·obtain ⟨y0,yf,yz⟩:=(hJ.box HP3.drew (by omega)).v1;refine ⟨fun v w'=>v= .slice (some ⟨c,0,none⟩) 2 2/\w'=u,?_,?_⟩
       ·clear hD hdep hJ;go_wp2_with fail;refine ⟨rfl,rfl,.slice (some ⟨c,0,none⟩) 2 2,?_,rfl,rfl⟩;intro t h;cases h
        first|rfl
       ·rintro v w' ⟨rfl,rfl⟩;exact hJ.zq 2
      ·refine ⟨fun v w'=>v= .int .i64 (k:Int)/\w'=u,?_,?_⟩
       ·clear hD hdep hJ;go_wp2_with fail;refine ⟨rfl,rfl,.int .i64 (k:Int),?_,rfl,rfl⟩;intro t h;cases h
        first|rfl
       ·rintro v w' ⟨rfl,rfl⟩;exact hJ.zq 3
      ·obtain ⟨y0,yf,yz⟩:=(hJ.box HP0.drew (by omega)).v1;refine ⟨fun v w'=>v= .slice (some ⟨d,0,none⟩) 2 2/\w'=u,?_,?_⟩
       ·clear hD hdep hJ;go_wp2_with fail;refine ⟨rfl,rfl,.slice (some ⟨d,0,none⟩) 2 2,?_,rfl,rfl⟩;intro t h;cases h
        first|rfl
       ·rintro v w' ⟨rfl,rfl⟩;exact hJ.zq 4
      ·refine ⟨fun v w'=>v= .int .i64 (k:Int)/\w'=u,?_,?_⟩
       ·clear hD hdep hJ;go_wp2_with fail;refine ⟨rfl,rfl,.int .i64 (k:Int),?_,rfl,rfl⟩;intro t h;cases h
        first|rfl
       ·rintro v w' ⟨rfl,rfl⟩;exact hJ.zq 5
      ·have e4:vs 4=_:=hJ.val 4 _ rfl (Zr hdep 4);have e5:vs 5=_:=hJ.val 5 _ rfl (Zr hdep 5);refine ⟨fun v w'=>v= .pointer (some ⟨d,k,none⟩)/\w'=u,?_,?_⟩
       ·clear hD hdep hJ;go_wp2_with fail;refine ⟨rfl,rfl,.pointer (some ⟨d,k,none⟩),?_,rfl,rfl⟩;intro t h;cases h
        first|rfl|exact congrArg some e4|exact congrArg some e5
       ·rintro v w' ⟨rfl,rfl⟩;exact hJ.zq 6
      ·have e6:vs 6=_:=hJ.val 6 _ rfl (Zr hdep 6);have hu:=hJ.same hD;have dk:u.cell? ⟨d,k,none⟩=some (.int .i64 (n:Int)):=by rw [hu];exact Zba HDK.drew k _ HD0.out
       clear hu;refine ⟨fun v w'=>v= .int .i64 (n:Int)/\w'=u,?_,?_⟩
       ·clear hD hdep hJ;go_wp2_with fail;refine ⟨rfl,rfl,.int .i64 (n:Int),?_,rfl,rfl⟩;intro t h;cases h
        first|rfl|exact congrArg some e6
       ·rintro v w' ⟨rfl,rfl⟩;exact hJ.zq 7
      ·have e7:vs 7=_:=hJ.val 7 _ rfl (Zr hdep 7);refine ⟨fun v w'=>v= .int .i64 ((n:Int)+1)/\w'=u,?_,?_⟩
       ·clear hD hdep hJ;go_wp2_with fail;refine ⟨rfl,rfl,.int .i64 ((n:Int)+1),?_,rfl,rfl⟩;intro t h;cases h
        first|rfl|exact congrArg some e7
       ·rintro v w' ⟨rfl,rfl⟩;exact hJ.quiet 8 (by decide) (fun _=>Zr hdep 7) (fun v' e=>Option.some.inj (Option.some.inj e))
      ·obtain ⟨y0,yf,yz⟩:=(hJ.box HP3.drew (by omega)).v1;refine ⟨fun v w'=>v= .slice (some ⟨c,0,none⟩) 2 2/\w'=u,?_,?_⟩
       ·clear hD hdep hJ;go_wp2_with fail;refine ⟨rfl,rfl,.slice (some ⟨c,0,none⟩) 2 2,?_,rfl,rfl⟩;intro t h;cases h
        first|rfl
       ·rintro v w' ⟨rfl,rfl⟩;exact hJ.zq 9
      ·refine ⟨fun v w'=>v= .int .i64 (k:Int)/\w'=u,?_,?_⟩
       ·clear hD hdep hJ;go_wp2_with fail;refine ⟨rfl,rfl,.int .i64 (k:Int),?_,rfl,rfl⟩;intro t h;cases h
        first|rfl
       ·rintro v w' ⟨rfl,rfl⟩;exact hJ.zq 10
      ·have e9:vs 9=_:=hJ.val 9 _ rfl (Zr hdep 9);have e10:vs 10=_:=hJ.val 10 _ rfl (Zr hdep 10);refine ⟨fun v w'=>v= .pointer (some ⟨c,k,none⟩)/\w'=u,?_,?_⟩
       ·clear hD hdep hJ;go_wp2_with fail;refine ⟨rfl,rfl,.pointer (some ⟨c,k,none⟩),?_,rfl,rfl⟩;intro t h;cases h
        first|rfl|exact congrArg some e9|exact congrArg some e10
       ·rintro v w' ⟨rfl,rfl⟩;exact hJ.zq 11
      ·have e11:vs 11=_:=hJ.val 11 _ rfl (Zr hdep 11);have ck:=Zba (hJ.box HCK.drew (by omega)) k _ HC0.out;refine ⟨fun v w'=>v= .int .i64 (20* (n:Int))/\w'=u,?_,?_⟩
       ·clear hD hdep hJ;go_wp2_with fail;refine ⟨rfl,rfl,.int .i64 (20* (n:Int)),?_,rfl,rfl⟩;intro t h;cases h
        first|rfl|exact congrArg some e11
       ·rintro v w' ⟨rfl,rfl⟩;exact hJ.zq 12
      ·refine ⟨fun v w'=>v= .pointer (some ⟨q,1,none⟩)/\w'=u,?_,?_⟩
       ·clear hD hdep hJ;go_wp2_with fail;refine ⟨rfl,rfl,.pointer (some ⟨q,1,none⟩),?_,rfl,rfl⟩;intro t h;cases h
        first|rfl
       ·rintro v w' ⟨rfl,rfl⟩;exact hJ.zq 13
      ·have e13:vs 13=_:=hJ.val 13 _ rfl (Zr hdep 13);have qk:=Zba (hJ.box HQ5.drew (by omega)) 1 _ rfl;refine ⟨fun v w'=>v= .int .i64 20/\w'=u,?_,?_⟩
       ·clear hD hdep hJ;go_wp2_with fail;refine ⟨rfl,rfl,.int .i64 20,?_,rfl,rfl⟩;intro t h;cases h
        first|rfl|exact congrArg some e13
       ·rintro v w' ⟨rfl,rfl⟩;exact hJ.zq 14
      ·have e12:vs 12=_:=hJ.val 12 _ rfl (Zr hdep 12);have e14:vs 14=_:=hJ.val 14 _ rfl (Zr hdep 14);refine ⟨fun v w'=>v= .int .i64 (20* (n:Int)+20)/\w'=u,?_,?_⟩
       ·clear hD hdep hJ;go_wp2_with fail;refine ⟨rfl,rfl,.int .i64 (20* (n:Int)+20),?_,rfl,rfl⟩;intro t h;cases h
        first|rfl|exact congrArg some e12|exact congrArg some e14
       ·rintro v w' ⟨rfl,rfl⟩;exact hJ.zq 15
      ·have e0:vs 0=_:=hJ.val 0 _ rfl (Zr hdep 0);have e1:vs 1=_:=hJ.val 1 _ rfl (Zr hdep 1);refine ⟨fun v w'=>v= .pointer (some ⟨d,k,none⟩)/\w'=u,?_,?_⟩
       ·clear hD hdep hJ;go_wp2_with fail;refine ⟨rfl,rfl,.pointer (some ⟨d,k,none⟩),?_,rfl,rfl⟩;intro t h;cases h
        first|rfl|exact congrArg some e0|exact congrArg some e1
       ·rintro v w' ⟨rfl,rfl⟩;exact hJ.zq 16
      ·have e16:vs 16=_:=hJ.val 16 _ rfl (Zr hdep 16);have e8:vs 8=_:=hJ.val 8 _ rfl (Zr hdep 8);have hl:=Zr hdep 8;have hu:u=W5.drew:=by have:=hJ.wor;rw [hD] at this;exact this
       have dk:=Zba (show Box u d 3 _ by rw [hu];exact HDK.drew) k _ HD0.out;have df:=(show Box u d 3 _ by rw [hu];exact HDK.drew).frozen;have dl:=(show Box u d 3 _ by rw [hu];exact HDK.drew).lt;clear hu;refine ⟨fun v w'=>w'=u.setCell ⟨d,k,none⟩ (.int .i64 ((n:Int)+1)),?_,?_⟩
       ·clear hD hdep hJ hl;go_wp2_with fail;refine ⟨rfl,rfl,undef,?_,rfl⟩;intro t h;cases h
       ·rintro v w' rfl;exact hJ.put rfl hD hl (by decide)
      ·have e2:vs 2=_:=hJ.val 2 _ rfl (Zr hdep 2);have e3:vs 3=_:=hJ.val 3 _ rfl (Zr hdep 3);refine ⟨fun v w'=>v= .pointer (some ⟨c,k,none⟩)/\w'=u,?_,?_⟩
       ·clear hD hdep hJ;go_wp2_with fail;refine ⟨rfl,rfl,.pointer (some ⟨c,k,none⟩),?_,rfl,rfl⟩;intro t h;cases h
        first|rfl|exact congrArg some e2|exact congrArg some e3
       ·rintro v w' ⟨rfl,rfl⟩;exact hJ.zq 18
     intro D vs u hD hJ;have e15:vs 15=_:=hJ.val 15 _ rfl (hD 15 (by decide));have e18:vs 18=_:=hJ.val 18 _ rfl (hD 18 (by decide));have hwo:=hJ.wor;rw [hD 17 (by decide)] at hwo;simp only [if_true] at hwo;simp only [Zac,Z3,Z7,Z2,Z6,Act.put,Z1,Z4,Z5,e15,e18];obtain ⟨U,hU⟩: ∃U:World,u.setCell ⟨c,k,none⟩ (.int .i64 (20* (n:Int)+20))=U:=⟨_,rfl⟩;have hR6:=HUP.out _ _ _ (SqR.later HR5.out (show Below W5.heap.size W5 W5.drew from ⟨rfl,rfl,rfl,Nat.le_refl _,fun _ _=>rfl⟩));have hqc:Box (u.setCell ⟨c,k,none⟩ (.int .i64 (20* (n:Int)+20))) q 221 [.int .i64 (k:Int),.int .i64 20]:=by
       rw [hwo];exact (HQ5.drew.other _ (by dsimp only;omega)).other _ (by dsimp only;omega)
     have cu:=(show Box u c 3 _ by rw [hwo];exact HCK.drew.other _ (by dsimp only;omega));have ck:=Zba cu k _ HC0.out;have cf:=cu.frozen;have cl:=cu.lt;have b6:Box u p6 29 [.func (.func 148) #[] #[.pointer (some ⟨p0,0,none⟩),.pointer (some ⟨p1,0,none⟩),.pointer (some ⟨p2,0,none⟩),.pointer (some ⟨p3,0,none⟩),.pointer (some ⟨p4,0,none⟩),.pointer (some ⟨p5,0,none⟩),.pointer (some ⟨p6,0,none⟩)]]:=(by rw [hwo];exact HR5.bq.drew.other _ (by dsimp only;omega));have v6:=Zba b6 0 _ rfl;have v6l:=b6.lt;have n6: ¬c=p6:=by omega
     have n7: ¬p6=c:=by omega
     clear cu b6;rw [<-hwo,hU] at hR6;rw [hU] at hqc;have HR6:=Zh hR6;have HQ6:=Zh hqc;have HU:=Zh hU;clear hR6 hqc hU hwo HDK HCK HP0 HP3 HR5 HQ5 hD hJ e15 e18;have HS:=Zh (HREC.out hlt U (.slice a' (i+j+1) c') (l++ [((k:Int),20)]) (by rw [List.length_append,List.length_singleton,HL.out]) HR6.out);go_wp2_with fail;rw [HU.out];refine HS.mono ?_;rintro e8 w8 ⟨rfl,hT8,hF8⟩;cases qk with
     | true=>
       have HT8:=Zh (hT8 rfl);clear hT8 hF8 v6 v6l n6 n7 ck cf cl;go_wp2_with fail;rw [<-HQQ.out];exact ⟨rfl,fun _=>HT8.out,fun h=>by cases h⟩
     | false=>
       have hb8:=hF8 rfl;have HR8:=Zh (HR6.later hb8);have HQ8:=Zh (HQ6.later hb8);clear hT8 hF8 v6 v6l n6 n7 ck cf cl hb8 HS HQ6 HR6 HU;obtain ⟨g9,c9,e9,hg9,hl9⟩:=HR8.oo.form (by simp);rw [List.length_append,List.length_singleton,HL.out] at e9;injection e9 with e9a e9b e9c
       subst e9a e9c;clear e9b;have HDK:=Zh HR8.dd;have HCK:=Zh HR8.cc;have HP0:=Zh HR8.bd;have HP3:=Zh HR8.bc;have hcap:=Own.capN HR8.oo (by rw [List.length_append,List.length_singleton,HL.out]);obtain ⟨hcp1,hcp2⟩:=hcap;unfold maxLen at hcp2;dsimp only at HDK HCK HP0 HP3 hg9;go_wp2_with fail;refine Za8 19 (S1J (World.drew w8) d k (.int .i64 (n:Int)) [some (.slice (some ⟨d,0,none⟩) 2 2),some (.int .i64 (k:Int)),some (.slice (some ⟨c,0,none⟩) 2 2),some (.int .i64 (k:Int)),some (.slice (some ⟨d,0,none⟩) 2 2),some (.int .i64 (k:Int)),some (.pointer (some ⟨d,k,none⟩)),some (.int .i64 ((n:Int)+1)),some (.int .i64 (n:Int)),some (.slice (some ⟨c,0,none⟩) 2 2),some (.int .i64 (k:Int)),some (.pointer (some ⟨c,k,none⟩)),some (.int .i64 (20* (n:Int)+20)),some (.pointer (some ⟨q,1,none⟩)),some (.int .i64 20),some (.int .i64 (20* (n:Int))),some (.pointer (some ⟨d,k,none⟩)),none,some (.pointer (some ⟨c,k,none⟩))] 17 8 7) (by kernel_rfl) (by kernel_rfl) S1J.start ?_ ?_
       ·refine ⟨?_,?_,?_,?_,?_,?_,?_,?_,?_,?_,?_,?_,?_,?_,?_,?_,?_,?_,?_,trivial⟩
        all_goals
          intro D vs u hD hdep hJ;simp only [Zac,Z2,Z6,Act.put,Z1,Z4,Z5]
        ·obtain ⟨y0,yf,yz⟩:=(hJ.box HP0.drew (by omega)).v1;refine ⟨fun v w'=>v= .slice (some ⟨d,0,none⟩) 2 2/\w'=u,?_,?_⟩
         ·clear hD hdep hJ;go_wp2_with fail;refine ⟨rfl,rfl,.slice (some ⟨d,0,none⟩) 2 2,?_,rfl,rfl⟩;intro t h;cases h
          first|rfl
         ·rintro v w' ⟨rfl,rfl⟩;exact hJ.zq 0
        ·refine ⟨fun v w'=>v= .int .i64 (k:Int)/\w'=u,?_,?_⟩
         ·clear hD hdep hJ;go_wp2_with fail;refine ⟨rfl,rfl,.int .i64 (k:Int),?_,rfl,rfl⟩;intro t h;cases h
          first|rfl
         ·rintro v w' ⟨rfl,rfl⟩;exact hJ.zq 1
        ·obtain ⟨y0,yf,yz⟩:=(hJ.box HP3.drew (by omega)).v1;refine ⟨fun v w'=>v= .slice (some ⟨c,0,none⟩) 2 2/\w'=u,?_,?_⟩
         ·clear hD hdep hJ;go_wp2_with fail;refine ⟨rfl,rfl,.slice (some ⟨c,0,none⟩) 2 2,?_,rfl,rfl⟩;intro t h;cases h
          first|rfl
         ·rintro v w' ⟨rfl,rfl⟩;exact hJ.zq 2
        ·refine ⟨fun v w'=>v= .int .i64 (k:Int)/\w'=u,?_,?_⟩
         ·clear hD hdep hJ;go_wp2_with fail;refine ⟨rfl,rfl,.int .i64 (k:Int),?_,rfl,rfl⟩;intro t h;cases h
          first|rfl
         ·rintro v w' ⟨rfl,rfl⟩;exact hJ.zq 3
        ·obtain ⟨y0,yf,yz⟩:=(hJ.box HP0.drew (by omega)).v1;refine ⟨fun v w'=>v= .slice (some ⟨d,0,none⟩) 2 2/\w'=u,?_,?_⟩
         ·clear hD hdep hJ;go_wp2_with fail;refine ⟨rfl,rfl,.slice (some ⟨d,0,none⟩) 2 2,?_,rfl,rfl⟩;intro t h;cases h
          first|rfl
         ·rintro v w' ⟨rfl,rfl⟩;exact hJ.zq 4
        ·refine ⟨fun v w'=>v= .int .i64 (k:Int)/\w'=u,?_,?_⟩
         ·clear hD hdep hJ;go_wp2_with fail;refine ⟨rfl,rfl,.int .i64 (k:Int),?_,rfl,rfl⟩;intro t h;cases h
          first|rfl
         ·rintro v w' ⟨rfl,rfl⟩;exact hJ.zq 5
        ·have e4:vs 4=_:=hJ.val 4 _ rfl (Zr hdep 4);have e5:vs 5=_:=hJ.val 5 _ rfl (Zr hdep 5);refine ⟨fun v w'=>v= .pointer (some ⟨d,k,none⟩)/\w'=u,?_,?_⟩
         ·clear hD hdep hJ;go_wp2_with fail;refine ⟨rfl,rfl,.pointer (some ⟨d,k,none⟩),?_,rfl,rfl⟩;intro t h;cases h
          first|rfl|exact congrArg some e4|exact congrArg some e5
         ·rintro v w' ⟨rfl,rfl⟩;exact hJ.zq 6
        ·have e6:vs 6=_:=hJ.val 6 _ rfl (Zr hdep 6);have hu:=hJ.same hD;have dk:u.cell? ⟨d,k,none⟩=some (.int .i64 ((n:Int)+1)):=by rw [hu];exact Zba HDK.drew k _ HD1.out
         clear hu;refine ⟨fun v w'=>v= .int .i64 ((n:Int)+1)/\w'=u,?_,?_⟩
         ·clear hD hdep hJ;go_wp2_with fail;refine ⟨rfl,rfl,.int .i64 ((n:Int)+1),?_,rfl,rfl⟩;intro t h;cases h
          first|rfl|exact congrArg some e6
         ·rintro v w' ⟨rfl,rfl⟩;exact hJ.zq 7
        ·have e7:vs 7=_:=hJ.val 7 _ rfl (Zr hdep 7);refine ⟨fun v w'=>v= .int .i64 (n:Int)/\w'=u,?_,?_⟩
         ·clear hD hdep hJ;go_wp2_with fail;refine ⟨rfl,rfl,.int .i64 (n:Int),?_,rfl,rfl⟩;intro t h;cases h
          first|rfl|exact congrArg some e7
         ·rintro v w' ⟨rfl,rfl⟩;exact hJ.quiet 8 (by decide) (fun _=>Zr hdep 7) (fun v' e=>Option.some.inj (Option.some.inj e))
        ·obtain ⟨y0,yf,yz⟩:=(hJ.box HP3.drew (by omega)).v1;refine ⟨fun v w'=>v= .slice (some ⟨c,0,none⟩) 2 2/\w'=u,?_,?_⟩
         ·clear hD hdep hJ;go_wp2_with fail;refine ⟨rfl,rfl,.slice (some ⟨c,0,none⟩) 2 2,?_,rfl,rfl⟩;intro t h;cases h
          first|rfl
         ·rintro v w' ⟨rfl,rfl⟩;exact hJ.zq 9
        ·refine ⟨fun v w'=>v= .int .i64 (k:Int)/\w'=u,?_,?_⟩
         ·clear hD hdep hJ;go_wp2_with fail;refine ⟨rfl,rfl,.int .i64 (k:Int),?_,rfl,rfl⟩;intro t h;cases h
          first|rfl
         ·rintro v w' ⟨rfl,rfl⟩;exact hJ.zq 10
        ·have e9:vs 9=_:=hJ.val 9 _ rfl (Zr hdep 9);have e10:vs 10=_:=hJ.val 10 _ rfl (Zr hdep 10);refine ⟨fun v w'=>v= .pointer (some ⟨c,k,none⟩)/\w'=u,?_,?_⟩
         ·clear hD hdep hJ;go_wp2_with fail;refine ⟨rfl,rfl,.pointer (some ⟨c,k,none⟩),?_,rfl,rfl⟩;intro t h;cases h
          first|rfl|exact congrArg some e9|exact congrArg some e10
         ·rintro v w' ⟨rfl,rfl⟩;exact hJ.zq 11
        ·have e11:vs 11=_:=hJ.val 11 _ rfl (Zr hdep 11);have ck:=Zba (hJ.box HCK.drew (by omega)) k _ HC1.out;refine ⟨fun v w'=>v= .int .i64 (20* (n:Int)+20)/\w'=u,?_,?_⟩
         ·clear hD hdep hJ;go_wp2_with fail;refine ⟨rfl,rfl,.int .i64 (20* (n:Int)+20),?_,rfl,rfl⟩;intro t h;cases h
          first|rfl|exact congrArg some e11
         ·rintro v w' ⟨rfl,rfl⟩;exact hJ.zq 12
        ·refine ⟨fun v w'=>v= .pointer (some ⟨q,1,none⟩)/\w'=u,?_,?_⟩
         ·clear hD hdep hJ;go_wp2_with fail;refine ⟨rfl,rfl,.pointer (some ⟨q,1,none⟩),?_,rfl,rfl⟩;intro t h;cases h
          first|rfl
         ·rintro v w' ⟨rfl,rfl⟩;exact hJ.zq 13
        ·have e13:vs 13=_:=hJ.val 13 _ rfl (Zr hdep 13);have qk:=Zba (hJ.box HQ8.drew (by omega)) 1 _ rfl;refine ⟨fun v w'=>v= .int .i64 20/\w'=u,?_,?_⟩
         ·clear hD hdep hJ;go_wp2_with fail;refine ⟨rfl,rfl,.int .i64 20,?_,rfl,rfl⟩;intro t h;cases h
          first|rfl|exact congrArg some e13
         ·rintro v w' ⟨rfl,rfl⟩;exact hJ.zq 14
        ·have e12:vs 12=_:=hJ.val 12 _ rfl (Zr hdep 12);have e14:vs 14=_:=hJ.val 14 _ rfl (Zr hdep 14);refine ⟨fun v w'=>v= .int .i64 (20* (n:Int))/\w'=u,?_,?_⟩
         ·clear hD hdep hJ;go_wp2_with fail;refine ⟨rfl,rfl,.int .i64 (20* (n:Int)),?_,rfl,rfl⟩;intro t h;cases h
          first|rfl|exact congrArg some e12|exact congrArg some e14
         ·rintro v w' ⟨rfl,rfl⟩;exact hJ.zq 15
        ·have e0:vs 0=_:=hJ.val 0 _ rfl (Zr hdep 0);have e1:vs 1=_:=hJ.val 1 _ rfl (Zr hdep 1);refine ⟨fun v w'=>v= .pointer (some ⟨d,k,none⟩)/\w'=u,?_,?_⟩
         ·clear hD hdep hJ;go_wp2_with fail;refine ⟨rfl,rfl,.pointer (some ⟨d,k,none⟩),?_,rfl,rfl⟩;intro t h;cases h
          first|rfl|exact congrArg some e0|exact congrArg some e1
         ·rintro v w' ⟨rfl,rfl⟩;exact hJ.zq 16
        ·have e16:vs 16=_:=hJ.val 16 _ rfl (Zr hdep 16);have e8:vs 8=_:=hJ.val 8 _ rfl (Zr hdep 8);have hl:=Zr hdep 8;have hu:u=w8.drew:=by have:=hJ.wor;rw [hD] at this;exact this
         have dk:=Zba (show Box u d 3 _ by rw [hu];exact HDK.drew) k _ HD1.out;have df:=(show Box u d 3 _ by rw [hu];exact HDK.drew).frozen;have dl:=(show Box u d 3 _ by rw [hu];exact HDK.drew).lt;clear hu;refine ⟨fun v w'=>w'=u.setCell ⟨d,k,none⟩ (.int .i64 (n:Int)),?_,?_⟩
         ·clear hD hdep hJ hl;go_wp2_with fail;refine ⟨rfl,rfl,undef,?_,rfl⟩;intro t h;cases h
         ·rintro v w' rfl;exact hJ.put rfl hD hl (by decide)
        ·have e2:vs 2=_:=hJ.val 2 _ rfl (Zr hdep 2);have e3:vs 3=_:=hJ.val 3 _ rfl (Zr hdep 3);refine ⟨fun v w'=>v= .pointer (some ⟨c,k,none⟩)/\w'=u,?_,?_⟩
         ·clear hD hdep hJ;go_wp2_with fail;refine ⟨rfl,rfl,.pointer (some ⟨c,k,none⟩),?_,rfl,rfl⟩;intro t h;cases h
          first|rfl|exact congrArg some e2|exact congrArg some e3
         ·rintro v w' ⟨rfl,rfl⟩;exact hJ.zq 18
       intro D vs u hD hJ;have e15:vs 15=_:=hJ.val 15 _ rfl (hD 15 (by decide));have e18:vs 18=_:=hJ.val 18 _ rfl (hD 18 (by decide));have hwo:=hJ.wor;rw [hD 17 (by decide)] at hwo;simp only [if_true] at hwo;simp only [Zac,Z3,Z7,Z2,Z6,Act.put,Z1,Z4,Z5,e15,e18];obtain ⟨U,hU⟩: ∃U:World,u.setCell ⟨c,k,none⟩ (.int .i64 (20* (n:Int)))=U:=⟨_,rfl⟩;have hR9:=HDN.out _ _ _ (SqR.later HR8.out (show Below w8.heap.size w8 w8.drew from ⟨rfl,rfl,rfl,Nat.le_refl _,fun _ _=>rfl⟩));have cu:=(show Box u c 3 _ by rw [hwo];exact HCK.drew.other _ (by dsimp only;omega));have ck:=Zba cu k _ HC1.out;have cf:=cu.frozen;have cl:=cu.lt;have b5:Box u p5 124 [.slice (some ⟨g9,0,none⟩) (i+j+1) c']:=(by rw [hwo];exact HR8.bo.drew.other _ (by dsimp only;omega));obtain ⟨v9,vf,vl⟩:=b5.v1;have n6: ¬c=p5:=by omega
       have n7: ¬p5=c:=by omega
       clear cu b5;rw [<-hwo,hU] at hR9;have HR9:=Zh hR9;have HU:=Zh hU;clear hR9 hU hwo HDK HCK HP0 HP3 HR8 HQ8 hD hJ e15 e18;go_wp2_with fail;go_roundw
       case rel=>
         rw [HU.out];refine ⟨k+1,true,_,l,by omega,by go_num,rfl,Zh (SqR.pop HR9.out HSO.out HL.out),HL,Zh (HI3.out hlt (by first|rfl|trivial))⟩
       case measure=>simp [intOf];omega
   ·obtain rfl:k=2:=by omega
    have h1:=HF.out.2.1 (by omega);have h2:=HF.out.2.2 (by omega);have hij:i=2/\j=2:=by
      rcases HQR.out with ⟨h3,h4⟩|⟨h3,h4⟩|h3
      ·rcases h1 with h1|h1
       ·omega
       ·rw [h4] at h1;cases h1
      ·rcases h2 with h2|h2
       ·omega
       ·rw [h4] at h2;cases h2
      ·exact h3
    obtain ⟨rfl,rfl⟩:=hij;obtain rfl:b9=false:=HF.out.1 rfl rfl;obtain ⟨D,m1,m2,m3⟩:=HR.mm;have HM:=Zh m1;obtain ⟨av,cv,ev⟩:=HR.oo.shape;rw [HL.out] at ev;subst ev;obtain ⟨m0,mf,mz⟩:=HR.bf.v1;dsimp only at m0 mf mz;clear h1 h2 m1 m2 m3 HF HQR y0 yf yz;go_wp2_with (at_mapUpdate;refine wpList_mapUpdate_own _ rfl _ _ _ 218 rfl 9 4 Zmx Tryz.underlying218 _ m ([]:List (List UInt8)).length D rfl HM.out (by simp [maxLen]) _ (.bool false) _ rfl rfl HKY.out _ [] (plainElem_bool (H:=Unit) Tryz.underlying4 false) ?_;intro w7 hm7 hg7;clear m0 mf mz);rw [<-HQQ.out];refine ⟨rfl,fun _=>⟨⟨av,cv,HR.bo.kept hg7 (fun e=>by have:=Option.some.inj e;dsimp only at this;omega)⟩,HR.be.grown hg7 HR.be.size (fun x hx=>by have:=Option.some.inj hx;omega)⟩,fun h=>by cases h⟩
theorem sf00:SafeS wShip [(20* ((0:Nat):Int)),(20* ((0:Nat):Int))]:=(Zb5 _ _).2 (by decide+kernel)
theorem sf10:SafeS wShip [(20* ((1:Nat):Int)),(20* ((0:Nat):Int))]:=(Zb5 _ _).2 (by decide+kernel)
theorem sf01:SafeS wShip [(20* ((0:Nat):Int)),(20* ((1:Nat):Int))]:=(Zb5 _ _).2 (by decide+kernel)
theorem sf11:SafeS wShip [(20* ((1:Nat):Int)),(20* ((1:Nat):Int))]:=(Zb5 _ _).2 (by decide+kernel)
theorem sf21:SafeS wShip [(20* ((2:Nat):Int)),(20* ((1:Nat):Int))]:=(Zb5 _ _).2 (by decide+kernel)
theorem sf12:SafeS wShip [(20* ((1:Nat):Int)),(20* ((2:Nat):Int))]:=(Zb5 _ _).2 (by decide+kernel)
theorem sf22:SafeS wShip [(20* ((2:Nat):Int)),(20* ((2:Nat):Int))]:=(Zb5 _ _).2 (by decide+kernel)
theorem sf20: ¬SafeS wShip [(20* ((2:Nat):Int)),(20* ((0:Nat):Int))]:=fun h=>absurd ((Zb5 _ _).1 h) (by decide+kernel)
theorem sf02: ¬SafeS wShip [(20* ((0:Nat):Int)),(20* ((2:Nat):Int))]:=fun h=>absurd ((Zb5 _ _).1 h) (by decide+kernel)
section
variable (W0:World) (hw:TbR W0) (s:SqN) (so:SqO W0.heap.size s) (hx:ShR W0 s.x wShip) (u:World) (v:Value) (l:List (Int×Int))
include hw so hx
theorem sq22 (hl:l.length=4) (h:SqS W0 s u 2 2 v l):Calls Tryz.prog 148 s.cap u (SqP W0 s u true):=
  Zbs W0 hw s so hx u 2 2 v l h (by omega) (by omega) hl sf22 true true (fun h=>by omega) (fun h=>by omega) (.inr (.inr ⟨rfl,rfl⟩))
theorem sq21 (hl:l.length=3) (h:SqS W0 s u 2 1 v l):Calls Tryz.prog 148 s.cap u (SqP W0 s u true):=
  Zbs W0 hw s so hx u 2 1 v l h (by omega) (by omega) hl sf21 true true (fun h=>by omega) (fun _ u' v' l' hl' h'=>sq22 W0 hw s so hx u' v' l' hl' h') (.inr (.inl ⟨by omega,rfl⟩))
theorem sq12 (hl:l.length=3) (h:SqS W0 s u 1 2 v l):Calls Tryz.prog 148 s.cap u (SqP W0 s u true):=
  Zbs W0 hw s so hx u 1 2 v l h (by omega) (by omega) hl sf12 true true (fun _ u' v' l' hl' h'=>sq22 W0 hw s so hx u' v' l' hl' h') (fun h=>by omega) (.inl ⟨by omega,rfl⟩)
theorem sq11 (hl:l.length=2) (h:SqS W0 s u 1 1 v l):Calls Tryz.prog 148 s.cap u (SqP W0 s u true):=
  Zbs W0 hw s so hx u 1 1 v l h (by omega) (by omega) hl sf11 true true (fun _ u' v' l' hl' h'=>sq21 W0 hw s so hx u' v' l' hl' h') (fun _ u' v' l' hl' h'=>sq12 W0 hw s so hx u' v' l' hl' h') (.inl ⟨by omega,rfl⟩)
theorem sq10 (hl:l.length=1) (h:SqS W0 s u 1 0 v l):Calls Tryz.prog 148 s.cap u (SqP W0 s u true):=
  Zbs W0 hw s so hx u 1 0 v l h (by omega) (by omega) hl sf10 false true (fun _ u' v' l' _ h'=>Zfy W0 hw s hx u' 2 0 v' l' h' (by omega) (by omega) sf20) (fun _ u' v' l' hl' h'=>sq11 W0 hw s so hx u' v' l' hl' h') (.inr (.inl ⟨by omega,rfl⟩))
theorem sq01 (hl:l.length=1) (h:SqS W0 s u 0 1 v l):Calls Tryz.prog 148 s.cap u (SqP W0 s u true):=
  Zbs W0 hw s so hx u 0 1 v l h (by omega) (by omega) hl sf01 true false (fun _ u' v' l' hl' h'=>sq11 W0 hw s so hx u' v' l' hl' h') (fun _ u' v' l' _ h'=>Zfy W0 hw s hx u' 0 2 v' l' h' (by omega) (by omega) sf02) (.inl ⟨by omega,rfl⟩)
theorem sq00 (hl:l.length=0) (h:SqS W0 s u 0 0 v l):Calls Tryz.prog 148 s.cap u (SqP W0 s u true):=
  Zbs W0 hw s so hx u 0 0 v l h (by omega) (by omega) hl sf00 true true (fun _ u' v' l' hl' h'=>sq10 W0 hw s so hx u' v' l' hl' h') (fun _ u' v' l' hl' h'=>sq01 W0 hw s so hx u' v' l' hl' h') (.inl ⟨by omega,rfl⟩)
end
theorem Zkf (w:World) (hw:TbR w) (x:ShV) (hs:ShR w x wShip) (vm:Value) (hm:Sl encI 1 w w.heap.size vm [40,40]):Calls Tryz.prog 70 #[x.v wShip.t,vm,.int .i64 2] w (fun e w'=> ∃a c,e= .returned (.tuple #[.slice a 4 c,.int .i64 0])/\Below w.heap.size w w'):=by
  have HDV:=Zh (fun (u:World) (hb:Below w.heap.size w u)=>(by exact Zmw u (hw.later hb) x (hs.later hb) vm (hm.later hb):Calls Tryz.prog 147 #[.agg #[.slice x.ah x.nh x.ch,.slice x.aw x.nw x.cw,.slice x.ac x.nc x.cc,.slice x.az x.ns x.cs,.slice x.ab x.nb x.cb,.string (txq wShip.t)],vm,.int .i64 2] u (fun e w'=> ∃G c g0 g1,e= .returned (.tuple #[.slice (some ⟨G,0,none⟩) 2 c,.int .i64 0])/\At w' G 0 (encG g0)/\At w' G 1 (encG g1)/\G<w'.heap.size/\Box w' g0 3 [.int .i64 20,.int .i64 20]/\Box w' g1 3 [.int .i64 20,.int .i64 20]/\Below u.heap.size u w')));have HSQ:=Zh (fun (s:SqN) (he:s.x=x) (so:SqO w.heap.size s) (u:World) (h:SqS w s u 0 0 (.slice none 0 0) [])=>sq00 w hw s so (by rw [he];exact hs) u (.slice none 0 0) [] rfl h);clear hw hs hm;obtain ⟨T,hT⟩: ∃T,txq wShip.t=T:=⟨_,rfl⟩;rw [hT] at HDV;have HT:=Zh hT;obtain ⟨ah,aw,ac,az,ab,nh,nw,nc,ns,nb,ch,cw,cc,cz,cb⟩:=x;dsimp only at HDV;show Calls Tryz.prog 70 #[.agg #[.slice ah nh ch,.slice aw nw cw,.slice ac nc cc,.slice az ns cz,.slice ab nb cb,.string (txq wShip.t)],vm,.int .i64 2] w _;rw [hT];clear hT;have HB:=Zh ((Below.refl w.heap.size w).alloc (Nat.le_refl _) (.cells #[.slice ah nh ch,.slice aw nw cw,.slice ac nc cc,.slice az ns cz,.slice ab nb cb,.string T] 51));have HX:=Zh (Box.new w #[.slice ah nh ch,.slice aw nw cw,.slice ac nc cc,.slice az ns cz,.slice ab nb cb,.string T] 51);obtain ⟨x0,x1,x2,x3,x4,x5,xf,xz⟩:=HX.w6;have HS:=Zh (HDV.out _ HB.out);have HIN:=Zh Zoq;clear HDV;go_enter Tryz.func70,Tryz.ntmps70;go_wp2_with fail;refine HS.mono ?_;rintro e3 w3 ⟨G,gc,g0,g1,rfl,hG0,hG1,hGl,hr0,hr1,hb⟩;replace HB:=Zh (HB.Zg hb);replace HX:=Zh (HX.later hb);clear hb x0 x1 x2 x3 x4 x5 xf xz;obtain ⟨x0,x1,x2,x3,x4,x5,xf,xz⟩:=HX.w6;have hsz3:w.heap.size+1<=w3.heap.size:=HX.lt;have HG0:=Zh hG0;have HG1:=Zh hG1;have HR0:=Zh hr0;have HR1:=Zh hr1;have hrl0:=hr0.lt;have hrl1:=hr1.lt;clear x0 x1 x2 x3 x4 x5 xf xz HS hG0 hG1 hr0 hr1;go_wp2_with fail;have hba:=Zh (Zai w3 (.cells #[.slice (some ⟨G,0,none⟩) 2 gc] 215));have HX4:=Zh (HX.later hba.out);have HP4:=Zh (Box.new w3 #[.slice (some ⟨G,0,none⟩) 2 gc] 215);have HB4:=Zh (HB.trans (hba.out.mono HB.size));have HG04:=Zh (HG0.below hba.out hGl);have HG14:=Zh (HG1.below hba.out hGl);have HR04:=Zh (HR0.later hba.out);have HR14:=Zh (HR1.later hba.out);obtain ⟨W4,hW4⟩: ∃W4:World,w3.alloc (.cells #[.slice (some ⟨G,0,none⟩) 2 gc] 215)=W4:=⟨_,rfl⟩;have hsz4:W4.heap.size=w3.heap.size+1:=by rw [<-hW4];simp
  obtain ⟨p4,hp4⟩: ∃p4,w3.heap.size=p4:=⟨_,rfl⟩;rw [hW4,hp4] at HP4;rw [hW4] at HX4 HB4 HG04 HG14 HR04 HR14;rw [hp4] at hsz4 hsz3 hGl hrl0 hrl1 ⊢;rw [hW4];clear hba HX HB HG0 HG1 HR0 HR1 hW4 hp4;have k0:W4.cell? ⟨G,0,none⟩=some (.slice (some ⟨g0,0,none⟩) 2 2):=HG04.c1;have k1:W4.cell? ⟨G,1,none⟩=some (.slice (some ⟨g1,0,none⟩) 2 2):=HG14.c1;obtain ⟨z0,zf,zz⟩:=HP4.v1;have hGl4:G<W4.heap.size:=by omega
  go_loopw [10,30] (fun n i wr=>wr=W4/\((n= .int .i64 1/\i= .int .i64 0)∨(n= .int .i64 3/\i= .int .i64 1)∨(n= .int .i64 9/\i= .int .i64 2))) (fun _ i _=>2-(intOf i).toNat)
  case atStart=>exact ⟨rfl,.inl ⟨rfl,rfl⟩⟩
  case round=>
    obtain ⟨rfl,⟨rfl,rfl⟩|⟨rfl,rfl⟩|⟨rfl,rfl⟩⟩:=hrel
    ·go_wp2_with fail;go_roundw
     case rel=>simp
     case measure=>simp [intOf]
    ·go_wp2_with fail;go_roundw
     case rel=>simp
     case measure=>simp [intOf]
    ·clear k0 k1;have hmm:= @run_makeMap Tryz.prog;go_wp2_with (
       at_make
       refine Zb2 encI 1 (fun _=>rfl) (by decide) 0 (.int .i64 0) rfl 27 3 8 Tryz.underlying27 HIN.out (by decide) 0 _ 2 (by omega) (Nat.zero_le _) rfl _ _ rfl .i64 .i64 rfl rfl ?_;intro w6 ho6 hg6;have HB6:=Zh (show Below wr.heap.size wr w6 from ⟨hg6.os,hg6.tape,hg6.output,hg6.size,fun k hk=>hg6.block k hk (by simp)⟩);have HD6:=Zh (Own.box ho6);have hl6:wr.heap.size<w6.heap.size:=HD6.lt;clear z0 zf zz ho6 hg6;obtain ⟨z0,zf,zz⟩:=(HP4.later HB6.out).v1;go_wp2_with (
         at_make
         refine Zb2 encI 1 (fun _=>rfl) (by decide) 0 (.int .i64 0) rfl 27 3 8 Tryz.underlying27 HIN.out (by decide) 0 _ 2 (by omega) (Nat.zero_le _) rfl _ _ rfl .i64 .i64 rfl rfl ?_;intro w7 ho7 hg7;have HB7:=Zh (show Below (w6.alloc (.cells #[.slice (some ⟨p4+1,0,none⟩) 2 2] 27)).heap.size (w6.alloc (.cells #[.slice (some ⟨p4+1,0,none⟩) 2 2] 27)) w7 from ⟨hg7.os,hg7.tape,hg7.output,hg7.size,fun k hk=>hg7.block k hk (by simp)⟩);have HC7:=Zh (Own.box ho7);have hl7:w6.heap.size+1<w7.heap.size:=by have h:=HC7.lt;simpa using h
         clear z0 zf zz ho7 hg7))
     obtain ⟨A0,hA0⟩: ∃A:World,w6.alloc (.cells #[.slice (some ⟨p4+1,0,none⟩) 2 2] 27)=A:=⟨_,rfl⟩;obtain ⟨A1,hA1⟩: ∃A:World,w7.alloc (.cells #[.slice (some ⟨w6.heap.size+1,0,none⟩) 2 2] 27)=A:=⟨_,rfl⟩;obtain ⟨A2,hA2⟩: ∃A:World,A1.alloc (.map #[] 0)=A:=⟨_,rfl⟩;obtain ⟨A3,hA3⟩: ∃A:World,A2.alloc (.cells #[.map (some (w7.heap.size+1))] 218)=A:=⟨_,rfl⟩;obtain ⟨A4,hA4⟩: ∃A:World,A3.alloc (.cells #[.slice none 0 0] 124)=A:=⟨_,rfl⟩;obtain ⟨CP,hCP⟩: ∃C:Array Value, #[.pointer (some ⟨w6.heap.size,0,none⟩),.pointer (some ⟨w7.heap.size+1+1,0,none⟩),.pointer (some ⟨w.heap.size,0,none⟩),.pointer (some ⟨w7.heap.size,0,none⟩),.pointer (some ⟨p4,0,none⟩),.pointer (some ⟨w7.heap.size+1+1+1,0,none⟩),.pointer (some ⟨w7.heap.size+1+1+1+1,0,none⟩)]=C:=⟨_,rfl⟩;obtain ⟨A5,hA5⟩: ∃A:World,A4.alloc (.cells #[.func (.func 148) #[] CP] 29)=A:=⟨_,rfl⟩;rw [hA1,hA2,hA3,hA4,hCP,hA5];rw [hA0] at HB7;have b01:Below w6.heap.size w6 A0:=by rw [<-hA0];exact Zai _ _
     have b71:Below w7.heap.size w7 A1:=by rw [<-hA1];exact Zai _ _
     have b12:Below A1.heap.size A1 A2:=by rw [<-hA2];exact Zai _ _
     have b23:Below A2.heap.size A2 A3:=by rw [<-hA3];exact Zai _ _
     have b34:Below A3.heap.size A3 A4:=by rw [<-hA4];exact Zai _ _
     have b45:Below A4.heap.size A4 A5:=by rw [<-hA5];exact Zai _ _
     have b35:=b34.trans (b45.mono b34.size);have b25:=b23.trans (b35.mono b23.size);have b15:=b12.trans (b25.mono b12.size);have b75:=b71.trans (b15.mono b71.size);have b05:=HB7.Zg b75;have b65:=b01.trans (b05.mono b01.size);have bw5:=HB6.Zg b65;have z1:A1.heap.size=w7.heap.size+1:=by rw [<-hA1];simp
     have z2:A2.heap.size=w7.heap.size+1+1:=by rw [<-hA2];simp [z1]
     have z3:A3.heap.size=w7.heap.size+1+1+1:=by rw [<-hA3];simp [z2]
     have z4:A4.heap.size=w7.heap.size+1+1+1+1:=by rw [<-hA4];simp [z3]
     have hd:=(HD6.later b65);rw [hsz4] at hd;have hc0:=HC7.later b75;rw [show (w6.alloc (.cells #[.slice (some ⟨p4+1,0,none⟩) 2 2] 27)).heap.size=w6.heap.size+1 by simp] at hc0;have hmd:SetM Zdo Tryz.prog 9 4 A2 (w7.heap.size+1) []:=by have h:=SetM.made Zdo Tryz.prog 9 4 A1;rw [hA2,z1] at h;exact h
     have hbx:Box wr w.heap.size 51 [.slice ah nh ch,.slice aw nw cw,.slice ac nc cc,.slice az ns cz,.slice ab nb cb,.string (txq wShip.t)]:=by rw [HT.out];exact HX4.out
     have hsr:SqS w ⟨⟨ah,aw,ac,az,ab,nh,nw,nc,ns,nb,ch,cw,cc,cz,cb⟩,w6.heap.size,w7.heap.size+1+1,w.heap.size,w7.heap.size,p4,w7.heap.size+1+1+1,w7.heap.size+1+1+1+1,p4+1,w6.heap.size+1,w7.heap.size+1,G,g0,g1,gc⟩ A5 0 0 (.slice none 0 0) []:=
       ⟨HB4.Zg bw5,Box.later (by rw [<-hA0];exact Box.new w6 _ 27) b05,Box.later (by rw [<-hA3];exact Box.newAt A2 _ 218 z2) b35,hbx.later bw5,Box.later (by rw [<-hA1];exact Box.new w7 _ 27) b15,HP4.later bw5,(by rw [<-hA5];unfold SqN.cap;rw [hCP];exact Box.newAt A4 _ 29 z4),HG04.below bw5 hGl4,HG14.below bw5 hGl4,Nat.lt_of_lt_of_le hGl4 bw5.size,HR04.later bw5,HR14.later bw5,hmd.later b25,hd,hc0,Box.later (by rw [<-hA4];exact Box.newAt A3 _ 124 z3) b45,Own.nil _ _ _ _ _⟩
     have hso:SqO w.heap.size ⟨⟨ah,aw,ac,az,ab,nh,nw,nc,ns,nb,ch,cw,cc,cz,cb⟩,w6.heap.size,w7.heap.size+1+1,w.heap.size,w7.heap.size,p4,w7.heap.size+1+1+1,w7.heap.size+1+1+1+1,p4+1,w6.heap.size+1,w7.heap.size+1,G,g0,g1,gc⟩:=by
       constructor <;> dsimp only <;> omega
     have HS:=Zh (HSQ.out _ rfl hso A5 hsr);unfold SqN.cap at HS;dsimp only at HS;rw [hCP] at HS;clear b01 b71 b12 b23 b34 b45 b35 b25 b15 b75 b05 b65 bw5 z1 z2 z3 z4 hd hc0 hmd hbx hsr hso hA0 hA1 hA2 hA3 hA4 hA5 HB7 HB6 HD6 HC7 HP4 HG04 HG14 HR04 HR14 HX4 HSQ hmm;refine HS.mono ?_;rintro e8 w8 ⟨rfl,h8,-⟩;obtain ⟨⟨ao,co,hbo⟩,hb8⟩:=h8 rfl;have HB8:=Zh hb8;obtain ⟨v8,vf,vl⟩:=hbo.v1;dsimp only at v8 vf vl;clear h8 hb8 hbo HS;go_wp2_with fail;refine bodyPost_ret (v:= .tuple #[.slice ao 4 co,.int .i64 0]) (by simp [results,Tryz.results70,go_sem, *]) rfl ?_;exact ⟨ao,co,rfl,HB8.out⟩
end Go.Proofs.YtijajkfmlghgkaaGreatDoor.Nu
namespace Go.Proofs.YtijajkfmlghgkaaGreatDoor.Nu
open Go Go.Proofs Go.RowKit Go.Proofs.YtijajkfmlghgkaaGreatDoor
theorem Zmy (w:World) (a b:Int):Sl encI 1 (w.alloc (.cells #[.int .i64 a,.int .i64 b] 3)) (w.alloc (.cells #[.int .i64 a,.int .i64 b] 3)).heap.size (.slice (some ⟨w.heap.size,0,none⟩) 2 2) [a,b]:=
  Zeo (f:=encI) (sz:=1) (fun _=>rfl) w [a,b] #[.int .i64 a,.int .i64 b] rfl 3 2 2 rfl (by simp) w.heap.size rfl
theorem Zim (w:World) (hw:TbR w):Calls Tryz.prog 22 #[] w (Ret (.bool true) w):=by
  have HSP:=Zh (fun (u:World)=>Zik u);have HW:=Zh hw;clear hw;obtain ⟨T,hT⟩: ∃T,txq wShip.t=T:=⟨_,rfl⟩;have HT:=Zh hT;clear hT;go_enter Tryz.func22,Tryz.ntmps22;go_wp2_with fail;refine (HSP.out _).mono ?_;rintro e1 w1 ⟨x1,rfl,hs1,hb1⟩;have HB1:=Zh hb1;have HSH:=Zh (Zmc (w1.alloc (.cells #[.int .i64 20,.int .i64 0] 3)) (HW.later (hb1.alloc hb1.size _)) x1 wShip _ [20,0] (hs1.later (Zai _ _)) (Zmy w1 20 0) Ze3 (Ze4 20 0 ⟨by decide,by decide⟩ ⟨by decide,by decide⟩));clear hb1 hs1;obtain ⟨ah,aw,ac,az,ab,nh,nw,nc,ns,nb,ch,cw,cc,cz,cb⟩:=x1;dsimp only [ShV.v] at HSH ⊢;rw [HT.out] at HSH ⊢;go_wp2_with fail;refine HSH.mono ?_;rintro e2 w2 ⟨v2,rfl,hs2,hb2⟩;have HS2:=Zh hs2;have HB2:=Zh ((HB1.alloc HB1.size (.cells #[.int .i64 20,.int .i64 0] 3)).trans (hb2.mono (HB1.alloc HB1.size (.cells #[.int .i64 20,.int .i64 0] 3)).size));obtain ⟨a2,c2,e2,-⟩:=hs2;subst e2;clear hb2 HSH HB1;go_wp2_with fail;refine (HSP.out _).mono ?_;rintro e3 w3 ⟨x1,rfl,hs1,hb1⟩;have HS3:=Zh (HS2.later hb1);have HB3:=Zh (HB2.Zg hb1);have HSH:=Zh (Zpo (w3.alloc (.cells #[.int .i64 20,.int .i64 0] 3)) (HW.later (HB3.alloc HB3.size _)) x1 wShip _ [20,0] (hs1.later (Zai _ _)) (Zmy w3 20 0) Ze3 (Ze4 20 0 ⟨by decide,by decide⟩ ⟨by decide,by decide⟩));clear hb1 hs1 HS2 HB2;obtain ⟨ah,aw,ac,az,ab,nh,nw,nc,ns,nb,ch,cw,cc,cz,cb⟩:=x1;rw [Zkc,Zc3.2.2.2] at HSH;dsimp only [ShV.v] at HSH ⊢;rw [HT.out] at HSH ⊢;go_wp2_with fail;refine HSH.mono ?_;rintro e4 w4 ⟨rfl,hb2⟩;have hbb:=(HB3.alloc HB3.size (.cells #[.int .i64 20,.int .i64 0] 3)).trans (hb2.mono (HB3.alloc HB3.size (.cells #[.int .i64 20,.int .i64 0] 3)).size);have HB4:=Zh hbb;have HS4:=Zh ((HS3.later (Zai w3 (.cells #[.int .i64 20,.int .i64 0] 3))).later hb2);clear hb2 hbb HSH HB3 HS3;go_wp2_with fail;refine (HSP.out _).mono ?_;rintro e5 w5 ⟨x1,rfl,hs1,hb1⟩;have HS5:=Zh (HS4.later hb1);have HB5:=Zh (HB4.Zg hb1);have HSH:=Zh (Zkf (w5.alloc (.cells #[.int .i64 40,.int .i64 40] 3)) (HW.later (HB5.alloc HB5.size _)) x1 (hs1.later (Zai _ _)) _ (Zmy w5 40 40));clear hb1 hs1 HS4 HB4;obtain ⟨ah,aw,ac,az,ab,nh,nw,nc,ns,nb,ch,cw,cc,cz,cb⟩:=x1;dsimp only [ShV.v] at HSH ⊢;rw [HT.out] at HSH ⊢;go_wp2_with fail;refine HSH.mono ?_;rintro e6 w6 ⟨a6,c6,rfl,hb2⟩;have hbb:=(HB5.alloc HB5.size (.cells #[.int .i64 40,.int .i64 40] 3)).trans (hb2.mono (HB5.alloc HB5.size (.cells #[.int .i64 40,.int .i64 40] 3)).size);have HB6:=Zh hbb;have HS6:=Zh ((HS5.later (Zai w5 (.cells #[.int .i64 40,.int .i64 40] 3))).later hb2);have hlen:(sheL wShip [20,0]).length=4:=by rw [Zfx];rfl
  rw [hlen] at HS6 ⊢;rw [Zfx] at HS6;have HNW:=Zh (Zeo (f:=encQ) (sz:=1) (fun _=>rfl) w6 [-1,2,-1,0] #[.string ⟨#[45,49]⟩,.string ⟨#[50]⟩,.string ⟨#[45,49]⟩,.string ⟨#[48]⟩] (by show _=(#[Value.string (txq (-1)),Value.string (txq 2),Value.string (txq (-1)),Value.string (txq 0)]:Array Value);rw [Zc3.1,Zc3.2.1,Zc3.2.2.1]) 32 4 4 rfl (by decide) w6.heap.size rfl);have HSR:=Zh (Zmn (w6.alloc (.cells #[.string ⟨#[45,49]⟩,.string ⟨#[50]⟩,.string ⟨#[45,49]⟩,.string ⟨#[48]⟩] 32)) _ _ [-1,2,-1,0] (HS6.later (Zai _ _)) HNW.out);clear hb2 hbb HSH HB5 HS5 hlen;go_wp2_with fail;refine HSR.mono ?_;rintro e7 w7 ⟨rfl,hb2⟩;have HB7:=Zh ((HB6.alloc HB6.size (.cells #[.string ⟨#[45,49]⟩,.string ⟨#[50]⟩,.string ⟨#[45,49]⟩,.string ⟨#[48]⟩] 32)).trans (hb2.mono (HB6.alloc HB6.size (.cells #[.string ⟨#[45,49]⟩,.string ⟨#[50]⟩,.string ⟨#[45,49]⟩,.string ⟨#[48]⟩] 32)).size));clear hb2 HSR HNW HS6 HB6;go_wp2_with fail;go_ret;exact ⟨rfl,HB7.out⟩
end Go.Proofs.YtijajkfmlghgkaaGreatDoor.Nu
