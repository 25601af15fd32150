/- Lemmas on the way to the law TopMirrored: Tf Tl Hc Hd He Hg Hh Hi Ka Kb Kd Ke Kf Kg -/
import Derived.Test.YtijajkfmlghgkaaGreatDoorTopMirroredP10
import Derived.RegionTactic
import Derived.BigRegion
set_option linter.unusedVariables false
set_option linter.unusedSimpArgs false
set_option maxRecDepth 100000
set_option maxHeartbeats 4000000
namespace Go.Proofs.YtijajkfmlghgkaaGreatDoor.Nu
open Go Go.Proofs Go.RowKit Go.Proofs.YtijajkfmlghgkaaGreatDoor
theorem IntR.exact {w:World} {v:Value} {z:Int} (h:IntR w v z) (h1: -9223372036854775808<z) (h2:z<9223372036854775808):v= .agg #[.int .i64 z,.slice none 0 0]:=by
  rcases h with ⟨h,_⟩|⟨s,b,off,n,c,l,_,_,_,_,_,_,hbig,hs⟩
  ·exact h
  ·rcases hs with ⟨_,h⟩|⟨_,h⟩ <;> omega
theorem FrR.exact {w:World} {v:Value} {z:Int} (h:FrR w v (z:Rat)) (h1: -9223372036854775808<z) (h2:z<9223372036854775808):v= .agg #[.int .i64 z,.slice none 0 0,.int .i64 1,.slice none 0 0]:=by
  obtain ⟨s1,a1,n1,c1,s2,a2,n2,c2,rfl,k1,k2⟩:=h;rw [Rat.num_intCast] at k1;rw [Rat.den_intCast] at k2;have e1:=k1.exact h1 h2;have e2:=k2.exact (by decide) (by decide);injection e1 with e1
  injection e2 with e2
  simp at e1 e2;obtain ⟨rfl,rfl,rfl,rfl⟩:=e1;obtain ⟨rfl,rfl,rfl,rfl⟩:=e2;rfl
theorem FrR.whole (w:World) {z:Int} (h1: -9223372036854775808<=z) (h2:z<=9223372036854775807):FrR w (.agg #[.int .i64 z,.slice none 0 0,.int .i64 1,.slice none 0 0]) (z:Rat):=
  ⟨_,_,_,_,_,_,_,_,rfl,by rw [Rat.num_intCast];exact IntR.small w h1 h2,by rw [Rat.den_intCast];exact IntR.small w (by decide) (by decide)⟩
theorem Zr6 (w:World) (b:Int) (hb0:0<=b) (hb9:b<=30) (n:Nat) (hn:n<=4):Calls Tryz.prog 283 #[.agg #[.int .i64 b,.slice none 0 0,.int .i64 1,.slice none 0 0],.int .i64 (n:Int)] w (RetF w ((b^n:Int):Rat)):=by
  have HP:=Zh (fun (u:World) (c:Int) (h0:0<=c) (h9:c<=30)=>spowB u c h0 h9 n hn);have HE:=Zh (show (1:Int)^n=1 from Int.one_pow);have HSM:=Zh (Zfp hb0 hb9 hn);have HP1:=Zh (fun (u:World)=>(by have h:=HP.out u 1 (by decide) (by decide);rwa [HE.out] at h:Calls Tryz.prog 259 #[.agg #[.int .i64 1,.slice none 0 0],.int .i64 (n:Int)] u (Ret (.agg #[.int .i64 1,.slice none 0 0]) u)));have HPB:=Zh (fun (u:World)=>HP.out u b hb0 hb9);clear HP HE;obtain ⟨p,hp⟩: ∃p:Int,b^n=p:=⟨_,rfl⟩;rw [hp] at HPB HSM ⊢;clear hp hb0 hb9;have HB_0:=Zh ((Below.refl w.heap.size w).alloc (Nat.le_refl _) (.cells #[.int .i64 b,.slice none 0 0,.int .i64 1,.slice none 0 0] 135));have HB:=Zh (HB_0.alloc HB_0.size (.cells #[.int .i64 0,.slice none 0 0,.int .i64 0,.slice none 0 0] 135));have HX:=Zh ((Box.new w #[.int .i64 b,.slice none 0 0,.int .i64 1,.slice none 0 0] 135).alloc (.cells #[.int .i64 0,.slice none 0 0,.int .i64 0,.slice none 0 0] 135));have HZ:=Zh (Box.newAt (w.alloc (.cells #[.int .i64 b,.slice none 0 0,.int .i64 1,.slice none 0 0] 135)) #[.int .i64 0,.slice none 0 0,.int .i64 0,.slice none 0 0] 135 (n:=w.heap.size+1) (by simp));obtain ⟨x0,x1,x2,x3,xf,xz⟩:=HX.w4;obtain ⟨z0,z1,z2,z3,zf,zz⟩:=HZ.w4;clear HB_0;go_enter Tryz.func283,Tryz.ntmps283;go_wp2_with fail;refine Zak 9 (fun j=>false) (kxs [.is (.pointer (some ⟨w.heap.size,0,none⟩)),.is (.agg #[.int .i64 b,.slice none 0 0]),.is (.int .i64 (n:Int)),.is (.agg #[.int .i64 p,.slice none 0 0]),.is (.pointer (some ⟨w.heap.size,2,none⟩)),.is (.agg #[.int .i64 1,.slice none 0 0]),.is (.int .i64 (n:Int)),.is (.agg #[.int .i64 1,.slice none 0 0]),.is (.agg #[.int .i64 p,.slice none 0 0,.int .i64 1,.slice none 0 0])]) (by kernel_rfl) (by kernel_rfl) (fun j v u u' h hb=>Kx.later h hb) ?_ ?_
  ·refine ⟨?_,?_,?_,?_,?_,?_,?_,?_,?_,trivial⟩
   all_goals
     first|intro vs u hu hR|intro vs u hR
     simp only [Zac,Z2,Z6,Act.put,Z1,Z4,Z5]
   rotate_left;have e0:vs 0=_:=Zr hR 0;obtain ⟨x0,x1,x2,x3,xf,xz⟩:=(HX.later hu).w4;rotate_left;rotate_left;have e1:vs 1=_:=Zr hR 1;have e2:vs 2=_:=Zr hR 2;have HS:=Zh (HPB.out u);rotate_left;rotate_left;have e4:vs 4=_:=Zr hR 4;obtain ⟨x0,x1,x2,x3,xf,xz⟩:=(HX.later hu).w4;rotate_left;rotate_left;have e5:vs 5=_:=Zr hR 5;have e6:vs 6=_:=Zr hR 6;have HS:=Zh (HP1.out u);rotate_left;have e3:vs 3=_:=Zr hR 3;have e7:vs 7=_:=Zr hR 7;rotate_left
   all_goals
     clear hR
     try clear hu
     go_wp2_with fail
     first|exact ⟨rfl,rfl,_,_,rfl,rfl,Below.refl _ _,rfl,fun h=>absurd h (by decide)⟩|(refine HS.mono ?_;rintro e11 w11 ⟨rfl,hb⟩;go_wp2_with fail;exact ⟨rfl,rfl,_,_,rfl,rfl,hb,rfl,fun h=>absurd h (by decide)⟩)
  ·intro vs u hu hR hsep;have e8:vs 8=_:=hR 8 (by decide);simp only [Zac,Z3,Z7,Z2,Z6,Act.put,Z1,Z4,Z5,e8];have HZu:=Zh (HZ.later hu);have HBu:=Zh (HB.Zg hu);clear hR hu hsep e8 x0 x1 x2 x3 xf xz z0 z1 z2 z3 zf zz;obtain ⟨z0,z1,z2,z3,zf,zz⟩:=HZu.w4;go_wp2_with fail;refine bodyPost_ret (v:= .agg #[.int .i64 p,.slice none 0 0,.int .i64 1,.slice none 0 0]) (by simp [results,Tryz.results283,go_sem, *]) rfl ?_;refine RetF.mk rfl ((FrR.whole _ (by have:=HSM.lo;omega) (by have:=HSM.hi;omega)).put4 HZu.out _ _ _ _ _ _ _ _) ?_
   repeat (first|with_reducible exact HBu.out|with_reducible exact Below.refl _ _|refine .Zs ?_ _|refine .Za ?_ _|refine .drew ?_)
def Zll (ks:List HK) (l:List Kx):Bool:=(List.range ks.length).all fun j=> !Zcd ks j || (match l.getD j (.is undef) with | .is _=>true|_=>false)
theorem Zgr (ks:List HK) (l:List Kx) (h:Zll ks l=true) (j:Nat) (hj:Zcd ks j=true) {v:Value} {u u':World} (hR:kxs l j v u):kxs l j v u':=by
  have hlt:j<ks.length:=by
    rcases Nat.lt_or_ge j ks.length with h1|h1
    ·exact h1
    ·unfold Zcd at hj;rw [List.getElem?_eq_none h1] at hj;cases hj
  simp only [Zll,List.all_eq_true,List.mem_range] at h;have h2:=h j hlt;rw [hj] at h2;unfold kxs at hR ⊢;generalize l.getD j (.is undef)=k at *;cases k with
  | is x=>exact hR
  | _=>simp at h2
theorem Zb1 {α:Type} (g:Nat->α) (k:Nat):(List.range k).map g++ [g k]=(List.range (k+1)).map g:=by rw [List.range_succ,List.map_append];rfl
theorem Zpg {b:Int} (h0:0<=b) (h9:b<=30) {r:Nat} (h:r<=4):Dw ((b^r:Int):Rat):=by
  have hs:=Zfp h0 h9 h;exact (Dn.int (k:=19) ⟨by have:=hs.lo;have:=hs.hi;have e:(10:Nat)^19=10000000000000000000:=(by decide);omega⟩ (by decide)).mono (by decide)
theorem Zlm (k:Nat) (h:k<=30):Dw (((k:Int)):Rat):=by
  have:=Zpg (b:=(k:Int)) (by omega) (by omega) (r:=1) (by decide)
  rwa [Int.pow_one] at this
theorem Zdw (w:World) (v:Value) (f g:Nat->Rat) (n:Nat) (hn:n<=24) (p:Nat) (hp:p<=4) (h:SlF w v ((List.range n).map f)) (hf: ∀k,k<n->Dw (f k)) (hg: ∀k,k<n->f k* (((k:Int)^p:Int):Rat)=g k):Calls Tryz.prog 222 #[v,.int .i64 (p:Int)] w (RetS w ((List.range n).map g)):=by
  have HSL:=Zh h;obtain ⟨a,c,rfl,hc⟩:=h.shape;have e:((List.range n).map f).length=n:=by simp
  rw [e] at hc HSL ⊢;have HF:=Zh hf;have HG:=Zh hg;clear h hf hg e hc;go_enter Tryz.func222,Tryz.ntmps222;go_wp2_with fail
  go_loopw [5,10] (fun o i wr=> ∃k:Nat,k<=n/\i= .int .i64 k/\Hid (Below w.heap.size w wr)/\Hid (OwnF wr w.heap.size o ((List.range k).map g))) (fun _ i _=>n-(intOf i).toNat)
  case atStart=>exact ⟨0,by omega,rfl,Zh (Below.refl _ _),Zh (OwnF.nil w _)⟩
  case round=>
    obtain ⟨k,hk,rfl,HBE,HO⟩:=hrel;obtain ⟨ao,co,e⟩:=HO.shape;have el:((List.range k).map g).length=k:=by simp
    rw [el] at e;subst e;clear el
    by_cases hlt:k<n
    ·obtain ⟨b,off,y,ha,hb,hat,huf⟩:=(HSL.later HBE.out).at k (by simpa using hlt);rw [Zcn] at huf;subst ha;have c0:=hat 0 _ rfl;have c1:=hat 1 _ rfl;have c2:=hat 2 _ rfl;have c3:=hat 3 _ rfl;rw [Nat.add_zero] at c0;have hal:Below wr.heap.size wr (wr.alloc (.cells #[.int .i64 y.s,.slice y.a y.n y.c,.int .i64 y.t,.slice y.b y.m y.d] 135)):=(Below.refl _ _).alloc (Nat.le_refl _) _;have HUF:=Zh (huf.later hal);have HU:=Zh (Box.new wr #[.int .i64 y.s,.slice y.a y.n y.c,.int .i64 y.t,.slice y.b y.m y.d] 135);have HO5:=Zh (HO.later hal);have HB5:=Zh (HBE.Zg hal);have HPW:=Zh (fun (u:World) (v:Value) (h:FrR u v ((k:Int):Rat))=>(by rw [h.exact (by omega) (by omega)];exact Zr6 u (k:Int) (by omega) (by omega) p hp:Calls Tryz.prog 283 #[v,.int .i64 (p:Int)] u (RetF u (((k:Int)^p:Int):Rat))));have HM:=Zh (fun (u:World) (v v':Value) (h:FrR u v (f k)) (h':FrR u v' (((k:Int)^p:Int):Rat))=>(by rw [<-HG.out k hlt];exact fmul u _ _ h h' (HF.out k hlt) (Zpg (by omega) (by omega) hp):Calls Tryz.prog 162 #[v,v'] u (RetF u (g k))));clear hat huf hal HO;go_wp2_with fail;generalize hW:wr.alloc (.cells #[.int .i64 y.s,.slice y.a y.n y.c,.int .i64 y.t,.slice y.b y.m y.d] 135)=W at *;clear c0 c1 c2 c3 hW;generalize wr.heap.size=gx at *;obtain ⟨q0,hq0⟩: ∃q:Rat,f k=q:=⟨_,rfl⟩;obtain ⟨q1,hq1⟩: ∃q:Rat,(((k:Int)^p:Int):Rat)=q:=⟨_,rfl⟩;obtain ⟨q2,hq2⟩: ∃q:Rat,g k=q:=⟨_,rfl⟩;rw [hq0] at HUF HM;rw [hq1] at HPW HM;rw [hq2] at HM;have HQ2:=Zh hq2;clear hq0 hq1 hq2;refine Zak 8 (fun j=>false) (kxs [.is (.slice ao k co),.frac q0,.is (.int .i64 (k:Int)),.frac ((k:Int):Rat),.is (.int .i64 (p:Int)),.frac q1,.frac q2,.one q2 W.heap.size]) (by kernel_rfl) (by kernel_rfl) (fun j v u u' h hb=>Kx.later h hb) ?_ ?_
     ·refine ⟨?_,?_,?_,?_,?_,?_,?_,?_,trivial⟩
      all_goals
        first|intro vs u hu hR|intro vs u hR
        simp only [Zac,Z2,Z6,Act.put,Z1,Z4,Z5]
      rotate_left;obtain ⟨y0,y1,y2,y3,yf,yz⟩:=(HU.later hu).w4;have HI:=Zh (HUF.later hu);rotate_left;rotate_left;have e2:vs 2=_:=Zr hR 2;have HS:=Zh (Zf4 u (k:Int) (by omega) (by omega));rotate_left;rotate_left;have k3:FrR u (vs 3) _:=Zr hR 3;have e4:vs 4=_:=Zr hR 4;have HS:=Zh (HPW.out u _ k3);clear k3;rotate_left;have k1:FrR u (vs 1) _:=Zr hR 1;have k5:FrR u (vs 5) _:=Zr hR 5;have HS:=Zh (HM.out u _ _ k1 k5);clear k1 k5;rotate_left
      ·have k6:FrR u (vs 6) _:=Zr hR 6;obtain ⟨x6,ex6,hx6⟩:=k6.f4;have hxl:FrR (u.alloc (.cells #[.int .i64 x6.s,.slice x6.a x6.n x6.c,.int .i64 x6.t,.slice x6.b x6.m x6.d] 135)) x6.v _:=hx6.later ((Below.refl _ _).alloc (Nat.le_refl _) _);have HXL:=Zh hxl;have hsz:=hu.size;rw [ex6];clear hR hu k6 ex6 hx6 hxl;go_wp2_with fail;exact ⟨rfl,rfl,_,_,rfl,rfl,(Below.refl _ _).alloc (Nat.le_refl _) _,⟨_,x6,rfl,Box.new u _ 135,HXL.out,hsz⟩,fun h=>absurd h (by decide)⟩
      all_goals
        clear hR
        try clear hu
        go_wp2_with fail
        first|exact ⟨rfl,rfl,_,_,rfl,rfl,Below.refl _ _,rfl,fun h=>absurd h (by decide)⟩|exact ⟨rfl,rfl,_,_,rfl,rfl,Below.refl _ _,HI.out,fun h=>absurd h (by decide)⟩|(refine HS.mono ?_;rintro e11 w11 ⟨v11,rfl,hi11,hb⟩;go_wp2_with fail;exact ⟨rfl,rfl,_,_,rfl,rfl,hb,hi11,fun h=>absurd h (by decide)⟩)
     ·intro vs u hu hR hsep;have e0:vs 0=_:=hR 0 (by decide);obtain ⟨g7,x7,e7,hb7,hx7,hl7⟩:Kx.R (.one q2 W.heap.size) (vs 7) u:=hR 7 (by decide);simp only [Zac,Z3,Z7,Z2,Z6,Act.put,Z1,Z4,Z5,e0,e7];have HO6:=HO5.later hu;have hbs:w.heap.size<=u.heap.size:=Nat.le_trans HB5.size hu.size;have HB6:=Zh (HB5.Zg hu);refine Zc5 130 (.agg #[.int .i64 0,.slice none 0 0,.int .i64 0,.slice none 0 0]) 64 Tryz.underlying130 (by kernel_rfl) rfl (by decide) (by simp [Value.cells]) ((List.range k).map g) q2 x7 w.heap.size u g7 x7.enc.toArray 135 hb7 (by simp) hx7 (.slice ao k co) HO6 (by exact hbs) (by simp;omega) rfl (.tmp 15) (.tmp 22) rfl rfl rfl ?_;intro v' w' hown' hgr;have HB7:=Zh (Zci (base:=w.heap.size) HB6.out hgr (by omega) (fun k hk=>(HO6.lt k hk).1) (Nat.le_refl _));rw [<-HQ2.out,Zb1] at hown';obtain ⟨a',c',e'⟩:=hown'.shape;rw [List.length_map,List.length_range] at e';subst e';have HO7:=Zh hown';clear hR hu hsep hown' hgr HO6 hbs HPW HM HUF HU HO5 HB5 HB6 hb7 hx7 hl7;simp only [Act.put,Z1,Z4,Z5];go_wp2_with fail;go_roundw
      case rel=>exact ⟨k+1,by omega,by go_num,HB7,HO7⟩
      case measure=>simp [intOf];omega
    ·obtain rfl:k=n:=by omega
     clear HSL HF HG;go_wp2_with fail;go_ret;exact ⟨_,rfl,HO.out,HBE.out⟩
theorem Zln {z:Int} {k:Nat} (hk:0<k) (h:Zb k z):(txz z).size<=k+1:=by rw [Zey];exact Zdu hk h.lt
theorem Zns {q:Rat} (e:q.den≠1):txz q.num++⟨#[47]⟩++txz (q.den:Int)=txq q:=by
  unfold txz txq ratL;rw [if_neg e,Zav (Int.natCast_nonneg _),Int.toNat_natCast];rw [show (⟨#[47]⟩:ByteArray)=tx [47] from rfl,Zfl,Zfl];simp
theorem Zlo {q:Rat} (e:q.den=1):txz q.num=txq q:=by
  unfold txz txq ratL;rw [if_pos e,List.append_nil]
theorem Zqk (w:World) (hw:TbR w) (v:Value) (q:Rat) (h:FrR w v q) (hq:Dn 1000 q):Calls Tryz.prog 118 #[v] w (Ret (.string (txq q)) w):=by
  have HIW:=Zh (fun (u:World) (hb:Below w.heap.size w u)=>Zfg u v q (h.later hb));have HSN:=Zh (fun (u:World) (hb:Below w.heap.size w u) (v:Value) (h:IntR u v q.num)=>Zfm u (hw.later hb) v _ h (hq.zn.mono (by decide)));have HSD:=Zh (fun (u:World) (hb:Below w.heap.size w u) (v:Value) (h:IntR u v (q.den:Int))=>Zfm u (hw.later hb) v _ h (hq.zd.mono (by decide)));have HTW:=Zh (fun (e:q.den=1)=>Zlo e);have HTF:=Zh (fun (e:q.den≠1)=>Zns e);have HZ1:=Zh (Zln (by decide) hq.zn);have HZ2:=Zh (Zln (by decide) hq.zd);obtain ⟨s1,a1,n1,c1,t1,b1,m1,d1,rfl,h11,h12⟩:=h;have HI1:=Zh (fun (u:World) (hb:Below w.heap.size w u)=>h11.later hb);have HI2:=Zh (fun (u:World) (hb:Below w.heap.size w u)=>h12.later hb);obtain ⟨N,hN⟩: ∃N,txz q.num=N:=⟨_,rfl⟩;obtain ⟨M,hM⟩: ∃N,txz (q.den:Int)=N:=⟨_,rfl⟩;obtain ⟨X,hX⟩: ∃N,txq q=N:=⟨_,rfl⟩;rw [hN] at HSN HTW HTF HZ1;rw [hM] at HSD HTF HZ2;rw [hX] at HTW HTF ⊢;clear hN hM hX hw hq h11 h12;have HB:=Zh ((Below.refl w.heap.size w).alloc (Nat.le_refl _) (.cells #[.int .i64 s1,.slice a1 n1 c1,.int .i64 t1,.slice b1 m1 d1] 135));have HX:=Zh (Box.new w #[.int .i64 s1,.slice a1 n1 c1,.int .i64 t1,.slice b1 m1 d1] 135);obtain ⟨x0,x1,x2,x3,xf,xz⟩:=HX.w4
  by_cases hd:q.den=1
  ·rw [Zt hd] at HIW;have HE:=Zh (HTW.out hd);clear hd HTW HTF;go_enter Tryz.func118,Tryz.ntmps118;go_wp2_with fail;refine (HIW.out _ HB.out).mono ?_;rintro e3 w3 ⟨rfl,hb⟩;replace HB:=Zh (HB.Zg hb);replace HX:=Zh (HX.later hb);clear hb x0 x1 x2 x3 xf xz;obtain ⟨x0,x1,x2,x3,xf,xz⟩:=HX.w4;go_wp2_with fail;refine (HSN.out _ HB.out _ (HI1.out _ HB.out)).mono ?_;rintro e4 w4 ⟨rfl,hb⟩;replace HB:=Zh (HB.Zg hb);clear hb;go_wp2_with fail;go_ret;exact ⟨by rw [HE.out];rfl,HB.out⟩
  ·rw [Zf hd] at HIW;have hE:=HTF.out hd;obtain ⟨Y,hY⟩: ∃N',N++⟨#[47]⟩=N':=⟨_,rfl⟩;rw [hY] at hE;have hz1:=HZ1.out;have hz2:=HZ2.out;have hz3:Y.size<=1002:=by rw [<-hY,ByteArray.size_append];show N.size+1<=_;omega
   have hz4:(⟨#[47]⟩:ByteArray).size=1:=rfl;clear hd HTW HTF;go_enter Tryz.func118,Tryz.ntmps118;go_wp2_with fail;refine (HIW.out _ HB.out).mono ?_;rintro e3 w3 ⟨rfl,hb⟩;replace HB:=Zh (HB.Zg hb);replace HX:=Zh (HX.later hb);clear hb x0 x1 x2 x3 xf xz;obtain ⟨x0,x1,x2,x3,xf,xz⟩:=HX.w4;go_wp2_with fail;refine Zak 8 (fun j=>false) (kxs [.is (.pointer (some ⟨w.heap.size,0,none⟩)),.int q.num,.is (.string N),.is (.string Y),.is (.pointer (some ⟨w.heap.size,2,none⟩)),.int (q.den:Int),.is (.string M),.is (.string X)]) (by kernel_rfl) (by kernel_rfl) (fun j v u u' h hb=>Kx.later h hb) ?_ ?_
   ·refine ⟨?_,?_,?_,?_,?_,?_,?_,?_,trivial⟩
    all_goals
      first|intro vs u hu hR|intro vs u hR
      simp only [Zac,Z2,Z6,Act.put,Z1,Z4,Z5]
    rotate_left;have e0:vs 0=_:=Zr hR 0;obtain ⟨x0,x1,x2,x3,xf,xz⟩:=(HX.later hu).w4;have HI:=Zh (HI1.out u (HB.Zg hu));rotate_left;have k1:IntR u (vs 1) _:=Zr hR 1;have HS:=Zh (HSN.out u (HB.Zg hu) _ k1);clear k1;rotate_left;have e2:vs 2=_:=Zr hR 2;rotate_left;rotate_left;have e4:vs 4=_:=Zr hR 4;obtain ⟨x0,x1,x2,x3,xf,xz⟩:=(HX.later hu).w4;have HI:=Zh (HI2.out u (HB.Zg hu));rotate_left;have k5:IntR u (vs 5) _:=Zr hR 5;have HS:=Zh (HSD.out u (HB.Zg hu) _ k5);clear k5;rotate_left;have e3:vs 3=_:=Zr hR 3;have e6:vs 6=_:=Zr hR 6;rotate_left
    all_goals
      clear hR
      try clear hu
      go_wp2_with fail
      first|exact ⟨rfl,rfl,_,_,rfl,rfl,Below.refl _ _,rfl,fun h=>absurd h (by decide)⟩|exact ⟨rfl,rfl,_,_,rfl,rfl,Below.refl _ _,HI.out,fun h=>absurd h (by decide)⟩|(refine HS.mono ?_;rintro e11 w11 ⟨rfl,hb⟩;go_wp2_with fail;exact ⟨rfl,rfl,_,_,rfl,rfl,hb,rfl,fun h=>absurd h (by decide)⟩)
   ·intro vs u hu hR hsep;have e7:vs 7=_:=hR 7 (by decide);simp only [Zac,Z3,Z7,Z2,Z6,Act.put,Z1,Z4,Z5,e7];have HBu:=Zh (HB.Zg hu);clear hR hu hsep e7;go_wp2_with fail;go_ret;exact ⟨rfl,HBu.out⟩
theorem Zlp (w:World) (hw:TbR w) (v:Value) (z:Int) (h:IntR w v z) (hz:Zb 600 z):Calls Tryz.prog 225 #[v] w (Ret (.bool false) w):=by
  have HBI:=Zh (fun (u:World) (hb:Below w.heap.size w u)=>Zp3 u v z (h.later hb) (hz.wdsN (by decide)));have HST:=Zh (fun (u:World) (hb:Below w.heap.size w u)=>Zfm u (hw.later hb) v z (h.later hb) (hz.mono (by decide)));have HTP:=Zh (fun (w1:World)=>(by
    have h:=Tryz.strings_TrimPrefix (txz z) ⟨#[45]⟩ w1;rw [Zex,show (⟨#[45]⟩:ByteArray).data.toList=[45] from rfl,Zcm] at h;exact h.mono (fun e w' h=>⟨h.1,h.2.symm⟩):Calls Tryz.prog 188 #[.string (txz z),.string ⟨#[45]⟩] w1 fun e w'=>e= .returned (.string (tx (Lib.decDigits z.natAbs)))/\w1=w'))
  have hsz:(tx (Lib.decDigits z.natAbs)).size<=600:=by rw [Zan];exact Zdg (by decide) hz
  obtain ⟨s1,a1,n1,c1,rfl,_,_,_,_⟩:=h.form;generalize txz z=X at *;generalize tx (Lib.decDigits z.natAbs)=D at *;generalize Zk6 z.natAbs=n at *;clear hw hz h;have HB:=Zh ((Below.refl w.heap.size w).alloc (Nat.le_refl _) (.cells #[.int .i64 s1,.slice a1 n1 c1] 133));have HX:=Zh (Box.new w #[.int .i64 s1,.slice a1 n1 c1] 133);obtain ⟨x0,x1,xf,xz⟩:=HX.v2;have d3:decide (600<D.size)=false:=Zf (by omega);have d4:decide ((600:Int)<(D.size:Int))=false:=Zf (by omega);go_enter Tryz.func225,Tryz.ntmps225;go_wp2_with fail;refine (HBI.out _ HB.out).mono ?_;rintro e3 w3 ⟨rfl,hb⟩;replace HB:=Zh (HB.Zg hb);replace HX:=Zh (HX.later hb);clear hb x0 x1 xf xz;obtain ⟨x0,x1,xf,xz⟩:=HX.v2
  by_cases hn:1800<n
  ·have d1:decide (1800<n)=true:=Zt hn;have d2:decide ((1800:Int)<(n:Int))=true:=Zt (by omega);go_wp2_with fail;refine (HST.out _ HB.out).mono ?_;rintro e4 w4 ⟨rfl,hb⟩;replace HB:=Zh (HB.Zg hb);clear hb;go_wp2_with fail;refine (HTP.out _).mono ?_;rintro e5 w5 ⟨rfl,rfl⟩;go_wp2_with fail;go_ret;exact ⟨rfl,HB.out⟩
  ·have d1:decide (1800<n)=false:=Zf hn;have d2:decide ((1800:Int)<(n:Int))=false:=Zf (by omega);go_wp2_with fail;go_ret;exact ⟨rfl,HB.out⟩
theorem Znt (w:World) (hw:TbR w) (v:Value) (q:Rat) (h:FrR w v q) (hq:Dn 600 q):Calls Tryz.prog 152 #[v] w (Ret (.bool false) w):=by
  obtain ⟨s1,a1,n1,c1,t1,b1,m1,d1,rfl,h11,h12⟩:=h;have HL1:=Zh (fun (u:World) (hb:Below w.heap.size w u)=>Zlp u (hw.later hb) _ _ (h11.later hb) hq.zn);have HL2:=Zh (fun (u:World) (hb:Below w.heap.size w u)=>Zlp u (hw.later hb) _ _ (h12.later hb) hq.zd);clear hw hq h11 h12;have HB:=Zh ((Below.refl w.heap.size w).alloc (Nat.le_refl _) (.cells #[.int .i64 s1,.slice a1 n1 c1,.int .i64 t1,.slice b1 m1 d1] 135));have HX:=Zh (Box.new w #[.int .i64 s1,.slice a1 n1 c1,.int .i64 t1,.slice b1 m1 d1] 135);obtain ⟨x0,x1,x2,x3,xf,xz⟩:=HX.w4;go_enter Tryz.func152,Tryz.ntmps152;go_wp2_with fail;refine (HL1.out _ HB.out).mono ?_;rintro e3 w3 ⟨rfl,hb⟩;replace HB:=Zh (HB.Zg hb);replace HX:=Zh (HX.later hb);clear hb x0 x1 x2 x3 xf xz;obtain ⟨x0,x1,x2,x3,xf,xz⟩:=HX.w4;go_wp2_with fail;refine (HL2.out _ HB.out).mono ?_;rintro e4 w4 ⟨rfl,hb⟩;replace HB:=Zh (HB.Zg hb);clear hb;go_wp2_with fail;go_ret;exact ⟨rfl,HB.out⟩
theorem Zph (w:World) (n:Nat) (hl:(Lib.decDigits n).length<1000000):Calls Tryz.prog 189 #[.string (tx (Lib.decDigits n))] w (Ret (.bool true) w):=by
  have HT:=Zh (fun (w1:World)=>Zld w1 _ (Zfh n) (by omega) (Zcl n));have hlt:0<(Lib.decDigits n).length:=Zdt n;have hi: ∀ (w:World),(Instr.index 9 (.string (tx (Lib.decDigits n))) (.int .i64 0)).run Tryz.prog w= .ok (.int .u8 ((Lib.decDigits n)[0].toNat:Int)) w:=fun w=>Zcu (P:=Tryz.prog) (t:=9) Tryz.underlying9 _ 0 hlt w;have hway:(((tx (Lib.decDigits n)).toList==[48])=true)∨(((tx (Lib.decDigits n)).toList==[48])=false/\(((Lib.decDigits n)[0].toNat:Int)==48)=false):=by
    rw [Zd5]
    by_cases h:n=0
    ·subst h;exact .inl (Zt Zb4)
    ·refine .inr ⟨Zf fun e=>h (Zds (by rw [e,Zb4])),beq_eq_false_iff_ne.2 fun e=> ?_⟩;have h1:=Zix (n:=n) (by omega);rw [List.head?_eq_getElem?,List.getElem?_eq_getElem hlt] at h1;exact h1 (congrArg some (UInt8.toNat_inj.1 (by rw [show (48:UInt8).toNat=48 from rfl];omega)))
  generalize ((Lib.decDigits n)[0].toNat:Int)=c at *;have hsz:(tx (Lib.decDigits n)).size=(Lib.decDigits n).length:=Zan _;generalize tx (Lib.decDigits n)=X at *;generalize (Lib.decDigits n).length=m at *
  rcases hway with d0|⟨d0,d1⟩
  ·clear hi;go_enter Tryz.func189,Tryz.ntmps189;go_wp2_with fail;refine (HT.out _).mono ?_;rintro e4 w4 ⟨rfl,hb⟩;have HB:=Zh hb;clear hb;go_wp2_with fail;go_ret;exact ⟨rfl,HB.out⟩
  ·have d2:(c !=48)=true:=by rw [bne,d1];rfl
   go_enter Tryz.func189,Tryz.ntmps189;go_wp2_with fail;refine (HT.out _).mono ?_;rintro e4 w4 ⟨rfl,hb⟩;have HB:=Zh hb;clear hb;go_wp2_with fail;go_ret;exact ⟨rfl,HB.out⟩
theorem Znu (w:World) (z:Int):Calls Tryz.prog 192 #[.agg #[.int .i64 z,.slice none 0 0]] w (Ret (.tuple #[.int .i64 z,.bool true]) w):=by
  have hq:=fun (w:World) (a:Option Addr) (n c:Nat)=>Lib.run_eql_slice_nil w 131 345 a n c 0 0 Tryz.underlying131;have HB:=Zh ((Below.refl w.heap.size w).alloc (Nat.le_refl _) (.cells #[.int .i64 z,.slice none 0 0] 133));have HX:=Zh (Box.new w #[.int .i64 z,.slice none 0 0] 133);obtain ⟨x0,x1,xf,xz⟩:=HX.v2;go_enter Tryz.func192,Tryz.ntmps192;go_wp2_with fail
  go_quiet (fail)
  go_wp2_with fail;refine bodyPost_ret (v:= .tuple #[.int .i64 z,.bool true]) (by simp [results,Tryz.results192,go_sem, *]) rfl ?_;exact ⟨rfl,below_drewN HB.out _⟩
theorem Znv (w:World) (hw:TbR w) (q:Rat) (hq:Dn 600 q):Calls Tryz.prog 109 #[.string (txq q)] w (Ret (.int .i64 0) w):=by
  have HC:=Zh (Zpf w hw q (hq.mono (by decide)));have HTP:=Zh (fun (w1:World)=>(by
    have h:=Tryz.strings_TrimPrefix (txz q.num) ⟨#[45]⟩ w1;rw [Zex,show (⟨#[45]⟩:ByteArray).data.toList=[45] from rfl,Zcm] at h;exact h.mono (fun e w' h=>⟨h.1,h.2.symm⟩):Calls Tryz.prog 188 #[.string (txz q.num),.string ⟨#[45]⟩] w1 fun e w'=>e= .returned (.string (tx (Lib.decDigits q.num.natAbs)))/\w1=w'))
  have hl1:(Lib.decDigits q.num.natAbs).length<=600:=Zdg (by decide) hq.zn;have hl2:(Lib.decDigits q.den).length<=600:=by have:=Zdg (z:=(q.den:Int)) (by decide) hq.zd;rwa [Int.natAbs_natCast] at this
  have HP1:=Zh (fun (w1:World)=>Zph w1 q.num.natAbs (by omega));have HP2:=Zh (fun (w1:World)=>Zph w1 q.den (by omega));have d0:((txz q.num).toList==[45,48])=false:=by
    unfold txz;rw [Zd5];refine Zf fun e=> ?_
    by_cases h:q.num<0
    ·rw [Zbc h] at e;injection e with _ e
     have:q.num.natAbs=0:=Zds (by rw [e,Zb4]);omega
    ·exact Zei (z:=q.num) (by omega) (by rw [e];rfl)
  have hsz:(tx (Lib.decDigits q.num.natAbs)).size<=600:=by rw [Zan];exact hl1
  have hsz2:(⟨#[]⟩:ByteArray).size=0:=rfl
  by_cases hd:q.den=1
  ·rw [if_pos hd,Zt hd] at HC;generalize tx (Lib.decDigits q.num.natAbs)=D at *;generalize txz q.num=N at *;generalize txq q=X at *;have d1:decide (600<D.size)=false:=Zf (by omega);have d2:decide ((600:Int)<(D.size:Int))=false:=Zf (by omega);clear hq hw hl1 hl2 hd HP2;go_enter Tryz.func109,Tryz.ntmps109;go_wp2_with fail;refine HC.mono ?_;rintro e3 w3 ⟨rfl,hb⟩;have HB:=Zh hb;clear hb;go_wp2_with fail;refine (HTP.out _).mono ?_;rintro e4 w4 ⟨rfl,rfl⟩;go_wp2_with fail;refine (HP1.out _).mono ?_;rintro e5 w5 ⟨rfl,hb⟩;replace HB:=Zh (HB.Zg hb);clear hb;go_wp2_with fail;go_ret;exact ⟨rfl,HB.out⟩
  ·rw [if_neg hd,Zf hd] at HC;have e2:txz (q.den:Int)=tx (Lib.decDigits q.den):=by unfold txz;rw [Zav (Int.natCast_nonneg _),Int.toNat_natCast]
   have e1:txz ((q.num.natAbs:Nat):Int)=tx (Lib.decDigits q.num.natAbs):=by unfold txz;rw [Zav (Int.natCast_nonneg _),Int.toNat_natCast]
   have hza:Zb 600 ((q.num.natAbs:Nat):Int):=⟨by rw [Int.natAbs_natCast];exact hq.zn.lt⟩;have HR1:=Zh (fun (u:World)=>(by rw [<-e1];exact Zgo u _ (hza.mono (by decide)):Calls Tryz.prog 191 #[.string (tx (Lib.decDigits q.num.natAbs))] u (RetI u ((q.num.natAbs:Nat):Int))));have HR2:=Zh (fun (u:World)=>(by rw [<-e2];exact Zgo u _ (hq.zd.mono (by decide)):Calls Tryz.prog 191 #[.string (tx (Lib.decDigits q.den))] u (RetI u (q.den:Int))));have HG:=Zh (fun (u:World) (v1 v2:Value) (h1:IntR u v1 ((q.num.natAbs:Nat):Int)) (h2:IntR u v2 (q.den:Int))=>(by
     have h:=Zre u v1 v2 _ _ h1 h2 (hza.wdsN (by decide)) (hq.zd.wdsN (by decide));rw [Int.natAbs_natCast,Int.natAbs_natCast,show Nat.gcd q.num.natAbs q.den=1 from q.reduced] at h;exact h:Calls Tryz.prog 190 #[v1,v2] u (RetI u 1)))
   have d5:((tx (Lib.decDigits q.den)).toList==[48])=false:=by
     rw [Zd5];exact Zf fun e=>by have:q.den=0:=Zds (by rw [e,Zb4]);exact q.den_nz this
   have d6:((tx (Lib.decDigits q.den)).toList==[49])=false:=by
     rw [Zd5];exact Zf fun e=>hd (Zds (by rw [e];decide+kernel))
   have hszd:(tx (Lib.decDigits q.den)).size<=600:=by rw [Zan];exact hl2
   rw [e2] at HC;generalize tx (Lib.decDigits q.num.natAbs)=D at *;generalize tx (Lib.decDigits q.den)=E at *;generalize txz q.num=N at *;generalize txq q=X at *;have d1:decide (600<D.size)=false:=Zf (by omega);have d2:decide ((600:Int)<(D.size:Int))=false:=Zf (by omega);have d3:decide (600<E.size)=false:=Zf (by omega);have d4:decide ((600:Int)<(E.size:Int))=false:=Zf (by omega);clear hq hw hl1 hl2 hd e1 e2 hza;go_enter Tryz.func109,Tryz.ntmps109;go_wp2_with fail;refine HC.mono ?_;rintro e3 w3 ⟨rfl,hb⟩;have HB:=Zh hb;clear hb;go_wp2_with fail;refine (HTP.out _).mono ?_;rintro e4 w4 ⟨rfl,rfl⟩;go_wp2_with fail;refine (HP1.out _).mono ?_;rintro e5 w5 ⟨rfl,hb⟩;replace HB:=Zh (HB.Zg hb);clear hb;go_wp2_with fail;refine (HP2.out _).mono ?_;rintro e6 w6 ⟨rfl,hb⟩;replace HB:=Zh (HB.Zg hb);clear hb;go_wp2_with fail;refine (HR1.out _).mono ?_;rintro e7 w7 ⟨v7,rfl,hi7,hb⟩;replace HB:=Zh (HB.Zg hb);have HI7:=Zh hi7;clear hb hi7;go_wp2_with fail;refine (HR2.out _).mono ?_;rintro e8 w8 ⟨v8,rfl,hi8,hb⟩;replace HB:=Zh (HB.Zg hb);replace HI7:=Zh (HI7.later hb);have HI8:=Zh hi8;clear hb hi8;go_wp2_with fail;refine (HG.out _ _ _ HI7.out HI8.out).mono ?_;rintro e9 w9 ⟨v9,rfl,hi9,hb⟩;obtain rfl:=hi9.exact (by decide) (by decide);replace HB:=Zh (HB.Zg hb);clear hb hi9 HI7 HI8;go_wp2_with fail;refine (Znu _ 1).mono ?_;rintro e10 w10 ⟨rfl,hb⟩;replace HB:=Zh (HB.Zg hb);clear hb;go_wp2_with fail;go_ret;exact ⟨rfl,HB.out⟩
def IgR (w:World) (v:Value) (z:Int):Prop:=∃ (a:Option Addr) (n c:Nat) (l:List Nat),v= .agg #[.bool (decide (z<0)),.slice a n c]/\Sc encD 1 w w.heap.size (.slice a n c) l/\n=l.length/\Dg 1000000000 l/\Tr l/\val 1000000000 l=z.natAbs
theorem IgR.later {w w':World} {v:Value} {z:Int} (h:IgR w v z) (hb:Below w.heap.size w w'):IgR w' v z:=by
  obtain ⟨a,n,c,l,h1,h2,h3⟩:=h;exact ⟨a,n,c,l,h1,h2.later hb,h3⟩
def RetG (w:World) (z:Int) (e:Ending) (w':World):Prop:=∃v,e= .returned v/\IgR w' v z/\Below w.heap.size w w'
theorem IgR.box {w:World} {v:Value} {z:Int} (h:IgR w v z) {k:Nat} {e:TypeId} {vs:List Value} (hB:Box w k e vs) (hv: ∀y,Value.int .i64 y∉vs) (j:Nat) (u:Value):IgR (w.setCell ⟨k,j,none⟩ u) v z:=by
  obtain ⟨a,n,c,l,h1,⟨a',c',e1,h2,h3,h4⟩,h5⟩:=h;refine ⟨a,n,c,l,h1,⟨a',c',e1,h2,h3,fun h0=> ?_⟩,h5⟩;obtain ⟨b,off,rfl,hb,hc⟩:=h4 h0;refine ⟨b,off,rfl,by simpa using hb,fun i hi=> ?_⟩;have hne:b≠k:=fun e=>by
    subst e;have h1:=(hc i hi).c1;rw [hB.cell] at h1;exact hv _ (List.mem_of_getElem? h1)
  intro q y hq;rw [World.cell?_setCell_other _ _ _ _ (by intro e;injection e with e1;exact absurd e1 (by omega))];exact hc i hi q y hq
theorem IgR.put {w:World} {v:Value} {z:Int} (h:IgR w v z) {k:Nat} {e:TypeId} {s:Bool} {a:Option Addr} {n c:Nat} (hB:Box w k e [.bool s,.slice a n c]) (s1:Bool) (v2:Value):IgR ((w.setCell ⟨k,0,none⟩ (.bool s1)).setCell ⟨k,1,none⟩ v2) v z:=
  (h.box hB (by simp) 0 _).box (hB.set 0 (.bool s1)) (by simp) 1 _
theorem Zee (w:World) (a:Option Addr) (n c:Nat) (l:List Nat) (h:Sc encD 1 w w.heap.size (.slice a n c) l):Calls Tryz.prog 213 #[.slice a n c] w fun e w'=>e= .returned (.slice a (Za9 l) c)/\w=w':=by
  obtain ⟨a',c',e,hl1,hl2,hA⟩:=h;injection e with e1 e2 e3
  subst e1 e2 e3;have HA:=Zh hA;obtain ⟨N,hN⟩: ∃N,l.length=N:=⟨_,rfl⟩;have HN:=Zh hN;rw [hN] at hl1 hl2 ⊢;have HEN:=Zh (fun (k:Nat) (hk:k<=l.length) (ht:Tr (l.take k)) (hz: ∀x∈l.drop k,x=0)=>(Zge hk ht hz).symm);obtain ⟨T,hT⟩: ∃T,Za9 l=T:=⟨_,rfl⟩;rw [hT] at HEN ⊢;clear hA hN hT;go_enter Tryz.func213,Tryz.ntmps213;go_wp2_with fail
  go_loop [0] (fun i=> ∃k:Nat,k<=N/\i= .slice a k c/\∀x∈l.drop k,x=0) (fun i=>match i with | .slice _ k _=>k|_=>0)
  case atStart=>exact ⟨N,Nat.le_refl _,rfl,by rw [<-HN.out,List.drop_length];simp⟩
  case round=>
    obtain ⟨k,hk,rfl,hz⟩:=hrel;have HZ:=Zh hz;clear hz
    by_cases h0:k=0
    ·subst h0;have HT0:=Zh (HEN.out 0 (by omega) (by simp [Tr]) HZ.out);go_wp2_with fail;go_ret;exact ⟨by rw [HT0.out];rfl,rfl⟩
    ·obtain ⟨j,rfl⟩: ∃j,k=j+1:=⟨k-1,by omega⟩;have hj:j<l.length:=by rw [HN.out];omega
     obtain ⟨b,off,rfl,hbb,hcells⟩:=HA.out (by omega);have c0:=(hcells j hj).c1;rw [Nat.mul_one] at c0;have HD:=Zh (List.drop_eq_getElem_cons hj);have HT:=Zh (show∀hx:l[j]≠0,Tr (l.take (j+1)) from fun hx=>Tr.of_last (fun hn=>by
       rw [List.getElem_take];have e:(l.take (j+1)).length-1=j:=by rw [List.length_take];omega
       have e2:l[(l.take (j+1)).length-1]'(by omega)=l[j]:=by congr 1
       rw [e2];exact hx))
     clear hcells;generalize l[j]=x at *;have k1:IntKind.i64.wrap (((j+1:Nat):Int)-1)=(j:Int):=by rw [IntWalk.i64_in _ (by omega)];omega
     have k2:decide ((0:Int)<((j+1:Nat):Int))=true:=Zt (by omega);have k3:decide (((j+1:Nat):Int)<=(j:Int))=false:=Zf (by omega)
     by_cases hx:x=0
     ·subst hx;have HZ2:=Zh (show∀x∈l.drop j,x=0 by rw [HD.out];intro x hx;rcases List.mem_cons.1 hx with h|h;exact h;exact HZ.out x h);clear h0;go_wp2_with fail
      go_round
      case rel=>exact ⟨j,by omega,rfl,HZ2.out⟩
      case measure=>simp
     ·have k4:((x:Int)==0)=false:=beq_eq_false_iff_ne.2 (by omega);have HT0:=Zh (HEN.out (j+1) (by rw [HN.out];exact hk) (HT.out hx) HZ.out);clear hx h0;go_wp2_with fail;go_ret;exact ⟨by rw [HT0.out];rfl,rfl⟩
theorem Zlq (neg:Bool) (m:Nat):decide (Zbb neg m<0)=(neg && decide (0<m)):=by
  cases neg
  ·simp [Zbb]
  ·simp only [Zbb,if_true,Bool.true_and]
   by_cases h:0<m
   ·rw [Zt h,Zt (by omega)]
   ·rw [Zf h,Zf (by omega)]
theorem Zj2 (neg:Bool) (m:Nat):(Zbb neg m).natAbs=m:=by
  cases neg <;> simp [Zbb]
theorem Zco (l:List Nat):val 1000000000 (l.take (Za9 l))=val 1000000000 l:=Zar (Zaj l).1 (Zaj l).2.2
theorem Zlr {l:List Nat} (hl:0<val 1000000000 l):0<Za9 l:=by
  rcases Nat.eq_zero_or_pos (Za9 l) with h|h
  ·have:=Zco l;rw [h] at this;simp [val] at this;omega
  ·exact h
theorem Zj3 {l:List Nat} (hl:val 1000000000 l=0):Za9 l=0:=by
  have h1:=Zco l;have h2:=Tr.zero (B:=1000000000) (by decide) (Zaj l).2.1 (by rw [h1];exact hl);have:=congrArg List.length h2;rw [List.length_take,List.length_nil] at this;have:=(Zaj l).1;omega
theorem Znw (w:World) (neg:Bool) (a:Option Addr) (n c:Nat) (l:List Nat) (h:Sc encD 1 w w.heap.size (.slice a n c) l) (hd:Dg 1000000000 l):Calls Tryz.prog 140 #[.bool neg,.slice a n c] w (RetG w (Zbb neg (val 1000000000 l))):=by
  have HTR:=Zh (fun (w1:World) (hb:Below w.heap.size w w1)=>Zee w1 a n c l (h.later hb));have hsp:=Zaj l;have HI:=Zh (fun (w1:World) (hb:Below w.heap.size w w1)=>(⟨a,Za9 l,c,l.take (Za9 l),by rw [Zlq],(h.later hb).take _ hsp.1,by rw [List.length_take];omega,hd.take _,hsp.2.1,by rw [Zco,Zj2]⟩:IgR w1 (.agg #[.bool (neg && decide (0<val 1000000000 l)),.slice a (Za9 l) c]) (Zbb neg (val 1000000000 l))));have hq:(neg && decide (0<val 1000000000 l))=(neg && decide (0<Za9 l)):=by
    rcases Nat.eq_zero_or_pos (val 1000000000 l) with h0|h0
    ·rw [h0,Zj3 h0]
    ·rw [Zt h0,Zt (Zlr h0)]
  rw [hq] at HI;obtain ⟨z,hz⟩: ∃z,Zbb neg (val 1000000000 l)=z:=⟨_,rfl⟩;rw [hz] at HI ⊢;obtain ⟨T,hT⟩: ∃T,Za9 l=T:=⟨_,rfl⟩;rw [hT] at HI HTR;clear hz hT hsp hd h hq;have HB:=Zh ((Below.refl w.heap.size w).alloc (Nat.le_refl _) (.cells #[.bool false,.slice none 0 0] 114));have HZ:=Zh (Box.new w #[.bool false,.slice none 0 0] 114);obtain ⟨z0,z1,zf,zz⟩:=HZ.v2;obtain ⟨p,hp⟩: ∃p,decide (0<T)=p:=⟨_,rfl⟩;have hp2:decide ((0:Int)<(T:Int))=p:=by rw [<-hp];by_cases h:0<T <;> simp [h]
  rw [hp] at HI;cases neg with
  | true=>
    simp only [Bool.true_and] at HI;go_enter Tryz.func140,Tryz.ntmps140;go_wp2_with fail;refine (HTR.out _ HB.out).mono ?_;rintro e4 w4 ⟨rfl,rfl⟩;go_wp2_with fail;refine bodyPost_ret (v:= .agg #[.bool p,.slice a T c]) (by simp [results,Tryz.results140,go_sem, *]) rfl ?_;refine ⟨_,rfl,?_,?_⟩
    ·exact HI.out _ ((Below.refl w.heap.size w).alloc (Nat.le_refl _) _)
    ·exact (Below.refl w.heap.size w).alloc (Nat.le_refl _) _
  | false=>
    simp only [Bool.false_and] at HI;go_enter Tryz.func140,Tryz.ntmps140;go_wp2_with fail;refine (HTR.out _ HB.out).mono ?_;rintro e4 w4 ⟨rfl,rfl⟩;go_wp2_with fail;refine bodyPost_ret (v:= .agg #[.bool false,.slice a T c]) (by simp [results,Tryz.results140,go_sem, *]) rfl ?_;refine ⟨_,rfl,?_,?_⟩
    ·exact HI.out _ ((Below.refl w.heap.size w).alloc (Nat.le_refl _) _)
    ·exact (Below.refl w.heap.size w).alloc (Nat.le_refl _) _
theorem Zgs:(Tryz.prog.info? 3).map (fun i=>(i.zero,i.size,i.bytes))=some (some (.int .i64 0),1,8):=by kernel_rfl
theorem Zfq {z:Int} (h:0<=z):z.toNat=z.natAbs:=by omega
structure Nd (k:Nat) (z:Int):Prop where
  lt:z.natAbs<1000000000^k
def Znx (d:Nat):List UInt8:=if d=1 then [] else 47::Lib.decDigits d
theorem Zql (q:Rat):ratL q=Lib.itoa q.num++Znx q.den:=rfl
theorem Zls {q:Rat} (h:q<0):q.num.sign= -1:=by
  have:=Rat.num_nonneg (q:=q);exact Int.sign_eq_neg_one_of_neg (by grind)
theorem Zlt {q:Rat} (h:0<q):q.num.sign=1:=by
  have h1:=Rat.num_nonneg (q:=q);have h2:q.num≠0:=fun e=>by
    have:=Rat.num_eq_zero.1 e;grind
  exact Int.sign_eq_one_of_pos (by grind)
theorem Zlu (w:World) (q:Rat) (hl:(ratL q).length<=1000000000):Calls Tryz.prog 82 #[.string (txq q)] w fun e w'=>e= .returned (.int .i64 q.num.sign)/\w=w':=by
  have hsz:(txq q).size=(ratL q).length:=Zan _;have hlt:0<(ratL q).length:=List.length_pos_iff.2 (Zk2 q);have hi: ∀ (w:World),(Instr.index 32 (.string (txq q)) (.int .i64 0)).run Tryz.prog w= .ok (.int .u8 ((ratL q)[0].toNat:Int)) w:=fun w=>Zcu (P:=Tryz.prog) (t:=32) Tryz.underlying32 _ 0 hlt w;have hway:(((txq q).toList==[48])=true/\q.num.sign=0)∨(((txq q).toList==[48])=false/\(((ratL q)[0].toNat:Int)==45)=true/\q.num.sign= -1)∨(((txq q).toList==[48])=false/\(((ratL q)[0].toNat:Int)==45)=false/\q.num.sign=1):=by
    unfold txq;rw [Zd5]
    by_cases h0:q=0
    ·subst h0;exact .inl ⟨Zt Zfj,rfl⟩
    ·have h1:decide (ratL q=[48])=false:=Zf (fun h=>h0 (Zhk.1 h));have hh:(ratL q).head?=some (ratL q)[0]:=by rw [List.head?_eq_getElem?,List.getElem?_eq_getElem hlt]
     by_cases hn:q<0
     ·refine .inr (.inl ⟨h1,?_,Zls hn⟩);have:(ratL q)[0]=45:=by
        have e:(ratL q).head?=some 45:=by rw [Zgj hn];rfl
        rw [hh] at e;injection e
      rw [this];rfl
     ·refine .inr (.inr ⟨h1,?_,Zlt (by grind)⟩);refine beq_eq_false_iff_ne.2 (fun e=> ?_);have h2:=Zk3 (q:=q) (by grind);rw [hh] at h2;exact h2 (congrArg some (UInt8.toNat_inj.1 (by rw [show (45:UInt8).toNat=45 from rfl];omega)))
  generalize ((ratL q)[0].toNat:Int)=c at *;generalize (ratL q).length=n at *;generalize txq q=X at *;generalize q.num.sign=s at *
  rcases hway with ⟨d0,rfl⟩|⟨d0,d1,rfl⟩|⟨d0,d1,rfl⟩
  all_goals
    go_enter Tryz.func82,Tryz.ntmps82;go_wp2_with fail;go_ret;exact ⟨rfl,rfl⟩
theorem Zqm (w:World) (q:Rat) (hl:(ratL q).length<=100000000):Calls Tryz.prog 30 #[.string (txq q)] w fun e w'=>e= .returned (.string (txq (-q)))/\w=w':=by
  have HS:=Zh (fun (w1:World)=>Zlu w1 q (by omega));have hsz:(txq q).size=(ratL q).length:=Zan _;have hlt:0<(ratL q).length:=List.length_pos_iff.2 (Zk2 q);have hway:(q.num.sign= -1/\(txq q).extract 1 (ratL q).length=txq (-q))∨(q.num.sign=0/\txq q=txq (-q))∨(q.num.sign=1/\⟨#[45]⟩++txq q=txq (-q)):=by
    by_cases h0:q=0
    ·subst h0;exact .inr (.inl ⟨rfl,by rw [show (-0:Rat)=0 by grind]⟩)
    ·by_cases hn:q<0
     ·refine .inl ⟨Zls hn,?_⟩;unfold txq;rw [Za7,List.take_length,Zgj hn];rfl
     ·refine .inr (.inr ⟨Zlt (by grind),?_⟩);unfold txq;rw [Zgj (q:= -q) (by grind),show - -q=q by grind];exact Zfl [45] _
  generalize (ratL q).length=n at *;generalize txq q=X at *;generalize txq (-q)=Y at *;generalize q.num.sign=s at *;have hs45:(⟨#[45]⟩:ByteArray).size=1:=rfl
  rcases hway with ⟨rfl,hx⟩|⟨rfl,hx⟩|⟨rfl,hx⟩
  ·go_enter Tryz.func30,Tryz.ntmps30;go_wp2_with fail;refine (HS.out _).mono ?_;rintro e4 w4 ⟨rfl,rfl⟩;go_wp2_with fail;go_ret;exact ⟨rfl,rfl⟩
  ·subst hx;go_enter Tryz.func30,Tryz.ntmps30;go_wp2_with fail;refine (HS.out _).mono ?_;rintro e4 w4 ⟨rfl,rfl⟩;go_wp2_with fail;refine (HS.out _).mono ?_;rintro e4 w4 ⟨rfl,rfl⟩;go_wp2_with fail;go_ret;exact ⟨rfl,rfl⟩
  ·go_enter Tryz.func30,Tryz.ntmps30;go_wp2_with fail;refine (HS.out _).mono ?_;rintro e4 w4 ⟨rfl,rfl⟩;go_wp2_with fail;refine (HS.out _).mono ?_;rintro e4 w4 ⟨rfl,rfl⟩;go_wp2_with fail;go_ret;exact ⟨rfl,rfl⟩
def Zlv (q:Rat):List UInt8:=Lib.decDigits q.num.natAbs++Znx q.den
theorem Zho (q:Rat):ratL q=(if q.num<0 then 45::Zlv q else Zlv q):=by
  rw [Zql];unfold Zlv
  by_cases h:q.num<0
  ·rw [if_pos h,Zbc h];rfl
  ·rw [if_neg h,Zav (Int.not_lt.1 h),Zfq (Int.not_lt.1 h)]
structure DlR (w:World) (v:Value) (l:List Nat) (m:Nat):Prop where
  sc:Sc encD 1 w w.heap.size v l
  dg:Dg 1000000000 l
  tr:Tr l
  eq:val 1000000000 l=m
theorem DlR.later {w w':World} {v:Value} {l:List Nat} {m:Nat} (h:DlR w v l m) (hb:Below w.heap.size w w'):DlR w' v l m:=⟨h.sc.later hb,h.dg,h.tr,h.eq⟩
def RetDl (w:World) (m:Nat) (e:Ending) (w':World):Prop:=∃a n c l,e= .returned (.slice a n c)/\DlR w' (.slice a n c) l m/\Below w.heap.size w w'
theorem Zny {w:World} {b o x:Nat} (h:At w b o (encD x)):w.cell? ⟨b,o,none⟩=some (.int .i64 (x:Int)):=h.c1
theorem Zef (w:World) (a1 a2:Option Addr) (n1 n2 c1 c2:Nat) (l1 l2:List Nat) (m1 m2:Nat) (h1:DlR w (.slice a1 n1 c1) l1 m1) (h2:DlR w (.slice a2 n2 c2) l2 m2):Calls Tryz.prog 142 #[.slice a1 n1 c1,.slice a2 n2 c2] w (Ret (.int .i64 (icmp m1 m2)) w):=by
  obtain ⟨⟨a1',c1',e,hl1,hl1',hA1⟩,hd1,ht1,hv1⟩:=h1;injection e with e1 e2 e3
  subst e1 e2 e3;obtain ⟨⟨a2',c2',e,hl2,hl2',hA2⟩,hd2,ht2,hv2⟩:=h2;injection e with e1 e2 e3
  subst e1 e2 e3;have HA1:=Zh hA1;have HA2:=Zh hA2;obtain ⟨R,hR⟩: ∃R,icmp m1 m2=R:=⟨_,rfl⟩;rw [hR];have HLT:=Zh (show val 1000000000 l1<val 1000000000 l2->R= -1 from fun h=>by rw [<-hR];unfold icmp;rw [if_pos (by omega)]);have HGT:=Zh (show val 1000000000 l2<val 1000000000 l1->R=1 from fun h=>by rw [<-hR];unfold icmp;rw [if_neg (by omega),if_pos (by omega)]);have HEQ:=Zh (show val 1000000000 l1=val 1000000000 l2->R=0 from fun h=>by rw [<-hR];unfold icmp;rw [if_neg (by omega),if_neg (by omega)]);have HD1:=Zh hd1;have HD2:=Zh hd2;have HLA:=Zh (fun (h:l1.length<l2.length)=>Zbz (B:=1000000000) (by decide) hd1 ht2 h);have HLB:=Zh (fun (h:l2.length<l1.length)=>Zbz (B:=1000000000) (by decide) hd2 ht1 h);obtain ⟨N,hN⟩: ∃N,l1.length=N:=⟨_,rfl⟩;obtain ⟨M,hM⟩: ∃M,l2.length=M:=⟨_,rfl⟩;have HN:=Zh hN;have HM:=Zh hM;rw [hN] at hl1 hl1' HLA HLB ⊢;rw [hM] at hl2 hl2' HLA HLB ⊢;clear hA1 hA2 hN hM hR hv1 hv2 hd1 hd2 ht1 ht2
  by_cases h0:N=M
  rotate_left
  ·have k0:((N:Int) !=(M:Int))=true:=bne_iff_ne.2 (by omega)
   by_cases h1:N<M
   ·have k1:decide ((N:Int)<(M:Int))=true:=Zt (by omega);have k1':decide (N<M)=true:=Zt (by omega);have HV:=Zh (HLT.out (HLA.out h1));clear h0 h1;go_enter Tryz.func142,Tryz.ntmps142;go_wp2_with fail;go_ret;exact ⟨by rw [HV.out];rfl,Below.refl _ _⟩
   ·have k1:decide ((N:Int)<(M:Int))=false:=Zf (by omega);have k1':decide (N<M)=false:=Zf (by omega);have HV:=Zh (HGT.out (HLB.out (by omega)));clear h0 h1;go_enter Tryz.func142,Tryz.ntmps142;go_wp2_with fail;go_ret;exact ⟨by rw [HV.out];rfl,Below.refl _ _⟩
  subst h0;have k0:IntKind.i64.wrap ((N:Int)-1)=(N:Int)-1:=IntWalk.i64_in _ (by omega);have k00:((N:Int) !=(N:Int))=false:=by simp
  go_enter Tryz.func142,Tryz.ntmps142;go_wp2_with fail
  go_loopw [5] (fun i wr=> ∃k:Nat,k<=N/\i= .int .i64 ((k:Int)-1)/\l1.drop k=l2.drop k/\Below w.heap.size w wr) (fun i _=>(intOf i+1).toNat)
  case atStart=>exact ⟨N,Nat.le_refl _,rfl,by rw [List.drop_of_length_le (by rw [HN.out];omega),List.drop_of_length_le (by rw [HM.out];omega)],Below.refl _ _⟩
  case round=>
    obtain ⟨k,hk,rfl,hz,hbe⟩:=hrel;have HZ:=Zh hz;have HB:=Zh hbe;clear hz hbe k0 k00
    by_cases h0:k=0
    ·subst h0;have HV:=Zh (HEQ.out (by have:=HZ.out;simp only [Z7] at this;rw [this]));go_wp2_with fail;go_ret;exact ⟨by rw [HV.out];rfl,HB.out⟩
    ·obtain ⟨j,rfl⟩: ∃j,k=j+1:=⟨k-1,by omega⟩;have hj1:j<l1.length:=by rw [HN.out];omega
     have hj2:j<l2.length:=by rw [HM.out];omega
     obtain ⟨b1,off1,rfl,hbb1,hcells1⟩:=HA1.out (by omega);obtain ⟨b2,off2,rfl,hbb2,hcells2⟩:=HA2.out (by omega);have g1:=((hcells1 j hj1).below HB.out hbb1).c1;have g2:=((hcells2 j hj2).below HB.out hbb2).c1;rw [Nat.mul_one] at g1 g2;have hz1:b1<wr.heap.size:=by have:=HB.size;omega
     have hz2:b2<wr.heap.size:=by have:=HB.size;omega
     have HC1:=Zh (fun h=>Zdx (B:=1000000000) HD1.out (by rw [HN.out,HM.out]) j hj1 HZ.out h);have HC2:=Zh (fun h=>Zdx (B:=1000000000) HD2.out (by rw [HN.out,HM.out]) j hj2 HZ.symm h);have HDR:=Zh (show l1[j]=l2[j]->l1.drop j=l2.drop j from fun h=>by rw [List.drop_eq_getElem_cons hj1,List.drop_eq_getElem_cons hj2,h,HZ.out]);clear hcells1 hcells2;generalize l1[j]=x at *;generalize l2[j]=y at *;have k1:IntKind.i64.wrap ((j:Int)-1)=(j:Int)-1:=IntWalk.i64_in _ (by omega);have k5:(((j+1:Nat):Int)-1)=(j:Int):=by omega
     rw [k5];have k2:decide ((0:Int)<=(j:Int))=true:=Zt (by omega);have k2':decide (0<=j)=true:=Zt (by omega);have k3:decide (((N:Nat):Int)<=(j:Int))=false:=Zf (by omega)
     rcases Nat.lt_trichotomy x y with hx|hx|hx
     ·have k6:decide ((x:Int)<(y:Int))=true:=Zt (by omega);have k6':decide (x<y)=true:=Zt (by omega);have HV:=Zh (HLT.out (HC1.out hx));clear hx h0;go_wp2_with fail
      go_quiet (fail)
      go_wp2_with fail;go_ret;exact ⟨by rw [HV.out];rfl,below_drewN HB.out _⟩
     ·subst hx;have k6:decide ((x:Int)<(x:Int))=false:=Zf (by omega);have k6':decide (x<x)=false:=Zf (by omega);have HV:=Zh (HDR.out rfl);clear h0;go_wp2_with fail
      go_quiet (fail)
      go_wp2_with fail
      go_quiet (fail)
      go_wp2_with fail;go_roundw
      case rel=>exact ⟨j,by omega,by go_num,HV.out,by first|exact below_drewN HB.out _|exact below_drewN (below_drewN HB.out _) _⟩
      case measure=>simp [intOf];try omega
     ·have k6:decide ((x:Int)<(y:Int))=false:=Zf (by omega);have k6':decide (x<y)=false:=Zf (by omega);have k7:decide ((y:Int)<(x:Int))=true:=Zt (by omega);have k7':decide (y<x)=true:=Zt (by omega);have HV:=Zh (HGT.out (HC2.out hx));clear hx h0;go_wp2_with fail
      go_quiet (fail)
      go_wp2_with fail
      go_quiet (fail)
      go_wp2_with fail;go_ret;exact ⟨by rw [HV.out];rfl,by first|exact below_drewN HB.out _|exact below_drewN (below_drewN HB.out _) _⟩
structure DzR (w:World) (v:Value) (l:List Nat) (m:Nat):Prop where
  sc:Sc encD 1 w w.heap.size v l
  dg:Dg 1000000000 l
  eq:val 1000000000 l=m
theorem DzR.later {w w':World} {v:Value} {l:List Nat} {m:Nat} (h:DzR w v l m) (hb:Below w.heap.size w w'):DzR w' v l m:=⟨h.sc.later hb,h.dg,h.eq⟩
def RetDz (w:World) (m:Nat) (e:Ending) (w':World):Prop:=∃a n c l,e= .returned (.slice a n c)/\DzR w' (.slice a n c) l m/\Below w.heap.size w w'
theorem Zpi (w:World) (a1 a2:Option Addr) (n1 n2 c1 c2:Nat) (lx ly:List Nat) (m1 m2:Nat) (h1:DlR w (.slice a1 n1 c1) lx m1) (h2:DlR w (.slice a2 n2 c2) ly m2) (hb1:lx.length<=400000) (hb2:ly.length<=400000):
    Calls Tryz.prog 144 #[.slice a1 n1 c1,.slice a2 n2 c2] w (RetDl w (m1* m2)):=by
 obtain ⟨⟨a1',c1',e,hl1,hl1',hA1⟩,hd1,ht1,hv1⟩:=h1;injection e with e1 e2 e3
 subst e1 e2 e3;obtain ⟨⟨a2',c2',e,hl2,hl2',hA2⟩,hd2,ht2,hv2⟩:=h2;injection e with e1 e2 e3
 subst e1 e2 e3;have HAX:=Zh hA1;have HAY:=Zh hA2;have HDX:=Zh hd1;have HDY:=Zh hd2;obtain ⟨S,hS⟩: ∃S,m1* m2=S:=⟨_,rfl⟩;rw [hS];have HS:=Zh (show val 1000000000 lx* val 1000000000 ly=S by rw [hv1,hv2,hS]);obtain ⟨X,hN⟩: ∃N,lx.length=N:=⟨_,rfl⟩;obtain ⟨Y,hM⟩: ∃M,ly.length=M:=⟨_,rfl⟩;have HNX:=Zh hN;have HNY:=Zh hM;rw [hN] at hb1 hl1' ⊢;rw [hM] at hb2 hl2' ⊢;have HINFO:=Zh Zgs;obtain ⟨Z,hZ⟩: ∃Z,X+Y=Z:=⟨_,rfl⟩;have k1:IntKind.i64.wrap ((X:Int)+(Y:Int))=(Z:Int):=by rw [IntWalk.i64_in _ (by omega)];omega
 have HZ:=Zh hZ;clear hZ hA1 hA2 hN hM hS hv1 hv2 hd1 hd2 ht1 ht2 hl1 hl2;go_enter Tryz.func144,Tryz.ntmps144;go_wp2_with (at_make;refine mk1 encD 0 (.int .i64 0) rfl 27 3 8 Tryz.underlying27 HINFO.out rfl (by decide) w.heap.size w Z (by have:=HZ.out;omega) (Nat.le_refl _) rfl _ _ rfl .i64 .i64 rfl rfl ?_;intro w3 ho3 hg3);have HB3:=Zh (Zbk hg3);have HO3:=Zh ho3;have HST0:=Zh (MulO.start (B:=1000000000) (by decide) lx ly);rw [HNX.out,HNY.out,HZ.out] at HST0;clear ho3 hg3 k1
 go_loopw [6] (fun i wr=> ∃ (k:Nat) (o:List Nat),k<=X/\i= .int .i64 k/\MulO 1000000000 o lx ly k/\Below w.heap.size w wr/\Own encD 1 3 wr w.heap.size (.slice (some ⟨w.heap.size,0,none⟩) Z Z) o) (fun i _=>X-(intOf i).toNat)
 case atStart=>exact ⟨0,List.replicate Z 0,Nat.zero_le _,rfl,HST0.out,HB3.out,HO3.out⟩
 case round=>
   obtain ⟨k,o,hk,rfl,hmo,hbe,hown⟩:=hrel;have HMO:=Zh hmo;have HB:=Zh hbe;have HO:=Zh hown;have HLL:=Zh (show o.length=Z by rw [hmo.len,HNX.out,HNY.out,HZ.out]);clear hmo hown hbe HST0 HB3 HO3
   by_cases hkX:k<X
   ·have k2:decide ((k:Int)<(X:Int))=true:=Zt (by omega);have k2':decide (k<X)=true:=Zt (by omega);have hkx:k<lx.length:=by rw [HNX.out];exact hkX
    obtain ⟨b1,o1,rfl,hbb1,hcells1⟩:=HAX.out (by omega);have g1:=((hcells1 k hkx).below HB.out hbb1).c1;rw [Nat.mul_one] at g1;have hz1:b1<wr.heap.size:=by have:=HB.size;omega
    have HG1:=Zh (fun (w1:World) (hb:Below w.heap.size w w1)=>(by
      have h:=((hcells1 k hkx).below hb hbb1).c1;rw [Nat.mul_one] at h;exact ⟨h,by have:=hb.size;omega⟩:w1.cell? ⟨b1,o1+k,none⟩=some (.int .i64 (lx[k]:Int))/\b1<w1.heap.size))
    have HROW:=Zh (HMO.row hkx (by decide));have HSTEP:=Zh (fun o' c hl hz h=>MulO.step (B:=1000000000) (a:=lx) (b:=ly) (i:=k) (o':=o') (c:=c) hkx hl hz h);have HXB:=Zh (HDX.get k hkx);have HZER:=Zh (show∀q (h:q<o.length),k+ly.length<=q->o[q]=0 from HMO.zer);have k3:IntKind.i64.wrap ((k:Int)+1)=((k+1:Nat):Int):=by rw [IntWalk.i64_in _ (by omega)];omega
    obtain ⟨kY,hkY⟩: ∃q,k+Y=q:=⟨_,rfl⟩;have HKY:=Zh hkY;have k9:IntKind.i64.wrap ((k:Int)+(Y:Int))=(kY:Int):=by rw [IntWalk.i64_in _ (by omega)];omega
    clear hkY;clear hcells1 HMO;generalize lx[k]=x at *;go_wp2_with fail;obtain ⟨U,hU⟩: ∃U:World,U=wr:=⟨_,rfl⟩;subst hU
    go_loopw [7,8] (fun cr i wr=> ∃ (j c:Nat) (o:List Nat),j<=Y/\i= .int .i64 j/\cr= .int .i64 (c:Int)/\o.length=Z/\(∀q (h:q<o.length),k+ly.length<=q->o[q]=0)/\MulI 1000000000 o ly (val 1000000000 (lx.take k) * val 1000000000 ly) x k j c/\Below w.heap.size w wr/\Own encD 1 3 wr w.heap.size (.slice (some ⟨w.heap.size,0,none⟩) Z Z) o) (fun _ i _=>Y-(intOf i).toNat)
    case atStart=>exact ⟨0,0,o,Nat.zero_le _,rfl,rfl,HLL.out,HZER.out,HROW.out,HB.out,HO.out⟩
    case round=>
      clear HB HO HLL HROW HZER g1 hz1;obtain ⟨j,c,o,hj,rfl,rfl,hlo,hze,hmi,hbe,hown⟩:=hrel;have HMI:=Zh hmi;have HB:=Zh hbe;have HO:=Zh hown;have HLL:=Zh hlo;have HZE:=Zh hze;have HCB:=Zh hmi.carry;have hz2:w.heap.size<wr.heap.size:=Zaz HO.out;clear hmi hown hbe hlo hze
      by_cases hjY:j<Y
      ·have k4:decide ((j:Int)<(Y:Int))=true:=Zt (by omega);have k4':decide (j<Y)=true:=Zt (by omega);have hjy:j<ly.length:=by rw [HNY.out];exact hjY
       obtain ⟨b2,o2,rfl,hbb2,hcells2⟩:=HAY.out (by omega);have g2:=((hcells2 j hjy).below HB.out hbb2).c1;rw [Nat.mul_one] at g2;have hz3:b2<wr.heap.size:=by have:=HB.size;omega
       obtain ⟨kj,hkje⟩: ∃q,k+j=q:=⟨_,rfl⟩;have HKJ:=Zh hkje;have hkj2:kj<Z:=by have:=HZ.out;omega
       obtain ⟨g1,hz1⟩:=HG1.out wr HB.out;have hkj:kj<o.length:=by rw [HLL.out];exact hkj2
       have hfz:=Own.frozenN HO.out HLL.out kj;have g0:=Zam HO.out HLL.out Zao kj hkj (.int .i64 (o[kj]:Int)) rfl;have HSET:=Zh (fun (y:Nat)=>Zaq HO.out HLL.out Zao kj hkj2 y (.int .i64 (y:Int)) rfl);have HST:=Zh (fun s (hs:s=o[kj]+x* ly[j]+c)=>(by
         have h:=HMI.step (by decide) HDY.out HXB.out hjy (by rw [HKJ.out];exact hkj) (s:=s) (by simp only [HKJ.out];exact hs);rw [HKJ.out] at h;exact h:MulI 1000000000 (o.set kj (s % 1000000000)) ly (val 1000000000 (lx.take k) * val 1000000000 ly) x k (j+1) (s / 1000000000)))
       have hyB:=HDY.get j hjy;have hoB:=HMI.dg.get _ hkj;have k5:IntKind.i64.wrap ((j:Int)+1)=((j+1:Nat):Int):=by rw [IntWalk.i64_in _ (by omega)];omega
       have k6:IntKind.i64.wrap ((k:Int)+(j:Int))=(kj:Int):=by rw [IntWalk.i64_in _ (by omega)];omega
       clear hcells2;generalize ly[j]=y at *;clear hkje;generalize hoq:o[kj]=oq at *;have hcB:=HCB.out;have hxB:=HXB.out;obtain ⟨p,hp⟩: ∃p,x* y=p:=⟨_,rfl⟩;have hp9:p<=999999999* 999999999:=by rw [<-hp];exact Nat.mul_le_mul (by omega) (by omega)
       have q1:IntKind.i64.wrap ((x:Int) * (y:Int))=(p:Int):=by rw [show (x:Int) * (y:Int)=(p:Int) by rw [<-hp];exact (Int.natCast_mul x y).symm];exact IntWalk.i64_in _ (by omega)
       obtain ⟨u,hu⟩: ∃u,oq+p=u:=⟨_,rfl⟩;have q2:IntKind.i64.wrap ((oq:Int)+(p:Int))=(u:Int):=by rw [IntWalk.i64_in _ (by omega)];omega
       obtain ⟨s,hs⟩: ∃s,u+c=s:=⟨_,rfl⟩;have q3:IntKind.i64.wrap ((u:Int)+(c:Int))=(s:Int):=by rw [IntWalk.i64_in _ (by omega)];omega
       have hs9:s<=1000000000000000000:=by omega
       have HSN:=Zh (HST.out s (by rw [hp,hu,hs]));have q4:(s:Int).tmod 1000000000=((s % 1000000000:Nat):Int):=by rw [Int.tmod_eq_emod_of_nonneg (by omega)];omega
       have q5:(s:Int).tdiv 1000000000=((s / 1000000000:Nat):Int):=by rw [Int.tdiv_eq_ediv_of_nonneg (by omega)];omega
       have hqq:s / 1000000000<=1000000000:=by omega
       generalize s % 1000000000=dd at *;generalize s / 1000000000=q at *;have q6:IntKind.i64.wrap ((q:Nat):Int)=(q:Int):=IntWalk.i64_in _ (by omega);have k3a:decide ((Z:Int)<=(kj:Int))=false:=Zf (by omega);have k3b:decide ((X:Int)<=(k:Int))=false:=Zf (by omega);have k3c:decide ((Y:Int)<=(j:Int))=false:=Zf (by omega);clear HST hp hp9 hu hs hs9 hyB hoB hoq hcB hxB hqq;go_wp2_with fail
       go_quiet (fail)
       go_wp2_with fail;go_roundw
       case rel=>
         refine ⟨j+1,q,o.set kj dd,by omega,by go_num,rfl,by rw [List.length_set];exact HLL.out,fun q h hq=> ?_,?_,(below_drewN HB.out _).setCell (Nat.le_refl _) _,(HSET.out dd:_)⟩
         ·rw [List.getElem_set_ne (by have:=HKJ.out;have:=hjY;rw [HNY.out] at hq;omega)];exact HZE.out q (by rwa [List.length_set] at h) hq
         ·exact HSN.out
       case measure=>simp [intOf];omega
      ·obtain rfl:Y=j:=by omega
       have hkY:kY<Z:=by have:=HZ.out;have:=HKY.out;omega
       have hkYl:kY<o.length:=by rw [HLL.out];exact hkY
       have hfz:=Own.frozenN HO.out HLL.out kY;have g0:=Zam HO.out HLL.out Zao kY hkYl (.int .i64 (0:Int)) (by rw [HZE.out kY hkYl (by rw [HNY.out,HKY.out];exact Nat.le_refl _)];rfl);have HNEW:=Zh (HSTEP.out o c (by rw [HLL.out,HNX.out,HNY.out,HZ.out]) HZE.out (by rw [HNY.out];exact HMI.out));rw [HNY.out,HKY.out] at HNEW;have HO2:=Zh (Zaq HO.out HLL.out Zao kY hkY c (.int .i64 (c:Int)) rfl);have hcB:=HMI.carry;have kc:IntKind.i64.wrap ((0:Int)+(c:Int))=(c:Int):=by rw [IntWalk.i64_in _ (by omega)];omega
       have kc':IntKind.i64.wrap (c:Int)=(c:Int):=IntWalk.i64_in _ (by omega);go_wp2_with fail;go_roundw
       case rel=>exact ⟨k+1,_,by omega,by go_num,HNEW.out,HB.setCell (Nat.le_refl _) _,HO2.out⟩
       case measure=>simp [intOf];omega
   ·obtain rfl:X=k:=by omega
    have HVL:=Zh (show val 1000000000 o=S by
      have h:=HMO.out;rw [<-HNX.out] at h;rw [h.done,HS.out])
    have HSC:=Zh (Sc.of_own Zao (by have:=HZ.out;rw [HLL.out];omega) HO.out);have HTR:=Zh (Zee _ _ _ _ _ HSC.out);have HDG:=Zh HMO.dg;go_wp2_with fail;refine HTR.mono ?_;rintro e5 w5 ⟨rfl,rfl⟩;go_wp2_with fail;go_ret;exact ⟨_,_,_,_,rfl,⟨HSC.take _ (Zaj o).1,HDG.take _,(Zaj o).2.1,by rw [Zco];exact HVL.out⟩,HB.out⟩
theorem Zpj (w:World) (a:Option Addr) (n c:Nat) (l:List Nat) (m:Nat) (h:DzR w (.slice a n c) l m) (hb1:l.length<=900000) (d:Nat) (hd:0<d) (hd2:d<=1000000000):
    Calls Tryz.prog 212 #[.slice a n c,.int .i64 (d:Int)] w fun e w'=> ∃a' n' c' q,e= .returned (.tuple #[.slice a' n' c',.int .i64 ((m % d:Nat):Int)])/\DlR w' (.slice a' n' c') q (m / d)/\Below w.heap.size w w':=by
 obtain ⟨⟨a',c',e,hl,hl',hA⟩,hdg,hv⟩:=h;injection e with e1 e2 e3
 subst e1 e2 e3;have HA:=Zh hA;have HDG:=Zh hdg;obtain ⟨S,hS⟩: ∃S,m % d=S:=⟨_,rfl⟩;obtain ⟨T,hT⟩: ∃T,m / d=T:=⟨_,rfl⟩;rw [hS,hT];have HS:=Zh (show val 1000000000 l % d=S by rw [hv,hS]);have HT:=Zh (show val 1000000000 l / d=T by rw [hv,hT]);have HST:=Zh (fun (q:List Nat) (hq:q.length=l.length)=>DivI.start (B:=1000000000) (a:=l) hd hq);have HDD:=Zh hd2;obtain ⟨N,hN⟩: ∃N,l.length=N:=⟨_,rfl⟩;have HN:=Zh hN;rw [hN] at hb1 hl' HST ⊢;have HINFO:=Zh Zgs;have hd0: ¬d=0:=by omega
 have hdi: ¬ (d:Int)=0:=by omega
 have hdb:((d:Int)==0)=false:=beq_eq_false_iff_ne.2 hdi;have k0:IntKind.i64.wrap ((N:Int)-1)=(N:Int)-1:=IntWalk.i64_in _ (by omega);clear hA hN hS hT hv hdg hl hd hd2;go_enter Tryz.func212,Tryz.ntmps212;go_wp2_with (at_make;refine mk1 encD 0 (.int .i64 0) rfl 27 3 8 Tryz.underlying27 HINFO.out rfl (by decide) w.heap.size w N (by omega) (Nat.le_refl _) rfl _ _ rfl .i64 .i64 rfl rfl ?_;intro w3 ho3 hg3);have HB3:=Zh (Zbk hg3);have HO3:=Zh ho3;clear ho3 hg3
 go_loopw [7,8] (fun r i wr=> ∃ (k rr:Nat) (q:List Nat),k<=N/\i= .int .i64 ((k:Int)-1)/\r= .int .i64 (rr:Int)/\DivI 1000000000 l q d rr k/\Below w.heap.size w wr/\Own encD 1 3 wr w.heap.size (.slice (some ⟨w.heap.size,0,none⟩) N N) q) (fun _ i _=>(intOf i+1).toNat)
 case atStart=>exact ⟨N,0,List.replicate N 0,Nat.le_refl _,rfl,rfl,HST.out _ List.length_replicate,HB3.out,HO3.out⟩
 case round=>
   obtain ⟨k,rr,q,hk,rfl,rfl,hdi2,hbe,hown⟩:=hrel;have HDI:=Zh hdi2;have HB:=Zh hbe;have HO:=Zh hown;have HLL:=Zh (show q.length=N by rw [hdi2.len,HN.out]);clear hdi2 hbe hown HB3 HO3 HST k0
   by_cases h0:k=0
   ·subst h0;obtain ⟨hq1,hq2⟩:=HDI.done;rw [HS.out] at hq2;rw [HT.out] at hq1;subst hq2;have HQ:=Zh hq1;have HDQ:=Zh (show Dg 1000000000 q from HDI.dg);have HSC:=Zh (Sc.of_own Zao (by rw [HLL.out];omega) HO.out);have HTR:=Zh (Zee _ _ _ _ _ HSC.out);clear hq1 HDI;go_wp2_with fail;refine HTR.mono ?_;rintro e5 w5 ⟨rfl,rfl⟩;go_wp2_with fail;refine bodyPost_ret (v:= .tuple #[.slice (some ⟨w.heap.size,0,none⟩) (Za9 q) N,.int .i64 (rr:Int)]) (by simp [results,Tryz.results212,go_sem, *]) rfl ?_;exact ⟨_,_,_,_,rfl,⟨HSC.take _ (Zaj q).1,HDQ.take _,(Zaj q).2.1,by rw [Zco];exact HQ.out⟩,HB.out⟩
   ·obtain ⟨j,rfl⟩: ∃j,k=j+1:=⟨k-1,by omega⟩;have hjl:j<l.length:=by rw [HN.out];omega
    have hjN:j<N:=by omega
    have hjq:j<q.length:=by rw [HLL.out];exact hjN
    obtain ⟨b,off,rfl,hbb,hcells⟩:=HA.out (by omega);have g1:=Zny ((hcells j hjl).below HB.out hbb);rw [Nat.mul_one] at g1;have hbz:b<wr.heap.size:=by have:=HB.size;omega
    have hbz2:w.heap.size<wr.heap.size:=Zaz HO.out;have hfz:=Own.frozenN HO.out HLL.out j;have g0:=Zam HO.out HLL.out Zao j hjq (.int .i64 (q[j]:Int)) rfl;have HSET:=Zh (fun (y:Nat)=>Zaq HO.out HLL.out Zao j hjN y (.int .i64 (y:Int)) rfl);have hx:=HDG.get j hjl;have hrr:=HDI.rest;have hd2:=HDD.out;obtain ⟨p,hp⟩: ∃p,rr* 1000000000=p:=⟨_,rfl⟩;obtain ⟨s,hs⟩: ∃s,p+l[j]=s:=⟨_,rfl⟩;have HSTEP:=Zh (HDI.step (by decide) hd2 HDG.out hjl (s:=s) (by rw [hp,hs]));clear hcells HDI;generalize l[j]=x at *;generalize q[j]=y0 at *;have q1:IntKind.i64.wrap ((rr:Int) * 1000000000)=(p:Int):=by rw [IntWalk.i64_in _ (by omega)];omega
    have q2:IntKind.i64.wrap ((p:Int)+(x:Int))=(s:Int):=by rw [IntWalk.i64_in _ (by omega)];omega
    have hs9:s<2000000000000000000:=by omega
    have hsq:s / d<=s:=Nat.div_le_self _ _;have hsr:s % d<d:=Nat.mod_lt _ (by omega);have q4:(s:Int).tdiv (d:Int)=((s / d:Nat):Int):=by rw [Int.tdiv_eq_ediv_of_nonneg (by omega)];exact (Int.natCast_ediv s d).symm
    have q5:(s:Int).tmod (d:Int)=((s % d:Nat):Int):=by rw [Int.tmod_eq_emod_of_nonneg (by omega)];exact (Int.natCast_emod s d).symm
    generalize s / d=t at *;generalize s % d=r2 at *;have q6:IntKind.i64.wrap ((t:Nat):Int)=(t:Int):=IntWalk.i64_in _ (by omega);have q7:IntKind.i64.wrap ((r2:Nat):Int)=(r2:Int):=IntWalk.i64_in _ (by omega);have k5:(((j+1:Nat):Int)-1)=(j:Int):=by omega
    rw [k5];have k2:decide ((0:Int)<=(j:Int))=true:=Zt (by omega);have k2':decide (0<=j)=true:=Zt (by omega);have k3:decide ((N:Int)<=(j:Int))=false:=Zf (by omega);have k1:IntKind.i64.wrap ((j:Int)-1)=(j:Int)-1:=IntWalk.i64_in _ (by omega);clear hp hs hs9 hsq hsr hx hrr hd2 hjl hjq k5 h0;go_wp2_with fail;go_roundw
    case rel=>exact ⟨j,r2,q.set j t,by omega,by go_num,rfl,HSTEP.out,HB.setCell (Nat.le_refl _) _,HSET.out t⟩
    case measure=>simp [intOf];try omega
def Znz (w:World) (q r:Nat) (e:Ending) (w':World):Prop:=∃a1 n1 c1 l1 a2 n2 c2 l2,e= .returned (.tuple #[.slice a1 n1 c1,.slice a2 n2 c2])/\DlR w' (.slice a1 n1 c1) l1 q/\DlR w' (.slice a2 n2 c2) l2 r/\Below w.heap.size w w'
theorem DlR.toZ {w:World} {v:Value} {l:List Nat} {m:Nat} (h:DlR w v l m):DzR w v l m:=⟨h.sc,h.dg,h.eq⟩
theorem DlR.nil (w:World):DlR w (.slice none 0 0) [] 0:=⟨Sc.nil _ _ _ _ _ _,Dg.nil _,Tr.nil,rfl⟩
theorem DlR.cutz {w:World} {a:Option Addr} {n c:Nat} {l:List Nat} {m:Nat} (h:Sc encD 1 w w.heap.size (.slice a n c) l) (hd:Dg 1000000000 l) (hv:val 1000000000 l=m):DlR w (.slice a (Za9 l) c) (l.take (Za9 l)) m:=
  ⟨h.take _ (Zaj l).1,hd.take _,(Zaj l).2.1,by rw [Zco];exact hv⟩
theorem DlR.one {w:World} {a:Option Addr} {n c:Nat} {l:List Nat} {m:Nat} (h:DlR w (.slice a n c) l m) (hl:l.length=1): ∃b off,a=some ⟨b,off,none⟩/\b<w.heap.size/\n=1/\w.cell? ⟨b,off,none⟩=some (.int .i64 (m:Int))/\0<m/\m<1000000000:=by
  obtain ⟨⟨a',c',e,_,_,hA⟩,hd,ht,hv⟩:=h;injection e with e1 e2 e3
  subst e1 e2 e3;obtain ⟨b,off,rfl,hb,hc⟩:=hA (by omega)
  match l,hl with
  | [x],_=>
    rw [Zbr] at hv;subst hv;have h0:=Zny (hc 0 (by simp));simp only [List.getElem_cons_zero,Nat.zero_mul,Nat.add_zero] at h0;have hx:=ht.last (by simp);simp only [List.length_singleton,Nat.sub_self,List.getElem_cons_zero] at hx;exact ⟨b,off,rfl,hb,rfl,h0,by omega,hd x (by simp)⟩
theorem Zpk (w:World) (r:Nat):Sc encD 1 (w.alloc (.cells #[.int .i64 (r:Int)] 3)) (w.alloc (.cells #[.int .i64 (r:Int)] 3)).heap.size (.slice (some ⟨w.heap.size,0,none⟩) 1 1) [r]:=by
  refine ⟨_,1,rfl,by simp,by simp,fun _=>⟨w.heap.size,0,rfl,by simp,fun i hi j u hu=> ?_⟩⟩;obtain rfl:i=0:=by simp at hi;omega
  match j,hu with
  | 0,hu=>
    simp [encD] at hu;subst hu;simp
theorem Zj4 (w:World) (a1 a2:Option Addr) (n1 n2 c1 c2:Nat) (l1 l2:List Nat) (m1 m2:Nat) (h1:DlR w (.slice a1 n1 c1) l1 m1) (h2:DlR w (.slice a2 n2 c2) l2 m2) (hb1:l1.length<=900000) (h2l:l2.length=1):
    Calls Tryz.prog 139 #[.slice a1 n1 c1,.slice a2 n2 c2] w (Znz w (m1 / m2) (m1 % m2)):=by
 have HC:=Zh (Zef w a1 a2 n1 n2 c1 c2 l1 l2 m1 m2 h1 h2);obtain ⟨b,off,rfl,hb,rfl,hcell,hm0,hm9⟩:=h2.one h2l;have HV:=Zh (fun (w1:World) (hb:Below w.heap.size w w1)=>Zpj w1 a1 n1 c1 l1 m1 (h1.later hb).toZ hb1 m2 hm0 (by omega));have HCE:=Zh (fun (w1:World) (h:Below w.heap.size w w1)=>(⟨(h.cell (p:=⟨b,off,none⟩) hb).trans hcell,Nat.lt_of_lt_of_le hb h.size⟩:w1.cell? ⟨b,off,none⟩=_/\b<w1.heap.size));have HL:=Zh (fun (w1:World) (h:Below w.heap.size w w1)=>h1.later h);clear h1 h2 hb hcell
 by_cases hlt:m1<m2
 ·have HQ:=Zh (show m1 / m2=0 from Nat.div_eq_of_lt hlt);have HR:=Zh (show m1 % m2=m1 from Nat.mod_eq_of_lt hlt);have k0:icmp (m1:Int) (m2:Int)= -1:=by unfold icmp;rw [if_pos (by omega)]
  rw [k0] at HC;rw [HQ.out,HR.out];clear k0 hlt hm0 hm9 HQ HR;go_enter Tryz.func139,Tryz.ntmps139;go_wp2_with fail;refine HC.mono ?_;rintro e4 w4 ⟨rfl,hbe⟩;have HB:=Zh hbe;clear hbe;go_wp2_with fail;refine bodyPost_ret (v:= .tuple #[.slice none 0 0,.slice a1 n1 c1]) (by simp [results,Tryz.results139,go_sem, *]) rfl ?_;exact ⟨_,_,_,_,_,_,_,_,rfl,DlR.nil _,HL.out _ HB.out,HB.out⟩
 ·obtain ⟨x,hx⟩: ∃x,icmp (m1:Int) (m2:Int)=x:=⟨_,rfl⟩;have k0:decide (x<0)=false:=by rw [<-hx];unfold icmp;rw [if_neg (by omega)];split <;> decide
  rw [hx] at HC;obtain ⟨Q,hQ⟩: ∃Q,m1 / m2=Q:=⟨_,rfl⟩;obtain ⟨R,hR⟩: ∃R,m1 % m2=R:=⟨_,rfl⟩;rw [hQ,hR] at HV ⊢;have hR9:R<1000000000:=by rw [<-hR];have:=Nat.mod_lt m1 hm0;omega
  have HR9:=Zh (Dg.one hR9);clear hx hQ hR hlt hm0 hm9 hR9;go_enter Tryz.func139,Tryz.ntmps139;go_wp2_with fail;refine HC.mono ?_;rintro e4 w4 ⟨rfl,hbe⟩;have HB:=Zh hbe;obtain ⟨g1,hz1⟩:=HCE.out w4 hbe;clear hbe;go_wp2_with fail;refine (HV.out _ HB.out).mono ?_;rintro e5 w5 ⟨a5,n5,c5,q5,rfl,hq5,hb5⟩;have HQ5:=Zh hq5;replace HB:=Zh (HB.Zg hb5);clear hq5 hb5 g1 hz1;go_wp2_with fail;have HSN:=Zh (Zpk w5 R);have HBA:=Zh (HB.alloc HB.size (.cells #[.int .i64 (R:Int)] 3));have HQA:=Zh (HQ5.later ((Below.refl w5.heap.size w5).alloc (Nat.le_refl _) (.cells #[.int .i64 (R:Int)] 3)));generalize hW:w5.alloc (.cells #[.int .i64 (R:Int)] 3)=w6 at *;have HT:=Zh (Zee w6 _ _ _ _ HSN.out);refine HT.mono ?_;rintro e7 w7 ⟨rfl,rfl⟩;go_wp2_with fail;refine bodyPost_ret (v:= .tuple #[.slice a5 n5 c5,.slice (some ⟨w5.heap.size,0,none⟩) (Za9 [R]) 1]) (by simp [results,Tryz.results139,go_sem, *]) rfl ?_;exact ⟨_,_,_,_,_,_,_,_,rfl,HQA.out,DlR.cutz HSN.out HR9.out (Zbr _ _),HBA.out⟩
inductive Kg where
  | is (x:Value)
  | ig (z:Int)
  | dz (m:Nat)
  | igs (p q:Int)
def Kg.R:Kg->Value->World->Prop
  | .is x,v,_=>v=x
  | .ig z,v,w=>IgR w v z
  | .dz m,v,w=> ∃l,DzR w v l m
  | .igs p q,v,w=> ∃x y,v= .tuple #[x,y]/\IgR w x p/\IgR w y q
theorem Kg.later {k:Kg} {v:Value} {w w':World} (h:k.R v w) (hb:Below w.heap.size w w'):k.R v w':=by
  cases k with
  | is x=>exact h
  | ig z=>exact IgR.later h hb
  | dz m=>exact h.imp fun _ h=>h.later hb
  | igs p q=>obtain ⟨x,y,e,h1,h2⟩:=h;exact ⟨x,y,e,h1.later hb,h2.later hb⟩
def Zr7 (l:List Kg) (j:Nat) (v:Value) (w:World):Prop:=(l.getD j (.ig 0)).R v w
theorem RetDl.dz {w:World} {m:Nat} {e:Ending} {w':World} (h:RetDl w m e w'):RetDz w m e w':=by
  obtain ⟨a,n,c,l,e,h,hb⟩:=h;exact ⟨a,n,c,l,e,h.toZ,hb⟩
theorem IgR.dl {w:World} {v:Value} {z:Int} (h:IgR w v z): ∃a n c l,v= .agg #[.bool (decide (z<0)),.slice a n c]/\DlR w (.slice a n c) l z.natAbs:=by
  obtain ⟨a,n,c,l,e,h1,h2,h3,h4,h5⟩:=h;exact ⟨a,n,c,l,e,h1,h3,h4,h5⟩
theorem DlR.le {w:World} {v:Value} {l:List Nat} {z:Int} {K:Nat} (h:DlR w v l z.natAbs) (hz:Nd K z):l.length<=K:=Ze7 (B:=1000000000) (by decide) h.tr (by rw [h.eq];exact hz.lt)
end Go.Proofs.YtijajkfmlghgkaaGreatDoor.Nu
