/- Lemmas on the way to the law TopSuperposed: Tn Tg To Ua Ub Tp -/
import Derived.Test.YtijajkfmlghgkaaGreatDoorTopSuperposedP15
set_option linter.unusedVariables false
set_option linter.unusedSimpArgs false
set_option maxRecDepth 100000
set_option maxHeartbeats 4000000
namespace Go.Proofs.YtijajkfmlghgkaaGreatDoor.Nu
open Go Go.Proofs Go.RowKit Go.Proofs.YtijajkfmlghgkaaGreatDoor
theorem Sl.encQ {w:World} {B:Nat} {v:Value} {qs:List Rat} (h:Sl encS 1 w B v (qs.map txq)):Sl encQ 1 w B v qs:=by
  obtain ⟨a,c,rfl,h1,h2⟩:=h;refine ⟨a,c,by rw [List.length_map],by rw [List.length_map] at h1;exact h1,fun h0=> ?_⟩;obtain ⟨b,off,e,hb,hc⟩:=h2 (by rw [List.length_map];exact h0);refine ⟨b,off,e,hb,fun i hi=> ?_⟩;have:=hc i (by rw [List.length_map];exact hi);rw [List.getElem_map] at this;exact this
def RetT (w:World) (qs:List Rat) (e:Ending) (w':World):Prop:=∃v,e= .returned v/\Sl encQ 1 w' w'.heap.size v qs/\Below w.heap.size w w'
theorem infoR:(Tryz.prog.info? 32).map (fun i=>(i.zero,i.size,i.bytes))=some (some (.string ⟨#[]⟩),1,16):=by kernel_rfl
theorem Zg7 (w:World) (hw:TbR w) (v:Value) (qs:List Rat) (hl:SlF w v qs) (hn:qs.length<=24) (hd: ∀q∈qs,Dn 1000 q):Calls Tryz.prog 153 #[v] w (RetT w qs):=by
  have HSL:=Zh hl;obtain ⟨a,c,rfl,hc⟩:=hl.shape;have HFR:=Zh (fun (u:World) (hb:Below w.heap.size w u) (k:Nat) (hk:k<qs.length) (v:Value) (h:FrR u v qs[k])=>(Zqq u (hw.later hb) v qs[k] h (hd _ (List.getElem_mem hk)):Calls Tryz.prog 118 #[v] u (Ret (.string (txq qs[k])) u)));have HIN:=Zh infoR;obtain ⟨n,hnn⟩: ∃n,qs.length=n:=⟨_,rfl⟩;have HN:=Zh hnn;rw [hnn] at hn hc HSL ⊢;clear hl hd hnn hw;go_enter Tryz.func153,Tryz.ntmps153;go_wp2_with (at_make;refine Zbu encS 1 Zcj (by decide) ⟨#[]⟩ (.string ⟨#[]⟩) rfl 42 32 16 Tryz.underlying42 HIN.out (by decide) w.heap.size w n (by omega) (Nat.le_refl _) rfl _ _ rfl .i64 .i64 rfl rfl ?_;intro w3 ho3 hg3);have hb3:Below w.heap.size w w3:=⟨hg3.os,hg3.tape,hg3.output,hg3.size,fun k hk=>hg3.block k hk (by simp)⟩;have HR:=Zh (show Box w3 w.heap.size 32 ((((qs.take 0).map txq)++List.replicate (n-0) (⟨#[]⟩:ByteArray)).flatMap encS) from Own.box ho3);have HB3:=Zh hb3;clear ho3 hg3 hb3;go_wp2_with fail
  go_loopw [11] (fun i wr=> ∃k:Nat,k<=n/\i= .int .i64 k/\Hid (Below w.heap.size w wr)/\Hid (Box wr w.heap.size 32 ((((qs.take k).map txq)++List.replicate (n-k) (⟨#[]⟩:ByteArray)).flatMap encS))) (fun i _=>n-(intOf i).toNat)
  case atStart=>exact ⟨0,by omega,rfl,HB3,HR⟩
  case round=>
    obtain ⟨k,hk,rfl,HBE,HRO⟩:=hrel
    by_cases hlt:k<n
    ·have hkl:k<qs.length:=by rw [HN.out];exact hlt
     obtain ⟨b,off,y,ha,hbb,hat,huf⟩:=(HSL.later HBE.out).at k hkl;subst ha;have c0:=hat 0 _ rfl;have c1:=hat 1 _ rfl;have c2:=hat 2 _ rfl;have c3:=hat 3 _ rfl;rw [Nat.add_zero] at c0;have hal:Below wr.heap.size wr (wr.alloc (.cells #[.int .i64 y.s,.slice y.a y.n y.c,.int .i64 y.t,.slice y.b y.m y.d] 135)):=(Below.refl _ _).alloc (Nat.le_refl _) _;have HS:=Zh (HFR.out _ (HBE.Zg hal) k hkl _ (huf.later hal));have HBA:=Zh (HBE.Zg hal);have HROA:=Zh (Box.later HRO.out hal);have HU:=Zh (Box.new wr #[.int .i64 y.s,.slice y.a y.n y.c,.int .i64 y.t,.slice y.b y.m y.d] 135);obtain ⟨T,hT⟩: ∃T,txq qs[k]=T:=⟨_,rfl⟩;have HT:=Zh (show (qs.take (k+1)).map txq=(qs.take k).map txq++ [T] by rw [<-hT,List.take_succ_eq_append_getElem hkl,List.map_append];rfl);rw [hT] at HS;clear hT hat huf hal HRO;go_wp2_with fail;refine HS.mono ?_;rintro e5 w5 ⟨rfl,hb⟩;have HB5:=Zh (HBA.Zg hb);have hr5:=Box.later HROA.out hb;have HR5:=Zh hr5;have hlen:((qs.take k).map txq).length=k:=by rw [List.length_map,List.length_take];omega
     have r0:w5.cell? ⟨w.heap.size,k,none⟩=some (.string ⟨#[]⟩):=by
       rw [Box.cell hr5];have h5:=Zci encS 1 Zcj ((qs.take k).map txq++List.replicate (n-k) (⟨#[]⟩:ByteArray)) k (by rw [List.length_append,hlen,List.length_replicate];omega) 0 (by decide);rw [Nat.mul_one,Nat.add_zero] at h5;rw [h5,List.getElem_append_right (by omega),List.getElem_replicate];rfl
     have rf:=Box.frozen hr5;have hrlt:=Box.lt hr5;have HNX:=Zh (show Box (w5.setCell ⟨w.heap.size,k,none⟩ (.string T)) w.heap.size 32 ((((qs.take (k+1)).map txq)++List.replicate (n-(k+1)) (⟨#[]⟩:ByteArray)).flatMap encS) by
       have h6:=Box.set hr5 k (.string T);have h7:=Zgj (f:=encS) Zcj ((qs.take k).map txq++List.replicate (n-k) (⟨#[]⟩:ByteArray)) k (by rw [List.length_append,hlen,List.length_replicate];omega) 0 (by decide) (.string T) T (by rfl);rw [Nat.mul_one,Nat.add_zero] at h7;rw [h7] at h6;rw [HT.out];rw [List.set_append_right _ _ (by omega),hlen,Nat.sub_self,show n-k=(n-(k+1))+1 by omega,List.replicate_succ,Z5] at h6;rw [List.append_assoc];exact h6)
     clear hb hr5 c0 c1 c2 c3 HROA HU HR5 hlen HBA HS;go_wp2_with fail;go_roundw
     case rel=>
       refine ⟨k+1,by omega,by go_num,Zh ?_,HNX⟩
       repeat (first|with_reducible exact HB5.out|with_reducible exact Below.refl _ _|refine .Zs ?_ _|refine .Za ?_ _|refine .drew ?_)
     case measure=>simp [intOf];omega
    ·obtain rfl:k=n:=by omega
     have HS:=Zh (show Sl encQ 1 wr wr.heap.size (.slice (some ⟨w.heap.size,0,none⟩) k k) qs from by
       have h1:=HRO.out;rw [Nat.sub_self,List.replicate_zero,List.append_nil,List.take_of_length_le (by have:=HN.out;omega)] at h1;exact Sl.encQ (Own.toSl (Box.toOwn (base:=0) Zcj h1 (by rw [List.length_map];exact HN.out) (Nat.zero_le _) (by omega)) Zcj (by rw [List.length_map,HN.out];omega)))
     clear HSL HFR HRO;go_wp2_with fail;go_ret;exact ⟨_,rfl,HS.out,HBE.out⟩
theorem Zod (w:World) (hw:TbR w) (v:Value) (qs:List Rat) (hl:SlF w v qs) (hn:qs.length<=24) (hd: ∀q∈qs,Dn 600 q):Calls Tryz.prog 224 #[v,.func (.func 152) #[] #[]] w (Ret (.int .i64 (-1)) w):=by
  have HSL:=Zh hl;obtain ⟨a,c,rfl,hc⟩:=hl.shape;have HFR:=Zh (fun (u:World) (hb:Below w.heap.size w u) (k:Nat) (hk:k<qs.length) (v:Value) (h:FrR u v qs[k])=>(Zn1 u (hw.later hb) v qs[k] h (hd _ (List.getElem_mem hk))));obtain ⟨n,hnn⟩: ∃n,qs.length=n:=⟨_,rfl⟩;have HN:=Zh hnn;rw [hnn] at hn hc HSL ⊢;clear hl hd hnn hw;go_enter Tryz.func224,Tryz.ntmps224;go_wp2_with fail
  go_loopw [8] (fun i wr=> ∃k:Nat,k<=n/\i= .int .i64 k/\Hid (Below w.heap.size w wr)) (fun i _=>n-(intOf i).toNat)
  case atStart=>exact ⟨0,by omega,rfl,Zh (Below.refl _ _)⟩
  case round=>
    obtain ⟨k,hk,rfl,HBE⟩:=hrel
    by_cases hlt:k<n
    ·have hkl:k<qs.length:=by rw [HN.out];exact hlt
     obtain ⟨b,off,y,ha,hbb,hat,huf⟩:=(HSL.later HBE.out).at k hkl;subst ha;have c0:=hat 0 _ rfl;have c1:=hat 1 _ rfl;have c2:=hat 2 _ rfl;have c3:=hat 3 _ rfl;rw [Nat.add_zero] at c0;have HS:=Zh (HFR.out _ HBE.out k hkl _ huf);clear hat huf HFR HSL;go_wp2_with fail;refine HS.mono ?_;rintro e5 w5 ⟨rfl,hb⟩;have HB5:=Zh (HBE.Zg hb);clear hb c0 c1 c2 c3;go_wp2_with fail;go_roundw
     case rel=>exact ⟨k+1,by omega,by go_num,HB5⟩
     case measure=>simp [intOf];omega
    ·obtain rfl:k=n:=by omega
     clear HSL HFR;go_wp2_with fail;go_ret;exact ⟨rfl,HBE.out⟩
theorem Zd5 (w:World) (hw:TbR w) (v:Value) (qs:List Rat) (hl:SlF w v qs) (hn:qs.length<=24) (hd: ∀q∈qs,Dn 600 q):Calls Tryz.prog 151 #[v,.func (.func 152) #[] #[]] w (Ret (.bool false) w):=by
  have H:=Zh (Zod w hw v qs hl hn hd);clear hw hl hn hd;go_enter Tryz.func151,Tryz.ntmps151;go_wp2_with fail;refine H.mono ?_;rintro e5 w5 ⟨rfl,hb⟩;have HB:=Zh hb;clear hb;go_wp2_with fail;go_ret;exact ⟨rfl,HB.out⟩
theorem Zkj {α:Type} (f:Nat->α) {n k:Nat} (h:k<=n):((List.range n).map f).take k=(List.range k).map f:=by
  rw [<-List.map_take,List.take_range,Nat.min_eq_left h]
theorem Zg8 (w:World) (v:Value) (f:Nat->Rat) (n:Nat) (hn:n<=24) (h:SlF w v ((List.range n).map f)) (hf: ∀k,k<n->Dw (f k)) (hs: ∀k,k<=n->Dw (sm f k)):Calls Tryz.prog 223 #[v] w (RetS w ((List.range n).map fun k=>sm f (k+1))):=by
  have HSL:=Zh h;obtain ⟨a,c,rfl,hc⟩:=h.shape;have e:((List.range n).map f).length=n:=by simp
  rw [e] at hc HSL ⊢;have HF:=Zh hf;have HS:=Zh hs;clear h hf hs e;obtain ⟨g,hgg⟩: ∃g:Nat->Rat,(fun k=>sm f (k+1))=g:=⟨_,rfl⟩;have HG:=Zh (show∀k,sm f (k+1)=g k from fun k=>congrFun hgg k);rw [hgg];clear hgg;go_enter Tryz.func223,Tryz.ntmps223;go_wp2_with fail
  go_loopw [3,7] (fun o i wr=> ∃k:Nat,k<=n/\i= .int .i64 k/\Hid (Below w.heap.size w wr)/\Hid (OwnF wr w.heap.size o ((List.range k).map g))) (fun _ i _=>n-(intOf i).toNat)
  case atStart=>exact ⟨0,by omega,rfl,Zh (Below.refl _ _),Zh (OwnF.nil w _)⟩
  case round=>
    obtain ⟨k,hk,rfl,HBE,HO⟩:=hrel;obtain ⟨ao,co,e⟩:=HO.shape;have el:((List.range k).map g).length=k:=by simp
    rw [el] at e;subst e;clear el
    by_cases hlt:k<n
    ·obtain ⟨b,off,y,ha,_⟩:=(HSL.later HBE.out).at k (by simpa using hlt);subst ha;have HTA:=Zh (by have h:=HSL.take (k+1) (by simp;omega);rwa [Zkj f (by omega)] at h:SlF w (.slice (some ⟨b,off,none⟩) (k+1) c) ((List.range (k+1)).map f));have HT:=Zh (fun (u:World) (hb:Below w.heap.size w u) (v:Value) (h:FrR u v ((0:Int):Rat))=>(by rw [<-HG.out k];exact Zdm u v _ f (k+1) (by omega) (by rwa [Rat.intCast_zero] at h) (HTA.later hb) (fun j hj=>HS.out j (by omega)) (fun j hj=>HF.out j (by omega)):Calls Tryz.prog 221 #[v,.slice (some ⟨b,off,none⟩) (k+1) c] u (RetF u (g k))));have k1:IntKind.i64.wrap ((k:Int)+1)=((k+1:Nat):Int):=by rw [IntWalk.i64_in _ (by omega)];omega
     have HQ2:=HG;obtain ⟨q2,hq2⟩: ∃q:Rat,g k=q:=⟨_,rfl⟩;rw [hq2] at HT;have HQ2:=Zh hq2;clear hq2;obtain ⟨m,hm⟩: ∃m,k+1=m:=⟨_,rfl⟩;rw [hm] at HT k1;have hmc:m<=c:=by omega
     have HM:=Zh hm;clear hm HTA;go_wp2_with fail;refine Zao 8 (fun j=>false) (kxs [.is (.slice ao k co),.frac ((0:Int):Rat),.is (.slice (some ⟨b,off,none⟩) n c),.is (.int .i64 (k:Int)),.is (.int .i64 (m:Int)),.is (.slice (some ⟨b,off,none⟩) m c),.frac q2,.one q2 wr.heap.size]) (by kernel_rfl) (by kernel_rfl) (fun j v u u' h hb=>Kx.later h hb) ?_ ?_
     ·refine ⟨?_,?_,?_,?_,?_,?_,?_,?_,trivial⟩
      all_goals
        first|intro vs u hu hR|intro vs u hR
        simp only [Zac,Z2,Z6,Act.put,Z1,Z4,Z5]
      rotate_left;have HS:=Zh (Zgd u 0 (by omega) (by omega));rotate_left;rotate_left;rotate_left;have e3:vs 3=_:=Zr hR 3;rotate_left;have e2:vs 2=_:=Zr hR 2;have e4:vs 4=_:=Zr hR 4;rotate_left;have k1:FrR u (vs 1) _:=Zr hR 1;have e5:vs 5=_:=Zr hR 5;have HS:=Zh (HT.out u (HBE.Zg hu) _ k1);clear k1;rotate_left
      ·have k6:FrR u (vs 6) _:=Zr hR 6;obtain ⟨x6,ex6,hx6⟩:=k6.f4;have hxl:FrR (u.alloc (.cells #[.int .i64 x6.s,.slice x6.a x6.n x6.c,.int .i64 x6.t,.slice x6.b x6.m x6.d] 135)) x6.v _:=hx6.later ((Below.refl _ _).alloc (Nat.le_refl _) _);have HXL:=Zh hxl;have hsz:=hu.size;rw [ex6];clear hR hu k6 ex6 hx6 hxl;go_wp2_with fail;exact ⟨rfl,rfl,_,_,rfl,rfl,(Below.refl _ _).alloc (Nat.le_refl _) _,⟨_,x6,rfl,Box.new u _ 135,HXL.out,hsz⟩,fun h=>absurd h (by decide)⟩
      all_goals
        clear hR
        try clear hu
        go_wp2_with fail
        first|exact ⟨rfl,rfl,_,_,rfl,rfl,Below.refl _ _,rfl,fun h=>absurd h (by decide)⟩|(refine HS.mono ?_;rintro e11 w11 ⟨v11,rfl,hi11,hb⟩;go_wp2_with fail;exact ⟨rfl,rfl,_,_,rfl,rfl,hb,hi11,fun h=>absurd h (by decide)⟩)
     ·intro vs u hu hR hsep;have e0:vs 0=_:=hR 0 (by decide);obtain ⟨g7,x7,e7,hb7,hx7,hl7⟩:Kx.R (.one q2 wr.heap.size) (vs 7) u:=hR 7 (by decide);simp only [Zac,Z3,Z7,Z2,Z6,Act.put,Z1,Z4,Z5,e0,e7];have HO6:=HO.later hu;have hbs:w.heap.size<=u.heap.size:=Nat.le_trans HBE.size hu.size;have HB6:=Zh (HBE.Zg hu);refine Zc7 130 (.agg #[.int .i64 0,.slice none 0 0,.int .i64 0,.slice none 0 0]) 64 Tryz.underlying130 (by kernel_rfl) rfl (by decide) (by simp [Value.cells]) ((List.range k).map g) q2 x7 w.heap.size u g7 x7.enc.toArray 135 hb7 (by simp) hx7 (.slice ao k co) HO6 (by exact hbs) (by simp;omega) rfl (.tmp 10) (.tmp 17) rfl rfl rfl ?_;intro v' w' hown' hgr;have HB7:=Zh (Zb2 (base:=w.heap.size) HB6.out hgr (by omega) (fun k hk=>(HO6.lt k hk).1) (Nat.le_refl _));rw [<-HQ2.out,Zb4] at hown';obtain ⟨a',c',e'⟩:=hown'.shape;rw [List.length_map,List.length_range] at e';subst e';have HO7:=Zh hown';clear hR hu hsep hown' hgr HO6 hbs HT HB6 hb7 hx7 hl7 k1 hmc HM;simp only [Act.put,Z1,Z4,Z5];go_wp2_with fail;go_roundw
      case rel=>exact ⟨k+1,by omega,by go_num,HB7,HO7⟩
      case measure=>simp [intOf];omega
    ·obtain rfl:k=n:=by omega
     clear HSL HF HG;go_wp2_with fail;go_ret;exact ⟨_,rfl,HO.out,HBE.out⟩
def Zf2 (h:HoR):List Value:=[.int .i64 h.lo,.int .i64 h.hi,.int .i64 h.room]
theorem Zh2 (h:HoR):(Zf2 h).length=3:=rfl
structure ShV where
  ah:Option Addr
  aw:Option Addr
  ac:Option Addr
  az:Option Addr
  ab:Option Addr
  nh:Nat
  nw:Nat
  nc:Nat
  ns:Nat
  nb:Nat
  ch:Nat
  cw:Nat
  cc:Nat
  cs:Nat
  cb:Nat
def ShV.cells (x:ShV) (t:Rat):List Value:=[.slice x.ah x.nh x.ch,.slice x.aw x.nw x.cw,.slice x.ac x.nc x.cc,.slice x.az x.ns x.cs,.slice x.ab x.nb x.cb,.string (txq t)]
abbrev ShV.v (x:ShV) (t:Rat):Value:= .agg #[.slice x.ah x.nh x.ch,.slice x.aw x.nw x.cw,.slice x.ac x.nc x.cc,.slice x.az x.ns x.cs,.slice x.ab x.nb x.cb,.string (txq t)]
structure ShR (w:World) (x:ShV) (s:Shp):Prop where
  ph:Sl Zf2 3 w w.heap.size (.slice x.ah x.nh x.ch) s.hs
  pw:Sl encI 1 w w.heap.size (.slice x.aw x.nw x.cw) s.wt
  pc:Sl encQ 1 w w.heap.size (.slice x.ac x.nc x.cc) s.ca
  ps:Sl encI 1 w w.heap.size (.slice x.az x.ns x.cs) s.sh
  pb:Sl encI 1 w w.heap.size (.slice x.ab x.nb x.cb) s.be
theorem ShR.later {w w':World} {x:ShV} {s:Shp} (h:ShR w x s) (hb:Below w.heap.size w w'):ShR w' x s:=⟨h.ph.later hb,h.pw.later hb,h.pc.later hb,h.ps.later hb,h.pb.later hb⟩
theorem Sl.len {α:Type} {f:α->List Value} {sz:Nat} {w:World} {B:Nat} {a:Option Addr} {n c:Nat} {l:List α} (h:Sl f sz w B (.slice a n c) l):l.length=n:=by
  obtain ⟨a',c',e,_⟩:=h;injection e with _ e _
  exact e.symm
theorem Sl.atI {α:Type} {f:α->List Value} {sz:Nat} {w w':World} {a:Option Addr} {n c:Nat} {l:List α} (h:Sl f sz w w.heap.size (.slice a n c) l) (hb:Below w.heap.size w w') (i:Nat) (hi:i<l.length): ∃b off,a=some ⟨b,off,none⟩/\b<w.heap.size/\b<w'.heap.size/\At w' b (off+i* sz) (f l[i]):=by
  obtain ⟨a',c',e,_,hA⟩:=h;injection e with e1 e2 e3
  subst e1;obtain ⟨b,off,rfl,hbb,hc⟩:=hA (by omega);exact ⟨b,off,rfl,hbb,Nat.lt_of_lt_of_le hbb hb.size,(hc i hi).below hb hbb⟩
theorem Za8 (w:World) (g o:Nat) (u:Value):w.grownBy (w.setCell ⟨g,o,none⟩ u) (some g):=⟨rfl,rfl,rfl,by simp,fun b _ hne=>heap_setCell_other w ⟨g,o,none⟩ b u (fun e=>hne (by rw [e]))⟩
theorem OwnF.box {w:World} {base:Nat} {v:Value} {qs:List Rat} (h:OwnF w base v qs) {k:Nat} {e:TypeId} {vs:List Value} (hB:Box w k e vs) (hv: ∀u∈vs,∀y:Int,u≠ .int .u64 y) (hk:k<base) (j:Nat) (u:Value):OwnF (w.setCell ⟨k,j,none⟩ u) base v qs:=
  h.grown (Za8 w k j u) (by
    cases hv:v.ownBlock with
    | none=>exact .inl rfl
    | some g=>exact .inr (fun e=>by injection e with e;have:=(h.lt g hv).1;omega)) (fun g e=>by cases e;exact Za2 hB hv)
def afc (sv:List Value) (vm vl vb vs vd:Value) (t:F4):List Value:=sv++ [vm,vl,vb,vs,vd,.int .i64 t.s,.slice t.a t.n t.c,.int .i64 t.t,.slice t.b t.m t.d]
structure FlI (w:World) (sv av:List Value) (u:World):Prop where
  be:Below w.heap.size w u
  x:Box u w.heap.size 51 sv
  a:Box u (w.heap.size+1) 137 av
section
variable {w u u':World} {sv av:List Value}
theorem FlI.later (h:FlI w sv av u) (hb:Below u.heap.size u u'):FlI w sv av u':=⟨h.be.trans (hb.mono h.be.size),h.x.later hb,h.a.later hb⟩
theorem FlI.grown {row:Option Nat} (h:FlI w sv av u) (hg:u.grownBy u' row) (hr: ∀k,row=some k->w.heap.size+2<=k):FlI w sv av u':=
  ⟨h.be.grown hg h.be.size (fun k hk=>by have:=hr k hk;omega),h.x.kept hg (fun e=>by have:=hr _ e.symm;omega),h.a.kept hg (fun e=>by have:=hr _ e.symm;omega)⟩
theorem FlI.put (h:FlI w sv av u) (j:Nat) (v:Value):FlI w sv (av.set j v) (u.setCell ⟨w.heap.size+1,j,none⟩ v):=
  ⟨h.be.setCell (by dsimp only;omega) _,h.x.other _ (by dsimp only;omega),h.a.set j v⟩
end
def NoW (l:List Value):Prop:=∀u∈l,∀y:Int,u≠ .int .u64 y
theorem NoW.set {l:List Value} (h:NoW l) (j:Nat) {v:Value} (hv: ∀y:Int,v≠ .int .u64 y):NoW (l.set j v):=fun u hu=>by
  rcases List.mem_or_eq_of_mem_set hu with h1|h1
  ·exact h u h1
  ·rw [h1];exact hv
theorem ShR.opened {w:World} {x:ShV} {s:Shp} (hs:ShR w x s) (ok:ShOk s): ∃ (bh oh bw ow bc oc bs os bb ob ch cw cc cz cb:Nat),x=⟨some ⟨bh,oh,none⟩,some ⟨bw,ow,none⟩,some ⟨bc,oc,none⟩,some ⟨bs,os,none⟩,some ⟨bb,ob,none⟩,s.hs.length,s.wt.length,s.wt.length,s.wt.length,s.wt.length,ch,cw,cc,cz,cb⟩/\
    (bh<w.heap.size/\bw<w.heap.size/\bc<w.heap.size/\bs<w.heap.size/\bb<w.heap.size)/\
    (∀i (h:i<s.hs.length),At w bh (oh+i* 3) (Zf2 s.hs[i]))/\(∀i (h:i<s.wt.length),At w bw (ow+i* 1) (encI s.wt[i]))/\(∀i (h:i<s.ca.length),At w bc (oc+i* 1) (encQ s.ca[i]))/\
    (∀i (h:i<s.sh.length),At w bs (os+i* 1) (encI s.sh[i]))/\(∀i (h:i<s.be.length),At w bb (ob+i* 1) (encI s.be[i])):=by
 obtain ⟨ah,aw,ac,az,ab,nh,nw,nc,ns,nb,ch,cw,cc,cz,cb⟩:=x;obtain ⟨h1,h2,h3,h4,h5⟩:=hs;obtain rfl:s.wt.length=nw:=Sl.len h2;obtain rfl:s.wt.length=nc:=ok.lc.symm.trans (Sl.len h3);obtain rfl:s.wt.length=ns:=ok.ls.symm.trans (Sl.len h4);obtain rfl:s.wt.length=nb:=ok.lb.symm.trans (Sl.len h5);obtain rfl:s.hs.length=nh:=Sl.len h1;have hn:=ok.n0;obtain ⟨a,c,e,-,hA1⟩:=h1;injection e with e1 e2 e3
 obtain ⟨bh,oh,rfl,q1,p1⟩:=hA1 ok.h0;obtain ⟨a,c,e,-,hA2⟩:=h2;injection e with e4 e5 e6
 obtain ⟨bw,ow,rfl,q2,p2⟩:=hA2 hn;obtain ⟨a,c,e,-,hA3⟩:=h3;injection e with e7 e8 e9
 obtain ⟨bc,oc,rfl,q3,p3⟩:=hA3 (by rw [ok.lc];exact hn);obtain ⟨a,c,e,-,hA4⟩:=h4;injection e with e10 e11 e12
 obtain ⟨bs,os,rfl,q4,p4⟩:=hA4 (by rw [ok.ls];exact hn);obtain ⟨a,c,e,-,hA5⟩:=h5;injection e with e13 e14 e15
 obtain ⟨bb,ob,rfl,q5,p5⟩:=hA5 (by rw [ok.lb];exact hn);dsimp only at e1 e4 e7 e10 e13;subst e1 e4 e7 e10 e13;exact ⟨bh,oh,bw,ow,bc,oc,bs,os,bb,ob,ch,cw,cc,cz,cb,rfl,⟨q1,q2,q3,q4,q5⟩,p1,p2,p3,p4,p5⟩
theorem Sl.opened {α:Type} {f:α->List Value} {sz:Nat} {w:World} {v:Value} {l:List α} (h:Sl f sz w w.heap.size v l) (h0:0<l.length): ∃b o c,v= .slice (some ⟨b,o,none⟩) l.length c/\b<w.heap.size/\∀i (h:i<l.length),At w b (o+i* sz) (f l[i]):=by
  obtain ⟨a,c,rfl,-,hA⟩:=h;obtain ⟨b,o,rfl,h1,h2⟩:=hA h0;exact ⟨b,o,c,rfl,h1,h2⟩
theorem Zex (w:World) (z:Int) (h:MsP z):Calls Tryz.prog 155 #[.int .i64 z,.int .i64 0,.int .i64 999999999] w (Ret (.bool true) w):=by
  have d1:decide (0<=z)=true:=Zt h.1;have d2:decide (z<=999999999)=true:=Zt h.2;clear h;go_enter Tryz.func155,Tryz.ntmps155;go_wp2_with fail;go_ret;exact ⟨rfl,Below.refl _ _⟩
theorem Zdt (w:World) (hw:TbR w) (q:Rat) (hq:Dn 600 q) (least:Int) (h:least<=q.num.sign):Calls Tryz.prog 227 #[.string (txq q),.int .i64 least] w (Ret (.int .i64 0) w):=by
  have HC:=Zh (Zn3 w hw q hq);have HF:=Zh (fun (u:World) (hb:Below w.heap.size w u)=>Ziq u (hw.later hb) q (hq.mono (by decide)));have HS:=Zh (fun (u:World) (v:Value) (h:FrR u v q)=>Zlk u v q h);have d1:decide (q.num.sign<least)=false:=Zf (by omega);generalize q.num.sign=sg at *;generalize txq q=X at *;clear hw hq h;go_enter Tryz.func227,Tryz.ntmps227;go_wp2_with fail;refine HC.mono ?_;rintro e3 w3 ⟨rfl,hb⟩;have HB:=Zh hb;clear hb;go_wp2_with fail;refine (HF.out _ HB.out).mono ?_;rintro e4 w4 ⟨v4,rfl,hf4,hb⟩;replace HB:=Zh (HB.Zg hb);have HS4:=Zh (HS.out _ _ hf4);clear hb hf4;go_wp2_with fail;refine HS4.mono ?_;rintro e5 w5 ⟨rfl,hb⟩;replace HB:=Zh (HB.Zg hb);clear hb;go_wp2_with fail;go_ret;exact ⟨rfl,HB.out⟩
theorem Ze9 (w:World) (hw:TbR w) (x:ShV) (s:Shp) (hs:ShR w x s) (ok:ShOk s):Calls Tryz.prog 226 #[x.v s.t] w (Ret (.int .i64 0) w):=by
  obtain ⟨bh,oh,bw,ow,bc,oc,bs,os,bb,ob,ch,cw,cc,cz,cb,rfl,⟨q1,q2,q3,q4,q5⟩,p1,p2,p3,p4,p5⟩:=hs.opened ok;show Calls Tryz.prog 226 #[.agg #[.slice (some ⟨bh,oh,none⟩) s.hs.length ch,.slice (some ⟨bw,ow,none⟩) s.wt.length cw,.slice (some ⟨bc,oc,none⟩) s.wt.length cc,.slice (some ⟨bs,os,none⟩) s.wt.length cz,.slice (some ⟨bb,ob,none⟩) s.wt.length cb,.string (txq s.t)]] w _;have HP2:=Zh p2;have HP3:=Zh p3;have HP4:=Zh p4;have HP5:=Zh p5;have HL:=Zh (And.intro ok.lc (And.intro ok.ls ok.lb));have HBT:=Zh (fun (u:World) (z:Int) (h:MsP z)=>Zex u z h);have HCN:=Zh (fun (u:World) (hb:Below w.heap.size w u) (k:Nat) (h:k<s.ca.length)=>(by
    have h1:=ok.ca _ (List.getElem_mem h);exact Zdt u (hw.later hb) s.ca[k] (h1.1.mono (by decide)) 1 (by have:=Ze3.2 h1.2;omega):Calls Tryz.prog 227 #[.string (txq s.ca[k]),.int .i64 1] u (Ret (.int .i64 0) u)))
  have HM1:=Zh (fun (k:Nat) (h:k<s.wt.length)=>ok.wt _ (List.getElem_mem h));have HM2:=Zh (fun (k:Nat) (h:k<s.sh.length)=>ok.sh _ (List.getElem_mem h));have HM3:=Zh (fun (k:Nat) (h:k<s.be.length)=>ok.be _ (List.getElem_mem h));have HQ:=Zh (And.intro q2 (And.intro q3 (And.intro q4 q5)));obtain ⟨n,hn⟩: ∃n,s.wt.length=n:=⟨_,rfl⟩;obtain ⟨m,hm⟩: ∃n,s.hs.length=n:=⟨_,rfl⟩;have hn0:=ok.n0;have hn6:=ok.n6;have HN:=Zh hn;rw [hn] at hn0 hn6 ⊢;rw [hm];generalize txq s.t=T;clear hs ok hn hm p1 p2 p3 p4 p5 q1 q2 q3 q4 q5;have HB:=Zh ((Below.refl w.heap.size w).alloc (Nat.le_refl _) (.cells #[.slice (some ⟨bh,oh,none⟩) m ch,.slice (some ⟨bw,ow,none⟩) n cw,.slice (some ⟨bc,oc,none⟩) n cc,.slice (some ⟨bs,os,none⟩) n cz,.slice (some ⟨bb,ob,none⟩) n cb,.string T] 51));have HX:=Zh (Box.new w #[.slice (some ⟨bh,oh,none⟩) m ch,.slice (some ⟨bw,ow,none⟩) n cw,.slice (some ⟨bc,oc,none⟩) n cc,.slice (some ⟨bs,os,none⟩) n cz,.slice (some ⟨bb,ob,none⟩) n cb,.string T] 51);obtain ⟨x0,x1,x2,x3,x4,x5,xf,xz⟩:=HX.w6;have d1:((n:Int)==0)=false:=beq_eq_false_iff_ne.2 (by omega);have d2:(n==0)=false:=beq_eq_false_iff_ne.2 (by omega);have d3:decide ((24:Int)<(n:Int))=false:=Zf (by omega);have d4:decide (24<n)=false:=Zf (by omega);have d5:((n:Int) !=(n:Int))=false:=by simp
  have d6:(n !=n)=false:=by simp
  go_enter Tryz.func226,Tryz.ntmps226;go_wp2_with fail;generalize hW:w.alloc (.cells #[.slice (some ⟨bh,oh,none⟩) m ch,.slice (some ⟨bw,ow,none⟩) n cw,.slice (some ⟨bc,oc,none⟩) n cc,.slice (some ⟨bs,os,none⟩) n cz,.slice (some ⟨bb,ob,none⟩) n cb,.string T] 51)=W at *;clear hW
  go_loopw [36] (fun i wr=> ∃k:Nat,k<=n/\i= .int .i64 k/\Hid (Below w.heap.size w wr)/\Hid (Box wr w.heap.size 51 [.slice (some ⟨bh,oh,none⟩) m ch,.slice (some ⟨bw,ow,none⟩) n cw,.slice (some ⟨bc,oc,none⟩) n cc,.slice (some ⟨bs,os,none⟩) n cz,.slice (some ⟨bb,ob,none⟩) n cb,.string T])) (fun i _=>n-(intOf i).toNat)
  case atStart=>exact ⟨0,by omega,rfl,HB,HX⟩
  case round=>
    obtain ⟨k,hk,rfl,HBE,HXE⟩:=hrel;clear x0 x1 x2 x3 x4 x5 xf xz;obtain ⟨x0,x1,x2,x3,x4,x5,xf,xz⟩:=HXE.w6
    by_cases hlt:k<n
    ·have k1:k<s.wt.length:=by rw [HN.out];exact hlt
     have k2:k<s.ca.length:=by rw [HL.out.1];exact k1
     have k3:k<s.sh.length:=by rw [HL.out.2.1];exact k1
     have k4:k<s.be.length:=by rw [HL.out.2.2];exact k1
     obtain ⟨q2,q3,q4,q5⟩:=HQ.out;have HA1:=Zh (HP2.out k k1);have HA2:=Zh (HP3.out k k2);have HA3:=Zh (HP4.out k k3);have HA4:=Zh (HP5.out k k4);have HC1:=Zh (HBT.out wr _ (HM1.out k k1));have HC2:=Zh (fun (u:World) (hb:Below w.heap.size w u)=>HCN.out u hb k k2);have HC3:=Zh (fun (u:World)=>HBT.out u _ (HM2.out k k3));have HC4:=Zh (fun (u:World)=>HBT.out u _ (HM3.out k k4));have hqz:=HBE.size;generalize s.wt[k]=y1 at *;generalize s.ca[k]=y2 at *;generalize s.sh[k]=y3 at *;generalize s.be[k]=y4 at *;have c1:=(HA1.below HBE.out q2).c1;rw [Nat.mul_one] at c1;go_wp2_with fail;refine HC1.mono ?_;rintro e4 w4 ⟨rfl,hb⟩;replace HBE:=Zh (HBE.Zg hb);replace HXE:=Zh (HXE.later hb);clear hb x0 x1 x2 x3 x4 x5 xf xz c1 hqz;have hqz:=HBE.size;obtain ⟨x0,x1,x2,x3,x4,x5,xf,xz⟩:=HXE.w6;have c2:=(HA2.below HBE.out q3).c1;rw [Nat.mul_one] at c2;go_wp2_with fail;refine (HC2.out _ HBE.out).mono ?_;rintro e5 w5 ⟨rfl,hb⟩;replace HBE:=Zh (HBE.Zg hb);replace HXE:=Zh (HXE.later hb);clear hb x0 x1 x2 x3 x4 x5 xf xz c2 hqz;have hqz:=HBE.size;obtain ⟨x0,x1,x2,x3,x4,x5,xf,xz⟩:=HXE.w6;have c3:=(HA3.below HBE.out q4).c1;rw [Nat.mul_one] at c3;go_wp2_with fail;refine (HC3.out _).mono ?_;rintro e6 w6 ⟨rfl,hb⟩;replace HBE:=Zh (HBE.Zg hb);replace HXE:=Zh (HXE.later hb);clear hb x0 x1 x2 x3 x4 x5 xf xz c3 hqz;have hqz:=HBE.size;obtain ⟨x0,x1,x2,x3,x4,x5,xf,xz⟩:=HXE.w6;have c4:=(HA4.below HBE.out q5).c1;rw [Nat.mul_one] at c4;go_wp2_with fail;refine (HC4.out _).mono ?_;rintro e7 w7 ⟨rfl,hb⟩;replace HBE:=Zh (HBE.Zg hb);replace HXE:=Zh (HXE.later hb);clear hb x0 x1 x2 x3 x4 x5 xf xz c4 hqz;go_wp2_with fail;go_roundw
     case rel=>exact ⟨k+1,by omega,by go_num,HBE,HXE⟩
     case measure=>simp [intOf];omega
    ·obtain rfl:n=k:=by omega
     go_wp2_with fail;go_ret;exact ⟨rfl,HBE.out⟩
theorem Zh3 (w:World) (hw:TbR w) (x:ShV) (s:Shp) (hs:ShR w x s) (ok:ShOk s):Calls Tryz.prog 154 #[x.v s.t] w (Ret (.int .i64 0) w):=by
  have HST:=Zh (fun (u:World) (hb:Below w.heap.size w u)=>Ze9 u (hw.later hb) x s (hs.later hb) ok);obtain ⟨bh,oh,bw,ow,bc,oc,bs,os,bb,ob,ch,cw,cc,cz,cb,rfl,⟨q1,q2,q3,q4,q5⟩,p1,-,-,-,-⟩:=hs.opened ok;have HST:=Zh (fun (u:World) (hb:Below w.heap.size w u)=>(by exact HST.out u hb:Calls Tryz.prog 226 #[.agg #[.slice (some ⟨bh,oh,none⟩) s.hs.length ch,.slice (some ⟨bw,ow,none⟩) s.wt.length cw,.slice (some ⟨bc,oc,none⟩) s.wt.length cc,.slice (some ⟨bs,os,none⟩) s.wt.length cz,.slice (some ⟨bb,ob,none⟩) s.wt.length cb,.string (txq s.t)]] u (Ret (.int .i64 0) u)));show Calls Tryz.prog 154 #[.agg #[.slice (some ⟨bh,oh,none⟩) s.hs.length ch,.slice (some ⟨bw,ow,none⟩) s.wt.length cw,.slice (some ⟨bc,oc,none⟩) s.wt.length cc,.slice (some ⟨bs,os,none⟩) s.wt.length cz,.slice (some ⟨bb,ob,none⟩) s.wt.length cb,.string (txq s.t)]] w _;have HP1:=Zh p1;have HBT:=Zh (fun (u:World) (z:Int) (h:MsP z)=>Zex u z h);have HCN:=Zh (fun (u:World) (hb:Below w.heap.size w u)=>(Zdt u (hw.later hb) s.t (ok.td.mono (by decide)) 0 (by
    rcases Int.lt_or_le s.t.num.sign 0 with h|h
    ·have:=ok.t0;have h2:=Zcc.1 (show s.t.num.sign<0 from h);grind
    ·exact h):Calls Tryz.prog 227 #[.string (txq s.t),.int .i64 0] u (Ret (.int .i64 0) u)))
  have HHO:=Zh ok.ho;have HOR:=Zh ok.ord;have hn6:=ok.n6;obtain ⟨n,hn⟩: ∃n,s.wt.length=n:=⟨_,rfl⟩;obtain ⟨m,hm⟩: ∃n,s.hs.length=n:=⟨_,rfl⟩;have hm0:=ok.h0;have hm12:=ok.h12;have HM:=Zh hm;rw [hn] at HST HHO hn6 ⊢;rw [hm] at HST hm0 hm12 ⊢;generalize txq s.t=T at *;clear hs ok hn hm p1 q2 q3 q4 q5;have HB:=Zh ((Below.refl w.heap.size w).alloc (Nat.le_refl _) (.cells #[.slice (some ⟨bh,oh,none⟩) m ch,.slice (some ⟨bw,ow,none⟩) n cw,.slice (some ⟨bc,oc,none⟩) n cc,.slice (some ⟨bs,os,none⟩) n cz,.slice (some ⟨bb,ob,none⟩) n cb,.string T] 51));have HX:=Zh (Box.new w #[.slice (some ⟨bh,oh,none⟩) m ch,.slice (some ⟨bw,ow,none⟩) n cw,.slice (some ⟨bc,oc,none⟩) n cc,.slice (some ⟨bs,os,none⟩) n cz,.slice (some ⟨bb,ob,none⟩) n cb,.string T] 51);obtain ⟨x0,x1,x2,x3,x4,x5,xf,xz⟩:=HX.w6;have HS1:=Zh (HST.out _ HB.out);have d1:((m:Int)==0)=false:=beq_eq_false_iff_ne.2 (by omega);have d2:(m==0)=false:=beq_eq_false_iff_ne.2 (by omega);have d3:decide ((12:Int)<(m:Int))=false:=Zf (by omega);have d4:decide (12<m)=false:=Zf (by omega);go_enter Tryz.func154,Tryz.ntmps154;go_wp2_with fail;refine HS1.mono ?_;rintro e4 w4 ⟨rfl,hb⟩;replace HB:=Zh (HB.Zg hb);replace HX:=Zh (HX.later hb);clear hb x0 x1 x2 x3 x4 x5 xf xz;obtain ⟨x0,x1,x2,x3,x4,x5,xf,xz⟩:=HX.w6;clear HST HS1;go_wp2_with fail
  go_loopw [4,23] (fun e i wr=> ∃ (k:Nat) (z:Int),k<=m/\i= .int .i64 k/\e= .int .i64 z/\Hid (Below w.heap.size w wr)/\Hid (Box wr w.heap.size 51 [.slice (some ⟨bh,oh,none⟩) m ch,.slice (some ⟨bw,ow,none⟩) n cw,.slice (some ⟨bc,oc,none⟩) n cc,.slice (some ⟨bs,os,none⟩) n cz,.slice (some ⟨bb,ob,none⟩) n cb,.string T])/\Hid (∀h:k<s.hs.length,z<=s.hs[k].lo)) (fun _ i _=>m-(intOf i).toNat)
  case atStart=>exact ⟨0,0,by omega,rfl,rfl,HB,HX,Zh (fun h=>(HHO.out 0 h).1)⟩
  case round=>
    obtain ⟨k,z,hk,rfl,rfl,HBE,HXE,HZ⟩:=hrel;clear x0 x1 x2 x3 x4 x5 xf xz HB HX;obtain ⟨x0,x1,x2,x3,x4,x5,xf,xz⟩:=HXE.w6
    by_cases hlt:k<m
    ·have k1:k<s.hs.length:=by rw [HM.out];exact hlt
     have hc:=(HP1.out k k1).below HBE.out q1;obtain ⟨r1,r2,r3,r4⟩:=HHO.out k k1;have hz:=HZ.out k1;have HNX:=Zh (show∀h:k+1<s.hs.length,s.hs[k].hi<=s.hs[k+1].lo from fun h=>HOR.out k h);have HC1:=Zh (fun (u:World)=>HBT.out u _ r4);obtain ⟨y,hy⟩: ∃y,s.hs[k]=y:=⟨_,rfl⟩;rw [hy] at hc r1 r2 r3 hz HNX HC1;obtain ⟨zl,zh,zr⟩:=y;have c0:=hc 0 _ rfl;have c1:=hc 1 _ rfl;have c2:=hc 2 _ rfl;rw [Nat.add_zero] at c0;dsimp only at r1 r2 r3 hz HNX HC1;have d5:decide (zl<0)=false:=Zf (by omega);have d6:decide (zh<=zl)=false:=Zf (by omega);have d7:decide ((n:Int)<zh)=false:=Zf (by omega);have d8:decide (zl<z)=false:=Zf (by omega);have hbl:bh<wr.heap.size:=Nat.lt_of_lt_of_le q1 HBE.size;have hal:Below wr.heap.size wr (wr.alloc (.cells #[.int .i64 zl,.int .i64 zh,.int .i64 zr] 63)):=(Below.refl _ _).alloc (Nat.le_refl _) _;have HXA:=Zh (HXE.later hal);have HBA:=Zh (HBE.Zg hal);have HHA:=Zh (Box.new wr #[.int .i64 zl,.int .i64 zh,.int .i64 zr] 63);have HRR:=Zh (And.intro r1 (And.intro r2 r3));clear hc hy r1 r2 r3 r4 hz hal HZ;go_wp2_with fail;refine (HC1.out _).mono ?_;rintro e5 w5 ⟨rfl,hb⟩;have HB5:=Zh (HBA.Zg hb);have HX5:=Zh (HXA.later hb);have HH5:=Zh (HHA.later hb);clear hb x0 x1 x2 x3 x4 x5 xf xz c0 c1 c2 HXA HBA HHA HXE;obtain ⟨x0,x1,x2,x3,x4,x5,xf,xz⟩:=HX5.w6;obtain ⟨y0,y1,y2,yf,yz⟩:=HH5.w3;go_wp2_with fail;go_roundw
     case rel=>exact ⟨k+1,zh,by omega,by go_num,rfl,HB5,HX5,HNX⟩
     case measure=>simp [intOf];omega
    ·obtain rfl:m=k:=by omega
     have HS2:=Zh (HCN.out _ HBE.out);go_wp2_with fail;refine HS2.mono ?_;rintro e5 w5 ⟨rfl,hb⟩;have HB5:=Zh (HBE.Zg hb);clear hb;go_wp2_with fail;go_ret;exact ⟨rfl,HB5.out⟩
theorem Zbz (w:World) (hw:TbR w) (x:ShV) (s:Shp) (vm:Value) (ms:List Int) (hs:ShR w x s) (hm:Sl encI 1 w w.heap.size vm ms) (ok:ShOk s) (cg:CgOk s ms):Calls Tryz.prog 75 #[x.v s.t,vm] w (Ret (.int .i64 0) w):=by
  have HST:=Zh (fun (u:World) (hb:Below w.heap.size w u)=>Zh3 u (hw.later hb) x s (hs.later hb) ok);obtain ⟨bh,oh,bw,ow,bc,oc,bs,os,bb,ob,ch,cw,cc,cz,cb,rfl,-,-,-,-,-,-⟩:=hs.opened ok;obtain ⟨bm,om,cm,rfl,q1,p1⟩:=Sl.opened hm (by rw [cg.len];exact ok.h0);have HST:=Zh (fun (u:World) (hb:Below w.heap.size w u)=>(by exact HST.out u hb:Calls Tryz.prog 154 #[.agg #[.slice (some ⟨bh,oh,none⟩) s.hs.length ch,.slice (some ⟨bw,ow,none⟩) s.wt.length cw,.slice (some ⟨bc,oc,none⟩) s.wt.length cc,.slice (some ⟨bs,os,none⟩) s.wt.length cz,.slice (some ⟨bb,ob,none⟩) s.wt.length cb,.string (txq s.t)]] u (Ret (.int .i64 0) u)));show Calls Tryz.prog 75 #[.agg #[.slice (some ⟨bh,oh,none⟩) s.hs.length ch,.slice (some ⟨bw,ow,none⟩) s.wt.length cw,.slice (some ⟨bc,oc,none⟩) s.wt.length cc,.slice (some ⟨bs,os,none⟩) s.wt.length cz,.slice (some ⟨bb,ob,none⟩) s.wt.length cb,.string (txq s.t)],.slice (some ⟨bm,om,none⟩) ms.length cm] w _;have HP1:=Zh p1;have HBT:=Zh (fun (u:World) (k:Nat) (h:k<ms.length)=>Zex u ms[k] (cg.ok _ (List.getElem_mem h)));have hml:=cg.len;have hm12:=ok.h12;obtain ⟨n,hn⟩: ∃n,s.wt.length=n:=⟨_,rfl⟩;obtain ⟨m,hmm⟩: ∃n,s.hs.length=n:=⟨_,rfl⟩;have HM:=Zh (hml.trans hmm);rw [hml];rw [hn] at HST ⊢;rw [hmm] at HST hm12 ⊢;generalize txq s.t=T at *;clear hs ok hn hm p1 hml hmm cg;have HB:=Zh ((Below.refl w.heap.size w).alloc (Nat.le_refl _) (.cells #[.slice (some ⟨bh,oh,none⟩) m ch,.slice (some ⟨bw,ow,none⟩) n cw,.slice (some ⟨bc,oc,none⟩) n cc,.slice (some ⟨bs,os,none⟩) n cz,.slice (some ⟨bb,ob,none⟩) n cb,.string T] 51));have HX:=Zh (Box.new w #[.slice (some ⟨bh,oh,none⟩) m ch,.slice (some ⟨bw,ow,none⟩) n cw,.slice (some ⟨bc,oc,none⟩) n cc,.slice (some ⟨bs,os,none⟩) n cz,.slice (some ⟨bb,ob,none⟩) n cb,.string T] 51);obtain ⟨x0,x1,x2,x3,x4,x5,xf,xz⟩:=HX.w6;have HS1:=Zh (HST.out _ HB.out);have d1:((m:Int) !=(m:Int))=false:=by simp
  have d2:(m !=m)=false:=by simp
  go_enter Tryz.func75,Tryz.ntmps75;go_wp2_with fail;refine HS1.mono ?_;rintro e4 w4 ⟨rfl,hb⟩;replace HB:=Zh (HB.Zg hb);replace HX:=Zh (HX.later hb);clear hb x0 x1 x2 x3 x4 x5 xf xz;obtain ⟨x0,x1,x2,x3,x4,x5,xf,xz⟩:=HX.w6;clear HST HS1;go_wp2_with fail
  go_loopw [21] (fun i wr=> ∃ (k:Nat),k<=m/\i= .int .i64 k/\Hid (Below w.heap.size w wr)) (fun i _=>m-(intOf i).toNat)
  case atStart=>exact ⟨0,by omega,rfl,HB⟩
  case round=>
    obtain ⟨k,hk,rfl,HBE⟩:=hrel;clear x0 x1 x2 x3 x4 x5 xf xz HB HX
    by_cases hlt:k<m
    ·have k1:k<ms.length:=by rw [HM.out];exact hlt
     have c0:=((HP1.out k k1).below HBE.out q1).c1;rw [Nat.mul_one] at c0;have HC1:=Zh (fun (u:World)=>HBT.out u k k1);have hbl:bm<wr.heap.size:=Nat.lt_of_lt_of_le q1 HBE.size;generalize ms[k]=z at *;go_wp2_with fail;refine (HC1.out _).mono ?_;rintro e5 w5 ⟨rfl,hb⟩;have HB5:=Zh (HBE.Zg hb);clear hb c0;go_wp2_with fail;go_roundw
     case rel=>exact ⟨k+1,by omega,by go_num,HB5⟩
     case measure=>simp [intOf];omega
    ·obtain rfl:m=k:=by omega
     go_wp2_with fail;go_ret;exact ⟨rfl,HBE.out⟩
def nwB:Value->Bool
  | .int .u64 _=>false
  | _=>true
theorem Zb1 {l:List Value} (h:l.all nwB=true): ∀u∈l,∀y:Int,u≠ .int .u64 y:=fun u hu y e=>by
  have:=List.all_eq_true.1 h u hu;rw [e] at this;cases this
def FB (u:World) (g:Nat) (q:Rat):Prop:=∃x:F4,Box u g 135 x.enc/\FrR u x.v q
section
variable {u u':World} {g:Nat} {q:Rat}
theorem FB.later (h:FB u g q) (hb:Below u.heap.size u u'):FB u' g q:=by
  obtain ⟨x,h1,h2⟩:=h;exact ⟨x,Box.later h1 hb,h2.later hb⟩
theorem FB.lt (h:FB u g q):g<u.heap.size:=by
  obtain ⟨x,h1,_⟩:=h;exact Box.lt h1
theorem FB.cln (h:FB u g q):Cln u g:=by
  obtain ⟨x,h1,_⟩:=h;exact Za2 h1 (F4.enc_no x)
theorem FB.grown {row:Option Nat} (h:FB u g q) (hg:u.grownBy u' row) (hne:some g≠row) (hc: ∀k,row=some k->Cln u k):FB u' g q:=by
  obtain ⟨x,h1,h2⟩:=h;exact ⟨x,Box.kept h1 hg hne,h2.grown hg hc⟩
end
def put4 (w:World) (k o:Nat) (x:F4):World:=(((w.setCell ⟨k,o,none⟩ (.int .i64 x.s)).setCell ⟨k,o+1,none⟩ (.slice x.a x.n x.c)).setCell ⟨k,o+2,none⟩ (.int .i64 x.t)).setCell ⟨k,o+3,none⟩ (.slice x.b x.m x.d)
theorem Zaa (w:World) (k o:Nat) (x:F4):w.grownBy (put4 w k o x) (some k):=
  ⟨rfl,rfl,rfl,by simp [put4],fun b _ hne=>by
    have e:k≠b:=fun e=>hne (by rw [e]);unfold put4;rw [heap_setCell_other _ ⟨k,o+3,none⟩ b _ (Ne.symm e),heap_setCell_other _ ⟨k,o+2,none⟩ b _ (Ne.symm e),heap_setCell_other _ ⟨k,o+1,none⟩ b _ (Ne.symm e),heap_setCell_other _ ⟨k,o,none⟩ b _ (Ne.symm e)]⟩
theorem Zde (w:World) (k o:Nat) (x:F4):(put4 w k o x).heap.size=w.heap.size:=by simp [put4]
theorem FB.put {w:World} {g:Nat} {y x:F4} {q:Rat} (hB:Box w g 135 y.enc) (hx:FrR w x.v q):FB (put4 w g 0 x) g q:=⟨x,Box.put4 hB x,hx.grown (Zaa w g 0 x) (fun k e=>by cases e;exact Za2 hB (F4.enc_no y))⟩
theorem Zf3 {P:Program} (w:World) (base:Nat) (t ty e:TypeId) (i:TypeInfo) (z:Value) (size bytes:Nat) (ht:P.underlying t=some (.slice e)) (hi:P.info? e=some i) (hz:i.zero=some z)
    (hsize:i.size=size) (hby:i.bytes=bytes) (hzs:z.cells.size=size) (hsz:0<size)
    (v:Value) (n:Nat) (xs:List Value) (hown:w.ownsRow base e size v n xs)
    (a:Addr) (m c:Nat) (news:List Value) (hl:news.length=m* size) (hnews: ∀j u,news[j]?=some u->w.cell? (a.add j)=some u) (h1: ∀u∈news,u.oneCell'=true) (hm:0<m)
    (h63:n+m<=maxLen) (hbytes:(n+m) * bytes<=140737488355328) {v':Value} {w':World} (hr:(Builtin.append_ #[t,t] ty #[v,.slice (some a) m c]).run P w= .ok v' w'):v'.ownBlock=v.ownBlock∨v'.ownBlock=some w.heap.size:=by
 subst hsize;subst hby
 have hsmall:n+m<=9223372036854775807:=by simp only [maxLen] at h63;omega
 rcases hown.2 with ⟨rfl,rfl⟩|⟨g,cap,cur,rfl,hbg,hg,hnc,hcm,hcs,htake⟩
 ·have hr2:=run_append_nil (P:=P) w t ty e i z ht hi hz a m c news hl hnews (by omega) (by omega) (by have hb:=hbytes;simp only [Nat.zero_add] at hb;omega);rw [hr] at hr2;injection hr2 with e1 e2
  subst e1;exact .inr rfl
 ·by_cases hroom:n+m<=cap
  ·have hfit:n* i.size+news.length<=cur.size:=by rw [hl,hcs,<-Nat.add_mul];exact Nat.mul_le_mul_right _ hroom
   have hr2:=run_append_room (P:=P) w t ty e i ht hi g n cap cur hg a m c news hl hnews h1 hroom hfit;rw [hr] at hr2;injection hr2 with e1 e2
   subst e1;exact .inl rfl
  ·have holds: ∀j u,xs[j]?=some u->w.cell? ((⟨g,0,none⟩:Addr).add j)=some u:=hown.cells (g:=g) rfl;have hr2:=run_append_grow (P:=P) w t ty e i z ht hi hz ⟨g,0,none⟩ n cap xs hown.1 holds a m c news hl hnews (by omega) (by omega) (growslice_fits (by omega) hbytes);rw [hr] at hr2;injection hr2 with e1 e2
   subst e1;exact .inr rfl
theorem Zcx {P:Program} (t:TypeId) (z:Value) (bytes:Nat) (hT:P.underlying t=some (.slice 135)) (hI:(P.info? 135).map (fun i=>(i.zero,i.size,i.bytes))=some (some z,4,bytes))
    (hzs:z.cells.size=4) (hby:bytes<=1000) (hnz: ∀u∈z.cells.toList,∀y:Int,u≠ .int .u64 y)
    (qs:List Rat) (q:Rat) (x:F4) (base:Nat) (w:World) (g:Nat) (cs:Array Value) (e':TypeId) (hg:w.heap[g]?=some (.cells cs e' (0,0))) (hcs:cs.toList=x.enc) (hx:FrR w x.v q)
    (v:Value) (hown:OwnF w base v qs) (hbase:base<=w.heap.size) (hlen:qs.length<=1000000)
    {ops:Array Oper} {rest:List Oper} {o:Oper} {a:Act} {Q:Exit->Act->World->Prop} (hgd:o.guard=none) (s y:Operand)
    (ho:o.op= .call { callee:= .builtin .append,args:= #[s,y],argTypes:= #[t,t] }) (hs:a.eval s=v) (hy:a.eval y= .slice (some ⟨g,0,none⟩) 1 1)
    (h: ∀v' w',OwnF w' base v' (qs++ [q])->w.grownBy w' v.ownBlock->(v'.ownBlock=v.ownBlock∨v'.ownBlock=some w.heap.size)->wpList P ops Q rest (a.put o.dst v') w'):wpList P ops Q (o::rest) a w:=by
 refine wpList_plain hgd fun K hK=> ?_;obtain ⟨i,hi,hz0,hz1,hz2⟩:=info_parts hI;obtain ⟨l,hw1,hw2,hw3,hw4⟩:=id hown;have hmul:(l.length+1) * bytes<=1000001* 1000:=Nat.mul_le_mul (by omega) hby
 have hnews: ∀j u,x.enc[j]?=some u->w.cell? ((⟨g,0,none⟩:Addr).add j)=some u:=fun j u hu=>by
   rw [Addr.add_lit,Nat.zero_add,cell_of_row _ g j cs e' (0,0) hg];rw [<-hcs] at hu;simpa using hu
 obtain ⟨v',w',hr,h2,h3,h4⟩:=Zc6 (P:=P) w base t o.type 135 i z 4 bytes hT hi hz0 hz1 hz2 hzs (by decide) v l.length (l.flatMap F4.enc) hw1 hw2 ⟨g,0,none⟩ 1 1 x.enc (by rfl) hnews (F4.enc_one x) (by decide) (F4.enc_no x) hnz (by simp [maxLen];omega) (by omega) hbase;have hat:=Zf3 (P:=P) w base t o.type 135 i z 4 bytes hT hi hz0 hz1 hz2 hzs (by decide) v l.length (l.flatMap F4.enc) hw1 ⟨g,0,none⟩ 1 1 x.enc (by rfl) hnews (F4.enc_one x) (by decide) (by simp [maxLen];omega) (by omega) hr;unfold Oper.wp execOp;simp only [ho,resolve,invoke,builtin,Sem.run_bind,Sem.run_pure,Result.andThen_ok,List.map_toArray,List.map_cons,List.map_nil,hs,hy,hr];refine hK _ _ (h v' w' ⟨l++ [x],?_,h4,by simp [hw3],fun i hi hi'=> ?_⟩ h3 hat)
 ·unfold Own;rw [List.length_append,List.length_singleton,List.flatMap_append,List.flatMap_singleton];exact h2
 ·rcases Nat.lt_or_ge i l.length with h5|h5
  ·rw [List.getElem_append_left h5,List.getElem_append_left (by omega)];exact (hw4 i h5 (by omega)).grown h3 hw2
  ·have e1:i=l.length:=by simp at hi;omega
   subst e1;rw [List.getElem_append_right (Nat.le_refl _),List.getElem_append_right (by omega)];simp only [Nat.sub_self,List.getElem_singleton];exact hx.grown h3 hw2
def Apt (v v':Value):Prop:=v.ownBlock=none∨v.ownBlock≠v'.ownBlock
theorem Apt.at {w:World} {base:Nat} {v v1 v':Value} {qs:List Rat} (h:Apt v v') (hat:v1.ownBlock=v.ownBlock∨v1.ownBlock=some w.heap.size) (h':OwnF w base v' qs):Apt v1 v':=by
  rcases hat with e|e
  ·unfold Apt;rw [e];exact h
  ·refine .inr (fun e2=> ?_);rw [e] at e2;have:=(h'.lt _ e2.symm).2;omega
theorem Apt.symm {v v':Value} (h:Apt v v'):Apt v' v:=by
  unfold Apt at h ⊢;cases hv:v'.ownBlock with
  | none=>exact .inl rfl
  | some g=>
    right
    rcases h with h|h
    ·rw [h];simp
    ·rw [hv] at h;exact fun e=>h e.symm
theorem Zpt (q:Rat) (k:Nat):q* (((k:Int)^1:Int):Rat)=q* (k:Rat):=by rw [Int.pow_one,Rat.intCast_natCast]
theorem Zsk (q:Rat) (k:Nat):q* (((k:Int)^2:Int):Rat)=q* ((k:Rat) * (k:Rat)):=by
  rw [show ((k:Int)^2)=(k:Int) * (k:Int) by rw [Int.pow_succ,Int.pow_one],Rat.intCast_mul,Rat.intCast_natCast]
theorem Zmh {α:Type} (l:List α) (d:α):l=(List.range l.length).map (fun k=>l.getD k d):=by
  apply List.ext_getElem
  ·simp
  ·intro i h1 h2;simp [h1]
theorem Zg9 {α:Type} (F:Nat->α) (n i:Nat) (q:α):((List.range n).map F).set i q=(List.range n).map (fun j=>if j=i then q else F j):=by
  apply List.ext_getElem
  ·simp
  ·intro j h1 h2
   by_cases e:j=i
   ·subst e;simp
   ·rw [List.getElem_set_ne (by omega)];simp [e]
theorem Zct {α:Type} {F G:Nat->α} {n:Nat} (h: ∀k,k<n->F k=G k):(List.range n).map F=(List.range n).map G:=List.map_congr_left fun k hk=>h k (List.mem_range.1 hk)
end Go.Proofs.YtijajkfmlghgkaaGreatDoor.Nu
