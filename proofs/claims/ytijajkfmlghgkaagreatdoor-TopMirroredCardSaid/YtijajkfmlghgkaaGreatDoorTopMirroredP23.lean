/- Lemmas on the way to the law TopMirrored: Xa -/
import Derived.Test.YtijajkfmlghgkaaGreatDoorTopMirroredP18
import Derived.Test.YtijajkfmlghgkaaGreatDoorRows
import Derived.ProofKit
import Derived.LaidMore
import Derived.Lay
import Derived.OpenShut
import Derived.Stop.Joined
import Derived.ChangeStays
import Derived.Lib.SmallJoins
import Derived.Deep.SlicePairs
set_option linter.unusedVariables false
set_option linter.unusedSimpArgs false
set_option maxRecDepth 100000
set_option maxHeartbeats 4000000
namespace Go.Proofs.YtijajkfmlghgkaaGreatDoor.Nu
open Go Go.Proofs Go.RowKit Go.ChangeShapes Go.WideShapes Go.ChangeAt Go.Joins Go.Deep Go.Proofs.YtijajkfmlghgkaaGreatDoor
theorem Zsm:ownKnob Tryz.prog.godebug=none:=by kernel_rfl
theorem Zq4:Kids Tryz.prog (·< Tryz.prog.types.size):=kids_rows (by kernel_rfl) (by kernel_rfl)
theorem Zq5: ∀t e,t<Tryz.prog.types.size->Tryz.prog.underlying t=some (.slice e)->0<Tryz.prog.cellsOf e:=slices_full_of Tryz.prog (by kernel_rfl)
def Zhz:List (String×DataW Unit):=[("math/bits.deBruijn32tab",Rows.laid_math_bits_deBruijn32tab),("math/bits.deBruijn64tab",Rows.laid_math_bits_deBruijn64tab),("internal/strconv.uint64pow10",Rows.laid_internal_strconv_uint64pow10),("unicode/utf8.acceptRanges",Rows.laid_unicode_utf8_acceptRanges),("strconv.ErrRange",Rows.laid_strconv_ErrRange),("strconv.ErrSyntax",Rows.laid_strconv_ErrSyntax),("unicode/utf8.first",Rows.laid_unicode_utf8_first)]
theorem Zow (os:Os) (args:Array Value):laidMetH Tryz.prog Zhz ((World.laidAll Tryz.prog os Zhz).forCall (fun _ _=>0) ⟨#[],args,[]⟩).memory:=by
  rw [MakeChecks.laidMetH_plain _ _ _ (by kernel_rfl)];exact laidMet_laidAll _ (by kernel_rfl) (by kernel_rfl)
theorem Zin (os:Os) (args:Array Value):((World.laidAll Tryz.prog os Zhz).forCall (fun _ _=>0) ⟨#[],args,[]⟩).Shaped Tryz.prog:=
  World.shaped_of_ZipB (by kernel_rfl) (by kernel_rfl)
theorem Zep {P:Program} {x:String×DataW Unit} {r:List (String×DataW Unit)} {w:World} (h:laidMet P (x::r) w):laidMet P r w:=by
  obtain ⟨ps,⟨g,t,cs,fuel,p,q,hg,ht,hv,hd,hr,rfl⟩,hn,hc⟩:=h;exact ⟨q,hr,(List.nodup_append.1 hn).2.1,fun b off hm=>hc b off (List.mem_append_right _ hm)⟩
theorem Zh0 {W:World} (h:laidMetH Tryz.prog Zhz W) (hs:W.ShapedOpen Tryz.prog):TbR W:=by
  rw [MakeChecks.laidMetH_plain _ _ _ (by kernel_rfl)] at h;have h2:=Zep (Zep h);exact ⟨Lib.tabIs_of_head (g:=5) (t:=461) (e:=345) (n:=20) (by kernel_rfl) (by kernel_rfl) (by kernel_rfl) (by kernel_rfl) (by kernel_rfl) (by kernel_rfl) h2,Tryz.laysM145.s1_3 W hs⟩
section
variable {H:Type} {enc:TypeId×Value->H} {W W':World}
theorem stays {t:TypeId} (ht:t<Tryz.prog.types.size) (hb:Below W.heap.size W W') {v:Value} {d:DataW H} {p:List MemPlace} (h:DataW.Trod enc Tryz.prog W 0 (fun _=>true) true t v d p) (sp:Nat->Bool) (hs: ∀q∈p,sp q.block=true):
    DataW.Trod enc Tryz.prog W' 0 sp true t v d p:=by
 obtain ⟨n,hn⟩:=h;exact ⟨n,DataW.trod_stays Zq4 (fun a b=>Zq5 _ _ a b) (fun e=>by cases e) ht hn (fun q hq=>hb.same (DataW.trod_lt n _ _ _ hn q hq)) hs⟩
theorem Zm0 (hb:Below W.heap.size W W') (sp:Nat->Bool): ∀ {ts:List TypeId} {vs:List Value} {ds:List (DataW H)} {p:List MemPlace},(∀t∈ts,t<Tryz.prog.types.size)->(∀q∈p,sp q.block=true)->
    DataW.TrodAll enc Tryz.prog W 0 (fun _=>true) true ts vs ds p->DataW.TrodAll enc Tryz.prog W' 0 sp true ts vs ds p
 | [],[],[],_,_,_,h=>h
 | _::_,_::_,_::_,_,ht,hs,⟨p,q,h1,h2,e⟩=>
   ⟨p,q,stays (ht _ (by simp)) hb h1 sp (fun x hx=>hs x (by rw [e];simp [hx])),Zm0 hb sp (fun t h=>ht t (by simp [h])) (fun x hx=>hs x (by rw [e];simp [hx])) h2,e⟩
theorem Zox {f:Func} {s:ChangeSpec} {args:Array Value} {ds gs:List (DataW H)} {before:List MemPlace} (hs:s.vars=[]) (hr:f.resultTypes.toList=[4]) (hsz:f.resultTypes.size=1) (hT: ∀t∈f.params.toList,t<Tryz.prog.types.size)
    (hW:DataW.Whole enc Tryz.prog f.params.toList s.vars false W args.toList ds gs before) (h1:(s.fn H ds).results=[.lit (.bool true)]) (h2:(s.fn H ds).args=ds) (h3:(s.fn H ds).vars=[]) (hb:Below W.heap.size W W'):
    s.post enc Tryz.prog f false true false false W args (.bool true) W':=by
 have hlt:=hW.lt;have hW0:=hW;obtain ⟨p,q,hA,hV,rfl,hz,hn⟩:=hW;rw [hs] at hV;obtain ⟨rfl,rfl⟩:=trodVars_none hV;rw [List.append_nil] at hlt hW0;refine ⟨ds,[],p,[],p,[],hW0,?_,?_,?_,World.keptBut_mono (fun x hx=>⟨hx,.inr (.inl hx)⟩) (hb.frame (·∈p)),fun e=>by cases e⟩
 ·rw [List.append_nil,h1,hr,hsz];exact trodAll_mk1 (shut_bool Tryz.underlying4 true)
 ·rw [List.append_nil,h2];exact Zm0 hb _ hT (fun x hx=>by simpa using hlt x hx) hA
 ·rw [List.append_nil,h3,hs];rfl
theorem Zsn (b off i:Nat):(⟨b,off,none⟩:Addr).add i=⟨b,off+i,none⟩:=add_plain _ _ _
theorem Zoy {α:Type} (f:α->List Value) (sz:Nat) (hsz:0<sz) (hf: ∀x,(f x).length=sz) {n c:Nat} {a:Addr} (hn:n<=9223372036854775807) (x0:α)
    (Q:α->Prop) (hx: ∀i,i<n->∃x:α,(∀j u,(f x)[j]?=some u->W.cell? (a.add (i* sz+j))=some u)/\Q x):
    ∃l:List α,l.length=n/\SlL f sz W W.heap.size (.slice (some a) n c) l/\∀x∈l,Q x:=by
 have hch: ∃g:Nat->α,∀i,i<n->(∀j u,(f (g i))[j]?=some u->W.cell? (a.add (i* sz+j))=some u)/\Q (g i):=by
   refine ⟨fun i=>if h:i<n then Classical.choose (hx i h) else x0,fun i hi=> ?_⟩;simp only [dif_pos hi];exact Classical.choose_spec (hx i hi)
 obtain ⟨g,hg⟩:=hch;have hl:((List.range n).map g).length=n:=by simp
 refine ⟨(List.range n).map g,hl,⟨some a,c,by rw [hl],by rw [hl];exact hn,fun h0=> ?_⟩,fun x hx=> ?_⟩
 ·rw [hl] at h0;have hne:(f (g 0))≠ []:=by intro e;have:=hf (g 0);rw [e] at this;simp at this;omega
  obtain ⟨u0,us,e0⟩:=List.exists_cons_of_ne_nil hne;have h00:=(hg 0 h0).1 0 u0 (by rw [e0];rfl);obtain ⟨b,off,spot⟩:=a;have hs2:spot=none:=by simpa [Addr.add] using World.cell?_spot h00
  subst hs2;refine ⟨b,off,rfl,by simpa [Addr.add] using World.block_lt_of_cell? _ _ h00,fun i hi j u hu=> ?_⟩;have:=(hg i (by rw [hl] at hi;exact hi)).1 j u (by simpa using hu);rw [Zsn] at this;rw [Nat.add_assoc];exact this
 ·simp only [List.mem_map,List.mem_range] at hx;obtain ⟨i,hi,rfl⟩:=hx;exact (hg i hi).2
theorem Zdi {α:Type} {t e:TypeId} (f:α->List Value) (sz:Nat) (ht:Tryz.prog.underlying t=some (.slice e)) (hsz:0<sz) (hce:Tryz.prog.cellsOf e=sz) (hf: ∀x,(f x).length=sz) (x0:α) (Q:α->Prop)
    (hel: ∀ {fuel:Nat} {cs:List Value} {x:DataW H×List MemPlace},DataW.trod enc Tryz.prog W 0 (fun _=>true) true fuel e cs=some x->∃y:α,cs=f y/\Q y)
    {fuel n c:Nat} {a:Option Addr} {x:DataW H×List MemPlace} (h:DataW.trod enc Tryz.prog W 0 (fun _=>true) true fuel t [.slice a n c]=some x):
    ∃l,l.length=n/\SlL f sz W W.heap.size (.slice a n c) l/\∀y∈l,Q y:=by
 rcases open_slice ht h with ⟨hcs,_⟩|⟨a',len,cap,m,k,D,Pl,hcs,_,hl,hm,hz,_,hcell⟩
 ·simp at hcs;obtain ⟨rfl,rfl,rfl⟩:=hcs;exact ⟨[],rfl,⟨none,0,rfl,by simp,fun h=>absurd h (by simp)⟩,by simp⟩
 ·simp at hcs;obtain ⟨rfl,rfl,rfl⟩:=hcs;simp only [if_true] at hz;subst hz;rw [hce] at hcell;refine Zoy f sz hsz hf (by unfold maxLen at hm;omega) x0 Q (fun i hi=> ?_);obtain ⟨cs',h0,h1⟩:=hcell i (by omega);obtain ⟨y,rfl,hy⟩:=hel h1;obtain ⟨_,hcl,hat⟩:=World.cells?_some h0;refine ⟨y,fun j u hu=> ?_,hy⟩;have hj:j<sz:=by have:=(List.getElem?_eq_some_iff.1 hu).1;rwa [hf] at this
  rw [<-Go.Deep.add_add,hat j hj,hu]
theorem Ze5 {fuel:Nat} {cs:List Value} {x:DataW H×List MemPlace} (h:DataW.trod enc Tryz.prog W 0 (fun _=>true) true fuel 3 cs=some x): ∃y:Int,cs=encI y/\(Lit.int .i64 y).wf=true:=by
  obtain ⟨k,e1,_,w⟩:=DataW.trod_int Tryz.underlying3 h;exact ⟨k,e1,w⟩
theorem Zjo {fuel:Nat} {cs:List Value} {x:DataW H×List MemPlace} (h:DataW.trod enc Tryz.prog W 0 (fun _=>true) true fuel 32 cs=some x): ∃y:List UInt8,cs=encT y/\True:=by
  obtain ⟨s,e1,_,hs⟩:=DataW.trod_string Tryz.underlying32 h;exact ⟨s.data.toList,by rw [e1];rfl,trivial⟩
theorem Zq6 {fuel:Nat} {cs:List Value} {x:DataW H×List MemPlace} (h:DataW.trod enc Tryz.prog W 0 (fun _=>true) true fuel 63 cs=some x): ∃y:HoR,cs=Zc2 y/\True:=by
  obtain ⟨xs,n,_,_,hl,hx,hf⟩:=DataW.trod_struct Tryz.underlying63 h;rw [show Tryz.prog.cellsOf 63=3 from by kernel_rfl] at hl
  match cs,hl with
  | [c0,c1,c2],_=>
    have f0:DataW.trod enc Tryz.prog W 0 (fun _=>true) true n 3 (([c0,c1,c2].drop 0).take (Tryz.prog.cellsOf 3))=xs[0]?:=hf 0 _ rfl;have f1:DataW.trod enc Tryz.prog W 0 (fun _=>true) true n 3 (([c0,c1,c2].drop 1).take (Tryz.prog.cellsOf 3))=xs[1]?:=hf 1 _ rfl;have f2:DataW.trod enc Tryz.prog W 0 (fun _=>true) true n 3 (([c0,c1,c2].drop 2).take (Tryz.prog.cellsOf 3))=xs[2]?:=hf 2 _ rfl;have hx2:xs.length=3:=hx;rw [List.getElem?_eq_getElem (show 0<xs.length by omega),show Tryz.prog.cellsOf 3=1 from by kernel_rfl] at f0;rw [List.getElem?_eq_getElem (show 1<xs.length by omega),show Tryz.prog.cellsOf 3=1 from by kernel_rfl] at f1;rw [List.getElem?_eq_getElem (show 2<xs.length by omega),show Tryz.prog.cellsOf 3=1 from by kernel_rfl] at f2;obtain ⟨a,e0,_,_⟩:=DataW.trod_int Tryz.underlying3 f0;obtain ⟨b,e1,_,_⟩:=DataW.trod_int Tryz.underlying3 f1;obtain ⟨c,e2,_,_⟩:=DataW.trod_int Tryz.underlying3 f2;simp at e0 e1 e2;subst e0 e1 e2;exact ⟨⟨a,b,c⟩,rfl,trivial⟩
theorem Zm1 {n c:Nat} {a:Option Addr} {d:DataW H} {p:List MemPlace} (h:DataW.Trod enc Tryz.prog W 0 (fun _=>true) true 27 (.slice a n c) d p):
    ∃l,SlL encI 1 W W.heap.size (.slice a n c) l/\l.length=n/\∀y∈l,(Lit.int .i64 y).wf=true:=by
 obtain ⟨fuel,hf⟩:=h;obtain ⟨l,h1,h2,h3⟩:=Zdi encI 1 Tryz.underlying27 (by omega) (by kernel_rfl) (fun _=>rfl) (0:Int) _ Ze5 hf;exact ⟨l,h2,h1,h3⟩
theorem Zm2 {r:Reach} {b0:Nat} {v:Value} {d:DataW H} {p:List MemPlace} (hv:Value.okWide Tryz.prog W r b0 51 v) (h:DataW.Trod enc Tryz.prog W 0 (fun _=>true) true 51 v d p):
    ∃ (ah aw ac az ab:Option Addr) (nh nw nc ns nb ch cw cc cs cb:Nat) (tr:List UInt8) (hs:List HoR) (wt sh be:List Int) (ca:List (List UInt8)),
      v= .agg #[.slice ah nh ch,.slice aw nw cw,.slice ac nc cc,.slice az ns cs,.slice ab nb cb,.string (tx tr)]/\
      SlL Zc2 3 W W.heap.size (.slice ah nh ch) hs/\SlL encI 1 W W.heap.size (.slice aw nw cw) wt/\SlL encT 1 W W.heap.size (.slice ac nc cc) ca/\SlL encI 1 W W.heap.size (.slice az ns cs) sh/\SlL encI 1 W W.heap.size (.slice ab nb cb) be:=by
 obtain ⟨cs0,rfl,hsz⟩:=okWide_struct Tryz.underlying51 hv;rw [show Tryz.prog.cellsOf 51=6 from by kernel_rfl] at hsz;obtain ⟨fuel,hf⟩:=h;obtain ⟨l0⟩:=cs0
 match l0,hsz with
 | [v0,v1,v2,v3,v4,v5],_=>
   have hf:DataW.trod enc Tryz.prog W 0 (fun _=>true) true fuel 51 [v0,v1,v2,v3,v4,v5]=some (d,p):=hf;obtain ⟨xs,n,_,_,_,hx,hg⟩:=DataW.trod_struct Tryz.underlying51 hf;have hx6:xs.length=6:=hx;have f0:DataW.trod enc Tryz.prog W 0 (fun _=>true) true n 49 (([v0,v1,v2,v3,v4,v5].drop 0).take (Tryz.prog.cellsOf 49))=xs[0]?:=hg 0 _ rfl;have f1:DataW.trod enc Tryz.prog W 0 (fun _=>true) true n 27 (([v0,v1,v2,v3,v4,v5].drop 1).take (Tryz.prog.cellsOf 27))=xs[1]?:=hg 1 _ rfl;have f2:DataW.trod enc Tryz.prog W 0 (fun _=>true) true n 42 (([v0,v1,v2,v3,v4,v5].drop 2).take (Tryz.prog.cellsOf 42))=xs[2]?:=hg 2 _ rfl;have f3:DataW.trod enc Tryz.prog W 0 (fun _=>true) true n 27 (([v0,v1,v2,v3,v4,v5].drop 3).take (Tryz.prog.cellsOf 27))=xs[3]?:=hg 3 _ rfl;have f4:DataW.trod enc Tryz.prog W 0 (fun _=>true) true n 27 (([v0,v1,v2,v3,v4,v5].drop 4).take (Tryz.prog.cellsOf 27))=xs[4]?:=hg 4 _ rfl;have f5:DataW.trod enc Tryz.prog W 0 (fun _=>true) true n 32 (([v0,v1,v2,v3,v4,v5].drop 5).take (Tryz.prog.cellsOf 32))=xs[5]?:=hg 5 _ rfl;rw [List.getElem?_eq_getElem (show 0<xs.length by omega),show Tryz.prog.cellsOf 49=1 from by kernel_rfl] at f0;rw [List.getElem?_eq_getElem (show 1<xs.length by omega),show Tryz.prog.cellsOf 27=1 from by kernel_rfl] at f1;rw [List.getElem?_eq_getElem (show 2<xs.length by omega),show Tryz.prog.cellsOf 42=1 from by kernel_rfl] at f2;rw [List.getElem?_eq_getElem (show 3<xs.length by omega),show Tryz.prog.cellsOf 27=1 from by kernel_rfl] at f3;rw [List.getElem?_eq_getElem (show 4<xs.length by omega),show Tryz.prog.cellsOf 27=1 from by kernel_rfl] at f4;rw [List.getElem?_eq_getElem (show 5<xs.length by omega),show Tryz.prog.cellsOf 32=1 from by kernel_rfl] at f5;have f0:DataW.trod enc Tryz.prog W 0 (fun _=>true) true n 49 [v0]=some xs[0]:=f0;have f1:DataW.trod enc Tryz.prog W 0 (fun _=>true) true n 27 [v1]=some xs[1]:=f1;have f2:DataW.trod enc Tryz.prog W 0 (fun _=>true) true n 42 [v2]=some xs[2]:=f2;have f3:DataW.trod enc Tryz.prog W 0 (fun _=>true) true n 27 [v3]=some xs[3]:=f3;have f4:DataW.trod enc Tryz.prog W 0 (fun _=>true) true n 27 [v4]=some xs[4]:=f4;obtain ⟨ah,nh,ch,e0⟩:=slice_form Tryz.underlying49 f0;obtain ⟨aw,nw,cw,e1⟩:=slice_form Tryz.underlying27 f1;obtain ⟨ac,nc,cc,e2⟩:=slice_form Tryz.underlying42 f2;obtain ⟨az,ns,cs,e3⟩:=slice_form Tryz.underlying27 f3;obtain ⟨ab,nb,cb,e4⟩:=slice_form Tryz.underlying27 f4;obtain ⟨tr,e5,_⟩:=Zjo f5;cases e0;cases e1;cases e2;cases e3;cases e4;simp [encT] at e5;subst e5;obtain ⟨l0,_,h0,_⟩:=Zdi Zc2 3 Tryz.underlying49 (by omega) (by kernel_rfl) Zhq default _ Zq6 f0;obtain ⟨l1,_,h1,_⟩:=Zdi encI 1 Tryz.underlying27 (by omega) (by kernel_rfl) (fun _=>rfl) (0:Int) _ Ze5 f1;obtain ⟨l2,_,h2,_⟩:=Zdi encT 1 Tryz.underlying42 (by omega) (by kernel_rfl) (fun _=>rfl) ([]:List UInt8) _ Zjo f2;obtain ⟨l3,_,h3,_⟩:=Zdi encI 1 Tryz.underlying27 (by omega) (by kernel_rfl) (fun _=>rfl) (0:Int) _ Ze5 f3;obtain ⟨l4,_,h4,_⟩:=Zdi encI 1 Tryz.underlying27 (by omega) (by kernel_rfl) (fun _=>rfl) (0:Int) _ Ze5 f4;exact ⟨ah,aw,ac,az,ab,nh,nw,nc,ns,nb,ch,cw,cc,cs,cb,tr,l0,l1,l3,l4,l2,rfl,h0,h1,h2,h3,h4⟩
theorem Zio {a:Assume} {C:Checked} {os:Os} {f:FuncId} {fn:Func} {s:ChangeSpec} {conds:List PathCond} {apart fresh handsOn again:Bool} {X:World->Array Value->Prop}
    (hX: ∀ (w w':World) (args:Array Value),w.heap=w'.heap->X w args->X w' args)
    (own:ownKnob C.prog.godebug=none) (started:os.Started) (noInit:C.prog.inits.idxOf? f=none) (hfn:C.prog.funcs[f]?=some fn)
    (witness: ∃ (w:World) (tape:Tape) (i:Input),w.os=os/\(w.forCall tape i).Shaped C.prog/\i.vars=[]/\Input.okWide C.prog (w.forCall tape i) .any w.heap.size f i/\
      ((s.pre enc C.prog fn conds apart (w.forCall tape i).memory i.args/\X (w.forCall tape i).memory i.args)/\sizedMet enc C.prog fn (OpenSpec.ofChange s) apart (w.forCall tape i).memory i.args)/\a.holds C.prog (lone (Frame.enter C.prog f i.args .normal) [] (w.forCall tape i)))
    (contract: ∀ (W:World) (base:Nat) (args:Array Value) (ds gs:List (DataW H)) (before:List MemPlace),
      (∀ (j:Nat) t v,fn.params[j]?=some t->args[j]?=some v->Value.okWide C.prog W .any base t v)->
      DataW.Whole enc C.prog fn.params.toList s.vars apart W args.toList ds gs before->
      X W args->W.ShapedOpen C.prog->
      Calls C.prog f args W fun e W'=> ∃v,e= .returned v/\s.post enc C.prog fn apart fresh handsOn again W args v W'):
    ReturnsInHanded a C os f .any (fun w args=>(s.pre enc C.prog fn conds apart w args/\X w args)/\sizedMet enc C.prog fn (OpenSpec.ofChange s) apart w args) (s.post enc C.prog fn apart fresh handsOn again):=by
 refine returnsInHanded_of_calls own started noInit witness ?_;intro w tape i _ hsh _ hok hpre _;obtain ⟨_,_,_,fn',hfn',_,_,_,_,hval⟩:=hok;have e:fn'=fn:=Option.some.inj (hfn'.symm.trans hfn);subst e;obtain ⟨⟨⟨ds,gs,before,hw,_⟩,hx⟩,_⟩:=hpre;have hw':=DataW.Whole.of_heap (w':=w.forCall tape i) (by rfl) hw;refine (contract (w.forCall tape i) w.heap.size i.args ds gs before hval hw' (hX _ _ _ (by rfl) hx) hsh).mono fun e W' ⟨v,he,hp⟩=> ?_;subst he;exact ChangeSpec.post_blind hp
end
end Go.Proofs.YtijajkfmlghgkaaGreatDoor.Nu
