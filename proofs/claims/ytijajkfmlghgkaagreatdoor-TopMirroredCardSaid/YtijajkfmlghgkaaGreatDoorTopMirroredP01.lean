/- Lemmas on the way to the law TopMirrored: A B R O Da Db Dc Df -/
import Derived.Test.YtijajkfmlghgkaaGreatDoorTopMirroredP00
import Derived.BigQuiet
import Derived.StillTail
import Derived.WalkKit
import Derived.WalkSpells
import Derived.WalkLawsBesides
import Derived.Lib.Hide
import Derived.Test.YtijajkfmlghgkaaGreatDoorProg
set_option linter.unusedVariables false
set_option linter.unusedSimpArgs false
set_option maxRecDepth 100000
set_option maxHeartbeats 4000000
namespace Go
open Go.RowKit
structure Later (W:World) where
  w:World
  h:Below W.heap.size W w
instance (W:World):Nonempty (Later W):=⟨⟨W,Below.refl _ _⟩⟩
section
variable {P:Program} {ops:Array Oper} {md:Region.Mode} {C:World->Prop}
def Zkg (P:Program) (md:Region.Mode) (ops:Array Oper) (C:World->Prop) (n:Nat) (L:Array Bool->Act->Prop):Nat->Array Bool->Act->Prop
  | 0,listed,a=>L listed a
  | f+1,listed,a=>Region.ready md ops listed≠ []/\∀i∈Region.ready md ops listed,i<n/\qOp P ops C i (Zkg P md ops C n L f (listed.setIfInBounds i true)) a
theorem Zdj {n g:Nat} {L:Array Bool->Act->Prop} {Q':Exit->Act->World->Prop} (hL: ∀listed a w,C w->L listed a->wpAny P md ops Q' g listed a w):
    ∀ (f:Nat) (listed:Array Bool) (a:Act) (w:World),C w->Zkg P md ops C n L f listed a->wpAny P md ops Q' (f+g) listed a w
 | 0,listed,a,w,hw,h=>by rw [Nat.zero_add];exact hL _ _ _ hw h
 | f+1,listed,a,w,hw,h=>by
   rw [show f+1+g=(f+g)+1 by omega];exact ⟨fun h0=>absurd h0 h.1,fun i hi=>wpOp_of_qOp hw (fun a' w' hw' h'=>Zdj hL f _ a' w' hw' h') (h.2 i hi).2⟩
theorem Zh1 {n i:Nat} {oi:Oper} {v:Value} {L:Array Bool->Act->Prop} (hi:ops[i]?=some oi) (hsel: ∀ (j:Nat) (o:Oper) cs b,ops[j]?=some o->o.op≠ .select cs b)
    (hs:Region.sinkB md ops n=true) (hc:Region.chainB md ops n=true) (hn:n<ops.size) (hin:i<n)
    (hdone: ∀listed a,L listed a->∀j∈Region.ready md ops listed,n<=j) (f:Nat):
    ∀ (listed:Array Bool) (a:Act),HeadInv md ops n listed->
      (∀j oj,ops[j]?=some oj->j≠i->listed.getD j true=false->(∀e∈oj.after,Region.binds md e=true->e.on≠i)->oi.apart ops oj=true)->
      i∈Region.ready md ops listed->YieldsIn P ops C oi v a->
      Zkg P md ops C n L f (listed.setIfInBounds i true) (a.put oi.dst v)->Zkg P md ops C n L (f+1) listed a:=by
 induction f with
 | zero=>
   intro listed a inv _ hr hy H;have hun:=(mem_ready.1 hr).1;refine ⟨fun h=>(by rw [h] at hr;cases hr),fun j hj=> ?_⟩;have hjn:j<n:=Nat.lt_of_not_le fun h=>tail_waits hs hc hn inv _ i rfl hin hun j h hj
   by_cases hji:j=i
   ·subst hji;exact ⟨hjn,hy.qOp hi H⟩
   ·exact absurd (hdone _ _ H j (ready_mono hj hji)) (by omega)
 | succ f ih=>
   intro listed a inv hfree hr hy H;have hun:=(mem_ready.1 hr).1;refine ⟨fun h=>(by rw [h] at hr;cases hr),fun j hj=> ?_⟩;have hjn:j<n:=Nat.lt_of_not_le fun h=>tail_waits hs hc hn inv _ i rfl hin hun j h hj
   by_cases hji:j=i
   ·subst hji;exact ⟨hjn,hy.qOp hi H⟩
   ·have h1:=(H.2 j (ready_mono hj hji)).2;obtain ⟨hjun,oj,hoj,hall⟩:=mem_ready.1 hj;have hnot: ∀e∈oj.after,Region.binds md e=true->e.on≠i:=fun e he hb heq=>by
      have h1:=hall e he hb;rw [heq,getD_both hun] at h1;cases h1
    have h2:=qOp_put hoj (hfree j oj hoj hji hjun hnot) (fun cs b=>hsel i oi cs b hi) (fun cs b=>hsel j oj cs b hoj) hy h1;refine ⟨hjn,qOp_mono (fun a' h3=>ih (listed.setIfInBounds j true) a' (inv.set hj hjn) (fun k ok hk hki hk0 hno=>hfree k ok hk hki ?_ hno) (ready_mono hr (Ne.symm hji)) h3.1 ?_) h2⟩
    ·by_cases hjk:j=k
     ·subst hjk;exact hjun
     ·rw [getD_set_ne true hjk] at hk0;exact hk0
    ·rw [Array.setIfInBounds_comm _ _ hji];exact h3.2
theorem Zg4 {n g:Nat} {Lq:Act->Prop} (hsel:Region.noSelect ops=true) (hs:Region.sinkB md ops n=true) (hc:Region.chainB md ops n=true) (hn:n<ops.size):
    ∀ (l:List Oper) (k:Nat) (listed:Array Bool) (a:Act),(∀j,j<l.length->l[j]?=ops[k+j]?)->k+l.length=n->HeadInv md ops n listed->
    Region.lexHead md ops g l.length k listed=true->wpQuiet P ops C Lq l a->
    Zkg P md ops C n (fun listed' a'=>Region.seqB md ops g n listed'=true/\Lq a') l.length listed a
 | [],k,listed,a,_,hk,_,hB,h=>by
   obtain rfl:k=n:=by simpa using hk
   exact ⟨by simpa [Region.lexHead] using hB,h⟩
 | o::l,k,listed,a,hl,hk,inv,hB,h=>by
   have h0:ops[k]?=some o:=by simpa using (hl 0 (by simp)).symm
   simp only [List.length_cons,Region.lexHead,Bool.and_eq_true] at hB;obtain ⟨⟨hr,hf⟩,hB'⟩:=hB;have hkn:k<n:=by simp only [List.length_cons] at hk;omega
   have hr':k∈Region.ready md ops listed:=by simpa using hr
   have hst:qOp P ops C k (wpQuiet P ops C Lq l) a:=by unfold qOp;simp only [h0];exact h
   obtain ⟨v,hy,hK⟩:=yieldsIn_of_qOp h0 hst;exact Zh1 h0 (Region.noSelect_spec hsel) hs hc hn hkn (fun listed' a' hL=>seqB_ready hL.1) l.length listed a inv (Region.free_spec h0 hf) hr' hy
     (Zg4 hsel hs hc hn l (k+1) _ _ (fun j hj=>by have:=hl (j+1) (by simp;omega);simpa [Nat.add_assoc,Nat.add_comm 1 j] using this) (by simp only [List.length_cons] at hk;omega) (inv.set hr' hkn) hB' hK)
theorem Zdk {id:Nat} {Q:Exit->Act->World->Prop} {a:Act} {w:World} {l:List Oper} (n:Nat) (hm:P.follows .mixedOrders=true) (hB:Region.lexTailB .any l.toArray n=true)
    (hC:C { w with drawn:=w.drawn+1 }) (h:wpQuiet P l.toArray C (fun a'=> ∀w',C w'->wpList P l.toArray Q (l.drop n) a' w') (l.take n) a):(Code.region id l.toArray true).wp P Q a w:=by
 simp only [Region.lexTailB,Bool.and_eq_true,decide_eq_true_eq] at hB;obtain ⟨⟨⟨⟨hsel,hn⟩,hs⟩,hc⟩,hlex⟩:=hB;have hn':n<l.length:=by simpa using hn
 have htl:(l.take n).length=n:=by simp;omega
 have hdl:(l.drop n).length=l.toArray.size-n:=by simp
 have inv0:HeadInv .any l.toArray n (Array.replicate l.toArray.size false):=
   ⟨by simp,fun j oj _ hl=>(by rw [getD_replicate_false] at hl;cases hl),fun t _ ht=>getD_in (by simpa using ht) (getD_replicate_false _ _)⟩
 have H:=Zg4 (C:=C) (md:= .any) (g:=l.toArray.size-n) hsel hs hc hn (l.take n) 0 _ a (fun j hj=>by
   have hj':j<n:=by rw [htl] at hj;exact hj
   simp [hj']) (by simpa using htl) inv0 (by rw [htl];exact hlex) h
 refine wp_region_any hm ?_;have:=Zdj (Q':=Q) (g:=l.toArray.size-n) (fun listed a' w' hw' hL=>by
   have:=wpAny_of_seq (md:= .any) (Q':=Q) (l.drop n) n listed a' w' (fun j=>by simp [List.getElem?_drop]) (by rw [hdl];exact hL.1) (hL.2 w' hw')
   rwa [hdl] at this) _ _ _ _ hC H
 rw [htl,show n+(l.toArray.size-n)=l.toArray.size by omega] at this;exact this
theorem Zbn {id:Nat} {Q:Exit->Act->World->Prop} {a:Act} {w:World} {l:List Oper} (n:Nat) (hm:P.follows .mixedOrders=true) (hB:Region.lexTailB .any l.toArray n=true)
    (h:wpQuiet P l.toArray (fun w'=> ∃X:Later w,w'=X.w) (fun a'=> ∀w',(∃X:Later w,w'=X.w)->wpList P l.toArray Q (l.drop n) a' w') (l.take n) a):(Code.region id l.toArray true).wp P Q a w:=
 Zdk n hm hB ⟨⟨{ w with drawn:=w.drawn+1 },⟨rfl,rfl,rfl,Nat.le_refl _,fun _ _=>rfl⟩⟩,rfl⟩ h
theorem Za1 {id:Nat} {Q:Exit->Act->World->Prop} {a:Act} {w:World} {l:List Oper} (n:Nat) (hm:P.follows .mixedOrders=true) (hB:Region.lexTailB .any l.toArray n=true)
    (h:wpQuiet P l.toArray (fun w'=> ∃n,w'=w.drewN n) (fun a'=> ∀w',(∃n,w'=w.drewN n)->wpList P l.toArray Q (l.drop n) a' w') (l.take n) a):(Code.region id l.toArray true).wp P Q a w:=
 Zdk n hm hB ⟨1,rfl⟩ h
theorem Zah {id:Nat} {Q:Exit->Act->World->Prop} {a:Act} {w:World} {l:List Oper} (hm:P.follows .mixedOrders=true) (hB:Region.lexB .any l.toArray=true)
    (h:wpQuiet P l.toArray (fun w'=> ∃X:Later w,w'=X.w) (fun a'=> ∀w',(∃X:Later w,w'=X.w)->Q .normal a' w') l a):(Code.region id l.toArray true).wp P Q a w:=
 wp_region_quiet (C:=fun w'=> ∃X:Later w,w'=X.w) hm hB ⟨⟨{ w with drawn:=w.drawn+1 },⟨rfl,rfl,rfl,Nat.le_refl _,fun _ _=>rfl⟩⟩,rfl⟩ (by simpa using h)
theorem Later.cell {W:World} (X:Later W) (b o:Nat) (h:b<W.heap.size):X.w.cell? ⟨b,o,none⟩=W.cell? ⟨b,o,none⟩:=X.h.cell (p:=⟨b,o,none⟩) h
theorem Later.frozen {W:World} (X:Later W) (b o:Nat) (h:b<W.heap.size):X.w.frozen? ⟨b,o,none⟩=W.frozen? ⟨b,o,none⟩:=X.h.frozen (p:=⟨b,o,none⟩) h
attribute [go_sem] Later.cell Later.frozen
theorem Calls.later {P:Program} {f:FuncId} {args:Array Value} {W:World} {X:Later W} {v:Value} (h:Calls P f args X.w fun e w'=>e= .returned v/\Below X.w.heap.size X.w w'):
    Calls P f args X.w fun e w''=>e= .returned v/\∃Y:Later W,w''=Y.w:=
 h.mono fun _ w' ⟨he,hb⟩=>⟨he,⟨w',X.h.trans (hb.mono X.h.size)⟩,rfl⟩
theorem Calls.later_same {P:Program} {f:FuncId} {args:Array Value} {W:World} {X:Later W} {v:Value} (h:Calls P f args X.w fun e w'=>e= .returned v/\X.w=w'):
    Calls P f args X.w fun e w''=>e= .returned v/\∃Y:Later W,w''=Y.w:=
 h.mono fun _ _ ⟨he,hb⟩=>⟨he,X,hb.symm⟩
end
end Go
namespace Go.Proofs.YtijajkfmlghgkaaGreatDoor
open Go Go.Proofs Go.RowKit
def Ret (v:Value) (w:World) (e:Ending) (w':World):Prop:=e= .returned v/\Below w.heap.size w w'
theorem Ret.mk {v v':Value} {w w':World} (h:v'=v) (hb:Below w.heap.size w w'):Ret v w (.returned v') w':=⟨by rw [h],hb⟩
def At (w:World) (b o:Nat) (vs:List Value):Prop:=∀j u,vs[j]?=some u->w.cell? ⟨b,o+j,none⟩=some u
theorem At.below {w w':World} {b o B:Nat} {vs:List Value} (h:At w b o vs) (hb:Below B w w') (hB:b<B):At w' b o vs:=
  fun j u hu=>(hb.cell (p:=⟨b,o+j,none⟩) hB).trans (h j u hu)
theorem At.c1 {w:World} {b o:Nat} {x:Value} (h:At w b o [x]):w.cell? ⟨b,o,none⟩=some x:=h 0 x rfl
theorem At.c2 {w:World} {b o:Nat} {x y:Value} (h:At w b o [x,y]):w.cell? ⟨b,o,none⟩=some x/\w.cell? ⟨b,o+1,none⟩=some y:=⟨h 0 x rfl,h 1 y rfl⟩
theorem At.c5 {w:World} {b o:Nat} {x y z s t:Value} (h:At w b o [x,y,z,s,t]):w.cell? ⟨b,o,none⟩=some x/\w.cell? ⟨b,o+1,none⟩=some y/\w.cell? ⟨b,o+2,none⟩=some z/\w.cell? ⟨b,o+3,none⟩=some s/\w.cell? ⟨b,o+4,none⟩=some t:=
  ⟨h 0 x rfl,h 1 y rfl,h 2 z rfl,h 3 s rfl,h 4 t rfl⟩
def Sl {α:Type} (f:α->List Value) (sz:Nat) (w:World) (B:Nat) (v:Value) (l:List α):Prop:=
  ∃a c,v= .slice a l.length c/\l.length<=1000000000/\(0<l.length->∃b off,a=some ⟨b,off,none⟩/\b<B/\
   ∀i (h:i<l.length),At w b (off+i* sz) (f l[i]))
theorem Sl.below {α:Type} {f:α->List Value} {sz:Nat} {w w':World} {B:Nat} {v:Value} {l:List α} (h:Sl f sz w B v l) (hb:Below B w w'):Sl f sz w' B v l:=by
  obtain ⟨a,c,rfl,hl,h⟩:=h;refine ⟨a,c,rfl,hl,fun h0=> ?_⟩;obtain ⟨b,off,rfl,hB,hc⟩:=h h0;exact ⟨b,off,rfl,hB,fun i hi=>(hc i hi).below hb hB⟩
theorem Sl.mono {α:Type} {f:α->List Value} {sz:Nat} {w:World} {B B':Nat} {v:Value} {l:List α} (h:Sl f sz w B v l) (hB':B<=B'):Sl f sz w B' v l:=by
  obtain ⟨a,c,rfl,hl,h⟩:=h;refine ⟨a,c,rfl,hl,fun h0=> ?_⟩;obtain ⟨b,off,rfl,hB,hc⟩:=h h0;exact ⟨b,off,rfl,by omega,hc⟩
theorem Sl.later {α:Type} {f:α->List Value} {sz:Nat} {w w':World} {v:Value} {l:List α} (h:Sl f sz w w.heap.size v l) (hb:Below w.heap.size w w'):Sl f sz w' w'.heap.size v l:=
  (h.below hb).mono hb.size
theorem Sl.nil {α:Type} (f:α->List Value) (sz:Nat) (w:World) (B c:Nat) (a:Option Addr):Sl f sz w B (.slice a 0 c) []:=⟨a,c,rfl,by simp,fun h=>absurd h (by simp)⟩
theorem Zce {α:Type} (f:α->List Value) (sz:Nat) (hf: ∀x,(f x).length=sz) (l:List α): ∀ (i:Nat) (h:i<l.length) (j:Nat),j<sz->(l.flatMap f)[i* sz+j]?=(f l[i])[j]?:=by
  induction l with
  | nil=>intro i h;simp at h
  | cons x l ih=>
    intro i h j hj;rw [List.flatMap_cons];cases i with
    | zero=>rw [List.getElem?_append_left (by rw [hf];omega)];simp
    | succ i=>
      rw [List.getElem?_append_right (by rw [hf,Nat.succ_mul];omega),hf,show (i+1) * sz+j-sz=i* sz+j by rw [Nat.succ_mul];omega];simpa using ih i (by simpa using h) j hj
theorem Zbq {α:Type} (f:α->List Value) (sz:Nat) (hf: ∀x,(f x).length=sz) (l:List α):(l.flatMap f).length=l.length* sz:=by
  induction l with
  | nil=>simp
  | cons x l ih=>rw [List.flatMap_cons,List.length_append,hf,ih,List.length_cons,Nat.succ_mul,Nat.add_comm]
theorem Sl.of_owns {α:Type} {f:α->List Value} {sz:Nat} {w:World} {base:Nat} {e:TypeId} {v:Value} {l:List α} (hf: ∀x,(f x).length=sz) (hlen:l.length<=1000000000)
    (h:w.ownsRow base e sz v l.length (l.flatMap f)):Sl f sz w w.heap.size v l:=by
 rcases h.2 with ⟨rfl,h0⟩|⟨g,cap,cur,rfl,_,hg,_⟩
 ·obtain rfl:l=[]:=List.eq_nil_of_length_eq_zero h0;exact Sl.nil f sz w _ 0 none
 ·refine ⟨_,cap,rfl,hlen,fun _=>⟨g,0,rfl,(Array.getElem?_eq_some_iff.1 hg).1,fun i hi j u hu=> ?_⟩⟩;have hj:j<sz:=by have:=(List.getElem?_eq_some_iff.1 hu).1;rwa [hf] at this
  rw [show 0+i* sz+j=i* sz+j by omega,h.cellAt (i* sz+j) (by have:(i+1) * sz<=l.length* sz:=Nat.mul_le_mul_right _ hi;rw [Nat.succ_mul] at this;omega),Zce f sz hf l i hi j hj];exact hu
theorem Sl.lit {α:Type} {f:α->List Value} {sz:Nat} (hf: ∀x,(f x).length=sz) (l:List α) (w:World) (cs:Array Value) (e:TypeId) (n:Nat) (hn:n=l.length) (hcs:cs.toList=l.flatMap f) (hlen:l.length<=1000000000):
    Sl f sz (w.alloc (.cells cs e)) (w.alloc (.cells cs e)).heap.size (.slice (some ⟨w.heap.size,0,none⟩) n n) l:=by
 subst hn;have h:=World.ownsRow_lit (base:=0) (e:=e) (size:=sz) w cs l.length (by omega) (by simp [maxLen];omega) (by rw [<-Array.length_toList,hcs,Zbq f sz hf]);rw [hcs] at h;exact Sl.of_owns hf hlen h
def encI (n:Int):List Value:=[.int .i64 n]
structure Rg where
  lo:Int
  hi:Int
  deriving DecidableEq,Repr,Inhabited
def Rg.enc (r:Rg):List Value:=[.int .i64 r.lo,.int .i64 r.hi]
theorem Rg.enc_len (r:Rg):r.enc.length=2:=rfl
def Box (w:World) (b:Nat) (e:TypeId) (vs:List Value):Prop:=w.heap[b]?=some (.cells vs.toArray e (0,0))
theorem Box.cell {w:World} {b:Nat} {e:TypeId} {vs:List Value} (h:Box w b e vs) (j:Nat):w.cell? ⟨b,j,none⟩=vs[j]?:=by
  rw [cell_of_row w b j _ e (0,0) h];simp
theorem Box.frozen {w:World} {b:Nat} {e:TypeId} {vs:List Value} (h:Box w b e vs) (o:Nat):w.frozen? ⟨b,o,none⟩=false:=frozen_of_row w b o _ e h
theorem Box.lt {w:World} {b:Nat} {e:TypeId} {vs:List Value} (h:Box w b e vs):b<w.heap.size:=(Array.getElem?_eq_some_iff.1 h).1
theorem Box.new (w:World) (cs:Array Value) (e:TypeId):Box (w.alloc (.cells cs e)) w.heap.size e cs.toList:=by
  unfold Box;rw [heap_alloc_new]
theorem Box.newAt (w:World) (cs:Array Value) (e:TypeId) {n:Nat} (h:w.heap.size=n):Box (w.alloc (.cells cs e)) n e cs.toList:=by subst h;exact Box.new w cs e
theorem Box.alloc {w:World} {b:Nat} {e:TypeId} {vs:List Value} (h:Box w b e vs) (o:Obj):Box (w.alloc o) b e vs:=by
  unfold Box;rw [heap_alloc_old w o h.lt];exact h
theorem Box.drew {w:World} {b:Nat} {e:TypeId} {vs:List Value} (h:Box w b e vs):Box w.drew b e vs:=h
theorem Box.below {w w':World} {b B:Nat} {e:TypeId} {vs:List Value} (h:Box w b e vs) (hb:Below B w w') (hB:b<B):Box w' b e vs:=(hb.block b hB).trans h
theorem Box.later {w w':World} {b:Nat} {e:TypeId} {vs:List Value} (h:Box w b e vs) (hb:Below w.heap.size w w'):Box w' b e vs:=h.below hb h.lt
theorem Box.set {w:World} {b:Nat} {e:TypeId} {vs:List Value} (h:Box w b e vs) (j:Nat) (u:Value):Box (w.setCell ⟨b,j,none⟩ u) b e (vs.set j u):=by
  unfold Box;rw [heap_setCell_same w b j _ e u h];simp
theorem Box.other {w:World} {b:Nat} {e:TypeId} {vs:List Value} (h:Box w b e vs) {a:Addr} (u:Value) (hne:a.block≠b):Box (w.setCell a u) b e vs:=by
  unfold Box;rw [heap_setCell_other w a b u (Ne.symm hne)];exact h
theorem Box.kept {w w':World} {b:Nat} {e:TypeId} {vs:List Value} {row:Option Nat} (h:Box w b e vs) (hg:w.grownBy w' row) (hne:some b≠row):Box w' b e vs:=(hg.block b h.lt hne).trans h
theorem Box.v1 {w:World} {b:Nat} {e:TypeId} {x:Value} (h:Box w b e [x]):w.cell? ⟨b,0,none⟩=some x/\(∀o,w.frozen? ⟨b,o,none⟩=false)/\b<w.heap.size:=⟨h.cell 0,h.frozen,h.lt⟩
theorem Box.v2 {w:World} {b:Nat} {e:TypeId} {x y:Value} (h:Box w b e [x,y]):w.cell? ⟨b,0,none⟩=some x/\w.cell? ⟨b,1,none⟩=some y/\(∀o,w.frozen? ⟨b,o,none⟩=false)/\b<w.heap.size:=
  ⟨h.cell 0,h.cell 1,h.frozen,h.lt⟩
end Go.Proofs.YtijajkfmlghgkaaGreatDoor
namespace Go
open Go.RowKit
structure Later2 {W:World} (Y:Later W) where
  w:World
  h:Below Y.w.heap.size Y.w w
instance {W:World} (Y:Later W):Nonempty (Later2 Y):=⟨⟨Y.w,Below.refl _ _⟩⟩
theorem Later2.below {W:World} {Y:Later W} (X:Later2 Y):Below W.heap.size W X.w:=Y.h.trans (X.h.mono Y.h.size)
theorem Later2.cell {W:World} {Y:Later W} (X:Later2 Y) (b o:Nat) (h:b<W.heap.size):X.w.cell? ⟨b,o,none⟩=W.cell? ⟨b,o,none⟩:=X.below.cell (p:=⟨b,o,none⟩) h
theorem Later2.frozen {W:World} {Y:Later W} (X:Later2 Y) (b o:Nat) (h:b<W.heap.size):X.w.frozen? ⟨b,o,none⟩=W.frozen? ⟨b,o,none⟩:=X.below.frozen (p:=⟨b,o,none⟩) h
attribute [go_sem] Later2.cell Later2.frozen
theorem Calls.later2 {P:Program} {f:FuncId} {args:Array Value} {W:World} {Y:Later W} {X:Later2 Y} {v:Value} (h:Calls P f args X.w fun e w'=>e= .returned v/\Below X.w.heap.size X.w w'):
    Calls P f args X.w fun e w''=>e= .returned v/\∃Z:Later2 Y,w''=Z.w:=
 h.mono fun _ w' ⟨he,hb⟩=>⟨he,⟨w',X.h.trans (hb.mono X.h.size)⟩,rfl⟩
theorem Calls.later2_same {P:Program} {f:FuncId} {args:Array Value} {W:World} {Y:Later W} {X:Later2 Y} {v:Value} (h:Calls P f args X.w fun e w'=>e= .returned v/\X.w=w'):
    Calls P f args X.w fun e w''=>e= .returned v/\∃Z:Later2 Y,w''=Z.w:=
 h.mono fun _ _ ⟨he,hb⟩=>⟨he,X,hb.symm⟩
section
variable {P:Program} {ops:Array Oper} {C:World->Prop}
theorem Zaf (a:Act) (d:Option Tmp) (v:Value) (t:Nat):(a.put d v).tmps[t]?=if d=some t then a.tmps[t]?.map (fun _=>v) else a.tmps[t]?:=by
  cases d with
  | none=>simp [Act.put]
  | some d=>
    simp only [Act.put,Array.getElem?_setIfInBounds,Option.some.injEq]
    by_cases h:d=t
    ·subst h
     by_cases h2:d<a.tmps.size
     ·simp [h2]
     ·simp [h2]
    ·simp [h]
theorem Zbd (a:Act) (d:Option Tmp) (v:Value):(a.put d v).tmps.size=a.tmps.size:=by cases d <;> simp [Act.put]
theorem Zal (a:Act) (d:Option Tmp) (v:Value):(a.put d v).defers=a.defers:=by cases d <;> rfl
theorem Za0 {o:Oper} {a a':Act} (hs: ∀cs b,o.op≠ .select cs b) (h: ∀t∈o.looksAt ops,a.tmps[t]?=a'.tmps[t]?):
    execOp a.eval o=execOp a'.eval o/\Region.wanted o (yielded ops a.tmps)=Region.wanted o (yielded ops a'.tmps):=by
 constructor
 ·refine execOp_congr o hs fun x hx=> ?_;cases x with
  | tmp t=>
    have:=h t (List.mem_append_left _ (List.mem_filterMap.2 ⟨.tmp t,by simpa using hx,rfl⟩));simp [Act.eval,Array.getD_eq_getD_getElem?,this]
  | const v=>rfl
  | global g=>rfl
  | func f=>rfl
 ·unfold Region.wanted;cases hg:o.guard with
  | none=>rfl
  | some gw=>
    obtain ⟨g,want⟩:=gw;have:yielded ops a.tmps g=yielded ops a'.tmps g:=by
      unfold yielded;cases ht:(ops[g]?).bind (·.dst) with
      | none=>rfl
      | some t=>
        have:a.tmps[t]?=a'.tmps[t]?:=h t (by
          unfold Oper.looksAt;simp [hg,ht])
        simp [this]
    simp [this]
theorem Zbj {A:Act}: ∀ (L:List Oper) (a:Act),wpQuiet P ops C (fun a'=>a'=A) L a->L.Pairwise (fun o o'=> ∀t,o.dst=some t->o'.dst≠some t)->
    (∀t,(∀o∈L,o.dst≠some t)->A.tmps[t]?=a.tmps[t]?)/\A.tmps.size=a.tmps.size/\A.defers=a.defers/\
    ∀pre o post,L=pre++o::post->∃ai v,YieldsIn P ops C o v ai/\(∀t,(∃p∈pre,p.dst=some t)->ai.tmps[t]?=A.tmps[t]?)/\
     (∀t,(∀p∈pre,p.dst≠some t)->ai.tmps[t]?=a.tmps[t]?)/\(∀t,o.dst=some t->A.tmps[t]?=a.tmps[t]?.map (fun _=>v)):=by
 intro L
 induction L with
 | nil=>
   intro a h _;have h:a=A:=h;subst h;exact ⟨fun _ _=>rfl,rfl,rfl,fun pre o post hl=>by simp at hl⟩
 | cons o rest ih=>
   intro a h hp;obtain ⟨hp1,hp2⟩:=List.pairwise_cons.1 hp;have hv: ∃v,YieldsIn P ops C o v a/\wpQuiet P ops C (fun a'=>a'=A) rest (a.put o.dst v):=by
     unfold wpQuiet at h
     by_cases hw:Region.wanted o (yielded ops a.tmps)=true
     ·rw [if_pos hw] at h;obtain ⟨v,h1,h2⟩:=h;exact ⟨v,.inl ⟨hw,h1⟩,h2⟩
     ·rw [if_neg hw] at h;exact ⟨undef,.inr ⟨by simpa using hw,rfl⟩,h⟩
   obtain ⟨v,hy,h2⟩:=hv;obtain ⟨i1,i2,i3,i4⟩:=ih _ h2 hp2;have hA: ∀t,o.dst=some t->A.tmps[t]?=a.tmps[t]?.map (fun _=>v):=fun t ht=>by
     rw [i1 t (fun o' ho'=>hp1 o' ho' t ht),Zaf,if_pos ht]
   refine ⟨fun t ht=> ?_,by rw [i2,Zbd],by rw [i3,Zal],?_⟩
   ·rw [i1 t (fun o' ho'=>ht o' (List.mem_cons_of_mem _ ho')),Zaf,if_neg (ht o (by simp))]
   ·intro pre o' post hl;cases pre with
    | nil=>
      simp only [List.nil_append,List.cons.injEq] at hl;obtain ⟨rfl,rfl⟩:=hl;exact ⟨a,v,hy,fun t ⟨p,hp,_⟩=>by simp at hp,fun _ _=>rfl,hA⟩
    | cons o'' pre=>
      simp only [List.cons_append,List.cons.injEq] at hl;obtain ⟨rfl,rfl⟩:=hl;obtain ⟨ai,v',hy',j1,j2,j3⟩:=i4 pre o' post rfl;refine ⟨ai,v',hy',fun t ⟨p,hpm,hpt⟩=> ?_,fun t ht=> ?_,fun t ht=> ?_⟩
      ·rcases List.mem_cons.1 hpm with rfl|hpm
       ·rw [j2 t (fun q hq=>hp1 q (by simp [hq]) t hpt),Zaf,if_pos hpt,hA t hpt]
       ·exact j1 t ⟨p,hpm,hpt⟩
      ·rw [j2 t (fun q hq=>ht q (by simp [hq])),Zaf,if_neg (ht o (by simp))]
      ·have hne:o.dst≠some t:=fun h=>hp1 o' (by simp) t h ht;rw [j3 t ht,Zaf,if_neg hne]
def Region.flowPair (ops:Array Oper) (i j:Nat):Bool:=
  match ops[i]?,ops[j]? with
  | some oi,some oj=>
    (match oi.dst with|some d=>(i==j || oj.dst !=some d) && (i !=j || !(oi.looksAt ops).contains d)|none=>true) &&
    (match oj.dst with|some d=>i==j || !(oi.looksAt ops).contains d || (decide (j<i) && Region.waitsFor .any ops i j)|none=>true)
  | _,_=>true
theorem Region.flowPair_dst {i j:Nat} {oi oj:Oper} (h:Region.flowPair ops i j=true) (hi:ops[i]?=some oi) (hj:ops[j]?=some oj) (hne:i≠j) {d:Tmp} (hd:oi.dst=some d):oj.dst≠some d:=by
  intro hd';unfold Region.flowPair at h;simp [hi,hj,hd,hd',hne] at h
theorem Region.flowPair_self {i:Nat} {oi:Oper} (h:Region.flowPair ops i i=true) (hi:ops[i]?=some oi) {d:Tmp} (hd:oi.dst=some d):d∉oi.looksAt ops:=by
  intro hm;unfold Region.flowPair at h;simp [hi,hd] at h;exact h hm
theorem Region.flowPair_looks {i j:Nat} {oi oj:Oper} (h:Region.flowPair ops i j=true) (hi:ops[i]?=some oi) (hj:ops[j]?=some oj) (hne:i≠j) {d:Tmp} (hd:oj.dst=some d) (hl:d∈oi.looksAt ops):
    j<i/\Region.waitsFor .any ops i j=true:=by
 unfold Region.flowPair at h;simp only [hi,hj,hd,Bool.and_eq_true] at h;have h2:=h.2;simp [hne,hl] at h2;exact h2
def Region.blindTo (ops:Array Oper) (i b:Nat):Bool:=
  match ops[i]?,ops[b]? with
  | some o,some ob=>(match ob.dst with|some d=> !(o.looksAt ops).contains d|none=>true)
  | _,_=>true
theorem Region.blindTo_spec {i b:Nat} {o ob:Oper} (h:Region.blindTo ops i b=true) (hi:ops[i]?=some o) (hb:ops[b]?=some ob) {d:Tmp} (hd:ob.dst=some d):d∉o.looksAt ops:=by
  intro hm;unfold Region.blindTo at h;simp [hi,hb,hd] at h;exact h hm
def Region.marked (size n:Nat):Array Bool:=((List.range size).map fun i=>decide (i<n)).toArray
def Region.flowB (ops:Array Oper) (n b:Nat):Bool:=
  Region.noSelect ops && decide (n<ops.size) && decide (b<n) && Region.sinkB .any ops n && Region.chainB .any ops n && Region.seqB .any ops (ops.size-n) n (Region.marked ops.size n) &&
  ((List.range n).all fun i=>match ops[i]? with|some o=>o.after.all fun e=> !Region.binds .any e || decide (e.on<i)|none=>true) &&
  ((List.range n).all fun i=>(List.range n).all fun j=>Region.flowPair ops i j) &&
  (match ops[b]? with|some o=>o.guard.isNone|none=>false) &&
  ((List.range n).all fun i=>i==b || Region.blindTo ops i b)
def Zat (l:List Oper) (n b:Nat):List Oper:=l.take b++(l.drop (b+1)).take (n-b-1)
def Zcy (b i:Nat):Nat:=if i<b then i else i-1
theorem Zbf {l:List Oper} {n b:Nat} (hb:b<n) (hn:n<=l.length) {i:Nat} (hi:i<n) (hne:i≠b):(Zat l n b)[Zcy b i]?=l[i]?:=by
  unfold Zat Zcy
  by_cases h:i<b
  ·rw [if_pos h,List.getElem?_append_left (by simp;omega),List.getElem?_take,if_pos h]
  ·rw [if_neg h,List.getElem?_append_right (by simp;omega),List.length_take,List.getElem?_take,if_pos (by omega),List.getElem?_drop]
   congr 1;omega
theorem Zf0 {l:List Oper} {n b:Nat} (hb:b<n) (hn:n<=l.length):(Zat l n b).length=n-1:=by
  unfold Zat;simp;omega
theorem Zas {l:List Oper} {n b:Nat} (hb:b<n) (hn:n<=l.length) {q:Nat} {o:Oper} (h:(Zat l n b)[q]?=some o): ∃j,j<n/\j≠b/\l[j]?=some o/\Zcy b j=q:=by
  have hq:q<n-1:=by have:=(List.getElem?_eq_some_iff.1 h).1;rwa [Zf0 hb hn] at this
  by_cases hqb:q<b
  ·have e:Zcy b q=q:=by unfold Zcy;rw [if_pos hqb]
   exact ⟨q,by omega,by omega,by rw [<-Zbf hb hn (by omega) (by omega),e,h],e⟩
  ·have e:Zcy b (q+1)=q:=by unfold Zcy;rw [if_neg (by omega)];omega
   exact ⟨q+1,by omega,by omega,by rw [<-Zbf hb hn (by omega) (by omega),e,h],e⟩
theorem Zay: ∀ (U:List Nat),U≠ []->∃i∈U,∀j∈U,i<=j
  | [],h=>absurd rfl h
  | [x],_=>⟨x,by simp,by simp⟩
  | x::y::U,_=>by
    obtain ⟨i,hi,hm⟩:=Zay (y::U) (by simp)
    by_cases h:x<=i
    ·exact ⟨x,by simp,fun j hj=>by rcases List.mem_cons.1 hj with rfl|hj;exact Nat.le_refl _;exact Nat.le_trans h (hm j hj)⟩
    ·exact ⟨i,List.mem_cons_of_mem _ hi,fun j hj=>by rcases List.mem_cons.1 hj with rfl|hj;omega;exact hm j hj⟩
end
section
variable {P:Program} {l:List Oper} {n b:Nat} {ob:Oper} {W:World} {a0 A:Act} {bv:Nat->Value} {B:Nat->World->Prop} {Q:Exit->Act->World->Prop}
end
end Go
namespace Go.Proofs.YtijajkfmlghgkaaGreatDoor
open Go Go.Proofs Go.RowKit
def Own {α:Type} (f:α->List Value) (sz:Nat) (e:TypeId) (w:World) (base:Nat) (v:Value) (l:List α):Prop:=w.ownsRow base e sz v l.length (l.flatMap f)
section
variable {α:Type} {f:α->List Value} {sz:Nat} {e:TypeId} {w w':World} {base:Nat} {v:Value} {l:List α}
theorem Own.nil (f:α->List Value) (sz:Nat) (e:TypeId) (w:World) (base:Nat):Own f sz e w base (.slice none 0 0) []:=World.ownsRow_nil w base e sz
theorem Own.drewN (h:Own f sz e w base v l) (n:Nat):Own f sz e (w.drewN n) base v l:=h
theorem Own.drew (h:Own f sz e w base v l):Own f sz e w.drew base v l:=h
theorem Own.alloc (h:Own f sz e w base v l) (o:Obj):Own f sz e (w.alloc o) base v l:=World.ownsRow.alloc h o
theorem Own.kept {row:Option Nat} (h:Own f sz e w base v l) (hg:w.grownBy w' row) (hne:v.ownBlock=none∨v.ownBlock≠row):Own f sz e w' base v l:=World.ownsRow.kept h hg hne
theorem Own.ne (h:Own f sz e w base v l) {b:Nat} (hb:b<base):some b≠v.ownBlock:=fun h2=>by
  have:=(World.ownsRow.lt h b h2.symm).1;omega
theorem Own.later (h:Own f sz e w base v l) (hb:Below w.heap.size w w'):Own f sz e w' base v l:=by
  refine h.kept (row:=none) ⟨hb.os,hb.tape,hb.output,hb.size,fun k hk _=>hb.block k hk⟩ ?_;cases v.ownBlock <;> simp
theorem Own.other (h:Own f sz e w base v l) {a:Addr} (u:Value) (hne:v.ownBlock≠some a.block):Own f sz e (w.setCell a u) base v l:=ownsRow_setCell_other h hne u
theorem Own.below (h:Own f sz e w base v l) {a:Addr} (u:Value) (hne:a.block<base):Own f sz e (w.setCell a u) base v l:=h.other u (fun h2=>h.ne hne h2.symm)
theorem Own.toSl (h:Own f sz e w base v l) (hf: ∀x,(f x).length=sz) (hlen:l.length<=1000000000):Sl f sz w w.heap.size v l:=Sl.of_owns hf hlen h
theorem Own.form (h:Own f sz e w base v l) (hn:0<l.length): ∃g cap,v= .slice (some ⟨g,0,none⟩) l.length cap/\base<=g/\g<w.heap.size:=by
  rcases h.2 with ⟨_,h0⟩|⟨g,cap,cur,hv,hb,hg,_⟩
  ·omega
  ·exact ⟨g,cap,hv,hb,(Array.getElem?_eq_some_iff.1 hg).1⟩
theorem Own.shape (h:Own f sz e w base v l): ∃a cap,v= .slice a l.length cap:=by
  rcases h.2 with ⟨hv,h0⟩|⟨g,cap,cur,hv,_⟩
  ·exact ⟨none,0,by rw [hv,h0]⟩
  ·exact ⟨_,cap,hv⟩
theorem Own.at {g cap:Nat} (h:Own f sz e w base (.slice (some ⟨g,0,none⟩) l.length cap) l) (hf: ∀x,(f x).length=sz) (i:Nat) (hi:i<l.length):At w g (i* sz) (f l[i]):=fun j u hu=>by
  have hj:j<sz:=by have:=(List.getElem?_eq_some_iff.1 hu).1;rwa [hf] at this
  rw [World.ownsRow.cellAt h (i* sz+j) (by have:(i+1) * sz<=l.length* sz:=Nat.mul_le_mul_right _ hi;rw [Nat.succ_mul] at this;omega),Zce f sz hf l i hi j hj];exact hu
theorem Own.frozen {g cap:Nat} (h:Own f sz e w base (.slice (some ⟨g,0,none⟩) l.length cap) l) (o:Nat):w.frozen? ⟨g,o,none⟩=false:=World.ownsRow.frozenAt h o
theorem Zf7 (hf: ∀x,(f x).length=sz) (l:List α): ∀ (i:Nat) (hi:i<l.length) (j:Nat) (_:j<sz) (u:Value) (y:α),f y=(f l[i]).set j u->(l.flatMap f).set (i* sz+j) u=(l.set i y).flatMap f:=by
  induction l with
  | nil=>intro i hi;simp at hi
  | cons x l ih=>
    intro i hi j hj u y hy;cases i with
    | zero=>
      simp only [List.getElem_cons_zero] at hy;simp only [List.flatMap_cons,Z5,Nat.zero_mul,Nat.zero_add,hy];rw [List.set_append_left _ _ (by rw [hf];exact hj)]
    | succ i=>
      simp only [List.getElem_cons_succ] at hy;simp only [List.flatMap_cons,Z4];rw [List.set_append_right _ _ (by rw [hf,Nat.succ_mul];omega),hf,show (i+1) * sz+j-sz=i* sz+j by rw [Nat.succ_mul];omega,ih i (by simpa using hi) j hj u y hy]
theorem Own.set {g cap:Nat} (h:Own f sz e w base (.slice (some ⟨g,0,none⟩) l.length cap) l) (hf: ∀x,(f x).length=sz) (i:Nat) (hi:i<l.length) (j:Nat) (hj:j<sz) (u:Value) (y:α) (hy:f y=(f l[i]).set j u):
    Own f sz e (w.setCell ⟨g,i* sz+j,none⟩ u) base (.slice (some ⟨g,0,none⟩) l.length cap) (l.set i y):=by
 have:=(World.ownsRow.stored h (i* sz+j) u).1;unfold Own;rw [List.length_set,<-Zf7 hf l i hi j hj u y hy];exact this
end
theorem Own.lit {α:Type} {f:α->List Value} {sz:Nat} (hf: ∀x,(f x).length=sz) (e:TypeId) (l:List α) (w:World) (cs:Array Value) (n:Nat) (base:Nat) (hn:n=l.length) (hcs:cs.toList=l.flatMap f) (hlen:l.length<=1000000000) (hb:base<=w.heap.size):
    Own f sz e (w.alloc (.cells cs e)) base (.slice (some ⟨w.heap.size,0,none⟩) n n) l:=by
 subst hn;have h:=World.ownsRow_lit (base:=base) (e:=e) (size:=sz) w cs l.length hb (by simp [maxLen];omega) (by rw [<-Array.length_toList,hcs,Zbq f sz hf]);rw [hcs] at h;exact h
theorem Ze6 {α:Type} (f:α->List Value) (sz bytes:Nat) (t e:TypeId) (z:Value) {P:Program} (hT:P.underlying t=some (.slice e)) (hI:(P.info? e).map (fun i=>(i.zero,i.size,i.bytes))=some (some z,sz,bytes))
    (hzs:z.cells.size=sz) (hsz:0<sz) (hby:bytes<=1000) (hf: ∀x,(f x).length=sz) (h1c: ∀x,∀u∈f x,u.oneCell'=true)
    (l:List α) (x:α) (base:Nat) (w0:World) (cs:Array Value) (hcs:cs.toList=f x) (v:Value) (hown:Own f sz e w0 base v l) (hbase:base<=w0.heap.size) (hlen:l.length<=1000000)
    {ops:Array Oper} {rest:List Oper} {o:Oper} {a:Act} {Q:Exit->Act->World->Prop} (hgd:o.guard=none) (s y:Operand)
    (ho:o.op= .call { callee:= .builtin .append,args:= #[s,y],argTypes:= #[t,t] }) (hs:a.eval s=v) (hy:a.eval y= .slice (some ⟨w0.heap.size,0,none⟩) 1 1)
    (h: ∀v' w',Own f sz e w' base v' (l++ [x])->w0.grownBy w' v.ownBlock->wpList P ops Q rest (a.put o.dst v') w'):wpList P ops Q (o::rest) a (w0.alloc (.cells cs e)):=by
 obtain ⟨i,hi,hz0,hz1,hz2⟩:=info_parts hI;have hmul:(l.length+1) * bytes<=1000001* 1000:=Nat.mul_le_mul (by omega) hby
 refine wpList_append_own _ hgd s y t ho base e i z sz bytes hT hi hz0 hz1 hz2 hzs hsz v l.length _ hs (hown.alloc _) ⟨w0.heap.size,0,none⟩ 1 1 (f x) hy (by rw [hf];omega) ?_ (h1c x) (by simp [maxLen];omega) (by omega) (by simp;omega) ?_
 ·intro j u hu;rw [Addr.add_lit,Nat.zero_add,cell_of_row _ w0.heap.size j cs e (0,0) (heap_alloc_new w0 _)];rw [<-hcs] at hu;simpa using hu
 ·intro v' w' ho' hg' _;refine h v' w' ?_ ⟨hg'.os,hg'.tape,hg'.output,Nat.le_trans (by simp) hg'.size,fun k hk hne=>(hg'.block k (by simp;omega) hne).trans (heap_alloc_old w0 _ hk)⟩;unfold Own;rw [List.length_append,List.length_singleton,List.flatMap_append,List.flatMap_singleton];exact ho'
theorem Zbt {α:Type} (f:α->List Value) (sz bytes:Nat) (t e:TypeId) (z:Value) {P:Program} (hT:P.underlying t=some (.slice e)) (hI:(P.info? e).map (fun i=>(i.zero,i.size,i.bytes))=some (some z,sz,bytes))
    (hzs:z.cells.size=sz) (hsz:0<sz) (hby:bytes<=1000) (hf: ∀x,(f x).length=sz) (h1c: ∀x,∀u∈f x,u.oneCell'=true)
    (l:List α) (x:α) (base:Nat) (w:World) (g:Nat) (cs:Array Value) (e':TypeId) (hg:w.heap[g]?=some (.cells cs e' (0,0))) (hcs:cs.toList=f x) (v:Value) (hown:Own f sz e w base v l) (hbase:base<=w.heap.size) (hlen:l.length<=1000000)
    {ops:Array Oper} {rest:List Oper} {o:Oper} {a:Act} {Q:Exit->Act->World->Prop} (hgd:o.guard=none) (s y:Operand)
    (ho:o.op= .call { callee:= .builtin .append,args:= #[s,y],argTypes:= #[t,t] }) (hs:a.eval s=v) (hy:a.eval y= .slice (some ⟨g,0,none⟩) 1 1)
    (h: ∀v' w',Own f sz e w' base v' (l++ [x])->w.grownBy w' v.ownBlock->wpList P ops Q rest (a.put o.dst v') w'):wpList P ops Q (o::rest) a w:=by
 obtain ⟨i,hi,hz0,hz1,hz2⟩:=info_parts hI;have hmul:(l.length+1) * bytes<=1000001* 1000:=Nat.mul_le_mul (by omega) hby
 refine wpList_append_own _ hgd s y t ho base e i z sz bytes hT hi hz0 hz1 hz2 hzs hsz v l.length _ hs hown ⟨g,0,none⟩ 1 1 (f x) hy (by rw [hf];omega) ?_ (h1c x) (by simp [maxLen];omega) (by omega) hbase ?_
 ·intro j u hu;rw [Addr.add_lit,Nat.zero_add,cell_of_row _ g j cs e' (0,0) hg];rw [<-hcs] at hu;simpa using hu
 ·intro v' w' ho' hg' _;refine h v' w' ?_ hg';unfold Own;rw [List.length_append,List.length_singleton,List.flatMap_append,List.flatMap_singleton];exact ho'
theorem Zci {w w':World} {base:Nat} {v:Value} {B:Nat} {w0:World} (hb:Below B w0 w) (hg:w.grownBy w' v.ownBlock) (hB:B<=w.heap.size) (hlt: ∀k,v.ownBlock=some k->base<=k) (hBb:B<=base):Below B w0 w':=
  hb.grown hg hB fun k hk=>Nat.le_trans hBb (hlt k hk)
theorem Own.lt' {α:Type} {f:α->List Value} {sz:Nat} {e:TypeId} {w:World} {base:Nat} {v:Value} {l:List α} (h:Own f sz e w base v l): ∀k,v.ownBlock=some k->base<=k:=fun k hk=>(World.ownsRow.lt h k hk).1
end Go.Proofs.YtijajkfmlghgkaaGreatDoor
namespace Go.Proofs.YtijajkfmlghgkaaGreatDoor
def val (B:Nat):List Nat->Nat
  | []=>0
  | x::r=>x+B* val B r
def Dg (B:Nat) (l:List Nat):Prop:=∀x∈l,x<B
def Tr (l:List Nat):Prop:=l.getLast?≠some 0
theorem Dg.nil (B:Nat):Dg B []:=fun _ h=>absurd h (by simp)
theorem Dg.app {B:Nat} {a b:List Nat} (ha:Dg B a) (hb:Dg B b):Dg B (a++b):=fun x hx=>(List.mem_append.1 hx).elim (ha x) (hb x)
theorem Dg.take {B:Nat} {a:List Nat} (ha:Dg B a) (k:Nat):Dg B (a.take k):=fun x hx=>ha x (List.mem_of_mem_take hx)
theorem Dg.drop {B:Nat} {a:List Nat} (ha:Dg B a) (k:Nat):Dg B (a.drop k):=fun x hx=>ha x (List.mem_of_mem_drop hx)
theorem Dg.one {B x:Nat} (h:x<B):Dg B [x]:=fun y hy=>by rw [List.mem_singleton.1 hy];exact h
theorem Dg.zeros {B:Nat} (h:0<B) (n:Nat):Dg B (List.replicate n 0):=fun y hy=>by rw [(List.mem_replicate.1 hy).2];exact h
theorem Dg.get {B:Nat} {a:List Nat} (ha:Dg B a) (i:Nat) (h:i<a.length):a[i]<B:=ha _ (List.getElem_mem h)
theorem Dg.set {B:Nat} {a:List Nat} (ha:Dg B a) (i:Nat) {y:Nat} (h:y<B):Dg B (a.set i y):=fun x hx=>by
  rcases List.mem_or_eq_of_mem_set hx with h1|h1
  ·exact ha x h1
  ·rw [h1];exact h
theorem Zcj (B:Nat) (a b:List Nat):val B (a++b)=val B a+B^a.length* val B b:=by
  induction a with
  | nil=>simp [val]
  | cons x a ih=>
    rw [List.cons_append,List.length_cons];show x+B* val B (a++b)=(x+B* val B a)+_;rw [ih,Nat.pow_succ,Nat.mul_add,Nat.mul_comm (B^a.length) B,Nat.mul_assoc,Nat.add_assoc]
theorem Zbr (B x:Nat):val B [x]=x:=by simp [val]
theorem Zg5 (B n:Nat):val B (List.replicate n 0)=0:=by
  induction n with
  | zero=>rfl
  | succ n ih=>rw [List.replicate_succ];show 0+B* val B (List.replicate n 0)=0;rw [ih];simp
theorem Zbg {B:Nat} {l:List Nat} (h:Dg B l):val B l<B^l.length:=by
  induction l with
  | nil=>simp [val]
  | cons x l ih=>
    have h1:=ih (fun y hy=>h y (List.mem_cons_of_mem _ hy));have h2:=h x List.mem_cons_self;show x+B* val B l<B^ (l.length+1);rw [Nat.pow_succ,Nat.mul_comm (B^l.length) B];have h3:B* (val B l+1)<=B* B^l.length:=Nat.mul_le_mul_left B h1;rw [Nat.mul_add] at h3;omega
theorem Za3 (B:Nat) (l:List Nat) (k:Nat) (h:k<=l.length):val B l=val B (l.take k)+B^k* val B (l.drop k):=by
  have e:=Zcj B (l.take k) (l.drop k);rw [List.take_append_drop,List.length_take,Nat.min_eq_left h] at e;exact e
theorem Zag (B:Nat) (l:List Nat) (k:Nat) (h:k<l.length):val B (l.take (k+1))=val B (l.take k)+B^k* l[k]:=by
  rw [List.take_succ_eq_append_getElem h,Zcj,Zbr,List.length_take,Nat.min_eq_left (by omega)]
theorem Zcf (B:Nat) (l:List Nat) (k:Nat) (h:k<l.length):val B (l.drop k)=l[k]+B* val B (l.drop (k+1)):=by
  rw [List.drop_eq_getElem_cons h];rfl
theorem Zkh (B:Nat): ∀ (l:List Nat) (i:Nat) (h:i<l.length) (y:Nat),val B (l.set i y)+B^i* l[i]=val B l+B^i* y:=by
  intro l
  induction l with
  | nil=>intro i h;simp at h
  | cons x l ih=>
    intro i h y;cases i with
    | zero=>simp [val];omega
    | succ i=>
      have hi:i<l.length:=by simpa using h
      have h1:=ih i hi y;show (x+B* val B (l.set i y))+B^ (i+1) * l[i]=(x+B* val B l)+B^ (i+1) * y;have e1:B^ (i+1) * l[i]=B* (B^i* l[i]):=by rw [Nat.pow_succ,Nat.mul_comm (B^i) B,Nat.mul_assoc]
      have e2:B^ (i+1) * y=B* (B^i* y):=by rw [Nat.pow_succ,Nat.mul_comm (B^i) B,Nat.mul_assoc]
      rw [e1,e2];have h2:B* (val B (l.set i y)+B^i* l[i])=B* (val B l+B^i* y):=by rw [h1]
      rw [Nat.mul_add,Nat.mul_add] at h2;omega
theorem Tr.nil:Tr []:=by simp [Tr]
theorem Tr.last {l:List Nat} (h:Tr l) (hn:0<l.length):l[l.length-1]≠0:=fun e=>by
  apply h;rw [List.getLast?_eq_getElem?,List.getElem?_eq_getElem (by omega),e]
theorem Tr.of_last {l:List Nat} (h: ∀hn:0<l.length,l[l.length-1]≠0):Tr l:=fun e=>by
  rw [List.getLast?_eq_getElem?] at e;obtain ⟨h1,h2⟩:=List.getElem?_eq_some_iff.1 e;exact h (by omega) h2
theorem Tr.le {B:Nat} {l:List Nat} (h:Tr l) (hn:0<l.length):B^ (l.length-1)<=val B l:=by
  have h1:=h.last hn;rw [Za3 B l (l.length-1) (by omega),Zcf B l (l.length-1) (by omega),show l.length-1+1=l.length by omega,List.drop_length];generalize l[l.length-1]=x at *;have:B^ (l.length-1) * 1<=B^ (l.length-1) * (x+B* val B []):=Nat.mul_le_mul_left _ (by omega);omega
theorem Tr.zero {B:Nat} {l:List Nat} (hB:0<B) (h:Tr l) (hv:val B l=0):l=[]:=by
  rcases Nat.eq_zero_or_pos l.length with h0|h0
  ·exact List.eq_nil_of_length_eq_zero h0
  ·have:=h.le (B:=B) h0;have:=Nat.pow_pos (n:=l.length-1) hB;omega
theorem Zbz {B:Nat} {a b:List Nat} (hB:0<B) (ha:Dg B a) (hb:Tr b) (h:a.length<b.length):val B a<val B b:=by
  have h1:=Zbg ha;have h2:=hb.le (B:=B) (by omega);have h3:B^a.length<=B^ (b.length-1):=Nat.pow_le_pow_right hB (by omega);omega
theorem Zdx {B:Nat} {a b:List Nat} (ha:Dg B a) (hl:a.length=b.length) (i:Nat) (hi:i<a.length) (hd:a.drop (i+1)=b.drop (i+1)) (hx:a[i]<b[i]'(by omega)):val B a<val B b:=by
  have h1:=Zbg (ha.take i);rw [List.length_take,Nat.min_eq_left (by omega)] at h1;rw [Za3 B a i (by omega),Za3 B b i (by omega),Zcf B a i hi,Zcf B b i (by omega),hd];generalize val B (b.drop (i+1))=r at *;generalize a[i]=x at *;generalize b[i]=y at *;have:B^i* (x+1+B* r)<=B^i* (y+B* r):=Nat.mul_le_mul_left _ (by omega);have e:B^i* (x+1+B* r)=B^i* (x+B* r)+B^i:=by rw [show x+1+B* r=(x+B* r)+1 by omega,Nat.mul_succ]
  omega
theorem Zar {B:Nat} {l:List Nat} {n:Nat} (hn:n<=l.length) (h: ∀x∈l.drop n,x=0):val B (l.take n)=val B l:=by
  rw [Za3 B l n hn,show l.drop n=List.replicate (l.drop n).length 0 from List.eq_replicate_of_mem h,Zg5];simp
theorem Ze7 {B:Nat} {l:List Nat} (hB:2<=B) (h:Tr l) {n:Nat} (hv:val B l<B^n):l.length<=n:=by
  rcases Nat.eq_zero_or_pos l.length with h0|h0
  ·omega
  ·have h1:=h.le (B:=B) h0;have h2:B^ (l.length-1)<B^n:=by omega
   have:=(Nat.pow_lt_pow_iff_right (show 1<B by omega)).1 h2;omega
theorem Zki (d:List Nat) (n y:Nat):(d++List.replicate (n+1) 0).set d.length y=(d++ [y])++List.replicate n 0:=by
  rw [List.set_append_right _ _ (Nat.le_refl _),Nat.sub_self,List.replicate_succ,Z5,List.append_assoc];rfl
def dig (l:List Nat) (i:Nat):Nat:=l.getD i 0
theorem Zbu {l:List Nat} {i:Nat} (h:i<l.length):dig l i=l[i]:=by
  unfold dig;rw [List.getD_eq_getElem?_getD,List.getElem?_eq_getElem h];rfl
theorem Zg6 {l:List Nat} {i:Nat} (h:l.length<=i):dig l i=0:=by
  unfold dig;rw [List.getD_eq_getElem?_getD,List.getElem?_eq_none h];rfl
theorem Dg.dig {B:Nat} {l:List Nat} (hB:0<B) (h:Dg B l) (i:Nat):dig l i<B:=by
  by_cases hi:i<l.length
  ·rw [Zbu hi];exact h.get i hi
  ·rw [Zg6 (by omega)];exact hB
theorem Zcr (B:Nat) (l:List Nat) (i:Nat):val B (l.take (i+1))=val B (l.take i)+B^i* dig l i:=by
  by_cases hi:i<l.length
  ·rw [Zag B l i hi,Zbu hi]
  ·rw [Zg6 (by omega),List.take_of_length_le (by omega),List.take_of_length_le (by omega)];simp
structure AddI (B:Nat) (x y d:List Nat) (c i:Nat):Prop where
  len:d.length=i
  dg:Dg B d
  carry:c<=1
  eq:val B d+B^i* c=val B (x.take i)+val B (y.take i)
theorem AddI.start (B:Nat) (x y:List Nat):AddI B x y [] 0 0:=⟨rfl,Dg.nil B,by omega,by simp [val]⟩
theorem AddI.step {B:Nat} {x y d:List Nat} {c i:Nat} (hB:2<=B) (hx:Dg B x) (hy:Dg B y) (h:AddI B x y d c i) {s:Nat} (hs:s=dig x i+dig y i+c):AddI B x y (d++ [s % B]) (s / B) (i+1):=by
  have h1:=hx.dig (by omega) i;have h2:=hy.dig (by omega) i;refine ⟨by simp [h.len],h.dg.app (Dg.one (Nat.mod_lt _ (by omega))),?_,?_⟩
  ·have:=h.carry;have:s<B* 2:=by omega
   have:=Nat.div_lt_of_lt_mul this;omega
  ·rw [Zcj,Zbr,h.len,Zcr,Zcr,Nat.pow_succ,Nat.mul_assoc,Nat.add_assoc,<-Nat.mul_add,Nat.mod_add_div,hs,Nat.mul_add,Nat.mul_add];have:=h.eq;omega
structure SubI (B:Nat) (x y d:List Nat) (c i:Nat):Prop where
  len:d.length=i
  dg:Dg B d
  carry:c<=1
  eq:val B d+val B (y.take i)=val B (x.take i)+B^i* c
theorem SubI.start (B:Nat) (x y:List Nat):SubI B x y [] 0 0:=⟨rfl,Dg.nil B,by omega,by simp [val]⟩
theorem SubI.step {B:Nat} {x y d:List Nat} {c i:Nat} (hB:2<=B) (hx:Dg B x) (hy:Dg B y) (h:SubI B x y d c i) {s c':Nat} (hs:s+dig y i+c=dig x i+B* c') (hs2:s<B) (hc:c'<=1):SubI B x y (d++ [s]) c' (i+1):=by
  refine ⟨by simp [h.len],h.dg.app (Dg.one hs2),hc,?_⟩;rw [Zcj,Zbr,h.len,Zcr,Zcr,Nat.pow_succ,Nat.mul_assoc];have:=h.eq;have e:B^i* (s+dig y i+c)=B^i* (dig x i+B* c'):=by rw [hs]
  rw [Nat.mul_add,Nat.mul_add,Nat.mul_add] at e;omega
theorem SubI.done {B:Nat} {x y d:List Nat} {c:Nat} (h:SubI B x y d c x.length) (hl:y.length<=x.length) (hle:val B y<=val B x):c=0/\val B d=val B x-val B y:=by
  have h1:=Zbg h.dg;have h2:=h.eq;rw [List.take_of_length_le hl,List.take_of_length_le (Nat.le_refl _)] at h2;rw [h.len] at h1;have h3:=h.carry
  rcases (show c=0∨c=1 by omega) with rfl|rfl
  ·exact ⟨rfl,by omega⟩
  ·omega
structure MulI (B:Nat) (o b:List Nat) (base x i j c:Nat):Prop where
  dg:Dg B o
  carry:c<B
  eq:val B o+B^ (i+j) * c=base+B^i* (x* val B (b.take j))
theorem MulI.step {B:Nat} {o b:List Nat} {base x i j c:Nat} (hB:2<=B) (hb:Dg B b) (hx:x<B) (h:MulI B o b base x i j c) (hj:j<b.length) (hi:i+j<o.length) {s:Nat} (hs:s=o[i+j]+x* b[j]+c):
    MulI B (o.set (i+j) (s % B)) b base x i (j+1) (s / B):=by
 have h1:=h.dg.get _ hi;have h2:=hb.get _ hj;have h3:=h.carry;refine ⟨h.dg.set _ (Nat.mod_lt _ (by omega)),?_,?_⟩
 ·apply Nat.div_lt_of_lt_mul;have h4:x* b[j]<=(B-1) * (B-1):=Nat.mul_le_mul (by omega) (by omega);have h5:B* B=(B-1) * (B-1)+(B-1)+(B-1)+1:=by
    obtain ⟨k,rfl⟩: ∃k,B=k+1:=⟨B-1,by omega⟩;rw [Nat.add_sub_cancel,Nat.mul_add,Nat.add_mul];omega
  omega
 ·have e1:=Zkh B o (i+j) hi (s % B);have e2:=h.eq;rw [Zag B b j hj,Nat.mul_add,Nat.mul_add];have e3:B^ (i+(j+1)) * (s / B)=B^ (i+j) * (B* (s / B)):=by rw [show i+(j+1)=(i+j)+1 by omega,Nat.pow_succ,Nat.mul_assoc]
  have e4:B^ (i+j) * (s % B)+B^ (i+j) * (B* (s / B))=B^ (i+j) * o[i+j]+B^ (i+j) * (x* b[j])+B^ (i+j) * c:=by
    rw [<-Nat.mul_add,Nat.mod_add_div,hs,Nat.mul_add,Nat.mul_add]
  have e5:B^i* (x* (B^j* b[j]))=B^ (i+j) * (x* b[j]):=by rw [Nat.pow_add,Nat.mul_left_comm x,Nat.mul_assoc]
  rw [e3,e5];omega
structure MulO (B:Nat) (o a b:List Nat) (i:Nat):Prop where
  len:o.length=a.length+b.length
  dg:Dg B o
  zer: ∀k (h:k<o.length),i+b.length<=k->o[k]=0
  eq:val B o=val B (a.take i) * val B b
theorem MulO.start {B:Nat} (hB:2<=B) (a b:List Nat):MulO B (List.replicate (a.length+b.length) 0) a b 0:=
  ⟨List.length_replicate,Dg.zeros (by omega) _,fun k h _=>List.getElem_replicate h,by rw [Zg5];simp [val]⟩
theorem MulO.row {B:Nat} {o a b:List Nat} {i:Nat} (h:MulO B o a b i) (hi:i<a.length) (hB:2<=B):MulI B o b (val B (a.take i) * val B b) a[i] i 0 0:=
  ⟨h.dg,by omega,by rw [h.eq];simp [val]⟩
theorem MulO.step {B:Nat} {o' a b:List Nat} {i c:Nat} (hi:i<a.length) (hl:o'.length=a.length+b.length) (hz: ∀k (h:k<o'.length),i+b.length<=k->o'[k]=0)
    (h:MulI B o' b (val B (a.take i) * val B b) a[i] i b.length c):MulO B (o'.set (i+b.length) c) a b (i+1):=by
 have hk:i+b.length<o'.length:=by omega
 have e1:=Zkh B o' (i+b.length) hk c;rw [hz _ hk (Nat.le_refl _)] at e1;refine ⟨by simp [hl],h.dg.set _ h.carry,fun k hk2 hge=> ?_,?_⟩
 ·rw [List.getElem_set_ne (by omega)];exact hz k (by simpa using hk2) (by omega)
 ·have e2:=h.eq;rw [List.take_of_length_le (Nat.le_refl _)] at e2;rw [Zag B a i hi,Nat.add_mul,Nat.mul_assoc];omega
theorem MulO.done {B:Nat} {o a b:List Nat} (h:MulO B o a b a.length):val B o=val B a* val B b:=by
  rw [h.eq,List.take_of_length_le (Nat.le_refl _)]
structure DivI (B:Nat) (a q:List Nat) (d r i:Nat):Prop where
  len:q.length=a.length
  dg:Dg B (q.drop i)
  rest:r<d
  eq:val B (a.drop i)=val B (q.drop i) * d+r
theorem DivI.start {B:Nat} {a q:List Nat} {d:Nat} (hd:0<d) (hl:q.length=a.length):DivI B a q d 0 a.length:=by
  refine ⟨hl,?_,hd,?_⟩
  ·rw [<-hl,List.drop_length];exact Dg.nil B
  ·rw [<-hl,List.drop_length,hl,List.drop_length];simp [val]
theorem DivI.step {B:Nat} {a q:List Nat} {d r i:Nat} (hB:2<=B) (hdB:d<=B) (ha:Dg B a) (hi:i<a.length) (h:DivI B a q d r (i+1)) {s:Nat} (hs:s=r* B+a[i]):DivI B a (q.set i (s / d)) d (s % d) i:=by
  have hiq:i<q.length:=by rw [h.len];exact hi
  have h1:=ha.get i hi;have h2:=h.rest;have hsd:s<d* B:=by
    have:(r+1) * B<=d* B:=Nat.mul_le_mul_right B h2;rw [Nat.add_mul] at this;omega
  have ht:s / d<B:=Nat.div_lt_of_lt_mul hsd;have hdr:(q.set i (s / d)).drop i=s / d::q.drop (i+1):=by
    rw [List.drop_eq_getElem_cons (by simpa using hiq),List.getElem_set_self,List.drop_set_of_lt (by omega)]
  refine ⟨by simp [h.len],?_,Nat.mod_lt _ (by omega),?_⟩
  ·rw [hdr];intro x hx
   rcases List.mem_cons.1 hx with rfl|hx
   ·exact ht
   ·exact h.dg x hx
  ·rw [hdr,Zcf B a i hi,h.eq];show _=(s / d+B* val B (q.drop (i+1))) * d+s % d;have e:=Nat.div_add_mod s d;rw [Nat.add_mul,Nat.mul_add,Nat.mul_comm (s / d) d,<-Nat.mul_assoc];rw [Nat.mul_comm r B] at hs;omega
theorem DivI.done {B:Nat} {a q:List Nat} {d r:Nat} (h:DivI B a q d r 0):val B q=val B a / d/\r=val B a % d:=by
  have e:=h.eq;have hr:=h.rest;simp only [Z7] at e;have e2:val B a=d* val B q+r:=by rw [e,Nat.mul_comm]
  rw [e2,Nat.mul_add_div (by omega),Nat.mul_add_mod,Nat.div_eq_of_lt hr,Nat.mod_eq_of_lt hr];exact ⟨by omega,rfl⟩
theorem Zjp {P B un u1 u2 v1 v2 ru rv t r U V:Nat} (hU:U=P* (B* (B* un+u1)+u2)+ru) (hru:ru<P) (hV:V=P* (B* v1+v2)+rv) (top:t* v1+r=B* un+u1) (h:r* B+u2<t* v2):U<t* V:=by
  have e1:t* (B* v1+v2)=B* (t* v1)+t* v2:=by rw [Nat.mul_add,Nat.mul_left_comm]
  have e2:B* (t* v1)+r* B=B* (B* un+u1):=by rw [<-top,Nat.mul_add,Nat.mul_comm r B]
  have e3:B* (B* un+u1)+u2+1<=t* (B* v1+v2):=by omega
  have e4:P* (B* (B* un+u1)+u2+1)<=P* (t* (B* v1+v2)):=Nat.mul_le_mul_left P e3;have e5:t* V=P* (t* (B* v1+v2))+t* rv:=by rw [hV,Nat.mul_add,Nat.mul_left_comm]
  rw [Nat.mul_add P _ 1] at e4;omega
theorem Zkj {P B un u1 u2 v1 v2 ru rv t r U V:Nat} (hU:U=P* (B* (B* un+u1)+u2)+ru) (hV:V=P* (B* v1+v2)+rv) (hrv:rv<P) (hv1:1<=v1) (top:t* v1+r=B* un+u1) (htB:t<=B) (h:t* v2<=r* B+u2):t* V<=U+V:=by
  have e1:t* (B* v1+v2)=B* (t* v1)+t* v2:=by rw [Nat.mul_add,Nat.mul_left_comm]
  have e2:B* (t* v1)+r* B=B* (B* un+u1):=by rw [<-top,Nat.mul_add,Nat.mul_comm r B]
  have e3:t* (B* v1+v2)<=B* (B* un+u1)+u2:=by omega
  have e4:P* (t* (B* v1+v2))<=P* (B* (B* un+u1)+u2):=Nat.mul_le_mul_left P e3;have e5:t* V=P* (t* (B* v1+v2))+t* rv:=by rw [hV,Nat.mul_add,Nat.mul_left_comm]
  have e6:t* rv<=B* P:=Nat.mul_le_mul htB (by omega);have e7:B* P* 1<=B* P* v1:=Nat.mul_le_mul_left _ hv1;have e8:P* (B* v1+v2)=B* P* v1+P* v2:=by rw [Nat.mul_add,<-Nat.mul_assoc,Nat.mul_comm P B]
  omega
structure Win (B:Nat) (w v:List Nat):Prop where
  dw:Dg B w
  dv:Dg B v
  tv:Tr v
  two:2<=v.length
  len:v.length<w.length
  zer: ∀x∈w.drop (v.length+1),x=0
  lt:val B w<B* val B v
theorem Win.val_w {B:Nat} {w v:List Nat} (h:Win B w v):val B w=val B (w.take v.length)+B^v.length* w[v.length]'h.len:=by
  rw [<-Zar h.len h.zer,Zag B w _ h.len]
theorem Win.parts {B:Nat} {w v:List Nat} (h:Win B w v): ∃P ru rv,ru<P/\rv<P/\
    val B w=P* (B* (B* w[v.length]'h.len+w[v.length-1]'(by have:=h.len;omega))+w[v.length-2]'(by have:=h.len;omega))+ru/\
    val B v=P* (B* v[v.length-1]'(by have:=h.two;omega)+v[v.length-2]'(by have:=h.two;omega))+rv:=by
 have h2:=h.two;have hl:=h.len;obtain ⟨n,hn⟩: ∃n,v.length=n+2:=⟨v.length-2,by omega⟩;have e1:v.length-1=n+1:=by omega
 have e2:v.length-2=n:=by omega
 have hv1:v[v.length-1]'(by omega)=v[n+1]'(by omega):=by congr 1
 have hv2:v[v.length-2]'(by omega)=v[n]'(by omega):=by congr 1
 have hw0:w[v.length]'hl=w[n+2]'(by omega):=by congr 1
 have hw1:w[v.length-1]'(by omega)=w[n+1]'(by omega):=by congr 1
 have hw2:w[v.length-2]'(by omega)=w[n]'(by omega):=by congr 1
 refine ⟨B^n,val B (w.take n),val B (v.take n),?_,?_,?_,?_⟩
 ·have:=Zbg (h.dw.take n);rwa [List.length_take,Nat.min_eq_left (by omega)] at this
 ·have:=Zbg (h.dv.take n);rwa [List.length_take,Nat.min_eq_left (by omega)] at this
 ·rw [hw0,hw1,hw2,<-Zar (n:=n+3) (by omega) (by have:=h.zer;rw [hn] at this;exact this),Zag B w (n+2) (by omega),Zag B w (n+1) (by omega),Zag B w n (by omega),Nat.pow_succ,Nat.pow_succ];grind
 ·have e:val B v=val B (v.take (n+2)):=by rw [<-hn,List.take_of_length_le (Nat.le_refl _)]
  rw [hv1,hv2,e,Zag B v (n+1) (by omega),Zag B v n (by omega),Nat.pow_succ];grind
structure Gue (B:Nat) (w v:List Nat) (un u1 v1 t r:Nat):Prop where
  top:t* v1+r=B* un+u1
  ge:val B w<(t+1) * val B v
theorem Win.un_le {B:Nat} {w v:List Nat} (h:Win B w v):w[v.length]'h.len<=v[v.length-1]'(by have:=h.two;omega):=by
  have h2:=h.two;have e1:=h.val_w;have e2:val B v=val B (v.take (v.length-1))+B^ (v.length-1) * v[v.length-1]'(by omega):=by
    rw [<-Zag B v _ (by omega),List.take_of_length_le (by omega)]
  have e3:=Zbg (h.dv.take (v.length-1));rw [List.length_take,Nat.min_eq_left (by omega)] at e3;have e4:=h.lt;have e5:B^v.length=B* B^ (v.length-1):=by rw [<-Nat.pow_succ',show (v.length-1).succ=v.length by omega]
  generalize w[v.length]'h.len=x at *;generalize v[v.length-1]'(by omega)=y at *;generalize B^ (v.length-1)=P at *;rw [e5] at e1;have e6:val B v<P* (y+1):=by rw [Nat.mul_add];omega
  have e7:B* val B v<=B* (P* (y+1)):=Nat.mul_le_mul_left _ (by omega);have e8:B* P* x<B* (P* (y+1)):=by omega
  rw [Nat.mul_assoc] at e8;have e9:P* x<P* (y+1):=Nat.lt_of_mul_lt_mul_left e8;have:=Nat.lt_of_mul_lt_mul_left e9;omega
theorem Gue.start {B:Nat} {w v:List Nat} (h:Win B w v) {t r:Nat} (top:t* v[v.length-1]'(by have:=h.two;omega)+r=B* w[v.length]'h.len+w[v.length-1]'(by have:=h.len;omega))
    (hr:r<v[v.length-1]'(by have:=h.two;omega)):Gue B w v (w[v.length]'h.len) (w[v.length-1]'(by have:=h.len;omega)) (v[v.length-1]'(by have:=h.two;omega)) t r:=by
 refine ⟨top,?_⟩;obtain ⟨P,ru,rv,h1,h2,h3,h4⟩:=h.parts;have h5:=h.dw.get (v.length-2) (by have:=h.len;omega);generalize w[v.length]'h.len=un at *;generalize w[v.length-1]'(by have:=h.len;omega)=u1 at *;generalize w[v.length-2]'(by have:=h.len;omega)=u2 at *;generalize v[v.length-1]'(by have:=h.two;omega)=v1 at *;generalize v[v.length-2]'(by have:=h.two;omega)=v2 at *;have e1:(t+1) * v1=t* v1+v1:=Nat.succ_mul _ _;have e2:B* un+u1+1<=(t+1) * v1:=by omega
 have e3:B* (B* un+u1+1)<=B* ((t+1) * v1):=Nat.mul_le_mul_left _ e2;rw [Nat.mul_add B _ 1] at e3;have e4:P* (B* (B* un+u1)+u2+1)<=P* (B* ((t+1) * v1)):=Nat.mul_le_mul_left _ (by omega);rw [Nat.mul_add P _ 1] at e4;have e5:(t+1) * val B v=P* (B* ((t+1) * v1))+((t+1) * (P* v2)+(t+1) * rv):=by rw [h4];grind
 omega
theorem Gue.startMax {B:Nat} {w v:List Nat} (h:Win B w v) {t r un u1 v1:Nat} (hB:t+1=B) (top:t* v1+r=B* un+u1):Gue B w v un u1 v1 t r:=
  ⟨top,by rw [hB];exact h.lt⟩
theorem Gue.step {B:Nat} {w v:List Nat} (h:Win B w v) {t r:Nat} (hg:Gue B w v (w[v.length]'h.len) (w[v.length-1]'(by have:=h.len;omega)) (v[v.length-1]'(by have:=h.two;omega)) t r)
    (hc:B<=t∨r* B+w[v.length-2]'(by have:=h.len;omega)<t* v[v.length-2]'(by have:=h.two;omega)):0<t/\Gue B w v (w[v.length]'h.len) (w[v.length-1]'(by have:=h.len;omega)) (v[v.length-1]'(by have:=h.two;omega)) (t-1) (r+v[v.length-1]'(by have:=h.two;omega)):=by
 obtain ⟨P,ru,rv,h1,h2,h3,h4⟩:=h.parts;have hB:0<B:=by have:=h.dw.get (v.length) h.len;omega
 have hlt:=h.lt;have hgt:=hg.top;have hn:0<t:=by
   rcases hc with hc|hc
   ·omega
   ·rcases Nat.eq_zero_or_pos t with rfl|h0
    ·omega
    ·exact h0
 refine ⟨hn,?_,?_⟩
 ·obtain ⟨t',rfl⟩: ∃t',t=t'+1:=⟨t-1,by omega⟩;rw [Nat.add_sub_cancel];rw [Nat.succ_mul] at hgt;omega
 ·rw [show t-1+1=t by omega]
  rcases hc with hc|hc
  ·exact Nat.lt_of_lt_of_le hlt (Nat.mul_le_mul_right _ hc)
  ·exact Zjp h3 h1 h4 (by omega) hc
theorem Gue.done {B:Nat} {w v:List Nat} (h:Win B w v) {t r:Nat} (hg:Gue B w v (w[v.length]'h.len) (w[v.length-1]'(by have:=h.len;omega)) (v[v.length-1]'(by have:=h.two;omega)) t r)
    (ht:t<=B) (hc:B<=r∨t* v[v.length-2]'(by have:=h.two;omega)<=r* B+w[v.length-2]'(by have:=h.len;omega)):t* val B v<=val B w+val B v:=by
 obtain ⟨P,ru,rv,h1,h2,h3,h4⟩:=h.parts;have hv2:=h.dv.get (v.length-2) (by have:=h.two;omega);have hv1:=h.tv.last (by have:=h.two;omega);have hgt:=hg.top;refine Zkj h3 h4 h2 (by omega) (by omega) ht ?_
 rcases hc with hc|hc
 ·have e1:t* v[v.length-2]'(by have:=h.two;omega)<=B* B:=Nat.mul_le_mul ht (by omega);have e2:B* B<=r* B:=Nat.mul_le_mul_right _ hc;omega
 ·exact hc
structure SmI (B:Nat) (w0 v w:List Nat) (t c i:Nat):Prop where
  len:w.length=w0.length
  dg:Dg B w
  rest:w.drop i=w0.drop i
  eq:val B (w.take i)+t* val B (v.take i)=val B (w0.take i)+B^i* c
theorem SmI.start {B:Nat} {w0 v:List Nat} {t:Nat} (h:Dg B w0):SmI B w0 v w0 t 0 0:=⟨rfl,h,rfl,by simp [val]⟩
theorem SmI.step {B:Nat} {w0 v w:List Nat} {t c i:Nat} (h:SmI B w0 v w t c i) (hi:i<v.length) (hw:i<w.length) {y c':Nat} (hy:y<B) (e:y+t* v[i]+c=w[i]+B* c'):SmI B w0 v (w.set i y) t c' (i+1):=by
  have hw0:i<w0.length:=by rw [<-h.len];exact hw
  have hr:=h.rest;rw [List.drop_eq_getElem_cons hw,List.drop_eq_getElem_cons hw0] at hr;injection hr with hr1 hr2
  refine ⟨by simp [h.len],h.dg.set _ hy,by rw [List.drop_set_of_lt (by omega)];exact hr2,?_⟩;rw [Zag B (w.set i y) i (by simpa using hw),List.take_set_of_le (Nat.le_refl _),List.getElem_set_self,Zag B v i hi,Zag B w0 i hw0,<-hr1,Nat.mul_add,Nat.pow_succ];have e1:=h.eq;have e2:B^i* (y+t* v[i]+c)=B^i* (w[i]+B* c'):=by rw [e]
  rw [Nat.mul_add,Nat.mul_add,Nat.mul_add] at e2;have e3:t* (B^i* v[i])=B^i* (t* v[i]):=Nat.mul_left_comm _ _ _;rw [e3,Nat.mul_assoc];omega
theorem SmI.done {B:Nat} {w0 v w:List Nat} {t c:Nat} (hw:Win B w0 v) (h:SmI B w0 v w t c v.length) (h1:val B w0<(t+1) * val B v) (h2:t* val B v<=val B w0+val B v):
    (t* val B v<=val B w0/\c=w0[v.length]'hw.len/\val B (w.take v.length)+t* val B v=val B w0)∨
    (val B w0<t* val B v/\c=w0[v.length]'hw.len+1/\val B (w.take v.length)+t* val B v=val B w0+B^v.length):=by
 have e1:=hw.val_w;have e2:=h.eq;rw [List.take_of_length_le (Nat.le_refl _)] at e2;have e3:=Zbg (h.dg.take v.length);rw [List.length_take,Nat.min_eq_left (by rw [h.len];have:=hw.len;omega)] at e3;have e4:=Zbg hw.dv;rw [Nat.succ_mul] at h1;generalize w0[v.length]'hw.len=x at *;generalize B^v.length=P at *;generalize val B (w.take v.length)=a at *;generalize val B (w0.take v.length)=b at *;generalize t* val B v=T at *
 by_cases hT:T<=val B w0
 ·left
  have h3:P* c<P* (x+1):=by rw [Nat.mul_add];omega
  have h4:=Nat.lt_of_mul_lt_mul_left h3;have h5:P* x<P* (c+1):=by rw [Nat.mul_add];omega
  have h6:=Nat.lt_of_mul_lt_mul_left h5;obtain rfl:c=x:=by omega
  exact ⟨hT,rfl,by omega⟩
 ·right
  have h3:P* x<P* c:=by omega
  have h4:=Nat.lt_of_mul_lt_mul_left h3;have h5:P* c<P* (x+2):=by rw [Nat.mul_add];omega
  have h6:=Nat.lt_of_mul_lt_mul_left h5;obtain rfl:c=x+1:=by omega
  rw [Nat.mul_add] at e2;exact ⟨by omega,rfl,by omega⟩
structure AbI (B:Nat) (w v w':List Nat) (c i:Nat):Prop where
  len:w'.length=w.length
  dg:Dg B w'
  rest:w'.drop i=w.drop i
  carry:c<=1
  eq:val B (w'.take i)+B^i* c=val B (w.take i)+val B (v.take i)
theorem AbI.start {B:Nat} {w v:List Nat} (h:Dg B w):AbI B w v w 0 0:=⟨rfl,h,rfl,by omega,by simp [val]⟩
theorem AbI.step {B:Nat} {w v w':List Nat} {c i:Nat} (hv:Dg B v) (h:AbI B w v w' c i) (hi:i<v.length) (hw:i<w'.length) {s:Nat} (hs:s=w'[i]+v[i]+c):AbI B w v (w'.set i (s % B)) (s / B) (i+1):=by
  have hw0:i<w.length:=by rw [<-h.len];exact hw
  have hr:=h.rest;have h1:=hv.get i hi;have h2:=h.dg.get i hw;have h3:=h.carry;rw [List.drop_eq_getElem_cons hw,List.drop_eq_getElem_cons hw0] at hr;injection hr with hr1 hr2
  refine ⟨by simp [h.len],h.dg.set _ (Nat.mod_lt _ (by omega)),by rw [List.drop_set_of_lt (by omega)];exact hr2,?_,?_⟩
  ·have:s<B* 2:=by omega
   have:=Nat.div_lt_of_lt_mul this;omega
  ·rw [Zag B (w'.set i (s % B)) i (by simpa using hw),List.take_set_of_le (Nat.le_refl _),List.getElem_set_self,Zag B v i hi,Zag B w i hw0,<-hr1,Nat.pow_succ,Nat.mul_assoc,Nat.add_assoc,<-Nat.mul_add,Nat.mod_add_div,hs,Nat.mul_add,Nat.mul_add];have:=h.eq;omega
theorem AbI.done {B:Nat} {w0 v w w':List Nat} {t c:Nat} (hw:Win B w0 v) (hl:w.length=w0.length) (ht:0<t) (hlt:val B w0<t* val B v) (hge:t* val B v<=val B w0+val B v) (hval:val B (w.take v.length)+t* val B v=val B w0+B^v.length) (h:AbI B w v w' c v.length):
    c=1/\val B (w'.take v.length)+(t-1) * val B v=val B w0:=by
 have e2:=h.eq;rw [List.take_of_length_le (Nat.le_refl _)] at e2;have e3:=Zbg (h.dg.take v.length);rw [List.length_take,Nat.min_eq_left (by rw [h.len,hl];have:=hw.len;omega)] at e3;have e4:=Zbg hw.dv;obtain ⟨t',rfl⟩: ∃t',t=t'+1:=⟨t-1,by omega⟩;rw [Nat.succ_mul] at hlt hge hval;rw [Nat.add_sub_cancel];have:=h.carry
 rcases (show c=0∨c=1 by omega) with rfl|rfl
 ·omega
 ·exact ⟨rfl,by omega⟩
structure LdI (B A V:Nat) (u q:List Nat) (n j:Nat):Prop where
  lu:u.length=n+q.length
  du:Dg B u
  dq:Dg B (q.drop j)
  lt:val B u<V* B^j
  eq:A=val B (q.drop j) * B^j* V+val B u
theorem LdI.start {B A V n:Nat} {u q:List Nat} (hl:u.length=n+q.length) (hd:Dg B u) (ha:val B u=A) (hlt:A<V* B^q.length):LdI B A V u q n q.length:=by
  refine ⟨hl,hd,by rw [List.drop_length];exact Dg.nil B,by rw [ha];exact hlt,by rw [List.drop_length];simp [val,ha]⟩
theorem LdI.win {B A:Nat} {v u q:List Nat} {k:Nat} (hv:Dg B v) (tv:Tr v) (h2:2<=v.length) (hk:k<q.length) (h:LdI B A (val B v) u q v.length (k+1)):Win B (u.drop k) v:=by
  have hB:0<B:=by
    have:=hv.get 0 (by omega);omega
  have hP:0<B^k:=Nat.pow_pos hB;have hl:=h.lu;have h3:=h.lt;have h4:=Zbg hv;have hs:=Za3 B u k (by omega);refine ⟨h.du.drop k,hv,tv,h2,by rw [List.length_drop];omega,?_,?_⟩
  ·rw [List.drop_drop];have hs2:=Za3 B u (k+(v.length+1)) (by omega);have e:val B u<B^ (k+(v.length+1)):=by
    have e1:val B v* B^ (k+1)<=B^v.length* B^ (k+1):=Nat.mul_le_mul_right _ (by omega);rw [<-Nat.pow_add,show v.length+(k+1)=k+(v.length+1) by omega] at e1;omega
   have e2:val B (u.drop (k+(v.length+1)))=0:=by
     rcases Nat.eq_zero_or_pos (val B (u.drop (k+(v.length+1)))) with h0|h0
     ·exact h0
     ·have:B^ (k+(v.length+1)) * 1<=B^ (k+(v.length+1)) * val B (u.drop (k+(v.length+1))):=Nat.mul_le_mul_left _ h0;omega
   generalize u.drop (k+(v.length+1))=l at e2;clear e hs2 hs h hl h3
   induction l with
   | nil=>intro x hx;cases hx
   | cons y l ih=>
     have e3:y+B* val B l=0:=e2;intro x hx
     rcases List.mem_cons.1 hx with rfl|hx
     ·omega
     ·refine ih ?_ x hx
      rcases Nat.eq_zero_or_pos (val B l) with h0|h0
      ·exact h0
      ·have:=Nat.mul_pos hB h0;omega
  ·have e1:B^k* val B (u.drop k)<B^k* (B* val B v):=by
     rw [Nat.pow_succ,Nat.mul_comm (val B v),Nat.mul_assoc] at h3;omega
   exact Nat.lt_of_mul_lt_mul_left e1
theorem LdI.step {B A:Nat} {v u u' q:List Nat} {k t:Nat} (hv:Dg B v) (hv0:0<val B v) (hk:k<q.length) (h:LdI B A (val B v) u q v.length (k+1)) (hl:u'.length=u.length) (hd:Dg B u') (ht:u'.take k=u.take k)
    (hz: ∀x∈ (u'.drop k).drop v.length,x=0) (hval:val B ((u'.drop k).take v.length)+t* val B v=val B (u.drop k)) (hlt:val B (u.drop k)<(t+1) * val B v) (htB:t<B):LdI B A (val B v) u' (q.set k t) v.length k:=by
 have hB:0<B:=by omega
 have hP:0<B^k:=Nat.pow_pos hB;have hlu:=h.lu;have hs:=Za3 B u k (by omega);have hs':=Za3 B u' k (by omega);have e0:=Zar (B:=B) (l:=u'.drop k) (n:=v.length) (by rw [List.length_drop];omega) hz;have hdr:(q.set k t).drop k=t::q.drop (k+1):=by
   rw [List.drop_eq_getElem_cons (by simpa using hk),List.getElem_set_self,List.drop_set_of_lt (by omega)]
 have e2:=Zbg (hd.take k);rw [List.length_take,Nat.min_eq_left (by omega)] at e2;refine ⟨by simp [hl,hlu],hd,?_,?_,?_⟩
 ·rw [hdr];intro x hx
  rcases List.mem_cons.1 hx with rfl|hx
  ·exact htB
  ·exact h.dq x hx
 ·rw [Nat.succ_mul] at hlt;have e1:val B (u'.drop k)+1<=val B v:=by omega
  have e3:B^k* (val B (u'.drop k)+1)<=B^k* val B v:=Nat.mul_le_mul_left _ e1;rw [Nat.mul_add] at e3;rw [Nat.mul_comm (val B v)];omega
 ·rw [h.eq,hdr,hs,hs',ht,<-hval,e0,Nat.pow_succ];show _=(t+B* val B (q.drop (k+1))) * B^k* val B v+_;grind
theorem LdI.done {B A:Nat} {v u q:List Nat} (hv0:0<val B v) (h:LdI B A (val B v) u q v.length 0):val B q=A / val B v/\val B u=A % val B v/\Dg B q:=by
  have e:=h.eq;have hr:=h.lt;have hd:=h.dq;simp only [Z7,Nat.pow_zero,Nat.mul_one] at e hr hd;have e2:A=val B v* val B q+val B u:=by rw [e,Nat.mul_comm]
  refine ⟨?_,?_,hd⟩
  ·rw [e2,Nat.mul_add_div hv0,Nat.div_eq_of_lt hr];omega
  ·rw [e2,Nat.mul_add_mod,Nat.mod_eq_of_lt hr]
structure ShI (B S:Nat) (x d:List Nat) (c i:Nat):Prop where
  len:d.length=i
  dg:Dg B d
  carry:c<S
  eq:val B d+B^i* c=S* val B (x.take i)
theorem ShI.start {B S:Nat} (hS:0<S) (x:List Nat):ShI B S x [] 0 0:=⟨rfl,Dg.nil B,hS,by simp [val]⟩
theorem ShI.step {B S K:Nat} {x d:List Nat} {c i:Nat} (hK:B=S* K) (hx:Dg B x) (h:ShI B S x d c i) (hi:i<x.length):c+x[i] * S % B<B/\x[i] / K<S/\ShI B S x (d++ [c+x[i] * S % B]) (x[i] / K) (i+1):=by
  have h1:=hx.get i hi;have h2:=h.carry;have hS:0<S:=by omega
  have hK0:0<K:=by
    rcases Nat.eq_zero_or_pos K with h0|h0
    ·rw [h0] at hK;omega
    ·exact h0
  have e1:x[i] * S % B=S* (x[i] % K):=by rw [hK,Nat.mul_comm x[i] S,Nat.mul_mod_mul_left]
  have e2:x[i] % K<K:=Nat.mod_lt _ hK0;have e3:S* (x[i] % K+1)<=S* K:=Nat.mul_le_mul_left _ e2;rw [Nat.mul_add] at e3;have e4:x[i] / K<S:=Nat.div_lt_of_lt_mul (by rw [Nat.mul_comm,<-hK];exact h1);have e5:c+x[i] * S % B<B:=by rw [e1];omega
  refine ⟨e5,e4,by simp [h.len],h.dg.app (Dg.one e5),e4,?_⟩;have h3:=h.eq;have e6:S* x[i]=S* (x[i] % K)+B* (x[i] / K):=by
    rw [hK,Nat.mul_assoc,<-Nat.mul_add]
    congr 1
    have:=Nat.div_add_mod x[i] K;omega
  rw [Zcj,Zbr,h.len,Zag B x i hi,e1,Nat.pow_succ,Nat.mul_add S,Nat.mul_left_comm S,e6];rw [Nat.mul_add,Nat.mul_add,Nat.mul_assoc];omega
structure UsI (B S:Nat) (u d:List Nat) (i:Nat):Prop where
  len:d.length=i
  dg:Dg B d
  eq:val B d+B^i* (val B (u.drop i) / S)=val B u / S
theorem UsI.start (B S:Nat) (u:List Nat):UsI B S u [] 0:=⟨rfl,Dg.nil B,by simp [val]⟩
theorem UsI.step {B S K:Nat} {u d:List Nat} {i:Nat} (hS:0<S) (hK:B=S* K) (hu:Dg B u) (h:UsI B S u d i) (hi:i<u.length):u[i] / S+dig u (i+1) % S* K<B/\UsI B S u (d++ [u[i] / S+dig u (i+1) % S* K]) (i+1):=by
  have h1:=hu.get i hi;have e1:u[i] / S<K:=Nat.div_lt_of_lt_mul (by rw [<-hK];exact h1);have e2:(dig u (i+1) % S+1) * K<=S* K:=Nat.mul_le_mul_right _ (Nat.mod_lt _ hS);rw [Nat.add_mul] at e2;have e5:u[i] / S+dig u (i+1) % S* K<B:=by omega
  refine ⟨e5,by simp [h.len],h.dg.app (Dg.one e5),?_⟩;have hV:val B (u.drop (i+1)) % S=dig u (i+1) % S:=by
    by_cases hl:i+1<u.length
    ·rw [Zcf B u _ hl,Zbu hl,hK,Nat.mul_assoc,Nat.add_mul_mod_self_left]
    ·rw [Zg6 (by omega),List.drop_of_length_le (by omega)];rfl
  have e3:val B (u.drop i) / S=u[i] / S+K* val B (u.drop (i+1)):=by
    rw [Zcf B u i hi,hK,Nat.mul_assoc,Nat.add_mul_div_left _ _ hS]
  have e4:K* val B (u.drop (i+1))=B* (val B (u.drop (i+1)) / S)+dig u (i+1) % S* K:=by
    have:=Nat.div_add_mod (val B (u.drop (i+1))) S;rw [hV] at this;generalize val B (u.drop (i+1))=V at *;have e7:B* (V / S)=K* (S* (V / S)):=by rw [hK,<-Nat.mul_assoc,Nat.mul_comm K S]
    rw [e7,Nat.mul_comm _ K,<-Nat.mul_add,this]
  have h2:=h.eq;rw [e3,e4] at h2;rw [Zcj,Zbr,h.len,Nat.pow_succ];rw [Nat.mul_add,Nat.mul_add] at h2;rw [Nat.mul_add,Nat.mul_assoc];omega
theorem Zkk {B T u2 v1 v2 t r:Nat} (top:t* v1+r=T) (ge:T* B+u2<(t+1) * (v1* B+v2)) (hv2:v2<B) (he:(B<=r/\t<=B)∨t* v2<=r* B+u2):t=(T* B+u2) / (v1* B+v2)/\t* (v1* B+v2)<=T* B+u2:=by
  have e1:t* (v1* B+v2)<=T* B+u2:=by
    have e2:t* (v1* B+v2)=(t* v1) * B+t* v2:=by rw [Nat.mul_add,Nat.mul_assoc]
    have e3:T* B=(t* v1) * B+r* B:=by rw [<-top,Nat.add_mul]
    have e4:t* v2<=r* B+u2:=by
      rcases he with ⟨h1,h2⟩|h1
      ·have e5:t* v2<=B* B:=Nat.mul_le_mul h2 (by omega);have e6:B* B<=r* B:=Nat.mul_le_mul_right _ h1;omega
      ·exact h1
    omega
  refine ⟨?_,e1⟩;have hp:0<v1* B+v2:=by
    rcases Nat.eq_zero_or_pos (v1* B+v2) with h0|h0
    ·rw [h0] at ge;omega
    ·exact h0
  exact (Nat.div_eq_of_lt_le e1 ge).symm
theorem Zkl {B T u2 v1 v2 t r:Nat} (top:t* v1+r=T) (hlt:T* B+u2<B* (v1* B+v2)) (hc:B<=t∨r* B+u2<t* v2):0<t/\(t-1) * v1+(r+v1)=T/\T* B+u2<(t-1+1) * (v1* B+v2):=by
  have ht:0<t:=by
    rcases hc with hc|hc
    ·rcases Nat.eq_zero_or_pos B with h0|h0
     ·rw [h0] at hlt;omega
     ·omega
    ·rcases Nat.eq_zero_or_pos t with rfl|h0
     ·omega
     ·exact h0
  refine ⟨ht,?_,?_⟩
  ·obtain ⟨t',rfl⟩: ∃t',t=t'+1:=⟨t-1,by omega⟩;rw [Nat.add_sub_cancel];rw [Nat.succ_mul] at top;omega
  ·rw [show t-1+1=t by omega]
   rcases hc with hc|hc
   ·exact Nat.lt_of_lt_of_le hlt (Nat.mul_le_mul_right _ hc)
   ·have e2:t* (v1* B+v2)=(t* v1) * B+t* v2:=by rw [Nat.mul_add,Nat.mul_assoc]
    have e3:T* B=(t* v1) * B+r* B:=by rw [<-top,Nat.add_mul]
    omega
end Go.Proofs.YtijajkfmlghgkaaGreatDoor
