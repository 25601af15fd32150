/- Lemmas on the way to the law TopMirrored: Rq Rs Rv Tc Ha Gi Tk -/
import Derived.Test.YtijajkfmlghgkaaGreatDoorTopMirroredP08
import Derived.Shelf.Strings.SlTrimAscii
set_option linter.unusedVariables false
set_option linter.unusedSimpArgs false
set_option maxRecDepth 100000
set_option maxHeartbeats 4000000
namespace Go
open Go.RowKit
section
structure JoinFlow (ops:Array Oper) (n:Nat) (a0:Act) (J:(Nat->Bool)->(Nat->Value)->World->Prop) (vs:Nat->Value) (listed:Array Bool) (a:Act) (w:World):Prop where
  inv:HeadInv .any ops n listed
  size:a.tmps.size=a0.tmps.size
  defers:a.defers=a0.defers
  slot: ∀j o t,j<n->ops[j]?=some o->o.dst=some t->a.tmps[t]?=if listed.getD j false=true then a0.tmps[t]?.map (fun _=>vs j) else a0.tmps[t]?
  other: ∀t,(∀j o,j<n->ops[j]?=some o->o.dst≠some t)->a.tmps[t]?=a0.tmps[t]?
  join:J (fun j=>listed.getD j false) vs w
def JoinPost (a0:Act) (o:Oper) (K:Value->World->Prop) (e:Exit) (a:Act) (w:World):Prop:=e= .normal/\a.defers=a0.defers/\∃t v,o.dst=some t/\a.tmps[t]?=some v/\K v w
theorem JoinPost.out {a0:Act} {o:Oper} {K:Value->World->Prop}: ¬LetsOut (JoinPost a0 o K):=fun ⟨_,_,h⟩=>by cases h.1
def setF {α:Type} (f:Nat->α) (i:Nat) (x:α):Nat->α:=fun j=>if j=i then x else f j
theorem Zad {α:Type} (f:Nat->α) (i:Nat) (x:α):setF f i x i=x:=if_pos rfl
theorem Zaa {α:Type} (f:Nat->α) {i j:Nat} (x:α) (h:j≠i):setF f i x j=f j:=if_neg h
theorem Zp8 {P:Program} {Q:Exit->Act->World->Prop} {ops:Array Oper} {o:Oper} {i:Nat} (hi:ops[i]?=some o) (hg:o.guard=none) {t:Tmp} (hd:o.dst=some t) {L:Value->World->Prop} {a a':Act} {w:World} {K:Act->World->Prop} (he:execOp a'.eval o=execOp a.eval o)
    (h:wpList P ops (JoinPost a' o L) [o] a' w) (hK: ∀v w',L v w'->K (a.put o.dst v) w'):wpOp P ops Q i K a w:=by
 have hwant: ∀x,Region.wanted o x=true:=fun x=>by simp [Region.wanted,hg]
 unfold wpOp;simp only [hi];rw [if_pos (hwant _)];unfold wpList at h;rw [if_pos (hwant _)] at h
 rcases h with h|h
 rotate_left
 ·exact absurd h.2 JoinPost.out
 refine .inl ?_;have hpost: ∀v w',JoinPost a' o L .normal (a'.put o.dst v) w'->K (a.put o.dst v) w':=fun v w' hp=>by
   obtain ⟨_,_,t',v',hd',hv',hR⟩:=hp;rw [hd] at hd';injection hd' with hd'
   subst hd';rw [Zaf,if_pos hd] at hv';have e:v=v':=by
     cases hx:a'.tmps[t]? with
     | none=>rw [hx] at hv';cases hv'
     | some y=>rw [hx] at hv';injection hv'
   subst e;exact hK v w' hR
 unfold Oper.wp at h ⊢;rw [he] at h;generalize (execOp a.eval o).run P w=r at *;cases r with
 | ok x w'=>
   cases x with
   | value v=>exact hpost v w' h
   | skip=>exact hpost undef w' h
   | defer d=>
     exfalso
     obtain ⟨_,hdf,_⟩:=h;rw [Zal] at hdf;have:=congrArg List.length hdf;simp at this
   | enter f args=>
     refine Calls.mono h ?_;intro e w'' he;cases e with
     | returned v=>exact hpost v w'' he
     | panicked chain=>cases he.1
     | outgrown=>exact absurd he JoinPost.out
   | row row args=>exact Rows.mono h (fun v w'' he=>hpost v w'' he)
   | _=>exact h.elim
 | halt x w'=>
   cases x with
   | panic v=>cases h.1
   | _=>exact h.elim
variable {P:Program} {l:List Oper} {n:Nat} {a0:Act} {J:(Nat->Bool)->(Nat->Value)->World->Prop} {Q:Exit->Act->World->Prop}
theorem Znl (hB:Region.relB l.toArray n=true)
    (hq: ∀i o,i<n->l[i]?=some o->∀ (D:Nat->Bool) (vs:Nat->Value) (w:World),D i=false->(∀j,j<i->Region.blindTo l.toArray i j=false->D j=true)->J D vs w->∃L:Value->World->Prop,wpList P l.toArray (JoinPost (Zac vs 0 a0 (l.take i)) o L) [o] (Zac vs 0 a0 (l.take i)) w/\∀v w',L v w'->J (setF D i true) (setF vs i v) w')
    (ht: ∀ (D:Nat->Bool) (vs:Nat->Value) (w:World),(∀j,j<n->D j=true)->J D vs w->wpList P l.toArray Q (l.drop n) (Zac vs 0 a0 (l.take n)) w):
    ∀ (f:Nat) (U:List Nat) (vs:Nat->Value) (listed:Array Bool) (a:Act) (w:World),U.length=f->U.Nodup->(∀i,i∈U↔i<n/\listed.getD i false=false)->
      JoinFlow l.toArray n a0 J vs listed a w->wpAny P .any l.toArray Q (f+(l.toArray.size-n)) listed a w:=by
 simp only [Region.relB,Bool.and_eq_true,decide_eq_true_eq,List.all_eq_true,List.mem_range] at hB;obtain ⟨⟨⟨⟨⟨⟨⟨hsel,hn⟩,hsink⟩,hchain⟩,hseq⟩,hedge⟩,hpair⟩,hguard⟩:=hB;have hn':n<=l.length:=by have h:=hn;rw [List.size_toArray] at h;omega
 have hsz:l.toArray.size=l.length:=by simp
 have hget: ∀i:Nat,l.toArray[i]?=l[i]?:=fun i=>by simp
 have hselect:=Region.noSelect_spec hsel;have hpw: ∀m,m<=n->(l.take m).Pairwise (fun o o'=> ∀t,o.dst=some t->o'.dst≠some t):=fun m hm=>by
   rw [List.pairwise_iff_getElem];intro i j hi hj hij t ht;rw [List.length_take] at hi hj;rw [List.getElem_take] at ht ⊢;exact Region.flowPair_dst (hpair i (by omega) j (by omega)) (by rw [hget];exact List.getElem?_eq_getElem (by omega)) (by rw [hget];exact List.getElem?_eq_getElem (by omega)) (fun e=>by subst e;omega) ht
 have hputAt: ∀ (vs:Nat->Value) m,m<=n->∀j o t,j<m->l.toArray[j]?=some o->o.dst=some t->(Zac vs 0 a0 (l.take m)).tmps[t]?=a0.tmps[t]?.map (fun _=>vs j):=fun vs m hm j o t hj ho hd=>by
   rw [Zd3 vs t (l.take m) 0 a0 j o (hpw m hm) (by rw [List.getElem?_take,if_pos hj,<-hget];exact ho) hd,Nat.zero_add]
 have hputO: ∀ (vs:Nat->Value) m,m<=n->∀t,(∀j o,j<n->l.toArray[j]?=some o->o.dst≠some t)->(Zac vs 0 a0 (l.take m)).tmps[t]?=a0.tmps[t]?:=fun vs m hm t h=>
   Zb0 vs t _ 0 a0 fun o ho=>by
     obtain ⟨q,hq'⟩:=List.mem_iff_getElem?.1 ho;rw [List.getElem?_take] at hq'
     split at hq'
     ·exact h q o (by omega) (by rw [hget];exact hq')
     ·cases hq'
 intro f
 induction f with
 | zero=>
   intro U vs listed a w hU _ hUm hF;obtain rfl:U=[]:=List.eq_nil_of_length_eq_zero hU;have hall: ∀i,i<n->listed.getD i false=true:=fun i hi=>by
     cases h:listed.getD i false with
     | true=>rfl
     | false=>have:=(hUm i).2 ⟨hi,h⟩;simp at this
   have hl:listed=Region.marked l.toArray.size n:=by
     apply Array.ext_getElem?;intro i
     by_cases hi:i<l.toArray.size
     ·have hil:i<listed.size:=by rw [hF.inv.size];exact hi
      have e2:(Region.marked l.toArray.size n)[i]?=some (decide (i<n)):=by
        rw [List.size_toArray] at hi;unfold Region.marked;simp [hi]
      rw [e2,Array.getElem?_eq_getElem hil]
      by_cases hin:i<n
      ·have:=hall i hin;simp [hil] at this;simp [this,hin]
      ·have:=hF.inv.tail i (by omega) hi;simp [hil] at this;simp [this,hin]
     ·rw [Array.getElem?_eq_none (by rw [hF.inv.size];omega),Array.getElem?_eq_none (by rw [List.size_toArray] at hi;unfold Region.marked;simp;omega)]
   have ha:a=Zac vs 0 a0 (l.take n):=by
     have htm:a.tmps=(Zac vs 0 a0 (l.take n)).tmps:=by
       apply Array.ext_getElem?;intro t
       by_cases h: ∃j o,j<n/\l.toArray[j]?=some o/\o.dst=some t
       ·obtain ⟨j,o,h1,h2,h3⟩:=h;rw [hF.slot j o t h1 h2 h3,if_pos (hall j h1),hputAt vs n (Nat.le_refl _) j o t h1 h2 h3]
       ·have h': ∀j o,j<n->l.toArray[j]?=some o->o.dst≠some t:=fun j o h1 h2 h3=>h ⟨j,o,h1,h2,h3⟩;rw [hF.other t h',hputO vs n (Nat.le_refl _) t h']
     have hd:a.defers=(Zac vs 0 a0 (l.take n)).defers:=by rw [Zb8,hF.defers]
     cases a;simp only at htm hd;cases hX:Zac vs 0 a0 (l.take n);rw [hX] at htm hd;simp only at htm hd;rw [htm,hd]
   rw [ha];have hdl:(l.drop n).length=l.toArray.size-n:=by simp
   have:=wpAny_of_seq (md:= .any) (Q':=Q) (ops:=l.toArray) (l.drop n) n listed (Zac vs 0 a0 (l.take n)) w (fun j=>by simp [List.getElem?_drop]) (by rw [hdl,hl];exact hseq) (ht _ vs w hall hF.join);rw [hdl] at this
   rwa [Nat.zero_add]
 | succ f ih=>
   intro U vs listed a w hU hnd hUm hF;obtain ⟨i0,hi0,hleast⟩:=Zay U (fun e=>by rw [e] at hU;simp at hU);obtain ⟨hi0n,hi0u⟩:=(hUm i0).1 hi0;have hin: ∀i,i<n->i<listed.size:=fun i hi=>by rw [hF.inv.size];omega
   have hready:i0∈Region.ready .any l.toArray listed:=by
     have hlt:i0<l.toArray.size:=by omega
     refine mem_ready.2 ⟨getD_in (hin _ hi0n) hi0u,l.toArray[i0],Array.getElem?_eq_getElem hlt,fun e he hbd=> ?_⟩;have h1:=hedge i0 hi0n;rw [Array.getElem?_eq_getElem hlt] at h1;simp only [Array.all_eq_true_iff_forall_mem] at h1;have h2:=h1 e he;simp only [hbd,Bool.not_true,Bool.false_or,decide_eq_true_eq] at h2;cases h:listed.getD e.on false with
     | true=>rfl
     | false=>
       have:=hleast e.on ((hUm e.on).2 ⟨by omega,h⟩);omega
   rw [show f+1+(l.toArray.size-n)=(f+(l.toArray.size-n))+1 by omega];refine ⟨fun h=>(by rw [h] at hready;cases hready),fun i hi=> ?_⟩;obtain ⟨hiu,o,ho,hdep⟩:=mem_ready.1 hi;have hilt:i<n:=Nat.lt_of_not_le fun h=>tail_waits hsink hchain hn hF.inv _ i0 rfl hi0n (getD_in (hin _ hi0n) hi0u) i h hi;have hiU:i∈U:=(hUm i).2 ⟨hilt,getD_both hiu⟩;have hinv:=hF.inv.set hi hilt;have hlist: ∀j,(listed.setIfInBounds i true).getD j false=if j=i then true else listed.getD j false:=fun j=>by
    by_cases h:j=i
    ·subst h;rw [if_pos rfl];simp [hin j hilt]
    ·rw [if_neg h,getD_set_ne false (Ne.symm h)]
   have hUm': ∀j,j∈U.erase i↔j<n/\(listed.setIfInBounds i true).getD j false=false:=fun j=>by
     rw [hnd.mem_erase_iff,hUm j,hlist j]
     by_cases h:j=i
     ·simp [h]
     ·simp [h]
   have hlen':(U.erase i).length=f:=by rw [List.length_erase_of_mem hiU];omega
   have hnd':=hnd.erase i;have hseen: ∀t∈o.looksAt l.toArray,∀j oj,j<n->l.toArray[j]?=some oj->oj.dst=some t->i≠j/\j<i/\listed.getD j false=true:=by
     intro t ht j oj hj hoj hd;have hne:i≠j:=fun e=>by
       subst e;rw [ho] at hoj;cases hoj;exact Region.flowPair_self (hpair i hilt i hilt) ho hd ht
     have h1:=Region.flowPair_looks (hpair i hilt j hj) ho hoj hne hd ht;obtain ⟨o',ho',e,he,hbd,hon⟩:=Region.waitsFor_spec h1.2;rw [ho] at ho';cases ho';have:=hdep e he hbd;rw [hon] at this;exact ⟨hne,h1.1,this⟩
   have hgd:=hguard i hilt;rw [ho] at hgd;simp only [Bool.and_eq_true,Option.isNone_iff_eq_none] at hgd;obtain ⟨hg,hds⟩:=hgd;obtain ⟨t0,hd0⟩:=Option.isSome_iff_exists.1 hds;have hex:execOp (Zac vs 0 a0 (l.take i)).eval o=execOp a.eval o:=(Za0 (ops:=l.toArray) (fun cs bb=>hselect i o cs bb ho) fun t htl=>by
     by_cases h: ∃j o,j<n/\l.toArray[j]?=some o/\o.dst=some t
     ·obtain ⟨j,oj,h1,h2,h3⟩:=h;obtain ⟨k1,k2,k3⟩:=hseen t htl j oj h1 h2 h3;rw [hputAt vs i (by omega) j oj t k2 h2 h3,hF.slot j oj t h1 h2 h3,if_pos k3]
     ·have h': ∀j o,j<n->l.toArray[j]?=some o->o.dst≠some t:=fun j o h1 h2 h3=>h ⟨j,o,h1,h2,h3⟩;rw [hputO vs i (by omega) t h',hF.other t h']).1
   have hdepD: ∀j,j<i->Region.blindTo l.toArray i j=false->listed.getD j false=true:=fun j hj hbl=>by
     have hjl:j<l.toArray.size:=by omega
     unfold Region.blindTo at hbl;rw [ho,Array.getElem?_eq_getElem hjl] at hbl;simp only at hbl
     split at hbl
     ·rename_i d hdj;have hmem:d∈o.looksAt l.toArray:=by simpa using hbl
      exact (hseen d hmem j _ (by omega) (Array.getElem?_eq_getElem hjl) hdj).2.2
     ·cases hbl
   obtain ⟨L,hL1,hL2⟩:=hq i o hilt (by rw [<-hget];exact ho) (fun j=>listed.getD j false) vs w (getD_both hiu) hdepD hF.join;refine Zp8 ho hg hd0 hex hL1 (fun v w' hR0=> ?_);have hR:=hL2 v w' hR0;refine ih (U.erase i) (setF vs i v) _ _ _ hlen' hnd' hUm' ⟨hinv,by rw [Zbd,hF.size],by rw [Zal,hF.defers],?_,?_,?_⟩
   ·intro j oj t hj hoj hd;rw [Zaf,hlist j]
    by_cases hji:j=i
    ·subst hji;rw [ho] at hoj;cases hoj;rw [if_pos hd,if_pos rfl,if_pos rfl,Zad,hF.slot j o t hj ho hd,if_neg (by rw [getD_both hiu];simp)]
    ·have hne:o.dst≠some t:=fun h=>Region.flowPair_dst (hpair i hilt j hj) ho hoj (Ne.symm hji) h hd;rw [if_neg hne,if_neg hji,Zaa _ _ hji,hF.slot j oj t hj hoj hd]
   ·intro t h;rw [Zaf,if_neg (h i o hilt ho),hF.other t h]
   ·have e:(fun j=>(listed.setIfInBounds i true).getD j false)=setF (fun j=>listed.getD j false) i true:=funext fun j=>hlist j;rw [e];exact hR
theorem Zdm {id:Nat} {W:World} (n:Nat) (J:(Nat->Bool)->(Nat->Value)->World->Prop) (hm:P.follows .mixedOrders=true) (hB:Region.relB l.toArray n=true)
    (h0:J (fun _=>false) (fun _=>undef) W.drew)
    (hq:relAll (fun i o=> ∀ (D:Nat->Bool) (vs:Nat->Value) (w:World),D i=false->(∀j,j<i->Region.blindTo l.toArray i j=false->D j=true)->J D vs w->∃L:Value->World->Prop,wpList P l.toArray (JoinPost (Zac vs 0 a0 (l.take i)) o L) [o] (Zac vs 0 a0 (l.take i)) w/\∀v w',L v w'->J (setF D i true) (setF vs i v) w') 0 (l.take n))
    (ht: ∀ (D:Nat->Bool) (vs:Nat->Value) (w:World),(∀j,j<n->D j=true)->J D vs w->wpList P l.toArray Q (l.drop n) (Zac vs 0 a0 (l.take n)) w):
    (Code.region id l.toArray true).wp P Q a0 W:=by
 refine wp_region_any hm ?_;have hB':=hB;simp only [Region.relB,Bool.and_eq_true,decide_eq_true_eq] at hB';have hn:=hB'.1.1.1.1.1.1.2;have inv0:HeadInv .any l.toArray n (Array.replicate l.toArray.size false):=
   ⟨by simp,fun j oj _ hl=>(by rw [getD_replicate_false] at hl;cases hl),fun t _ ht=>getD_in (by simpa using ht) (getD_replicate_false _ _)⟩
 have e0:(fun j=>(Array.replicate l.toArray.size false).getD j false)=fun _=>false:=funext fun j=>getD_replicate_false _ _;have h:=Znl (a0:=a0) (J:=J) (Q:=Q) hB
   (fun i o hi ho=>by
     have:=relAll.get _ 0 hq i o (by rw [List.getElem?_take,if_pos hi];exact ho)
     rwa [Nat.zero_add] at this) ht n (List.range n) (fun _=>undef) (Array.replicate l.toArray.size false) a0 W.drew (by simp) List.nodup_range (fun i=>by rw [List.mem_range];exact ⟨fun h=>⟨h,getD_replicate_false _ _⟩,fun h=>h.1⟩)
   ⟨inv0,rfl,rfl,fun j o t _ _ _=>by rw [getD_replicate_false];rfl,fun t _=>rfl,by rw [e0];exact h0⟩
 rwa [show n+(l.toArray.size-n)=l.toArray.size by omega] at h
end
section
def blk:Value->Nat
  | .pointer (some ⟨b,_,_⟩)=>b
  | _=>0
structure SepJ (W:World) (n:Nat) (A:Nat->Bool) (R:Nat->Value->World->Prop) (D:Nat->Bool) (vs:Nat->Value) (w:World):Prop where
  later:Below W.heap.size W w
  rel: ∀j,j<n->D j=true->R j (vs j) w
  lt: ∀j,j<n->A j=true->D j=true->blk (vs j)<w.heap.size
  sep: ∀i j,i<n->j<n->A i=true->A j=true->i≠j->D i=true->D j=true->blk (vs i)≠blk (vs j)
variable {P:Program} {l:List Oper} {W:World} {a0:Act} {Q:Exit->Act->World->Prop}
theorem Zak {id:Nat} (n:Nat) (A:Nat->Bool) (R:Nat->Value->World->Prop) (hm:P.follows .mixedOrders=true) (hB:Region.relB l.toArray n=true)
    (hst: ∀j v w w',R j v w->Below w.heap.size w w'->R j v w')
    (hq:relAll (fun i o=> ∀ (vs:Nat->Value) (w:World),Below W.heap.size W w->(∀j,j<i->Region.blindTo l.toArray i j=false->R j (vs j) w)->wpList P l.toArray (RelPost w (Zac vs 0 a0 (l.take i)) o (fun v w'=>R i v w'/\(A i=true->w.heap.size<=blk v/\blk v<w'.heap.size))) [o] (Zac vs 0 a0 (l.take i)) w) 0 (l.take n))
    (ht: ∀ (vs:Nat->Value) (w:World),Below W.heap.size W w->(∀j,j<n->R j (vs j) w)->(∀i j,i<n->j<n->A i=true->A j=true->i≠j->blk (vs i)≠blk (vs j))->wpList P l.toArray Q (l.drop n) (Zac vs 0 a0 (l.take n)) w):
    (Code.region id l.toArray true).wp P Q a0 W:=by
 have hB':=hB;simp only [Region.relB,Bool.and_eq_true,decide_eq_true_eq] at hB';have hn:=hB'.1.1.1.1.1.1.2;have h0:SepJ W n A R (fun _=>false) (fun _=>undef) W.drew:=⟨⟨rfl,rfl,rfl,Nat.le_refl _,fun _ _=>rfl⟩,(fun j _ h=>by cases h),(fun j _ _ h=>by cases h),(fun i j _ _ _ _ _ h=>by cases h)⟩;refine Zdm n (SepJ W n A R) hm hB h0 ?_ (fun D vs w hD hJ=>ht vs w hJ.later (fun j hj=>hJ.rel j hj (hD j hj)) (fun i j hi hj h1 h2 hne=>hJ.sep i j hi hj h1 h2 hne (hD i hi) (hD j hj)));have key: ∀i o,(l.take n)[i]?=some o->∀ (D:Nat->Bool) (vs:Nat->Value) (w:World),D i=false->(∀j,j<i->Region.blindTo l.toArray i j=false->D j=true)->SepJ W n A R D vs w->∃L:Value->World->Prop,wpList P l.toArray (JoinPost (Zac vs 0 a0 (l.take i)) o L) [o] (Zac vs 0 a0 (l.take i)) w/\∀v w',L v w'->SepJ W n A R (setF D i true) (setF vs i v) w':=by
   intro i o ho D vs w hDi hdep hJ;have hin:i<n:=by
     have h1:=(List.getElem?_eq_some_iff.1 ho).1;rw [List.length_take] at h1;omega
   have h:=relAll.get _ 0 hq i o ho;rw [Nat.zero_add] at h;refine ⟨fun v w'=>Below w.heap.size w w'/\R i v w'/\(A i=true->w.heap.size<=blk v/\blk v<w'.heap.size),h vs w hJ.later (fun j hj hb=>hJ.rel j (by omega) (hdep j hj hb)),?_⟩;rintro v w' ⟨hb,hR,hA⟩;refine ⟨hJ.later.trans (hb.mono hJ.later.size),fun j hj hd=> ?_,fun j hj haj hd=> ?_,fun j k hj hk haj hak hne hdj hdk=> ?_⟩
   ·by_cases hji:j=i
    ·subst hji;rw [Zad];exact hR
    ·rw [Zaa _ _ hji] at hd ⊢;exact hst j _ _ _ (hJ.rel j hj hd) hb
   ·by_cases hji:j=i
    ·subst hji;rw [Zad];exact (hA haj).2
    ·rw [Zaa _ _ hji] at hd ⊢;exact Nat.lt_of_lt_of_le (hJ.lt j hj haj hd) hb.size
   ·by_cases hji:j=i
    ·subst hji;have hkj:k≠j:=Ne.symm hne;rw [Zad,Zaa _ _ hkj];rw [Zaa _ _ hkj] at hdk;have h3:=hJ.lt k hk hak hdk;have h4:=(hA haj).1;omega
    ·by_cases hki:k=i
     ·subst hki;rw [Zad,Zaa _ _ hji];rw [Zaa _ _ hji] at hdj;have h3:=hJ.lt j hj haj hdj;have h4:=(hA hak).1;omega
     ·rw [Zaa _ _ hji,Zaa _ _ hki];rw [Zaa _ _ hji] at hdj;rw [Zaa _ _ hki] at hdk;exact hJ.sep j k hj hk haj hak hne hdj hdk
 have build: ∀ (os:List Oper) (k:Nat),(∀i o,os[i]?=some o->(l.take n)[k+i]?=some o)->relAll (fun i o=> ∀ (D:Nat->Bool) (vs:Nat->Value) (w:World),D i=false->(∀j,j<i->Region.blindTo l.toArray i j=false->D j=true)->SepJ W n A R D vs w->∃L:Value->World->Prop,wpList P l.toArray (JoinPost (Zac vs 0 a0 (l.take i)) o L) [o] (Zac vs 0 a0 (l.take i)) w/\∀v w',L v w'->SepJ W n A R (setF D i true) (setF vs i v) w') k os:=by
   intro os
   induction os with
   | nil=>intro k _;trivial
   | cons o os ih=>
     intro k h;exact ⟨key k o (by simpa using h 0 o rfl),ih (k+1) (fun i o' ho'=>by have:=h (i+1) o' (by simpa using ho');rwa [show k+(i+1)=k+1+i by omega] at this)⟩
 exact build (l.take n) 0 (fun i o ho=>by rwa [Nat.zero_add])
end
section
inductive HK where
  | rel
  | pure
  | app
def Zcd (ks:List HK) (j:Nat):Bool:=match ks[j]? with
  | some .pure=>true
  | _=>false
def appAll (F:HK->Nat->Oper->Prop):Nat->List HK->List Oper->Prop
  | k,c::cs,o::os=>F c k o/\appAll F (k+1) cs os
  | _,_,_=>True
theorem appAll.get {F:HK->Nat->Oper->Prop}: ∀ (ks:List HK) (os:List Oper) (k:Nat),appAll F k ks os->∀i o c,os[i]?=some o->ks[i]?=some c->F c (k+i) o
  | [],_,_,_,i,o,c,_,h=>by simp at h
  | _::_,[],_,_,i,o,c,h,_=>by simp at h
  | c::ks,o::os,k,h,0,o',c',h1,h2=>by
    simp at h1 h2;subst h1 h2;exact h.1
  | _::ks,_::os,k,h,i+1,o',c',h1,h2=>by
    have:=appAll.get ks os (k+1) h.2 i o' c' (by simpa using h1) (by simpa using h2)
    rwa [show k+(i+1)=k+1+i by omega]
def ancB (ops:Array Oper):Nat->Nat->Nat->Bool
  | 0,_,_=>false
  | f+1,p,j=>decide (j<p) && (!Region.blindTo ops p j || (List.range p).any fun m=> !Region.blindTo ops p m && ancB ops f m j)
theorem Zhm {ops:Array Oper} {n:Nat} {D:Nat->Bool} (hD: ∀i j,i<n->D i=true->j<i->Region.blindTo ops i j=false->D j=true): ∀ (f p j:Nat),p<n->(∀j,j<p->Region.blindTo ops p j=false->D j=true)->ancB ops f p j=true->D j=true
  | 0,_,_,_,_,h=>by cases h
  | f+1,p,j,hp,hdep,h=>by
    simp only [ancB,Bool.and_eq_true,Bool.or_eq_true,decide_eq_true_eq,Bool.not_eq_true',List.any_eq_true,List.mem_range] at h;obtain ⟨hj,h|⟨m,hm,hbl,h⟩⟩:=h
    ·exact hdep j hj h
    ·exact Zhm hD f m j (by omega) (fun k hk hb=>hD m k (by omega) (hdep m hm hbl) hk hb) h
def appB (ops:Array Oper) (n p:Nat) (ks:List HK):Bool:=
  decide (ks.length=n) && decide (p<n) && ((List.range n).all fun j=>match ks[j]? with
    | some .pure=> !(j==p)
    | some .app=>j==p
    | some .rel=> !(j==p) && ancB ops n p j
    | none=>false)
structure AppJ (ops:Array Oper) (W:World) (n p:Nat) (ks:List HK) (R:Nat->Value->World->Prop) (Ap:Value->World->Prop) (D:Nat->Bool) (vs:Nat->Value) (w:World):Prop where
  dep: ∀i j,i<n->D i=true->j<i->Region.blindTo ops i j=false->D j=true
  pu: ∀j,j<n->Zcd ks j=true->D j=true->∀u,R j (vs j) u
  bef:D p=false->Below W.heap.size W w/\∀j,j<n->j≠p->D j=true->R j (vs j) w
  aft:D p=true->Ap (vs p) w/\∀j,j<n->j≠p->Zcd ks j=false->D j=true
variable {P:Program} {l:List Oper} {W:World} {a0:Act} {Q:Exit->Act->World->Prop}
theorem Zch {id:Nat} (n p:Nat) (ks:List HK) (R:Nat->Value->World->Prop) (Ap:Value->World->Prop) (hm:P.follows .mixedOrders=true) (hB:Region.relB l.toArray n=true) (hA:appB l.toArray n p ks=true)
    (hst: ∀j v w w',R j v w->Below w.heap.size w w'->R j v w') (hpu: ∀j,Zcd ks j=true->∀v u u',R j v u->R j v u')
    (hq:appAll (fun c i o=>match c with
      | .rel=> ∀ (vs:Nat->Value) (w:World),Below W.heap.size W w->(∀j,j<i->Region.blindTo l.toArray i j=false->R j (vs j) w)->wpList P l.toArray (RelPost w (Zac vs 0 a0 (l.take i)) o (R i)) [o] (Zac vs 0 a0 (l.take i)) w
      | .pure=> ∀ (vs:Nat->Value) (w:World),(∀j,j<i->Zcd ks j=true->Region.blindTo l.toArray i j=false->R j (vs j) w)->wpList P l.toArray (JoinPost (Zac vs 0 a0 (l.take i)) o (fun v w'=>R i v w'/\w'=w)) [o] (Zac vs 0 a0 (l.take i)) w
      | .app=> ∀ (vs:Nat->Value) (w:World),Below W.heap.size W w->(∀j,j<i->Region.blindTo l.toArray i j=false->R j (vs j) w)->wpList P l.toArray (JoinPost (Zac vs 0 a0 (l.take i)) o Ap) [o] (Zac vs 0 a0 (l.take i)) w) 0 ks (l.take n))
    (ht: ∀ (vs:Nat->Value) (w:World),Ap (vs p) w->(∀j,j<n->Zcd ks j=true->R j (vs j) w)->wpList P l.toArray Q (l.drop n) (Zac vs 0 a0 (l.take n)) w):
    (Code.region id l.toArray true).wp P Q a0 W:=by
 have hB':=hB;simp only [Region.relB,Bool.and_eq_true,decide_eq_true_eq] at hB';have hn:=hB'.1.1.1.1.1.1.2;simp only [appB,Bool.and_eq_true,decide_eq_true_eq,List.all_eq_true,List.mem_range] at hA;obtain ⟨⟨hlen,hp⟩,hA⟩:=hA;have hkind: ∀j,j<n->(∃c,ks[j]?=some c):=fun j hj=>⟨_,List.getElem?_eq_getElem (by omega)⟩;have hnp:Zcd ks p=false:=by
   have h:=hA p hp;unfold Zcd
   split at h <;> rename_i e <;> rw [e] <;> simp_all
 have hrel: ∀j,j<n->j≠p->Zcd ks j=false->ancB l.toArray n p j=true:=fun j hj hne hpj=>by
   have h:=hA j hj;unfold Zcd at hpj
   split at h <;> rename_i e <;> rw [e] at hpj
   ·cases hpj
   ·simp at h;exact absurd h hne
   ·simp at h;exact h.2
   ·cases h
 have h0:AppJ l.toArray W n p ks R Ap (fun _=>false) (fun _=>undef) W.drew:=⟨fun i j _ h=>(by cases h),fun j _ _ h=>(by cases h),fun _=>⟨⟨rfl,rfl,rfl,Nat.le_refl _,fun _ _=>rfl⟩,fun j _ _ h=>(by cases h)⟩,fun h=>(by cases h)⟩;refine Zdm n (AppJ l.toArray W n p ks R Ap) hm hB h0 ?_ (fun D vs w hD hJ=>ht vs w (hJ.aft (hD p hp)).1 (fun j hj hpj=>hJ.pu j hj hpj (hD j hj) w));have key: ∀i o,(l.take n)[i]?=some o->∀ (D:Nat->Bool) (vs:Nat->Value) (w:World),D i=false->(∀j,j<i->Region.blindTo l.toArray i j=false->D j=true)->AppJ l.toArray W n p ks R Ap D vs w->∃L:Value->World->Prop,wpList P l.toArray (JoinPost (Zac vs 0 a0 (l.take i)) o L) [o] (Zac vs 0 a0 (l.take i)) w/\∀v w',L v w'->AppJ l.toArray W n p ks R Ap (setF D i true) (setF vs i v) w':=by
   intro i o ho D vs w hDi hdep hJ;have hin:i<n:=by
     have h1:=(List.getElem?_eq_some_iff.1 ho).1;rw [List.length_take] at h1;omega
   obtain ⟨c,hc⟩:=hkind i hin;have h:=appAll.get ks (l.take n) 0 hq i o c ho hc;rw [Nat.zero_add] at h;have hAi:=hA i hin;have hdep': ∀a b,a<n->setF D i true a=true->b<a->Region.blindTo l.toArray a b=false->setF D i true b=true:=fun a b ha hd hb hbl=>by
     by_cases hbi:b=i
     ·subst hbi;rw [Zad]
     ·rw [Zaa _ _ hbi]
      by_cases hai:a=i
      ·subst hai;exact hdep b hb hbl
      ·rw [Zaa _ _ hai] at hd;exact hJ.dep a b ha hd hb hbl
   rw [hc] at hAi;cases c with
   | app=>
     simp at hAi;subst hAi;obtain ⟨hbe,hRs⟩:=hJ.bef hDi;refine ⟨Ap,h vs w hbe (fun j hj hbl=>hRs j (by omega) (by omega) (hdep j hj hbl)),fun v w' hv=>⟨hdep',fun j hj hpj hd u=> ?_,fun hd=> ?_,fun _=>⟨by rw [Zad];exact hv,fun j hj hne hpj=> ?_⟩⟩⟩
     ·have hji:j≠i:=fun e=>by subst e;rw [hpj] at hnp;cases hnp
      rw [Zaa _ _ hji] at hd ⊢;exact hJ.pu j hj hpj hd u
     ·rw [Zad] at hd;cases hd
     ·rw [Zaa _ _ hne];exact Zhm hJ.dep n i j hin hdep (hrel j hj hne hpj)
   | pure=>
     simp at hAi;have hpi:Zcd ks i=true:=by unfold Zcd;rw [hc]
     refine ⟨fun v w'=>R i v w'/\w'=w,h vs w (fun j hj hpj hbl=>hJ.pu j (by omega) hpj (hdep j hj hbl) w),?_⟩;rintro v w' ⟨hv,rfl⟩;refine ⟨hdep',fun j hj hpj hd u=> ?_,fun hd=> ?_,fun hd=> ?_⟩
     ·by_cases hji:j=i
      ·subst hji;rw [Zad];exact hpu j hpi _ _ _ hv
      ·rw [Zaa _ _ hji] at hd ⊢;exact hJ.pu j hj hpj hd u
     ·rw [Zaa _ _ (Ne.symm hAi)] at hd;obtain ⟨hbe,hRs⟩:=hJ.bef hd;refine ⟨hbe,fun j hj hne hdj=> ?_⟩
      by_cases hji:j=i
      ·subst hji;rw [Zad];exact hv
      ·rw [Zaa _ _ hji] at hdj ⊢;exact hRs j hj hne hdj
     ·rw [Zaa _ _ (Ne.symm hAi)] at hd;obtain ⟨hap,hall⟩:=hJ.aft hd;refine ⟨by rw [Zaa _ _ (Ne.symm hAi)];exact hap,fun j hj hne hpj=> ?_⟩
      by_cases hji:j=i
      ·subst hji;rw [Zad]
      ·rw [Zaa _ _ hji];exact hall j hj hne hpj
   | rel=>
     simp at hAi;obtain ⟨hip,_⟩:=hAi;have hpi:Zcd ks i=false:=by unfold Zcd;rw [hc]
     have hDp:D p=false:=by
       cases hd:D p with
       | false=>rfl
       | true=>have:=(hJ.aft hd).2 i hin hip hpi;rw [hDi] at this;cases this
     obtain ⟨hbe,hRs⟩:=hJ.bef hDp;have hip':i≠p:=hip;refine ⟨fun v w'=>Below w.heap.size w w'/\R i v w',h vs w hbe (fun j hj hbl=>by
       by_cases hjp:j=p
       ·subst hjp;have:=hdep j hj hbl;rw [hDp] at this;cases this
       ·exact hRs j (by omega) hjp (hdep j hj hbl)),?_⟩
     rintro v w' ⟨hb,hv⟩;refine ⟨hdep',fun j hj hpj hd u=> ?_,fun hd=>⟨hbe.trans (hb.mono hbe.size),fun j hj hne hdj=> ?_⟩,fun hd=> ?_⟩
     ·have hji:j≠i:=fun e=>by subst e;rw [hpj] at hpi;cases hpi
      rw [Zaa _ _ hji] at hd ⊢;exact hJ.pu j hj hpj hd u
     ·by_cases hji:j=i
      ·subst hji;rw [Zad];exact hv
      ·rw [Zaa _ _ hji] at hdj ⊢;exact hst j _ _ _ (hRs j hj hne hdj) hb
     ·rw [Zaa _ _ (Ne.symm hip'),hDp] at hd;cases hd
 have build: ∀ (os:List Oper) (k:Nat),(∀i o,os[i]?=some o->(l.take n)[k+i]?=some o)->relAll (fun i o=> ∀ (D:Nat->Bool) (vs:Nat->Value) (w:World),D i=false->(∀j,j<i->Region.blindTo l.toArray i j=false->D j=true)->AppJ l.toArray W n p ks R Ap D vs w->∃L:Value->World->Prop,wpList P l.toArray (JoinPost (Zac vs 0 a0 (l.take i)) o L) [o] (Zac vs 0 a0 (l.take i)) w/\∀v w',L v w'->AppJ l.toArray W n p ks R Ap (setF D i true) (setF vs i v) w') k os:=by
   intro os
   induction os with
   | nil=>intro k _;trivial
   | cons o os ih=>
     intro k h;exact ⟨key k o (by simpa using h 0 o rfl),ih (k+1) (fun i o' ho'=>by have:=h (i+1) o' (by simpa using ho');rwa [show k+(i+1)=k+1+i by omega] at this)⟩
 exact build (l.take n) 0 (fun i o ho=>by rwa [Nat.zero_add])
end
end Go
namespace Go.Proofs.YtijajkfmlghgkaaGreatDoor
open Nu
abbrev Dw (q:Rat):Prop:=Dn 100000 q
theorem Zp9 (n:Nat):(10:Nat)^n<=2^ (4* n):=by
  induction n with
  | zero=>exact Nat.le_refl _
  | succ n ih=>
    rw [Nat.pow_succ,show 4* (n+1)=4* n+4 by omega,Nat.pow_add];exact Nat.mul_le_mul ih (by decide)
theorem Zb.wdsN {z:Int} {n m:Nat} (h:Zb n z) (hnm:4* n<=64* m):Wds m z:=⟨Nat.lt_of_lt_of_le h.lt (Nat.le_trans (Zp9 n) (Nat.pow_le_pow_right (by decide) hnm))⟩
theorem Zb.wds {z:Int} (h:Zb 100000 z):Wds 400000 z:=h.wdsN (by decide)
theorem Dn.wn {q:Rat} (h:Dw q):Wds 400000 q.num:=h.zn.wds
theorem Dn.wd {q:Rat} (h:Dw q):Wds 400000 (q.den:Int):=h.zd.wds
end Go.Proofs.YtijajkfmlghgkaaGreatDoor
namespace Go.Proofs.YtijajkfmlghgkaaGreatDoor.Nu
open Go Go.Proofs Go.RowKit Go.Proofs.YtijajkfmlghgkaaGreatDoor
inductive Kx where
  | is (x:Value)
  | int (z:Int)
  | frac (q:Rat)
  | slf (qs:List Rat)
  | box (t:TypeId) (zs:List Value) (lo:Nat)
  | one (q:Rat) (lo:Nat)
def Kx.R:Kx->Value->World->Prop
  | .is x,v,_=>v=x
  | .int z,v,w=>IntR w v z
  | .frac q,v,w=>FrR w v q
  | .slf qs,v,w=>SlF w v qs
  | .box t zs lo,v,w=> ∃g,v= .pointer (some ⟨g,0,none⟩)/\Box w g t zs/\lo<=g
  | .one q lo,v,w=> ∃ (g:Nat) (x:F4),v= .slice (some ⟨g,0,none⟩) 1 1/\Box w g 135 x.enc/\FrR w x.v q/\lo<=g
theorem Kx.later {k:Kx} {v:Value} {w w':World} (h:k.R v w) (hb:Below w.heap.size w w'):k.R v w':=by
  cases k with
  | is x=>exact h
  | int z=>exact IntR.later h hb
  | frac q=>exact FrR.later h hb
  | slf qs=>exact SlF.later h hb
  | box t zs lo=>
    obtain ⟨g,h1,h2,h3⟩:=h;exact ⟨g,h1,h2.later hb,h3⟩
  | one q lo=>
    obtain ⟨g,x,h1,h2,h3,h4⟩:=h;exact ⟨g,x,h1,h2.later hb,h3.later hb,h4⟩
def kxs (l:List Kx) (j:Nat) (v:Value) (w:World):Prop:=(l.getD j (.is undef)).R v w
def RetS (w:World) (qs:List Rat) (e:Ending) (w':World):Prop:=∃v,e= .returned v/\OwnF w' w.heap.size v qs/\Below w.heap.size w w'
theorem fadd (w:World) (v1 v2:Value) {q1 q2:Rat} (h1:FrR w v1 q1) (h2:FrR w v2 q2) (d1:Dw q1) (d2:Dw q2):Calls Tryz.prog 164 #[v1,v2] w (RetF w (q1+q2)):=Zrg w v1 v2 q1 q2 h1 h2 d1.wn d1.wd d2.wn d2.wd
theorem fsub (w:World) (v1 v2:Value) {q1 q2:Rat} (h1:FrR w v1 q1) (h2:FrR w v2 q2) (d1:Dw q1) (d2:Dw q2):Calls Tryz.prog 113 #[v1,v2] w (RetF w (q1-q2)):=sub44 w v1 v2 q1 q2 h1 h2 d1.wn d1.wd d2.wn d2.wd
theorem fmul (w:World) (v1 v2:Value) {q1 q2:Rat} (h1:FrR w v1 q1) (h2:FrR w v2 q2) (d1:Dw q1) (d2:Dw q2):Calls Tryz.prog 162 #[v1,v2] w (RetF w (q1* q2)):=Zpa w v1 v2 q1 q2 h1 h2 d1.wn d1.wd d2.wn d2.wd
theorem fdiv (w:World) (v1 v2:Value) {q1 q2:Rat} (h1:FrR w v1 q1) (h2:FrR w v2 q2) (d1:Dw q1) (d2:Dw q2) (h0:0<q2):Calls Tryz.prog 168 #[v1,v2] w (RetF w (q1 / q2)):=Zrr w v1 v2 q1 q2 h1 h2 d1.wn d1.wd d2.wn d2.wd h0
theorem fcmp (w:World) (v1 v2:Value) {q1 q2:Rat} (h1:FrR w v1 q1) (h2:FrR w v2 q2) (d1:Dw q1) (d2:Dw q2):Calls Tryz.prog 196 #[v1,v2] w (Ret (.int .i64 (rcmp q1 q2)) w):=cmp54 w v1 v2 q1 q2 h1 h2 d1.wn d1.wd d2.wn d2.wd
theorem Zf4 (w:World) (n:Int) (h1: -9223372036854775808<=n) (h2:n<=9223372036854775807):Calls Tryz.prog 163 #[.int .i64 n] w (RetF w (n:Rat)):=by
  have HO:=Zh (fun (u:World)=>of94 n u);have HW:=Zh (fun (u:World)=>Zh8 u _ n (IntR.small u h1 h2));have HB:=Zh ((Below.refl w.heap.size w).alloc (Nat.le_refl _) (.cells #[.int .i64 0,.slice none 0 0,.int .i64 0,.slice none 0 0] 135));have HZ:=Zh (Box.new w #[.int .i64 0,.slice none 0 0,.int .i64 0,.slice none 0 0] 135);obtain ⟨z0,z1,z2,z3,zf,zz⟩:=HZ.w4;go_enter Tryz.func163,Tryz.ntmps163;go_wp2_with fail;refine (HO.out _).mono ?_;rintro e4 w4 ⟨rfl,hb⟩;replace HB:=Zh (HB.Zg hb);replace HZ:=Zh (HZ.later hb);clear hb z0 z1 z2 z3 zf zz;obtain ⟨z0,z1,z2,z3,zf,zz⟩:=HZ.w4;go_wp2_with fail;refine (HW.out _).mono ?_;rintro e5 w5 ⟨v5,rfl,hf,hb⟩;replace HB:=Zh (HB.Zg hb);replace HZ:=Zh (HZ.later hb);clear hb z0 z1 z2 z3 zf zz;obtain ⟨z0,z1,z2,z3,zf,zz⟩:=HZ.w4;obtain ⟨s7,a7,n7,c7,t7,b7,m7,d7,rfl,k1,k2⟩:=hf;have HK1:=Zh k1;have HK2:=Zh k2;clear k1 k2;go_wp2_with fail;refine bodyPost_ret (v:= .agg #[.int .i64 s7,.slice a7 n7 c7,.int .i64 t7,.slice b7 m7 d7]) (by simp [results,Tryz.results163,go_sem, *]) rfl ?_;refine RetF.mk rfl ⟨_,_,_,_,_,_,_,_,rfl,HK1.put4 HZ.out _ _ _ _ _ _ _ _,HK2.put4 HZ.out _ _ _ _ _ _ _ _⟩ ?_
  repeat (first|with_reducible exact HB.out|with_reducible exact Below.refl _ _|refine .Zs ?_ _|refine .Za ?_ _|refine .drew ?_)
theorem Zrs (l:List UInt8) (k:Nat) (h:k<(tx l).size):(tx l)[k]=l[k]'(by rwa [Zan] at h):=by
  show (tx l).data[k]=_;simp [tx]
theorem Zcu {P:Program} {t:TypeId} (h:P.underlying t=some .string) (l:List UInt8) (k:Nat) (hk:k<l.length) (w:World):(Instr.index t (.string (tx l)) (.int .i64 (k:Int))).run P w= .ok (.int .u8 (l[k].toNat:Int)) w:=by
  rw [run_index_string w t (tx l) .i64 (k:Int) h,dif_pos ⟨by omega,by rw [Zan];omega⟩];simp only [Int.toNat_natCast];rw [Zrs]
theorem Za7 (l:List UInt8) (a b:Nat):(tx l).extract a b=tx ((l.take b).drop a):=by
  apply ByteArray.ext;simp [tx,List.extract_eq_take_drop,List.drop_take]
theorem Zfl (a b:List UInt8):tx a++tx b=tx (a++b):=by
  apply ByteArray.ext;simp [tx]
theorem Zid (w:World) (l:List UInt8) (hl:l.length<=1000000000):Calls Tryz.prog 79 #[.string (tx l)] w fun e w'=>e= .returned (.int .i64 ((Za2 l:Nat):Int))/\w=w':=by
  have HI:=Zh (fun (k:Nat) (hk:k<l.length) (w:World)=>Zcu (P:=Tryz.prog) (t:=9) Tryz.underlying9 l k hk w);have HF:=Zh (fun (k:Nat) (hk:k<l.length) (h1: ∀c∈l.take k,c≠47) (h2:l[k]=47)=>(show Za2 l=k by
    unfold Za2;rw [List.findIdx_eq hk];refine ⟨by simpa using h2,fun j hj=> ?_⟩;have:=h1 l[j] (by rw [List.mem_take_iff_getElem];exact ⟨j,by omega,rfl⟩);simpa using this))
  have HE:=Zh (fun (h1: ∀c∈l.take l.length,c≠47)=>(show Za2 l=l.length from Zew (fun h=>h1 47 (by rw [List.take_length];exact h) rfl)));have HT:=Zh (fun (k:Nat) (hk:k<l.length)=>List.take_succ_eq_append_getElem hk);have hsz:=Zan l;obtain ⟨X,hX⟩: ∃X,tx l=X:=⟨_,rfl⟩;obtain ⟨n,hn⟩: ∃n,l.length=n:=⟨_,rfl⟩;have HN:=Zh hn;rw [hX] at HI hsz ⊢;rw [hn] at hsz hl;clear hX hn;go_enter Tryz.func79,Tryz.ntmps79;go_wp2_with fail
  go_loop [3] (fun i=> ∃k:Nat,k<=n/\i= .int .i64 k/\∀c∈l.take k,c≠47) (fun i=>n-(intOf i).toNat)
  case atStart=>exact ⟨0,by omega,rfl,by simp⟩
  case round=>
    obtain ⟨k,hk,rfl,hz⟩:=hrel;have HZ:=Zh hz;clear hz
    by_cases hlt:k<n
    ·have hkl:k<l.length:=by rw [HN.out];exact hlt
     have hi:=HI.out k hkl;have HF1:=Zh (HF.out k hkl HZ.out);have HT1:=Zh (HT.out k hkl);generalize l[k]=c at *
     by_cases hc:c=47
     ·subst hc;have HS:=Zh (HF1.out rfl);go_wp2_with fail;go_ret;exact ⟨by rw [HS.out];rfl,rfl⟩
     ·have d0:((c.toNat:Int)==47)=false:=beq_eq_false_iff_ne.2 (fun e=>hc (UInt8.toNat_inj.1 (by rw [show (47:UInt8).toNat=47 from rfl];omega)));have HC:=Zh hc;clear hc;go_wp2_with fail
      go_round
      case rel=>exact ⟨k+1,by omega,by go_num,by
        rw [HT1.out];intro x hx;rcases List.mem_append.1 hx with h|h
        ·exact HZ.out x h
        ·rw [List.mem_singleton.1 h];exact HC.out⟩
      case measure=>simp [intOf];omega
    ·obtain rfl:k=n:=by omega
     have HS:=Zh (HE.out (by rw [HN.out];exact HZ.out));rw [HN.out] at HS;go_wp2_with fail;go_ret;exact ⟨by rw [HS.out];rfl,rfl⟩
theorem Zez (w:World) (l:List UInt8) (hl:l.length<=18) (hd: ∀c∈l,Zcb c):Calls Tryz.prog 136 #[.string (tx l)] w fun e w'=>e= .returned (.int .i64 ((dval l:Nat):Int))/\w=w':=by
  have HI:=Zh (fun (k:Nat) (hk:k<l.length) (w:World)=>Zcu (P:=Tryz.prog) (t:=9) Tryz.underlying9 l k hk w);have HD:=Zh (fun (k:Nat) (hk:k<l.length)=>hd _ (List.getElem_mem hk));have HV:=Zh (fun (k:Nat) (hk:k<l.length)=>(show dval (l.take (k+1))=10* dval (l.take k)+(l[k].toNat-48) by rw [List.take_succ_eq_append_getElem hk,Zd4]));have HB:=Zh (fun (k:Nat) (hk:k<=17)=>(show dval (l.take k)<10^17 by
    have h:=Zc0 (l:=l.take k) (fun c hc=>hd c (List.mem_of_mem_take hc));exact Nat.lt_of_lt_of_le h (Nat.pow_le_pow_right (by decide) (by rw [List.length_take];omega))))
  have HE:=Zh (show dval (l.take l.length)=dval l by rw [List.take_length]);have hsz:=Zan l;obtain ⟨X,hX⟩: ∃X,tx l=X:=⟨_,rfl⟩;obtain ⟨n,hn⟩: ∃n,l.length=n:=⟨_,rfl⟩;have HN:=Zh hn;rw [hX] at HI hsz ⊢;rw [hn] at hsz hl HE;clear hX hn hd;go_enter Tryz.func136,Tryz.ntmps136;go_wp2_with fail
  go_loop [3,4] (fun a i=> ∃k:Nat,k<=n/\i= .int .i64 k/\a= .int .i64 ((dval (l.take k):Nat):Int)) (fun _ i=>n-(intOf i).toNat)
  case atStart=>exact ⟨0,by omega,rfl,rfl⟩
  case round=>
    obtain ⟨k,hk,rfl,rfl⟩:=hrel
    by_cases hlt:k<n
    ·have hkl:k<l.length:=by rw [HN.out];exact hlt
     have hv:=HB.out k (by omega);have e18:(10:Nat)^17=100000000000000000:=by decide
     rw [e18] at hv;have hi:=HI.out k hkl;obtain ⟨h1,h2⟩:=HD.out k hkl;have HV1:=Zh (HV.out k hkl);generalize l[k]=c at *;generalize c.toNat=m at *;obtain ⟨v,hvv⟩: ∃v,dval (l.take k)=v:=⟨_,rfl⟩;rw [hvv] at HV1 hv ⊢;clear hvv e18;have k1:IntKind.i64.wrap (10* (v:Int))=10* (v:Int):=IntWalk.i64_in _ (by omega);have k2:IntKind.i64.wrap (m:Int)=m:=IntWalk.i64_in _ (by omega);have k3:IntKind.i64.wrap (10* (v:Int)+m)=10* (v:Int)+m:=IntWalk.i64_in _ (by omega);have k4:IntKind.i64.wrap (10* (v:Int)+m-48)=10* (v:Int)+m-48:=IntWalk.i64_in _ (by omega);have HG:=Zh (show 10* (v:Int)+m-48=((10* v+(m-48):Nat):Int) by omega);go_wp2_with fail
     go_round
     case rel=>exact ⟨k+1,by omega,by go_num,by rw [HV1.out,HG.out]⟩
     case measure=>simp [intOf];omega
    ·obtain rfl:k=n:=by omega
     go_wp2_with fail;go_ret;exact ⟨by rw [<-HE.out];rfl,rfl⟩
theorem Zlc (l:List UInt8):(tx l).toList=l:=by rw [Lib.toList_data,Zec]
theorem Zd5 (l m:List UInt8):((tx l).toList==m)=decide (l=m):=by
  rw [Zlc]
  by_cases h:l=m
  ·subst h;simp
  ·rw [Zf h];simpa using h
theorem Zqa (w:World) (l:List UInt8) (hl:l.length<1000000000) (h: ∀c∈l,Zcb c):Calls Tryz.prog 316 #[.string (tx l),.string ⟨#[48,49,50,51,52,53,54,55,56,57]⟩] w (Ret (.string ⟨#[]⟩) w):=by
  have h1:=Any.strings_Trim_laid Tryz.lays160 (by kernel_rfl) (tx l) ⟨#[48,49,50,51,52,53,54,55,56,57]⟩ w (by rw [Zan];omega) (by decide) (ascii_of_all (by decide));rw [Zec,show (⟨#[48,49,50,51,52,53,54,55,56,57]⟩:ByteArray).data.toList=digT from rfl,Zk5 h] at h1;exact h1
theorem Zld (w:World) (l:List UInt8) (h0:l≠ []) (hl:l.length<1000000000) (h: ∀c∈l,Zcb c):Calls Tryz.prog 254 #[.string (tx l)] w (Ret (.bool true) w):=by
  have HT:=Zh (fun (w1:World)=>Zqa w1 l hl h);have d0:((tx l).toList==[])=false:=by rw [Zd5,Zf h0]
  generalize tx l=X at *;clear h h0 hl;go_enter Tryz.func254,Tryz.ntmps254;go_wp2_with fail;refine (HT.out _).mono ?_;rintro e4 w4 ⟨rfl,hb⟩;have HB:=Zh hb;clear hb;go_wp2_with fail;go_ret;exact ⟨rfl,HB.out⟩
def sln:Value->Nat
  | .slice _ n _=>n
  | _=>0
theorem WlR.one {w:World} {v:Value} {l:List Nat} {r:Nat} (h:WlR w v l r) (h0:0<r) (hr:r<2^64):l=[r]:=by
  have h1:=Ze7 (B:=2^64) (by decide) h.tr (n:=1) (by rw [h.eq,Nat.pow_one];exact hr);have h2:=h.eq
  match l,h1,h2 with
  | [],_,h2=>simp [val] at h2;omega
  | [x],_,h2=>simp [val] at h2;rw [h2]
theorem Zrt {m k:Nat} (hk:0<k) (h:(Lib.decDigits m).length<=k):Zb k (m:Int):=⟨by rw [Int.natAbs_natCast];exact (Zaw hk).1 h⟩
theorem Zdg {z:Int} {k:Nat} (hk:0<k) (h:Zb k z):(Lib.decDigits z.natAbs).length<=k:=(Zaw hk).2 h.lt
theorem Zqb (w:World):WlR (w.alloc (.cells #[.int .u64 1000000000000000000] 345)) (.slice (some ⟨w.heap.size,0,none⟩) 1 1) [1000000000000000000] 1000000000000000000:=
  ⟨Sc.of_own Zae (by simp) (Own.lit (f:=encW) (sz:=1) Zae 345 [1000000000000000000] w #[.int .u64 1000000000000000000] 1 0 rfl rfl (by simp) (Nat.zero_le _)),fun x hx=>by simp at hx;subst hx;decide,by simp [Tr],by simp [val]⟩
theorem Zfm (w:World) (hw:TbR w) (v:Value) (z:Int) (h:IntR w v z) (hz:Zb 2000 z):Calls Tryz.prog 201 #[v] w (Ret (.string (txz z)) w):=by
  have hq:=fun (w:World) (a:Option Addr) (n c:Nat)=>Lib.run_eql_slice_nil w 131 345 a n c 0 0 Tryz.underlying131;have HPT:=Zh (fun (u:World) (hb:Below w.heap.size w u)=>Zcz u v z (h.later hb))
  rcases h with ⟨rfl,h1,h2⟩|⟨s,b,off,n,c,l,rfl,-,-,-,-,-,hbig,hs⟩
  ·have HI:=Zh (fun (w1:World) (hb:Below w.heap.size w w1)=>Zk8 w1 (hw.later hb) z h1 h2);generalize txz z=X at *;clear hw HPT hz h1 h2;have HB:=Zh ((Below.refl w.heap.size w).alloc (Nat.le_refl _) (.cells #[.int .i64 z,.slice none 0 0] 133));have HX:=Zh (Box.new w #[.int .i64 z,.slice none 0 0] 133);obtain ⟨x0,x1,xf,xz⟩:=HX.v2;go_enter Tryz.func201,Tryz.ntmps201;go_wp2_with fail;refine (HI.out _ HB.out).mono ?_;rintro e4 w4 ⟨rfl,hb⟩;replace HB:=Zh (HB.Zg hb);clear hb;go_wp2_with fail;go_ret;exact ⟨rfl,HB.out⟩
  ·have hz0:0<z.natAbs:=by rcases hs with ⟨_,h⟩|⟨_,h⟩ <;> omega
   clear hbig hs;obtain ⟨M,hM⟩: ∃M,z.natAbs=M:=⟨_,rfl⟩;rw [hM] at hz0;have HM0:=Zh hz0;clear hz0;have HML:=Zh (show (Lib.decDigits M).length<=2000 by rw [<-hM];exact Zdg (by decide) hz);obtain ⟨p,hp⟩: ∃p,decide (z<0)=p:=⟨_,rfl⟩;have HFP:=Zh (show p=true->tx (45::Lib.decDigits M)=txz z from fun e=>by
     have:=of_decide_eq_true (hp.trans e);unfold txz;rw [Zbc this,hM])
   have HFN:=Zh (show p=false->tx (Lib.decDigits M)=txz z from fun e=>by
     have h0:=of_decide_eq_false (hp.trans e);unfold txz;rw [Zav (Int.not_lt.1 h0),show z.toNat=z.natAbs by omega,hM])
   have HPT2:=Zh (fun (u:World) (hb:Below w.heap.size w u)=>(HPT.out u hb).mono (show∀e w',Zdz u z e w'->∃a n c l,e= .returned (.tuple #[.bool p,.slice a n c])/\WlR w' (.slice a n c) l M/\Below u.heap.size u w' from fun e w' ⟨a,n,c,l,h1,h2,_,h3⟩=>⟨a,n,c,l,by rw [h1,hp],by rw [<-hM];exact h2,h3⟩));have HFU:=Zh (fun (u:World) (hb:Below w.heap.size w u) (m:Nat) (hm:m<1000000000000000000)=>Zp5 u (hw.later hb) m (by omega));have HRE:=Zh (fun (u:World) (k:Nat) (hk:k<=18)=>(by
     have h:=Tryz.strings_Repeat ⟨#[48]⟩ k u (by omega) (by show 1* k<=_;omega);rw [show (⟨#[48]⟩:ByteArray).data.toList=[48] from rfl,Zfk] at h;exact h:Calls Tryz.prog 269 #[.string ⟨#[48]⟩,.int .i64 (k:Int)] u (Ret (.string (tx (List.replicate k 48))) u)))
   generalize txz z=X at *;clear hw HPT hz hp hM;have HB:=Zh ((Below.refl w.heap.size w).alloc (Nat.le_refl _) (.cells #[.int .i64 s,.slice (some ⟨b,off,none⟩) n c] 133));have HX:=Zh (Box.new w #[.int .i64 s,.slice (some ⟨b,off,none⟩) n c] 133);obtain ⟨x0,x1,xf,xz⟩:=HX.v2;go_enter Tryz.func201,Tryz.ntmps201;go_wp2_with fail;refine (HPT2.out _ HB.out).mono ?_;rintro e4 w4 ⟨a4,n4,c4,l4,rfl,hw4,hb⟩;have HB4:=Zh (HB.Zg hb);have hal:Below w4.heap.size w4 (w4.alloc (.cells #[.int .u64 1000000000000000000] 345)):=(Below.refl _ _).alloc (Nat.le_refl _) _;have HW5:=Zh (hw4.later hal);have HBS:=Zh (Zqb w4);have HB5:=Zh (HB4.Zg hal);clear hw4 HPT2 hb x0 x1 xf xz HX HB HB4 hal;go_wp2_with fail;generalize hW:w4.alloc (.cells #[.int .u64 1000000000000000000] 345)=W5 at *;clear hW;generalize w4.heap.size=gb at *
   go_loopw [4,6] (fun v4 v6 wr=> ∃ (m:Nat) (l:List Nat) (ps:List (List UInt8)) (a:Option Addr) (n c:Nat) (vp:Value),v4= .slice a n c/\vp=v6/\Hid (Below W5.heap.size W5 wr)/\Hid (WlR wr (.slice a n c) l m)/\Hid (OwnC encS 1 9 wr W5.heap.size v6 (ps.map tx))/\
     Hid (0<m->ps.reverse.flatten.length=18* ps.length/\Lib.decDigits M=Lib.decDigits m++ps.reverse.flatten)/\Hid (m=0->Lib.decDigits M=ps.reverse.flatten)) (fun _ v6 _=>2001-sln v6)
   case atStart=>exact ⟨M,l4,[],a4,n4,c4,_,rfl,rfl,Zh (Below.refl _ _),HW5,Zh (OwnC.nil _ _ _ _ _),Zh (fun _=>⟨rfl,by simp⟩),Zh (fun h=>by have:=HM0.out;omega)⟩
   case round=>
     obtain ⟨m,l,ps,a,n,c,v6,rfl,rfl,HBE,HWL,HOW,HT1,HT0⟩:=hrel;obtain ⟨hn,hl0⟩:=HWL.len0;have HB:=Zh (HB5.trans (HBE.mono HB5.size))
     by_cases h0:0<n
     ·have hm0:0<m:=by
        rcases Nat.eq_zero_or_pos m with h|h
        ·have:=hl0.2 h;omega
        ·exact h
      have d0:decide (0<n)=true:=Zt h0;have d0':decide ((0:Int)<(n:Int))=true:=Zt (by omega);obtain ⟨hfl,hdc⟩:=HT1.out hm0;have hlen:=congrArg List.length hdc;rw [List.length_append,hfl] at hlen;have hps:ps.length<=112:=by have:=HML.out;omega
      have hmz:Zb 2000 (m:Int):=Zrt (by decide) (by have:=HML.out;omega);have HDV:=Zh (Zo4 wr a (some ⟨gb,0,none⟩) n 1 c 1 l [1000000000000000000] m 1000000000000000000 HWL.out (HBS.later HBE.out) (by have:=HWL.len (k:=1000) (hmz.wdsN (by decide));omega) (by decide));have HDC:=Zh (And.intro hfl hdc);have HG0:=Zh (fun (h:m / 1000000000000000000=0)=>Zj0 h);have HG1:=Zh (fun (h:0<m / 1000000000000000000)=>Zj1 h);have HMQ:=Zh (show m / 1000000000000000000=0->0<m % 1000000000000000000 from fun h=>by have:=Nat.div_add_mod m 1000000000000000000;rw [h] at this;omega);have hrl:=Nat.mod_lt m (show 0<1000000000000000000 by decide);obtain ⟨q,hqq⟩: ∃q,m / 1000000000000000000=q:=⟨_,rfl⟩;obtain ⟨r,hrr⟩: ∃r,m % 1000000000000000000=r:=⟨_,rfl⟩;rw [hqq,hrr] at HDV HMQ;rw [hqq] at HG0 HG1;rw [hrr] at HG0 HG1 hrl;clear hqq hrr hfl hdc hlen hmz hn hl0;go_wp2_with fail;refine HDV.mono ?_;rintro e7 w7 ⟨a7,n7,c7,l7,a8,n8,c8,l8,rfl,hq7,hr8,hb⟩;have HB7:=Zh (HB.Zg hb);have HBE7:=Zh (HBE.Zg hb);have HO7:=Zh (HOW.later hb);have HQ7:=Zh hq7;obtain ⟨hn7,hl7⟩:=hq7.len0;obtain ⟨hn8,hl8⟩:=hr8.len0;have hway:(r=0/\n8=0/\0<q/\0<n7)∨(0<r/\0<n8/\q=0/\n7=0)∨(0<r/\0<n8/\0<q/\0<n7):=by
        have:=HMQ.out;omega
      clear hb hq7 HDV hn7 hl7 hl8 HOW
      rcases hway with ⟨rfl,rfl,hq0,hn70⟩|⟨hr0,hn80,rfl,rfl⟩|⟨hr0,hn80,hq0,hn70⟩
      ·clear hr8 hn8;have d7:decide (0<n7)=true:=Zt hn70;have d7':decide ((0:Int)<(n7:Int))=true:=Zt (by omega);have hDC2:Lib.decDigits M=Lib.decDigits q++padL 18 0++ps.reverse.flatten:=by rw [HDC.out.2,HG1.out hq0]
       have hST:tx (padL 18 0)=tx (padL 18 0):=rfl;have hpd:tx (List.replicate 17 48)++⟨#[48]⟩=tx (padL 18 0):=by rw [show (⟨#[48]⟩:ByteArray)=tx [48] from rfl,Zfl];rfl
       have hsz:(⟨#[48]⟩:ByteArray).size=1:=rfl;have hsz2:(tx (List.replicate 17 48)).size=17:=by rw [Zan];rfl
       have HR:=Zh (fun (u:World)=>HRE.out u 17 (by decide));obtain ⟨Z,hZ⟩: ∃Z,tx (List.replicate 17 48)=Z:=⟨_,rfl⟩;rw [hZ] at HR hpd hsz2;obtain ⟨S,hS⟩: ∃S,tx (padL 18 0)=S:=⟨_,rfl⟩;rw [hS] at hpd;replace hST:tx (padL 18 0)=S:=hS;have HBX:=HB7;have HBEX:=HBE7;have HOX:=HO7;have HQX:=HQ7;clear hZ hS HG0 HG1 HMQ HRE HFU HB7 HBE7 HO7 HQ7;go_wp2_with fail;refine (HR.out _).mono ?_;rintro e10 w10 ⟨rfl,hb⟩;replace HBX:=Zh (HBX.Zg hb);replace HBEX:=Zh (HBEX.Zg hb);replace HOX:=Zh (HOX.later hb);replace HQX:=Zh (HQX.later hb);clear hb HR;have hal:Below w10.heap.size w10 (w10.alloc (.cells #[.string S] 9)):=(Below.refl _ _).alloc (Nat.le_refl _) _;have HOA:=Zh (HOX.later hal);have HQA:=Zh (HQX.later hal);have HBA:=Zh (HBX.Zg hal);have HBEA:=Zh (HBEX.Zg hal);have HRH:=Zh (Box.new w10 #[.string S] 9);have hv6:=HOX.own.shape;have HV6:=Zh (show sln v6=ps.length by obtain ⟨a,c,e⟩:=hv6;rw [e,List.length_map];rfl);have HST:=Zh hST;have HDC2:=Zh hDC2;clear hal hv6 hST hDC2 HOX HQX HBX HBEX;go_wp2_with (at_builtin;go_loud (refine Zc7 encS 1 16 234 9 (.string ⟨#[]⟩) Tryz.underlying234 (by kernel_rfl) rfl (by decide) (by decide) Zcg Zf8 Zic (by simp [Value.cells]) (ps.map tx) S W5.heap.size _ _ _ _ HRH.out rfl _ HOA.out HBEA.size (by rw [List.length_map];omega) rfl _ _ rfl rfl rfl ?_);intro v' w' hown' hg');have HB':=Zh (Zci (base:=W5.heap.size) HBEA.out hg' HBEA.size (fun k hk=>(World.ownsRow.lt HOA.own k hk).1) (Nat.le_refl _));have HQ':=Zh (HQA.grown hg' (fun g e=>HOA.cln g e));rw [show ps.map tx++ [S]=(ps++ [padL 18 0]).map tx by rw [List.map_append,<-HST.out];rfl] at hown';have hl':sln v'=ps.length+1:=by obtain ⟨a,c,e⟩:=hown'.own.shape;rw [e,List.length_map,List.length_append];rfl
       have HO':=Zh hown';have HL':=Zh hl';clear hown' hg' hl' HOA HQA HBA HBEA HRH;go_wp2_with fail;go_roundw
       case rel=>exact ⟨q,l7,ps++ [padL 18 0],a7,n7,c7,_,rfl,rfl,HB',HQ',HO',Zh (fun h=>by
        rw [List.reverse_append,List.flatten_append];simp only [List.reverse_cons,List.reverse_nil,List.nil_append,List.flatten_cons,List.flatten_nil,List.append_nil,List.length_append];exact ⟨by rw [Zgg,HDC.out.1];simp;omega,by rw [HDC2.out,List.append_assoc]⟩),Zh (fun h=>by
        rw [List.reverse_append,List.flatten_append];simp only [List.reverse_cons,List.reverse_nil,List.nil_append,List.flatten_cons,List.flatten_nil,List.append_nil];omega)⟩
       case measure=>
         have h1:=HL'.out;have h2:=HV6.out;show 2001-sln _<2001-sln _;rw [h1,h2];omega
      ·have hDC2:Lib.decDigits M=Lib.decDigits r++ps.reverse.flatten:=by rw [HDC.out.2,HG0.out rfl]
       clear HG0 HG1 HMQ HRE;obtain rfl:l8=[r]:=hr8.one hr0 (by omega);obtain rfl:n8=1:=hn8;obtain ⟨a',c',e',-,-,hA⟩:=hr8.sc;injection e' with e1 e2 e3
       subst e1;obtain ⟨b8,o8,rfl,hb8,hc8⟩:=hA (by simp);have c0:=(hc8 0 (by simp)).c1;rw [Nat.zero_mul,Nat.add_zero] at c0;have c0':w7.cell? ⟨b8,o8,none⟩=some (.int .u64 (r:Int)):=c0;have HFM:=Zh (HFU.out w7 HB7.out r hrl);have HRL:=Zh hrl;clear hA hc8 c0 e2 e3 hr8 hn80 HFU hrl;go_wp2_with fail;refine HFM.mono ?_;rintro e9 w9 ⟨rfl,hb⟩;have HBX:=Zh (HB7.Zg hb);have HBEX:=Zh (HBE7.Zg hb);have HOX:=Zh (HO7.later hb);have HQX:=Zh (HQ7.later hb);clear hb HB7 HBE7 HO7 HQ7 HFM c0' hb8;obtain ⟨S,hST⟩: ∃S,tx (Lib.decDigits r)=S:=⟨_,rfl⟩;rw [hST];have hal:Below w9.heap.size w9 (w9.alloc (.cells #[.string S] 9)):=(Below.refl _ _).alloc (Nat.le_refl _) _;have HOA:=Zh (HOX.later hal);have HQA:=Zh (HQX.later hal);have HBA:=Zh (HBX.Zg hal);have HBEA:=Zh (HBEX.Zg hal);have HRH:=Zh (Box.new w9 #[.string S] 9);have hv6:=HOX.own.shape;have HV6:=Zh (show sln v6=ps.length by obtain ⟨a,c,e⟩:=hv6;rw [e,List.length_map];rfl);have HST:=Zh hST;have HDC2:=Zh hDC2;clear hal hv6 hST hDC2 HOX HQX HBX HBEX;go_wp2_with (at_builtin;go_loud (refine Zc7 encS 1 16 234 9 (.string ⟨#[]⟩) Tryz.underlying234 (by kernel_rfl) rfl (by decide) (by decide) Zcg Zf8 Zic (by simp [Value.cells]) (ps.map tx) S W5.heap.size _ _ _ _ HRH.out rfl _ HOA.out HBEA.size (by rw [List.length_map];omega) rfl _ _ rfl rfl rfl ?_);intro v' w' hown' hg');have HB':=Zh (Zci (base:=W5.heap.size) HBEA.out hg' HBEA.size (fun k hk=>(World.ownsRow.lt HOA.own k hk).1) (Nat.le_refl _));have HQ':=Zh (HQA.grown hg' (fun g e=>HOA.cln g e));rw [show ps.map tx++ [S]=(ps++ [Lib.decDigits r]).map tx by rw [List.map_append,<-HST.out];rfl] at hown';have hl':sln v'=ps.length+1:=by obtain ⟨a,c,e⟩:=hown'.own.shape;rw [e,List.length_map,List.length_append];rfl
       have HO':=Zh hown';have HL':=Zh hl';clear hown' hg' hl' HOA HQA HBA HBEA HRH;go_wp2_with fail;go_roundw
       case rel=>exact ⟨0,l7,ps++ [Lib.decDigits r],a7,0,c7,_,rfl,rfl,HB',HQ',HO',Zh (fun h=>by
        rw [List.reverse_append,List.flatten_append];simp only [List.reverse_cons,List.reverse_nil,List.nil_append,List.flatten_cons,List.flatten_nil,List.append_nil,List.length_append];exact absurd h (by decide)),Zh (fun h=>by
        rw [List.reverse_append,List.flatten_append];simp only [List.reverse_cons,List.reverse_nil,List.nil_append,List.flatten_cons,List.flatten_nil,List.append_nil];exact HDC2.out)⟩
       case measure=>
         have h1:=HL'.out;have h2:=HV6.out;show 2001-sln _<2001-sln _;rw [h1,h2];omega
      ·have d7:decide (0<n7)=true:=Zt hn70;have d7':decide ((0:Int)<(n7:Int))=true:=Zt (by omega);have hDC2:Lib.decDigits M=Lib.decDigits q++padL 18 r++ps.reverse.flatten:=by rw [HDC.out.2,HG1.out hq0]
       clear HG0 HG1 HMQ;obtain rfl:l8=[r]:=hr8.one hr0 (by omega);obtain rfl:n8=1:=hn8;obtain ⟨a',c',e',-,-,hA⟩:=hr8.sc;injection e' with e1 e2 e3
       subst e1;obtain ⟨b8,o8,rfl,hb8,hc8⟩:=hA (by simp);have c0:=(hc8 0 (by simp)).c1;rw [Nat.zero_mul,Nat.add_zero] at c0;have c0':w7.cell? ⟨b8,o8,none⟩=some (.int .u64 (r:Int)):=c0;have HFM:=Zh (HFU.out w7 HB7.out r hrl);have HRL:=Zh hrl;clear hA hc8 c0 e2 e3 hr8 hn80 HFU hrl;go_wp2_with fail;refine HFM.mono ?_;rintro e9 w9 ⟨rfl,hb⟩;have HBX:=Zh (HB7.Zg hb);have HBEX:=Zh (HBE7.Zg hb);have HOX:=Zh (HO7.later hb);have HQX:=Zh (HQ7.later hb);clear hb HB7 HBE7 HO7 HQ7 HFM c0' hb8;have hr18:r<10^18:=by have e:(10:Nat)^18=1000000000000000000:=(by decide);have:=HRL.out;omega
       have hL18:=(Zaw (n:=r) (k:=18) (by decide)).2 hr18;have hpl:=Ziw 18 r hr18 (by decide);have hpd:tx (List.replicate (18-(Lib.decDigits r).length) 48)++tx (Lib.decDigits r)=tx (padL 18 r):=by rw [Zfl,hpl]
       have hsz:(tx (Lib.decDigits r)).size=(Lib.decDigits r).length:=Zan _;have hsz2:(tx (List.replicate (18-(Lib.decDigits r).length) 48)).size=18-(Lib.decDigits r).length:=by rw [Zan,List.length_replicate]
       obtain ⟨T0,hT0⟩: ∃S,tx (Lib.decDigits r)=S:=⟨_,rfl⟩;obtain ⟨L,hL⟩: ∃L,(Lib.decDigits r).length=L:=⟨_,rfl⟩;rw [hT0] at hpd hsz ⊢;rw [hL] at hsz hsz2 hpd hL18;have HR:=Zh (fun (u:World)=>HRE.out u (18-L) (by omega));obtain ⟨Z,hZ⟩: ∃Z,tx (List.replicate (18-L) 48)=Z:=⟨_,rfl⟩;rw [hZ] at HR hpd hsz2;obtain ⟨S,hST⟩: ∃S,tx (padL 18 r)=S:=⟨_,rfl⟩;rw [hST] at hpd;have k18:IntKind.i64.wrap (18-(L:Int))=((18-L:Nat):Int):=by rw [IntWalk.i64_in _ (by omega)];omega
       obtain ⟨J,hJ⟩: ∃J,18-L=J:=⟨_,rfl⟩;rw [hJ] at HR hsz2 k18;have hJL:J+L=18:=by omega
       clear hZ hT0 hL hpl HRE hJ hr18;go_wp2_with fail;refine (HR.out _).mono ?_;rintro e10 w10 ⟨rfl,hb⟩;replace HBX:=Zh (HBX.Zg hb);replace HBEX:=Zh (HBEX.Zg hb);replace HOX:=Zh (HOX.later hb);replace HQX:=Zh (HQX.later hb);clear hb HR;have hal:Below w10.heap.size w10 (w10.alloc (.cells #[.string S] 9)):=(Below.refl _ _).alloc (Nat.le_refl _) _;have HOA:=Zh (HOX.later hal);have HQA:=Zh (HQX.later hal);have HBA:=Zh (HBX.Zg hal);have HBEA:=Zh (HBEX.Zg hal);have HRH:=Zh (Box.new w10 #[.string S] 9);have hv6:=HOX.own.shape;have HV6:=Zh (show sln v6=ps.length by obtain ⟨a,c,e⟩:=hv6;rw [e,List.length_map];rfl);have HST:=Zh hST;have HDC2:=Zh hDC2;clear hal hv6 hST hDC2 HOX HQX HBX HBEX;go_wp2_with (at_builtin;go_loud (refine Zc7 encS 1 16 234 9 (.string ⟨#[]⟩) Tryz.underlying234 (by kernel_rfl) rfl (by decide) (by decide) Zcg Zf8 Zic (by simp [Value.cells]) (ps.map tx) S W5.heap.size _ _ _ _ HRH.out rfl _ HOA.out HBEA.size (by rw [List.length_map];omega) rfl _ _ rfl rfl rfl ?_);intro v' w' hown' hg');have HB':=Zh (Zci (base:=W5.heap.size) HBEA.out hg' HBEA.size (fun k hk=>(World.ownsRow.lt HOA.own k hk).1) (Nat.le_refl _));have HQ':=Zh (HQA.grown hg' (fun g e=>HOA.cln g e));rw [show ps.map tx++ [S]=(ps++ [padL 18 r]).map tx by rw [List.map_append,<-HST.out];rfl] at hown';have hl':sln v'=ps.length+1:=by obtain ⟨a,c,e⟩:=hown'.own.shape;rw [e,List.length_map,List.length_append];rfl
       have HO':=Zh hown';have HL':=Zh hl';clear hown' hg' hl' HOA HQA HBA HBEA HRH;go_wp2_with fail;go_roundw
       case rel=>exact ⟨q,l7,ps++ [padL 18 r],a7,n7,c7,_,rfl,rfl,HB',HQ',HO',Zh (fun h=>by
        rw [List.reverse_append,List.flatten_append];simp only [List.reverse_cons,List.reverse_nil,List.nil_append,List.flatten_cons,List.flatten_nil,List.append_nil,List.length_append];exact ⟨by rw [Zgg,HDC.out.1];simp;omega,by rw [HDC2.out,List.append_assoc]⟩),Zh (fun h=>by
        rw [List.reverse_append,List.flatten_append];simp only [List.reverse_cons,List.reverse_nil,List.nil_append,List.flatten_cons,List.flatten_nil,List.append_nil];omega)⟩
       case measure=>
         have h1:=HL'.out;have h2:=HV6.out;show 2001-sln _<2001-sln _;rw [h1,h2];omega
     ·obtain rfl:n=0:=by omega
      obtain rfl:m=0:=by have:=hl0.1 (by omega);omega
      have hflat:=HT0.out rfl;obtain ⟨a6,c6,e⟩:=HOW.own.shape;rw [List.length_map] at e;subst e;have HK:=Zh (show∀u,Below wr.heap.size wr u->∀k (h:k<ps.length),∃g:Nat,a6=some ⟨g,0,none⟩/\g<wr.heap.size/\u.cell? ⟨g,k,none⟩=some (.string (tx ps[k])) from fun u hu k hk=>by
        obtain ⟨g,cap,e,hbg,hgs⟩:=HOW.own.form (by rw [List.length_map];omega);injection e with e1 e2 e3
        subst e1;have h1:=Own.atN HOW.own (by rw [List.length_map]) Zcg k (by rw [List.length_map];exact hk);have h2:=h1.c1;rw [Nat.mul_one,List.getElem_map] at h2;exact ⟨g,rfl,hgs,(hu.cell (p:=⟨g,k,none⟩) hgs).trans h2⟩)
      have HDK:=Zh (show∀k (h:k<ps.length),(ps.drop k).reverse.flatten=(ps.drop (k+1)).reverse.flatten++ps[k] from fun k hk=>by
        rw [List.drop_eq_getElem_cons hk,List.reverse_cons,List.flatten_append];simp)
      have HLN:=Zh (show∀k,((ps.drop k).reverse.flatten).length<=2000 from fun k=>by
        have h1:ps.reverse.flatten=(ps.drop k).reverse.flatten++(ps.take k).reverse.flatten:=by
          rw [<-List.flatten_append,<-List.reverse_append,List.take_append_drop]
        have h2:=congrArg List.length h1;rw [<-hflat,List.length_append] at h2;have:=HML.out;omega)
      have HFL:=Zh hflat;obtain ⟨K,hK⟩: ∃K,ps.length=K:=⟨_,rfl⟩;rw [hK] at HOW ⊢;have HKK:=Zh hK;have HLK:=Zh (show K<=9223372036854775807 from by
        rcases HOW.own.2 with ⟨_,h0⟩|⟨_,cap,_,_,_,_,h1,h2,_⟩
        ·rw [List.length_map] at h0;omega
        ·rw [List.length_map] at h1;simp only [maxLen] at h2;omega)
      have HU0:=Zh trivial;clear hflat hK HT1 HT0 HWL hl0 hn h0;have HIB:=Zh (show Lib.IsBuilder 353 5 wr.heap.size wr.heap.size (Lib.byteCells []) (wr.alloc (.cells #[.pointer none,.slice none 0 0] 353)) from .inl ⟨Nat.le_refl _,.slice none 0 0,heap_alloc_new wr _,World.ownsRow_nil _ _ _ _,by simp [Value.ownBlock]⟩);have HBA:=Zh ((Below.refl wr.heap.size wr).alloc (Nat.le_refl _) (.cells #[.pointer none,.slice none 0 0] 353));have HBW:=Zh (HB.trans (HBA.mono HB.size));have HWR:=Zh (fun (u:World) (bs:List UInt8) (t:List UInt8) (hu:Below wr.heap.size wr u) (h:Lib.IsBuilder 353 5 wr.heap.size wr.heap.size (Lib.byteCells bs) u) (hl:bs.length<=4000) (hl2:t.length<=4000)=>(by
        have h:=Tryz.Builder_WriteString wr.heap.size wr.heap.size (Lib.byteCells bs) (tx t) u h (by rw [Lib.byteCells_length,Zan];omega) hu.size;refine h.mono fun e w' ⟨h1,h2,h3⟩=>⟨h1,.inr ?_,hu.trans h3⟩;have e:Lib.byteCells (bs++t)=Lib.byteCells bs++Lib.strCells (tx t):=by rw [Lib.strCells_eq,Zec];simp [Lib.byteCells]
        rw [e];exact h2:Calls Tryz.prog 270 #[.pointer (some ⟨wr.heap.size,0,none⟩),.string (tx t)] u fun e w'=>e= .returned (.tuple #[.int .i64 ((tx t).size:Int),.nilIface])/\Lib.IsBuilder 353 5 wr.heap.size wr.heap.size (Lib.byteCells (bs++t)) w'/\Below wr.heap.size wr w'))
      have HSTR:=Zh (fun (u:World) (bs:List UInt8) (hu:Below wr.heap.size wr u) (h:Lib.IsBuilder 353 5 wr.heap.size wr.heap.size (Lib.byteCells bs) u)=>(Tryz.Builder_String_any wr.heap.size wr.heap.size bs u h hu.size).mono (show∀e w',(e=Ending.returned (.string ⟨bs.toArray⟩)/\Below wr.heap.size u w')->e=Ending.returned (.string (tx bs))/\Below wr.heap.size wr w' from fun e w' ⟨h1,h2⟩=>⟨h1,hu.trans h2⟩));obtain ⟨sg,hsg⟩: ∃sg:List UInt8,sg=if p=true then [45] else []:=⟨_,rfl⟩
      have HFX:=Zh (show tx (sg++ps.reverse.flatten)=X by
        rw [hsg,<-HFL.out];cases p with
        | true=>exact HFP.out rfl
        | false=>exact HFN.out rfl)
      have HSL:=Zh (show sg.length<=1 by rw [hsg];split <;> simp)
      have kK:IntKind.i64.wrap ((K:Int)-1)=(K:Int)-1:=IntWalk.i64_in _ (by have:=HLK.out;omega);have HBH:=HB;clear HB HFP HFN HML HFL HOW HU0 HBS;have HLOOP:=Zh (fun (u:World) (hu:Below wr.heap.size wr u)=>HBH.Zg hu);cases p with
      | true=>
        obtain rfl:sg=[45]:=hsg;go_wp2_with fail;refine (HWR.out _ [] [45] HBA.out HIB.out (by simp) (by simp)).mono ?_;rintro e11 w11 ⟨rfl,hib,hbe⟩;have HIB1:=Zh (show Lib.IsBuilder 353 5 wr.heap.size wr.heap.size (Lib.byteCells ([45]++(ps.drop K).reverse.flatten)) w11 from by rw [<-HKK.out,List.drop_length];exact hib);have HBE1:=Zh hbe;clear hib hbe HIB HBA HBW;go_wp2_with fail;obtain ⟨bb,hbb⟩: ∃b,wr.heap.size=b:=⟨_,rfl⟩;rw [hbb] at HWR HSTR HIB1 HBE1 HK HLOOP ⊢
        go_loopw [11] (fun i u=> ∃ (k:Nat) (t:Int),k<=K/\t+1=(k:Int)/\i= .int .i64 t/\Hid (Below bb wr u)/\Hid (Lib.IsBuilder 353 5 bb bb (Lib.byteCells ([45]++(ps.drop k).reverse.flatten)) u)) (fun i _=>(intOf i+1).toNat)
        case atStart=>exact ⟨K,(K:Int)-1,Nat.le_refl _,by omega,rfl,HBE1,HIB1⟩
        case round=>
          rename_i u;obtain ⟨k,t,hk,htk,rfl,HBU,HIU⟩:=hrel
          rcases Nat.eq_zero_or_pos k with hk0|hk0
          ·subst hk0;have d0:decide (0<=t)=false:=Zf (by omega);rw [Z7] at HIU;have HSS:=Zh (HSTR.out _ _ HBU.out HIU.out);rw [HFX.out] at HSS;clear htk HK HWR HSTR HIU;go_wp2_with fail;refine HSS.mono ?_;rintro e12 w12 ⟨rfl,hbe⟩;have HE:=Zh (HLOOP.out _ hbe);clear hbe;go_wp2_with fail;go_ret;exact ⟨rfl,HE.out⟩
          ·obtain ⟨j,rfl⟩: ∃j,k=j+1:=⟨k-1,by omega⟩;obtain rfl:t=(j:Int):=by omega
           have hjp:j<ps.length:=by have:=HKK.out;omega
           obtain ⟨g,rfl,hgs,hcell⟩:=HK.out _ HBU.out j hjp;have HWJ:=Zh (HWR.out _ _ ps[j] HBU.out HIU.out (by rw [List.length_append];have:=HLN.out (j+1);have:=HSL.out;omega) (by
             have h1:=congrArg List.length (HDK.out j hjp);rw [List.length_append] at h1;have:=HLN.out j;omega))
           rw [List.append_assoc,<-HDK.out j hjp] at HWJ;generalize tx ps[j]=T at *;have kj:IntKind.i64.wrap ((j:Int)-1)=(j:Int)-1:=IntWalk.i64_in _ (by have:=HLK.out;omega);have hjK:j<K:=by omega
           clear HK HIU hgs htk;go_wp2_with fail;refine HWJ.mono ?_;rintro e12 w12 ⟨rfl,hib,hbe⟩;have HI2:=Zh hib;have HB2:=Zh hbe;clear hib hbe HWJ hcell;go_wp2_with fail;go_roundw
           case rel=>exact ⟨j,(j:Int)-1,by omega,by omega,by go_num,HB2,HI2⟩
           case measure=>(simp [intOf]) <;> omega
      | false=>
        obtain rfl:sg=[]:=hsg;have HIB1:=Zh (show Lib.IsBuilder 353 5 wr.heap.size wr.heap.size (Lib.byteCells ([]++(ps.drop K).reverse.flatten)) (wr.alloc (.cells #[.pointer none,.slice none 0 0] 353)) from by rw [<-HKK.out,List.drop_length];exact HIB.out);have HBE1:=HBA;clear HIB HBW;go_wp2_with fail;generalize wr.alloc (.cells #[.pointer none,.slice none 0 0] 353)=w11 at *;obtain ⟨bb,hbb⟩: ∃b,wr.heap.size=b:=⟨_,rfl⟩;rw [hbb] at HWR HSTR HIB1 HBE1 HK HLOOP ⊢
        go_loopw [11] (fun i u=> ∃ (k:Nat) (t:Int),k<=K/\t+1=(k:Int)/\i= .int .i64 t/\Hid (Below bb wr u)/\Hid (Lib.IsBuilder 353 5 bb bb (Lib.byteCells ([]++(ps.drop k).reverse.flatten)) u)) (fun i _=>(intOf i+1).toNat)
        case atStart=>exact ⟨K,(K:Int)-1,Nat.le_refl _,by omega,rfl,HBE1,HIB1⟩
        case round=>
          rename_i u;obtain ⟨k,t,hk,htk,rfl,HBU,HIU⟩:=hrel
          rcases Nat.eq_zero_or_pos k with hk0|hk0
          ·subst hk0;have d0:decide (0<=t)=false:=Zf (by omega);rw [Z7] at HIU;have HSS:=Zh (HSTR.out _ _ HBU.out HIU.out);rw [HFX.out] at HSS;clear htk HK HWR HSTR HIU;go_wp2_with fail;refine HSS.mono ?_;rintro e12 w12 ⟨rfl,hbe⟩;have HE:=Zh (HLOOP.out _ hbe);clear hbe;go_wp2_with fail;go_ret;exact ⟨rfl,HE.out⟩
          ·obtain ⟨j,rfl⟩: ∃j,k=j+1:=⟨k-1,by omega⟩;obtain rfl:t=(j:Int):=by omega
           have hjp:j<ps.length:=by have:=HKK.out;omega
           obtain ⟨g,rfl,hgs,hcell⟩:=HK.out _ HBU.out j hjp;have HWJ:=Zh (HWR.out _ _ ps[j] HBU.out HIU.out (by rw [List.length_append];have:=HLN.out (j+1);have:=HSL.out;omega) (by
             have h1:=congrArg List.length (HDK.out j hjp);rw [List.length_append] at h1;have:=HLN.out j;omega))
           rw [List.append_assoc,<-HDK.out j hjp] at HWJ;generalize tx ps[j]=T at *;have kj:IntKind.i64.wrap ((j:Int)-1)=(j:Int)-1:=IntWalk.i64_in _ (by have:=HLK.out;omega);have hjK:j<K:=by omega
           clear HK HIU hgs htk;go_wp2_with fail;refine HWJ.mono ?_;rintro e12 w12 ⟨rfl,hib,hbe⟩;have HI2:=Zh hib;have HB2:=Zh hbe;clear hib hbe HWJ hcell;go_wp2_with fail;go_roundw
           case rel=>exact ⟨j,(j:Int)-1,by omega,by omega,by go_num,HB2,HI2⟩
           case measure=>(simp [intOf]) <;> omega
end Go.Proofs.YtijajkfmlghgkaaGreatDoor.Nu
