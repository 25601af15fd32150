/- Lemmas on the way to the law TopSuperposed: Rt Ry Vm Va Vb Vc Vg Vi Vj Ve Vf Vh Vk Vd -/
import Derived.Maps.AppendAt
import Derived.Maps.Own
import Derived.Maps.OwnOps
import Derived.Maps.OwnSet
import Derived.Maps.Views
import Derived.Test.YtijajkfmlghgkaaGreatDoorTopSuperposedP19
import Derived.Laws.IdiomCopy
set_option linter.unusedVariables false
set_option linter.unusedSimpArgs false
set_option maxRecDepth 100000
set_option maxHeartbeats 4000000
namespace Go
open Go.RowKit
section
def Region.relS (ops:Array Oper) (n:Nat):Bool:=
  Region.noSelect ops && decide (n<ops.size) && Region.sinkB .any ops n && Region.chainB .any ops n && Region.seqB .any ops (ops.size-n) n (Region.marked ops.size n) &&
  ((List.range n).all fun i=>match ops[i]? with|some o=>o.after.all fun e=> !Region.binds .any e || decide (e.on<i)|none=>true) &&
  ((List.range n).all fun i=>(List.range n).all fun j=>Region.flowPair ops i j) &&
  ((List.range n).all fun i=>match ops[i]? with|some o=>o.guard.isNone|none=>true)
structure JoinFlowS (ops:Array Oper) (n:Nat) (a0:Act) (J:(Nat->Bool)->(Nat->Value)->World->Prop) (vs:Nat->Value) (listed:Array Bool) (a:Act) (w:World):Prop where
  inv:HeadInv .any ops n listed
  size:a.tmps.size=a0.tmps.size
  defers:a.defers=a0.defers
  slot: ∀j o t,j<n->ops[j]?=some o->o.dst=some t->a.tmps[t]?=if listed.getD j false=true then a0.tmps[t]?.map (fun _=>vs j) else a0.tmps[t]?
  other: ∀t,(∀j o,j<n->ops[j]?=some o->o.dst≠some t)->a.tmps[t]?=a0.tmps[t]?
  join:J (fun j=>listed.getD j false) vs w
def JoinPostS (a0:Act) (o:Oper) (K:Value->World->Prop) (e:Exit) (a:Act) (w:World):Prop:=e= .normal/\a.defers=a0.defers/\∃v,(∀t,o.dst=some t->a.tmps[t]?=some v)/\K v w
theorem JoinPostS.out {a0:Act} {o:Oper} {K:Value->World->Prop}: ¬LetsOut (JoinPostS a0 o K):=fun ⟨_,_,h⟩=>by cases h.1
theorem Zos {P:Program} {Q:Exit->Act->World->Prop} {ops:Array Oper} {o:Oper} {i:Nat} (hi:ops[i]?=some o) (hg:o.guard=none) {L:Value->World->Prop} {a a':Act} {w:World} {K:Act->World->Prop} (he:execOp a'.eval o=execOp a.eval o)
    (h:wpList P ops (JoinPostS a' o L) [o] a' w) (hK: ∀v w',L v w'->K (a.put o.dst v) w'):wpOp P ops Q i K a w:=by
 have hwant: ∀x,Region.wanted o x=true:=fun x=>by simp [Region.wanted,hg]
 unfold wpOp;simp only [hi];rw [if_pos (hwant _)];unfold wpList at h;rw [if_pos (hwant _)] at h
 rcases h with h|h
 rotate_left
 ·exact absurd h.2 JoinPostS.out
 refine .inl ?_;have hpost: ∀v w',JoinPostS a' o L .normal (a'.put o.dst v) w'->K (a.put o.dst v) w':=fun v w' hp=>by
   obtain ⟨_,_,v',hv',hR⟩:=hp;cases hd:o.dst with
   | none=>
     have h1:=hK v' w' hR;rw [hd] at h1;exact h1
   | some t=>
     have hv'':=hv' t hd;rw [Zad,if_pos hd] at hv'';have e:v=v':=by
       cases hx:a'.tmps[t]? with
       | none=>rw [hx] at hv'';cases hv''
       | some y=>rw [hx] at hv'';injection hv''
     subst e;have h1:=hK v w' hR;rw [hd] at h1;exact h1
 unfold Oper.wp at h ⊢;rw [he] at h;generalize (execOp a.eval o).run P w=r at *;cases r with
 | ok x w'=>
   cases x with
   | value v=>exact hpost v w' h
   | skip=>exact hpost undef w' h
   | defer d=>
     exfalso
     obtain ⟨_,hdf,_⟩:=h;rw [Zal] at hdf;have:=congrArg List.length hdf;simp at this
   | enter f args=>
     refine Calls.mono h ?_;intro e w'' he;cases e with
     | returned v=>exact hpost v w'' he
     | panicked chain=>cases he.1
     | outgrown=>exact absurd he JoinPostS.out
   | row row args=>exact Rows.mono h (fun v w'' he=>hpost v w'' he)
   | _=>exact h.elim
 | halt x w'=>
   cases x with
   | panic v=>cases h.1
   | _=>exact h.elim
variable {P:Program} {l:List Oper} {n:Nat} {a0:Act} {J:(Nat->Bool)->(Nat->Value)->World->Prop} {Q:Exit->Act->World->Prop}
theorem Zmu (hB:Region.relS l.toArray n=true)
    (hq: ∀i o,i<n->l[i]?=some o->∀ (D:Nat->Bool) (vs:Nat->Value) (w:World),D i=false->(∀j,j<i->Region.blindTo l.toArray i j=false->D j=true)->J D vs w->∃L:Value->World->Prop,wpList P l.toArray (JoinPostS (Zac vs 0 a0 (l.take i)) o L) [o] (Zac vs 0 a0 (l.take i)) w/\∀v w',L v w'->J (setF D i true) (setF vs i v) w')
    (ht: ∀ (D:Nat->Bool) (vs:Nat->Value) (w:World),(∀j,j<n->D j=true)->J D vs w->wpList P l.toArray Q (l.drop n) (Zac vs 0 a0 (l.take n)) w):
    ∀ (f:Nat) (U:List Nat) (vs:Nat->Value) (listed:Array Bool) (a:Act) (w:World),U.length=f->U.Nodup->(∀i,i∈U↔i<n/\listed.getD i false=false)->
      JoinFlowS l.toArray n a0 J vs listed a w->wpAny P .any l.toArray Q (f+(l.toArray.size-n)) listed a w:=by
 simp only [Region.relS,Bool.and_eq_true,decide_eq_true_eq,List.all_eq_true,List.mem_range] at hB;obtain ⟨⟨⟨⟨⟨⟨⟨hsel,hn⟩,hsink⟩,hchain⟩,hseq⟩,hedge⟩,hpair⟩,hguard⟩:=hB;have hn':n<=l.length:=by have h:=hn;rw [List.size_toArray] at h;omega
 have hsz:l.toArray.size=l.length:=by simp
 have hget: ∀i:Nat,l.toArray[i]?=l[i]?:=fun i=>by simp
 have hselect:=Region.noSelect_spec hsel;have hpw: ∀m,m<=n->(l.take m).Pairwise (fun o o'=> ∀t,o.dst=some t->o'.dst≠some t):=fun m hm=>by
   rw [List.pairwise_iff_getElem];intro i j hi hj hij t ht;rw [List.length_take] at hi hj;rw [List.getElem_take] at ht ⊢;exact Region.flowPair_dst (hpair i (by omega) j (by omega)) (by rw [hget];exact List.getElem?_eq_getElem (by omega)) (by rw [hget];exact List.getElem?_eq_getElem (by omega)) (fun e=>by subst e;omega) ht
 have hputAt: ∀ (vs:Nat->Value) m,m<=n->∀j o t,j<m->l.toArray[j]?=some o->o.dst=some t->(Zac vs 0 a0 (l.take m)).tmps[t]?=a0.tmps[t]?.map (fun _=>vs j):=fun vs m hm j o t hj ho hd=>by
   rw [Zed vs t (l.take m) 0 a0 j o (hpw m hm) (by rw [List.getElem?_take,if_pos hj,<-hget];exact ho) hd,Nat.zero_add]
 have hputO: ∀ (vs:Nat->Value) m,m<=n->∀t,(∀j o,j<n->l.toArray[j]?=some o->o.dst≠some t)->(Zac vs 0 a0 (l.take m)).tmps[t]?=a0.tmps[t]?:=fun vs m hm t h=>
   Zb3 vs t _ 0 a0 fun o ho=>by
     obtain ⟨q,hq'⟩:=List.mem_iff_getElem?.1 ho;rw [List.getElem?_take] at hq'
     split at hq'
     ·exact h q o (by omega) (by rw [hget];exact hq')
     ·cases hq'
 intro f
 induction f with
 | zero=>
   intro U vs listed a w hU _ hUm hF;obtain rfl:U=[]:=List.eq_nil_of_length_eq_zero hU;have hall: ∀i,i<n->listed.getD i false=true:=fun i hi=>by
     cases h:listed.getD i false with
     | true=>rfl
     | false=>have:=(hUm i).2 ⟨hi,h⟩;simp at this
   have hl:listed=Region.marked l.toArray.size n:=by
     apply Array.ext_getElem?;intro i
     by_cases hi:i<l.toArray.size
     ·have hil:i<listed.size:=by rw [hF.inv.size];exact hi
      have e2:(Region.marked l.toArray.size n)[i]?=some (decide (i<n)):=by
        rw [List.size_toArray] at hi;unfold Region.marked;simp [hi]
      rw [e2,Array.getElem?_eq_getElem hil]
      by_cases hin:i<n
      ·have:=hall i hin;simp [hil] at this;simp [this,hin]
      ·have:=hF.inv.tail i (by omega) hi;simp [hil] at this;simp [this,hin]
     ·rw [Array.getElem?_eq_none (by rw [hF.inv.size];omega),Array.getElem?_eq_none (by rw [List.size_toArray] at hi;unfold Region.marked;simp;omega)]
   have ha:a=Zac vs 0 a0 (l.take n):=by
     have htm:a.tmps=(Zac vs 0 a0 (l.take n)).tmps:=by
       apply Array.ext_getElem?;intro t
       by_cases h: ∃j o,j<n/\l.toArray[j]?=some o/\o.dst=some t
       ·obtain ⟨j,o,h1,h2,h3⟩:=h;rw [hF.slot j o t h1 h2 h3,if_pos (hall j h1),hputAt vs n (Nat.le_refl _) j o t h1 h2 h3]
       ·have h': ∀j o,j<n->l.toArray[j]?=some o->o.dst≠some t:=fun j o h1 h2 h3=>h ⟨j,o,h1,h2,h3⟩;rw [hF.other t h',hputO vs n (Nat.le_refl _) t h']
     have hd:a.defers=(Zac vs 0 a0 (l.take n)).defers:=by rw [Zb9,hF.defers]
     cases a;simp only at htm hd;cases hX:Zac vs 0 a0 (l.take n);rw [hX] at htm hd;simp only at htm hd;rw [htm,hd]
   rw [ha];have hdl:(l.drop n).length=l.toArray.size-n:=by simp
   have:=wpAny_of_seq (md:= .any) (Q':=Q) (ops:=l.toArray) (l.drop n) n listed (Zac vs 0 a0 (l.take n)) w (fun j=>by simp [List.getElem?_drop]) (by rw [hdl,hl];exact hseq) (ht _ vs w hall hF.join);rw [hdl] at this
   rwa [Nat.zero_add]
 | succ f ih=>
   intro U vs listed a w hU hnd hUm hF;obtain ⟨i0,hi0,hleast⟩:=Za1 U (fun e=>by rw [e] at hU;simp at hU);obtain ⟨hi0n,hi0u⟩:=(hUm i0).1 hi0;have hin: ∀i,i<n->i<listed.size:=fun i hi=>by rw [hF.inv.size];omega
   have hready:i0∈Region.ready .any l.toArray listed:=by
     have hlt:i0<l.toArray.size:=by omega
     refine mem_ready.2 ⟨getD_in (hin _ hi0n) hi0u,l.toArray[i0],Array.getElem?_eq_getElem hlt,fun e he hbd=> ?_⟩;have h1:=hedge i0 hi0n;rw [Array.getElem?_eq_getElem hlt] at h1;simp only [Array.all_eq_true_iff_forall_mem] at h1;have h2:=h1 e he;simp only [hbd,Bool.not_true,Bool.false_or,decide_eq_true_eq] at h2;cases h:listed.getD e.on false with
     | true=>rfl
     | false=>
       have:=hleast e.on ((hUm e.on).2 ⟨by omega,h⟩);omega
   rw [show f+1+(l.toArray.size-n)=(f+(l.toArray.size-n))+1 by omega];refine ⟨fun h=>(by rw [h] at hready;cases hready),fun i hi=> ?_⟩;obtain ⟨hiu,o,ho,hdep⟩:=mem_ready.1 hi;have hilt:i<n:=Nat.lt_of_not_le fun h=>tail_waits hsink hchain hn hF.inv _ i0 rfl hi0n (getD_in (hin _ hi0n) hi0u) i h hi;have hiU:i∈U:=(hUm i).2 ⟨hilt,getD_both hiu⟩;have hinv:=hF.inv.set hi hilt;have hlist: ∀j,(listed.setIfInBounds i true).getD j false=if j=i then true else listed.getD j false:=fun j=>by
    by_cases h:j=i
    ·subst h;rw [if_pos rfl];simp [hin j hilt]
    ·rw [if_neg h,getD_set_ne false (Ne.symm h)]
   have hUm': ∀j,j∈U.erase i↔j<n/\(listed.setIfInBounds i true).getD j false=false:=fun j=>by
     rw [hnd.mem_erase_iff,hUm j,hlist j]
     by_cases h:j=i
     ·simp [h]
     ·simp [h]
   have hlen':(U.erase i).length=f:=by rw [List.length_erase_of_mem hiU];omega
   have hnd':=hnd.erase i;have hseen: ∀t∈o.looksAt l.toArray,∀j oj,j<n->l.toArray[j]?=some oj->oj.dst=some t->i≠j/\j<i/\listed.getD j false=true:=by
     intro t ht j oj hj hoj hd;have hne:i≠j:=fun e=>by
       subst e;rw [ho] at hoj;cases hoj;exact Region.flowPair_self (hpair i hilt i hilt) ho hd ht
     have h1:=Region.flowPair_looks (hpair i hilt j hj) ho hoj hne hd ht;obtain ⟨o',ho',e,he,hbd,hon⟩:=Region.waitsFor_spec h1.2;rw [ho] at ho';cases ho';have:=hdep e he hbd;rw [hon] at this;exact ⟨hne,h1.1,this⟩
   have hgd:=hguard i hilt;rw [ho] at hgd;simp only [Option.isNone_iff_eq_none] at hgd;have hg:=hgd;have hex:execOp (Zac vs 0 a0 (l.take i)).eval o=execOp a.eval o:=(Za0 (ops:=l.toArray) (fun cs bb=>hselect i o cs bb ho) fun t htl=>by
     by_cases h: ∃j o,j<n/\l.toArray[j]?=some o/\o.dst=some t
     ·obtain ⟨j,oj,h1,h2,h3⟩:=h;obtain ⟨k1,k2,k3⟩:=hseen t htl j oj h1 h2 h3;rw [hputAt vs i (by omega) j oj t k2 h2 h3,hF.slot j oj t h1 h2 h3,if_pos k3]
     ·have h': ∀j o,j<n->l.toArray[j]?=some o->o.dst≠some t:=fun j o h1 h2 h3=>h ⟨j,o,h1,h2,h3⟩;rw [hputO vs i (by omega) t h',hF.other t h']).1
   have hdepD: ∀j,j<i->Region.blindTo l.toArray i j=false->listed.getD j false=true:=fun j hj hbl=>by
     have hjl:j<l.toArray.size:=by omega
     unfold Region.blindTo at hbl;rw [ho,Array.getElem?_eq_getElem hjl] at hbl;simp only at hbl
     split at hbl
     ·rename_i d hdj;have hmem:d∈o.looksAt l.toArray:=by simpa using hbl
      exact (hseen d hmem j _ (by omega) (Array.getElem?_eq_getElem hjl) hdj).2.2
     ·cases hbl
   obtain ⟨L,hL1,hL2⟩:=hq i o hilt (by rw [<-hget];exact ho) (fun j=>listed.getD j false) vs w (getD_both hiu) hdepD hF.join;refine Zos ho hg hex hL1 (fun v w' hR0=> ?_);have hR:=hL2 v w' hR0;refine ih (U.erase i) (setF vs i v) _ _ _ hlen' hnd' hUm' ⟨hinv,by rw [Zbb,hF.size],by rw [Zal,hF.defers],?_,?_,?_⟩
   ·intro j oj t hj hoj hd;rw [Zad,hlist j]
    by_cases hji:j=i
    ·subst hji;rw [ho] at hoj;cases hoj;rw [if_pos hd,if_pos rfl,if_pos rfl,Zaj,hF.slot j o t hj ho hd,if_neg (by rw [getD_both hiu];simp)]
    ·have hne:o.dst≠some t:=fun h=>Region.flowPair_dst (hpair i hilt j hj) ho hoj (Ne.symm hji) h hd;rw [if_neg hne,if_neg hji,Zab _ _ hji,hF.slot j oj t hj hoj hd]
   ·intro t h;rw [Zad,if_neg (h i o hilt ho),hF.other t h]
   ·have e:(fun j=>(listed.setIfInBounds i true).getD j false)=setF (fun j=>listed.getD j false) i true:=funext fun j=>hlist j;rw [e];exact hR
theorem Zdg {id:Nat} {W:World} (n:Nat) (J:(Nat->Bool)->(Nat->Value)->World->Prop) (hm:P.follows .mixedOrders=true) (hB:Region.relS l.toArray n=true)
    (h0:J (fun _=>false) (fun _=>undef) W.drew)
    (hq:relAll (fun i o=> ∀ (D:Nat->Bool) (vs:Nat->Value) (w:World),D i=false->(∀j,j<i->Region.blindTo l.toArray i j=false->D j=true)->J D vs w->∃L:Value->World->Prop,wpList P l.toArray (JoinPostS (Zac vs 0 a0 (l.take i)) o L) [o] (Zac vs 0 a0 (l.take i)) w/\∀v w',L v w'->J (setF D i true) (setF vs i v) w') 0 (l.take n))
    (ht: ∀ (D:Nat->Bool) (vs:Nat->Value) (w:World),(∀j,j<n->D j=true)->J D vs w->wpList P l.toArray Q (l.drop n) (Zac vs 0 a0 (l.take n)) w):
    (Code.region id l.toArray true).wp P Q a0 W:=by
 refine wp_region_any hm ?_;have hB':=hB;simp only [Region.relS,Bool.and_eq_true,decide_eq_true_eq] at hB';have hn:=hB'.1.1.1.1.1.1.2;have inv0:HeadInv .any l.toArray n (Array.replicate l.toArray.size false):=
   ⟨by simp,fun j oj _ hl=>(by rw [getD_replicate_false] at hl;cases hl),fun t _ ht=>getD_in (by simpa using ht) (getD_replicate_false _ _)⟩
 have e0:(fun j=>(Array.replicate l.toArray.size false).getD j false)=fun _=>false:=funext fun j=>getD_replicate_false _ _;have h:=Zmu (a0:=a0) (J:=J) (Q:=Q) hB
   (fun i o hi ho=>by
     have:=relAll.get _ 0 hq i o (by rw [List.getElem?_take,if_pos hi];exact ho)
     rwa [Nat.zero_add] at this) ht n (List.range n) (fun _=>undef) (Array.replicate l.toArray.size false) a0 W.drew (by simp) List.nodup_range (fun i=>by rw [List.mem_range];exact ⟨fun h=>⟨h,getD_replicate_false _ _⟩,fun h=>h.1⟩)
   ⟨inv0,rfl,rfl,fun j o t _ _ _=>by rw [getD_replicate_false];rfl,fun t _=>rfl,by rw [e0];exact h0⟩
 rwa [show n+(l.toArray.size-n)=l.toArray.size by omega] at h
end
end Go
namespace Go.Proofs.YtijajkfmlghgkaaGreatDoor
open Go Go.Proofs Go.RowKit
theorem Zep {α:Type} (f:α->List Value) (sz bytes:Nat) (t e:TypeId) (z:Value) {P:Program} (hT:P.underlying t=some (.slice e)) (hI:(P.info? e).map (fun i=>(i.zero,i.size,i.bytes))=some (some z,sz,bytes))
    (hzs:z.cells.size=sz) (hsz:0<sz) (hby:bytes<=1000) (hf: ∀x,(f x).length=sz) (h1c: ∀x,∀u∈f x,u.oneCell'=true)
    (l:List α) (x:α) (base:Nat) (w:World) (g:Nat) (cs:Array Value) (e':TypeId) (hg:w.heap[g]?=some (.cells cs e' (0,0))) (hcs:cs.toList=f x) (v:Value) (hown:Own f sz e w base v l) (hbase:base<=w.heap.size) (hlen:l.length<=1000000)
    {ops:Array Oper} {rest:List Oper} {o:Oper} {a:Act} {Q:Exit->Act->World->Prop} (hgd:o.guard=none) (s y:Operand)
    (ho:o.op= .call { callee:= .builtin .append,args:= #[s,y],argTypes:= #[t,t] }) (hs:a.eval s=v) (hy:a.eval y= .slice (some ⟨g,0,none⟩) 1 1)
    (h: ∀v' w',Own f sz e w' base v' (l++ [x])->w.grownBy w' v.ownBlock->(v'.ownBlock=v.ownBlock∨v'.ownBlock=some w.heap.size)->wpList P ops Q rest (a.put o.dst v') w'):wpList P ops Q (o::rest) a w:=by
 obtain ⟨i,hi,hz0,hz1,hz2⟩:=info_parts hI;have hmul:(l.length+1) * bytes<=1000001* 1000:=Nat.mul_le_mul (by omega) hby
 refine wpList_append_own_at _ hgd s y t ho base e i z sz bytes hT hi hz0 hz1 hz2 hzs hsz v l.length _ hs hown ⟨g,0,none⟩ 1 1 (f x) hy (by rw [hf];omega) ?_ (h1c x) (by simp [maxLen];omega) (by omega) hbase ?_
 ·intro j u hu;rw [Addr.add_lit,Nat.zero_add,cell_of_row _ g j cs e' (0,0) hg];rw [<-hcs] at hu;simpa using hu
 ·intro v' w' ho' hg' _ hat;refine h v' w' ?_ hg' hat;unfold Own;rw [List.length_append,List.length_singleton,List.flatMap_append,List.flatMap_singleton];exact ho'
structure TwoOwn {α β:Type} (f:α->List Value) (sz:Nat) (e:TypeId) (f':β->List Value) (sz':Nat) (e':TypeId) (B:Nat) (w0:World) (q:Nat) (qe:TypeId) (qs:List Value) (c1:Value) (l1:List α) (c2:Value) (l2:List β) (w:World):Prop where
  below:Below B w0 w
  base:B<=w.heap.size
  box:Box w q qe qs
  own1:Own f sz e w B c1 l1
  own2:Own f' sz' e' w B c2 l2
  sep: ∀g,c1.ownBlock=some g->c2.ownBlock≠some g
  nq1:c1.ownBlock≠some q
  nq2:c2.ownBlock≠some q
section
variable {α β:Type} {f:α->List Value} {sz:Nat} {e:TypeId} {f':β->List Value} {sz':Nat} {e':TypeId} {B:Nat} {w0 w w':World} {q:Nat} {qe:TypeId} {qs:List Value} {c1 c2:Value} {l1:List α} {l2:List β}
theorem TwoOwn.swap (h:TwoOwn f sz e f' sz' e' B w0 q qe qs c1 l1 c2 l2 w):TwoOwn f' sz' e' f sz e B w0 q qe qs c2 l2 c1 l1 w:=
  ⟨h.below,h.base,h.box,h.own2,h.own1,fun g h2 h1=>h.sep g h1 h2,h.nq2,h.nq1⟩
theorem Own.lt2 {v:Value} {l:List α} (h:Own f sz e w B v l): ∀k,v.ownBlock=some k->k<w.heap.size:=fun k hk=>(World.ownsRow.lt h k hk).2
theorem TwoOwn.grow (h:TwoOwn f sz e f' sz' e' B w0 q qe qs c1 l1 c2 l2 w) (hb:Below w.heap.size w w'):TwoOwn f sz e f' sz' e' B w0 q qe qs c1 l1 c2 l2 w':=
  ⟨h.below.trans (hb.mono h.base),Nat.le_trans h.base hb.size,h.box.later hb,h.own1.later hb,h.own2.later hb,h.sep,h.nq1,h.nq2⟩
theorem TwoOwn.push1 (h:TwoOwn f sz e f' sz' e' B w0 q qe qs c1 l1 c2 l2 w) {v:Value} {x:α} (ho:Own f sz e w' B v (l1++ [x])) (hg:w.grownBy w' c1.ownBlock) (hat:v.ownBlock=c1.ownBlock∨v.ownBlock=some w.heap.size):
    TwoOwn f sz e f' sz' e' B w0 q qe qs v (l1++ [x]) c2 l2 w':=by
 have hqlt:=h.box.lt;refine ⟨h.below.grown hg h.base (fun k hk=>h.own1.lt' k hk),Nat.le_trans h.base hg.size,h.box.kept hg (fun e=>h.nq1 e.symm),ho,?_,fun g h1 h2=> ?_,fun h1=> ?_,h.nq2⟩
 ·refine h.own2.kept hg ?_;cases h2:c2.ownBlock with
  | none=>exact .inl rfl
  | some g=>exact .inr (fun e=>h.sep g e.symm h2)
 ·rcases hat with h3|h3
  ·exact h.sep g (h3 ▸ h1) h2
  ·have:=h.own2.lt2 g h2;rw [h3] at h1;injection h1 with h1;omega
 ·rcases hat with h3|h3
  ·exact h.nq1 (h3 ▸ h1)
  ·rw [h3] at h1;injection h1 with h1;omega
def LitAt (w:World) (q:Nat) (c1 c2 v:Value) (cs:List Value) (t:TypeId):Prop:=∃g,v= .slice (some ⟨g,0,none⟩) 1 1/\Box w g t cs/\c1.ownBlock≠some g/\c2.ownBlock≠some g/\g≠q
theorem LitAt.grow {v:Value} {cs:List Value} {t:TypeId} (h:LitAt w q c1 c2 v cs t) (hb:Below w.heap.size w w'):LitAt w' q c1 c2 v cs t:=by
  obtain ⟨g,h1,h2,h3⟩:=h;exact ⟨g,h1,h2.later hb,h3⟩
theorem LitAt.push1 {v v1:Value} {cs:List Value} {t:TypeId} (h:LitAt w q c1 c2 v cs t) (hg:w.grownBy w' c1.ownBlock) (hat:v1.ownBlock=c1.ownBlock∨v1.ownBlock=some w.heap.size):LitAt w' q v1 c2 v cs t:=by
  obtain ⟨g,h1,h2,h3,h4,h5⟩:=h;refine ⟨g,h1,h2.kept hg (fun e=>h3 e.symm),fun h5=> ?_,h4,h5⟩
  rcases hat with h6|h6
  ·exact h3 (h6 ▸ h5)
  ·rw [h6] at h5;injection h5 with h5;have:=h2.lt;omega
theorem LitAt.swap {v:Value} {cs:List Value} {t:TypeId} (h:LitAt w q c1 c2 v cs t):LitAt w q c2 c1 v cs t:=by
  obtain ⟨g,h1,h2,h3,h4,h5⟩:=h;exact ⟨g,h1,h2,h4,h3,h5⟩
theorem LitAt.new (h:TwoOwn f sz e f' sz' e' B w0 q qe qs c1 l1 c2 l2 w) (cs:Array Value) (t:TypeId):LitAt (w.alloc (.cells cs t)) q c1 c2 (.slice (some ⟨w.heap.size,0,none⟩) 1 1) cs.toList t:=
  ⟨_,rfl,Box.new w cs t,fun h1=>Nat.lt_irrefl _ (h.own1.lt2 _ h1),fun h1=>Nat.lt_irrefl _ (h.own2.lt2 _ h1),fun e=>by have:=h.box.lt;omega⟩
theorem LitAt.put {v:Value} {cs:List Value} {t:TypeId} (h:LitAt w q c1 c2 v cs t) (j:Nat) (u:Value):LitAt (w.setCell ⟨q,j,none⟩ u) q c1 c2 v cs t:=by
  obtain ⟨g,h1,h2,h3,h4,h5⟩:=h;exact ⟨g,h1,h2.other u (fun e=>h5 e.symm),h3,h4,h5⟩
theorem TwoOwn.put (h:TwoOwn f sz e f' sz' e' B w0 q qe qs c1 l1 c2 l2 w) (hq:B<=q) (j:Nat) (u:Value):TwoOwn f sz e f' sz' e' B w0 q qe (qs.set j u) c1 l1 c2 l2 (w.setCell ⟨q,j,none⟩ u):=
  ⟨h.below.setCell hq u,by simpa using h.base,h.box.set j u,h.own1.other u h.nq1,h.own2.other u h.nq2,h.sep,h.nq1,h.nq2⟩
end
structure J2 {α β:Type} (f:α->List Value) (sz:Nat) (e:TypeId) (f':β->List Value) (sz':Nat) (e':TypeId) (B:Nat) (w0:World) (q:Nat) (qe:TypeId) (qs:List Value) (fo:Nat) (ks:List (Option Value)) (j0 i1 p1 i2 p2 st:Nat) (v1 v2:Value) (l1:List α) (l2:List β) (x1:α) (x2:β) (D:Nat->Bool) (vs:Nat->Value) (w:World):Prop where
  two:TwoOwn f sz e f' sz' e' B w0 q qe (if D st then qs.set fo (vs p1) else qs) (if D p1 then vs p1 else v1) (if D p1 then l1++ [x1] else l1) (if D p2 then vs p2 else v2) (if D p2 then l2++ [x2] else l2) w
  val: ∀j v,ks[j]?=some (some v)->D j=true->vs j=v
  lit1:D i1=true->D p1=false->LitAt w q (if D p1 then vs p1 else v1) (if D p2 then vs p2 else v2) (vs i1) (f x1) e
  lit2:D i2=true->D p2=false->LitAt w q (if D p1 then vs p1 else v1) (if D p2 then vs p2 else v2) (vs i2) (f' x2) e'
  ordS:D st=true->D p1=true
  ordP:D p1=true->D j0=true
  nst:st=1000->D st=false
def apart5 (i1 p1 i2 p2 st:Nat):Bool:=i1 !=p1 && i1 !=i2 && i1 !=p2 && i1 !=st && p1 !=i2 && p1 !=p2 && p1 !=st && i2 !=p2 && i2 !=st && p2 !=st
section
variable {α β:Type} {f:α->List Value} {sz:Nat} {e:TypeId} {f':β->List Value} {sz':Nat} {e':TypeId} {B:Nat} {w0:World} {q:Nat} {qe:TypeId} {qs:List Value} {fo:Nat} {ks:List (Option Value)} {j0 i1 p1 i2 p2 st:Nat} {v1 v2:Value} {l1:List α} {l2:List β} {x1:α} {x2:β} {D:Nat->Bool} {vs:Nat->Value} {w w':World}
theorem apart5.ne (h:apart5 i1 p1 i2 p2 st=true):i1≠p1/\i1≠i2/\i1≠p2/\i1≠st/\p1≠i2/\p1≠p2/\p1≠st/\i2≠p2/\i2≠st/\p2≠st:=by
  simpa [apart5,and_assoc] using h
theorem J2.vals (h: ∀j v,ks[j]?=some (some v)->D j=true->vs j=v) (i:Nat) {v:Value} (hk: ∀v',ks[i]?=some (some v')->v=v'): ∀j v',ks[j]?=some (some v')->setF D i true j=true->setF vs i v j=v':=fun j v' hj hd=>by
  by_cases hji:j=i
  ·subst hji;rw [Zaj];exact hk v' hj
  ·rw [Zab _ _ hji] at hd ⊢;exact h j v' hj hd
theorem J2.start (h:TwoOwn f sz e f' sz' e' B w0 q qe qs v1 l1 v2 l2 w):J2 f sz e f' sz' e' B w0 q qe qs fo ks j0 i1 p1 i2 p2 st v1 v2 l1 l2 x1 x2 (fun _=>false) (fun _=>undef) w.drew:=
  ⟨by simp only [Bool.false_eq_true,if_false];exact h.grow ⟨rfl,rfl,rfl,Nat.le_refl _,fun _ _=>rfl⟩,(fun j v _ h=>by cases h),(fun h=>by cases h),(fun h=>by cases h),(fun h=>by cases h),(fun h=>by cases h),fun _=>rfl⟩
theorem Zcg {D:Nat->Bool} {a b i:Nat} (h:D a=true->D b=true) (hi:a≠i):setF D i true a=true->setF D i true b=true:=fun hd=>by
  rw [Zab _ _ hi] at hd
  by_cases hb:b=i
  ·subst hb;rw [Zaj]
  ·rw [Zab _ _ hb];exact h hd
theorem J2.quiet (h:J2 f sz e f' sz' e' B w0 q qe qs fo ks j0 i1 p1 i2 p2 st v1 v2 l1 l2 x1 x2 D vs w) (i:Nat) (hi: [i1,p1,i2,p2,st].contains i=false) {v:Value} (hk: ∀v',ks[i]?=some (some v')->v=v') (hb:Below w.heap.size w w'):J2 f sz e f' sz' e' B w0 q qe qs fo ks j0 i1 p1 i2 p2 st v1 v2 l1 l2 x1 x2 (setF D i true) (setF vs i v) w':=by
  simp at hi;obtain ⟨h1,h2,h3,h4,h5⟩:=hi
  constructor
  ·rw [Zab _ _ (Ne.symm h5),Zab _ _ (Ne.symm h2),Zab _ _ (Ne.symm h2),Zab _ _ (Ne.symm h4),Zab _ _ (Ne.symm h4)];exact h.two.grow hb
  ·exact J2.vals h.val i hk
  ·rw [Zab _ _ (Ne.symm h2),Zab _ _ (Ne.symm h2),Zab _ _ (Ne.symm h4),Zab _ _ (Ne.symm h4),Zab _ _ (Ne.symm h1),Zab _ _ (Ne.symm h1)];exact fun k1 k2=>(h.lit1 k1 k2).grow hb
  ·rw [Zab _ _ (Ne.symm h2),Zab _ _ (Ne.symm h2),Zab _ _ (Ne.symm h4),Zab _ _ (Ne.symm h4),Zab _ _ (Ne.symm h3),Zab _ _ (Ne.symm h3)];exact fun k1 k2=>(h.lit2 k1 k2).grow hb
  ·exact Zcg h.ordS (Ne.symm h5)
  ·exact Zcg h.ordP (Ne.symm h2)
  ·intro hs;rw [Zab _ _ (Ne.symm h5)];exact h.nst hs
theorem Zav (w:World) (o:Obj):Below w.heap.size w (w.alloc o):=(Below.refl _ _).alloc (Nat.le_refl _) _
theorem J2.new1 (h:J2 f sz e f' sz' e' B w0 q qe qs fo ks j0 i1 p1 i2 p2 st v1 v2 l1 l2 x1 x2 D vs w) (ha:apart5 i1 p1 i2 p2 st=true) (hk:ks[i1]?=some none) {cs:Array Value} (hcs:cs.toList=f x1):J2 f sz e f' sz' e' B w0 q qe qs fo ks j0 i1 p1 i2 p2 st v1 v2 l1 l2 x1 x2 (setF D i1 true) (setF vs i1 (.slice (some ⟨w.heap.size,0,none⟩) 1 1)) (w.alloc (.cells cs e)):=by
  obtain ⟨a1,a2,a3,a4,a5,a6,a7,a8,a9,a10⟩:=apart5.ne ha
  constructor
  ·rw [Zab _ _ (Ne.symm a4),Zab _ _ (Ne.symm a1),Zab _ _ (Ne.symm a1),Zab _ _ (Ne.symm a3),Zab _ _ (Ne.symm a3)];exact h.two.grow (Zav _ _)
  ·exact J2.vals h.val i1 (fun v' e=>by rw [hk] at e;cases e)
  ·rw [Zab _ _ (Ne.symm a1),Zab _ _ (Ne.symm a1),Zab _ _ (Ne.symm a3),Zab _ _ (Ne.symm a3),Zaj,Zaj,<-hcs];exact fun _ _=>LitAt.new h.two cs e
  ·rw [Zab _ _ (Ne.symm a1),Zab _ _ (Ne.symm a1),Zab _ _ (Ne.symm a3),Zab _ _ (Ne.symm a3),Zab _ _ (Ne.symm a2),Zab _ _ (Ne.symm a2)];exact fun k1 k2=>(h.lit2 k1 k2).grow (Zav _ _)
  ·exact Zcg h.ordS (Ne.symm a4)
  ·exact Zcg h.ordP (Ne.symm a1)
  ·intro hs;rw [Zab _ _ (Ne.symm a4)];exact h.nst hs
theorem J2.new2 (h:J2 f sz e f' sz' e' B w0 q qe qs fo ks j0 i1 p1 i2 p2 st v1 v2 l1 l2 x1 x2 D vs w) (ha:apart5 i1 p1 i2 p2 st=true) (hk:ks[i2]?=some none) {cs:Array Value} (hcs:cs.toList=f' x2):J2 f sz e f' sz' e' B w0 q qe qs fo ks j0 i1 p1 i2 p2 st v1 v2 l1 l2 x1 x2 (setF D i2 true) (setF vs i2 (.slice (some ⟨w.heap.size,0,none⟩) 1 1)) (w.alloc (.cells cs e')):=by
  obtain ⟨a1,a2,a3,a4,a5,a6,a7,a8,a9,a10⟩:=apart5.ne ha
  constructor
  ·rw [Zab _ _ (Ne.symm a9),Zab _ _ a5,Zab _ _ a5,Zab _ _ (Ne.symm a8),Zab _ _ (Ne.symm a8)];exact h.two.grow (Zav _ _)
  ·exact J2.vals h.val i2 (fun v' e=>by rw [hk] at e;cases e)
  ·rw [Zab _ _ a5,Zab _ _ a5,Zab _ _ (Ne.symm a8),Zab _ _ (Ne.symm a8),Zab _ _ a2,Zab _ _ a2];exact fun k1 k2=>(h.lit1 k1 k2).grow (Zav _ _)
  ·rw [Zab _ _ a5,Zab _ _ a5,Zab _ _ (Ne.symm a8),Zab _ _ (Ne.symm a8),Zaj,Zaj,<-hcs];exact fun _ _=>LitAt.new h.two cs e'
  ·exact Zcg h.ordS (Ne.symm a9)
  ·exact Zcg h.ordP a5
  ·intro hs;rw [Zab _ _ (Ne.symm a9)];exact h.nst hs
theorem J2.push1 (h:J2 f sz e f' sz' e' B w0 q qe qs fo ks j0 i1 p1 i2 p2 st v1 v2 l1 l2 x1 x2 D vs w) (ha:apart5 i1 p1 i2 p2 st=true) (hk:ks[p1]?=some none) (hD:D p1=false) (h0:D j0=true) {v:Value} (ho:Own f sz e w' B v (l1++ [x1])) (hg:w.grownBy w' v1.ownBlock) (hat:v.ownBlock=v1.ownBlock∨v.ownBlock=some w.heap.size):J2 f sz e f' sz' e' B w0 q qe qs fo ks j0 i1 p1 i2 p2 st v1 v2 l1 l2 x1 x2 (setF D p1 true) (setF vs p1 v) w':=by
  obtain ⟨a1,a2,a3,a4,a5,a6,a7,a8,a9,a10⟩:=apart5.ne ha;have hs:D st=false:=by
    cases hs:D st with
    | false=>rfl
    | true=>rw [h.ordS hs] at hD;cases hD
  have h2:=h.two;have h3:=h.lit2;rw [hD,hs] at h2;rw [hD] at h3;simp only [Bool.false_eq_true,if_false] at h2
  constructor
  ·rw [Zab _ _ (Ne.symm a7),hs,Zaj,Zaj,Zab _ _ (Ne.symm a6),Zab _ _ (Ne.symm a6)];simp only [Bool.false_eq_true,if_false,if_true];exact h2.push1 ho hg hat
  ·exact J2.vals h.val p1 (fun v' e=>by rw [hk] at e;cases e)
  ·rw [Zaj];exact fun _ k=>by cases k
  ·rw [Zaj,Zaj,Zab _ _ (Ne.symm a6),Zab _ _ (Ne.symm a6),Zab _ _ (Ne.symm a5),Zab _ _ (Ne.symm a5)];simp only [if_true];exact fun k1 k2=>(h3 k1 k2).push1 hg hat
  ·intro hx;rw [Zab _ _ (Ne.symm a7),hs] at hx;cases hx
  ·intro _
   by_cases hj:j0=p1
   ·rw [hj,Zaj]
   ·rw [Zab _ _ hj];exact h0
  ·intro hx;rw [Zab _ _ (Ne.symm a7)];exact h.nst hx
theorem J2.push2 (h:J2 f sz e f' sz' e' B w0 q qe qs fo ks j0 i1 p1 i2 p2 st v1 v2 l1 l2 x1 x2 D vs w) (ha:apart5 i1 p1 i2 p2 st=true) (hk:ks[p2]?=some none) (hD:D p2=false) {v:Value} (ho:Own f' sz' e' w' B v (l2++ [x2])) (hg:w.grownBy w' v2.ownBlock) (hat:v.ownBlock=v2.ownBlock∨v.ownBlock=some w.heap.size):J2 f sz e f' sz' e' B w0 q qe qs fo ks j0 i1 p1 i2 p2 st v1 v2 l1 l2 x1 x2 (setF D p2 true) (setF vs p2 v) w':=by
  obtain ⟨a1,a2,a3,a4,a5,a6,a7,a8,a9,a10⟩:=apart5.ne ha;have h2:=h.two;have h3:=h.lit1;rw [hD] at h2 h3;simp only [Bool.false_eq_true,if_false] at h2 h3
  constructor
  ·rw [Zab _ _ (Ne.symm a10),Zab _ _ a6,Zab _ _ a6,Zaj,Zaj];simp only [if_true];exact (h2.swap.push1 ho hg hat).swap
  ·exact J2.vals h.val p2 (fun v' e=>by rw [hk] at e;cases e)
  ·rw [Zaj,Zaj,Zab _ _ a6,Zab _ _ a6,Zab _ _ a3,Zab _ _ a3];simp only [if_true];exact fun k1 k2=>((h3 k1 k2).swap.push1 hg hat).swap
  ·rw [Zaj];exact fun _ k=>by cases k
  ·exact Zcg h.ordS (Ne.symm a10)
  ·exact Zcg h.ordP a6
  ·intro hs;rw [Zab _ _ (Ne.symm a10)];exact h.nst hs
theorem J2.put (h:J2 f sz e f' sz' e' B w0 q qe qs fo ks j0 i1 p1 i2 p2 st v1 v2 l1 l2 x1 x2 D vs w) (ha:apart5 i1 p1 i2 p2 st=true) (hk:ks[st]?=some none) (hB:B<=q) (hs:st≠1000) (hD:D st=false) (hp:D p1=true) {v:Value}:J2 f sz e f' sz' e' B w0 q qe qs fo ks j0 i1 p1 i2 p2 st v1 v2 l1 l2 x1 x2 (setF D st true) (setF vs st v) (w.setCell ⟨q,fo,none⟩ (vs p1)):=by
  obtain ⟨a1,a2,a3,a4,a5,a6,a7,a8,a9,a10⟩:=apart5.ne ha;have h2:=h.two;rw [hD] at h2;simp only [Bool.false_eq_true,if_false] at h2
  constructor
  ·rw [Zaj,Zab _ _ a7,Zab _ _ a7,Zab _ _ a10,Zab _ _ a10];simp only [if_true];exact h2.put hB fo (vs p1)
  ·exact J2.vals h.val st (fun v' e=>by rw [hk] at e;cases e)
  ·rw [Zab _ _ a7,Zab _ _ a7,Zab _ _ a10,Zab _ _ a10,Zab _ _ a4,Zab _ _ a4];exact fun k1 k2=>(h.lit1 k1 k2).put fo (vs p1)
  ·rw [Zab _ _ a7,Zab _ _ a7,Zab _ _ a10,Zab _ _ a10,Zab _ _ a9,Zab _ _ a9];exact fun k1 k2=>(h.lit2 k1 k2).put fo (vs p1)
  ·intro _;rw [Zab _ _ a7];exact hp
  ·exact Zcg h.ordP a7
  ·intro hx;exact absurd hx hs
end
end Go.Proofs.YtijajkfmlghgkaaGreatDoor
namespace Go.Proofs.YtijajkfmlghgkaaGreatDoor
open Go Go.Proofs Go.RowKit Go.Maps
def SetM {κ:Type} [DecidableEq κ] (f:κ->Lit) (P:Program) (k e:TypeId) (w:World) (b:Nat) (L:List κ):Prop:=
  ∃D:DataW Unit,w.ownsMap P k (plainElem P e) b L.length D/\IsMap D/\∀x,D.atKey (f x) (.lit (.bool false))= .lit (.bool (decide (x∈L)))
section
variable {κ:Type} [DecidableEq κ] {f:κ->Lit} {P:Program} {k e:TypeId} {w w':World} {b:Nat} {L:List κ}
theorem SetM.kept {row:Option Nat} (h:SetM f P k e w b L) (hg:w.grownBy w' row) (hne:some b≠row):SetM f P k e w' b L:=
  let ⟨D,h1,h2⟩:=h;⟨D,h1.kept hg hne,h2⟩
theorem SetM.later (h:SetM f P k e w b L) (hb:Below w.heap.size w w'):SetM f P k e w' b L:=
  h.kept (row:=none) ⟨hb.os,hb.tape,hb.output,hb.size,fun k hk _=>hb.block k hk⟩ (by simp)
theorem SetM.alloc (h:SetM f P k e w b L) (o:Obj):SetM f P k e (w.alloc o) b L:=h.later ((Below.refl _ _).alloc (Nat.le_refl _) _)
theorem SetM.lt (h:SetM f P k e w b L):b<w.heap.size:=let ⟨_,h1,_⟩:=h;h1.lt
theorem SetM.made (f:κ->Lit) (P:Program) (k e:TypeId) (w:World):SetM f P k e (w.alloc (.map #[] 0)) w.heap.size []:=
  ⟨.map [],World.ownsMap_made w P k _,⟨[],rfl⟩,fun kl=>by simp [DataW.atKey]⟩
theorem SetM.look {t:TypeId} (h:SetM f P k e w b L) (K:Keyed P k) (ht:P.underlying t=some (.map k e)) (he:P.underlying e=some .bool) (hz:(zeroValue e).run P w= .ok (.bool false) w) {key:Value} {x:κ} (hkey:keyOf P k key=some (f x)):
    (Instr.lookup t (.map (some b)) key false).run P w= .ok (.bool (decide (x∈L))) w:=by
 obtain ⟨D,h1,h2,h3⟩:=h;obtain ⟨v,ps,hrun,hv⟩:=h1.lookup K ht hz (plainElem_bool (H:=Unit) he false) hkey;rw [h3 x] at hv;have:v= .bool (decide (x∈L)):=by
   unfold plainElem at hv;rw [he] at hv;cases v <;> simp at hv
   rw [hv.1]
 rw [<-this];exact hrun
theorem Zdh {t:TypeId} {ops:Array Oper} {rest:List Oper} {o:Oper} {a:Act} {Q:Exit->Act->World->Prop} (h:SetM f P k e w b L) (K:Keyed P k) (ht:P.underlying t=some (.map k e)) (he:P.underlying e=some .bool) (hz:(zeroValue e).run P w= .ok (.bool false) w)
    {key:Value} {x:κ} (hkey:keyOf P k key=some (f x)) (hg:o.guard=none) (m y:Operand) (hop:o.op=Op.lookup t m y false) (hm:a.eval m= .map (some b)) (hx:a.eval y=key)
    (hK:wpList P ops Q rest (a.put o.dst (.bool (decide (x∈L)))) w):wpList P ops Q (o::rest) a w:=by
 refine wpList_plain hg fun K' hK'=> ?_;have hrun:=h.look K ht he hz hkey;unfold Oper.wp;simp [execOp,hop,hm,hx,hrun,Result.andThen];exact hK' _ _ (by simpa using hK)
end
def Zdu (s:List UInt8):Lit:= .string s
end Go.Proofs.YtijajkfmlghgkaaGreatDoor
namespace Go.Proofs.YtijajkfmlghgkaaGreatDoor.Nu
open Go Go.Proofs Go.RowKit Go.Proofs.YtijajkfmlghgkaaGreatDoor
def wShip:Shp:=⟨[⟨0,2,40⟩,⟨2,4,40⟩],[10,10,10,10],[1,1,1,1],[20,20,20,20],[30,30,30,30],5⟩
theorem Ze4 {α:Type} {f:α->List Value} {sz:Nat} (hf: ∀x,(f x).length=sz) (w:World) (l:List α) (cells:Array Value) (hc:cells=(l.flatMap f).toArray) (t:TypeId) (n c:Nat) (hn:l.length=n) (hl:n<=1000000) (g:Nat) (hg:w.heap.size=g):
    Sl f sz (w.alloc (.cells cells t)) (w.alloc (.cells cells t)).heap.size (.slice (some ⟨g,0,none⟩) n c) l:=by
 subst hc hn hg;have hB:=Box.new w (l.flatMap f).toArray t;refine ⟨_,c,rfl,by omega,fun _=>⟨w.heap.size,0,rfl,by simp,fun i h j u hu=> ?_⟩⟩;have hj:j<sz:=by
   rw [<-hf l[i]];exact (List.getElem?_eq_some_iff.1 hu).1
 rw [hB.cell,show 0+i* sz+j=i* sz+j by omega];show (l.flatMap f)[i* sz+j]?=some u;rw [Zci f sz hf l i h j hj];exact hu
theorem Zrb:txq 1=⟨#[49]⟩:=by kernel_rfl
theorem Zot:txq 5=⟨#[53]⟩:=by kernel_rfl
theorem Zi1 (w:World):Calls Tryz.prog 69 #[] w (fun e w'=> ∃x:ShV,e= .returned (x.v wShip.t)/\ShR w' x wShip/\Below w.heap.size w w'):=by
  go_enter Tryz.func69,Tryz.ntmps69;go_wp2_with fail;refine bodyPost_ret (v:= .agg #[.slice (some ⟨w.heap.size+1,0,none⟩) 2 2,.slice (some ⟨w.heap.size+1+1,0,none⟩) 4 4,.slice (some ⟨w.heap.size+1+1+1,0,none⟩) 4 4,.slice (some ⟨w.heap.size+1+1+1+1,0,none⟩) 4 4,.slice (some ⟨w.heap.size+1+1+1+1+1,0,none⟩) 4 4,.string ⟨#[53]⟩]) (by simp [results,Tryz.results69,go_sem, *]) rfl ?_;refine ⟨⟨some ⟨w.heap.size+1,0,none⟩,some ⟨w.heap.size+1+1,0,none⟩,some ⟨w.heap.size+1+1+1,0,none⟩,some ⟨w.heap.size+1+1+1+1,0,none⟩,some ⟨w.heap.size+1+1+1+1+1,0,none⟩,2,4,4,4,4,2,4,4,4,4⟩,by rw [<-Zot];rfl,⟨?_,?_,?_,?_,?_⟩,?_⟩
  ·exact (Ze4 (f:=Zf2) (sz:=3) Zh2 (w.alloc (.cells #[.slice (some ⟨w.heap.size+1,0,none⟩) 2 2,.slice (some ⟨w.heap.size+1+1,0,none⟩) 4 4,.slice (some ⟨w.heap.size+1+1+1,0,none⟩) 4 4,.slice (some ⟨w.heap.size+1+1+1+1,0,none⟩) 4 4,.slice (some ⟨w.heap.size+1+1+1+1+1,0,none⟩) 4 4,.string ⟨#[53]⟩] 51)) wShip.hs #[.int .i64 0,.int .i64 2,.int .i64 40,.int .i64 2,.int .i64 4,.int .i64 40] rfl 63 2 2 rfl (by decide) (w.heap.size+1) (by simp)).later (by repeat (first|exact Below.refl _ _|refine .Za ?_ _))
  ·exact (Ze4 (f:=encI) (sz:=1) (fun _=>rfl) ((w.alloc (.cells #[.slice (some ⟨w.heap.size+1,0,none⟩) 2 2,.slice (some ⟨w.heap.size+1+1,0,none⟩) 4 4,.slice (some ⟨w.heap.size+1+1+1,0,none⟩) 4 4,.slice (some ⟨w.heap.size+1+1+1+1,0,none⟩) 4 4,.slice (some ⟨w.heap.size+1+1+1+1+1,0,none⟩) 4 4,.string ⟨#[53]⟩] 51)).alloc (.cells #[.int .i64 0,.int .i64 2,.int .i64 40,.int .i64 2,.int .i64 4,.int .i64 40] 63)) wShip.wt #[.int .i64 10,.int .i64 10,.int .i64 10,.int .i64 10] rfl 3 4 4 rfl (by decide) (w.heap.size+1+1) (by simp)).later (by repeat (first|exact Below.refl _ _|refine .Za ?_ _))
  ·exact (Ze4 (f:=encQ) (sz:=1) (fun _=>rfl) (((w.alloc (.cells #[.slice (some ⟨w.heap.size+1,0,none⟩) 2 2,.slice (some ⟨w.heap.size+1+1,0,none⟩) 4 4,.slice (some ⟨w.heap.size+1+1+1,0,none⟩) 4 4,.slice (some ⟨w.heap.size+1+1+1+1,0,none⟩) 4 4,.slice (some ⟨w.heap.size+1+1+1+1+1,0,none⟩) 4 4,.string ⟨#[53]⟩] 51)).alloc (.cells #[.int .i64 0,.int .i64 2,.int .i64 40,.int .i64 2,.int .i64 4,.int .i64 40] 63)).alloc (.cells #[.int .i64 10,.int .i64 10,.int .i64 10,.int .i64 10] 3)) wShip.ca #[.string ⟨#[49]⟩,.string ⟨#[49]⟩,.string ⟨#[49]⟩,.string ⟨#[49]⟩] (by show _=(#[Value.string (txq 1),Value.string (txq 1),Value.string (txq 1),Value.string (txq 1)]:Array Value);rw [Zrb]) 32 4 4 rfl (by decide) (w.heap.size+1+1+1) (by simp)).later (by repeat (first|exact Below.refl _ _|refine .Za ?_ _))
  ·exact (Ze4 (f:=encI) (sz:=1) (fun _=>rfl) ((((w.alloc (.cells #[.slice (some ⟨w.heap.size+1,0,none⟩) 2 2,.slice (some ⟨w.heap.size+1+1,0,none⟩) 4 4,.slice (some ⟨w.heap.size+1+1+1,0,none⟩) 4 4,.slice (some ⟨w.heap.size+1+1+1+1,0,none⟩) 4 4,.slice (some ⟨w.heap.size+1+1+1+1+1,0,none⟩) 4 4,.string ⟨#[53]⟩] 51)).alloc (.cells #[.int .i64 0,.int .i64 2,.int .i64 40,.int .i64 2,.int .i64 4,.int .i64 40] 63)).alloc (.cells #[.int .i64 10,.int .i64 10,.int .i64 10,.int .i64 10] 3)).alloc (.cells #[.string ⟨#[49]⟩,.string ⟨#[49]⟩,.string ⟨#[49]⟩,.string ⟨#[49]⟩] 32)) wShip.sh #[.int .i64 20,.int .i64 20,.int .i64 20,.int .i64 20] rfl 3 4 4 rfl (by decide) (w.heap.size+1+1+1+1) (by simp)).later (by repeat (first|exact Below.refl _ _|refine .Za ?_ _))
  ·exact (Ze4 (f:=encI) (sz:=1) (fun _=>rfl) (((((w.alloc (.cells #[.slice (some ⟨w.heap.size+1,0,none⟩) 2 2,.slice (some ⟨w.heap.size+1+1,0,none⟩) 4 4,.slice (some ⟨w.heap.size+1+1+1,0,none⟩) 4 4,.slice (some ⟨w.heap.size+1+1+1+1,0,none⟩) 4 4,.slice (some ⟨w.heap.size+1+1+1+1+1,0,none⟩) 4 4,.string ⟨#[53]⟩] 51)).alloc (.cells #[.int .i64 0,.int .i64 2,.int .i64 40,.int .i64 2,.int .i64 4,.int .i64 40] 63)).alloc (.cells #[.int .i64 10,.int .i64 10,.int .i64 10,.int .i64 10] 3)).alloc (.cells #[.string ⟨#[49]⟩,.string ⟨#[49]⟩,.string ⟨#[49]⟩,.string ⟨#[49]⟩] 32)).alloc (.cells #[.int .i64 20,.int .i64 20,.int .i64 20,.int .i64 20] 3)) wShip.be #[.int .i64 30,.int .i64 30,.int .i64 30,.int .i64 30] rfl 3 4 4 rfl (by decide) (w.heap.size+1+1+1+1+1) (by simp)).later (by repeat (first|exact Below.refl _ _|refine .Za ?_ _))
  ·repeat (first|exact Below.refl _ _|refine .Za ?_ _)
theorem Zfg:ShOk wShip:=by
  refine ⟨by decide,by decide,rfl,rfl,rfl,?_,?_,?_,?_,by decide,by decide,?_,?_,by decide,⟨by decide,by decide⟩⟩
  ·intro x hx;obtain rfl:x=10:=by simp [wShip] at hx;exact hx
   exact ⟨by decide,by decide⟩
  ·intro x hx;obtain rfl:x=1:=by simp [wShip] at hx;exact hx
   exact ⟨⟨by decide,by decide⟩,by decide⟩
  ·intro x hx;obtain rfl:x=20:=by simp [wShip] at hx;exact hx
   exact ⟨by decide,by decide⟩
  ·intro x hx;obtain rfl:x=30:=by simp [wShip] at hx;exact hx
   exact ⟨by decide,by decide⟩
  ·intro k h;have hk:k<2:=h
   rcases (by omega:k=0∨k=1) with rfl|rfl
   ·exact ⟨(by decide:(0:Int)<=0),(by decide:(0:Int)<2),(by decide:(2:Int)<=((4:Nat):Int)),(by decide:(0:Int)<=40),(by decide:(40:Int)<=999999999)⟩
   ·exact ⟨(by decide:(0:Int)<=2),(by decide:(2:Int)<4),(by decide:(4:Int)<=((4:Nat):Int)),(by decide:(0:Int)<=40),(by decide:(40:Int)<=999999999)⟩
  ·intro k h;have hk:k+1<2:=h;obtain rfl:k=0:=by omega
   exact (by decide:(2:Int)<=2)
theorem Zfh (a b:Int) (ha:MsP a) (hb:MsP b):CgOk wShip [a,b]:=⟨rfl,fun x hx=>by
  rcases List.mem_cons.1 hx with rfl|hx
  ·exact ha
  ·obtain rfl:=List.mem_singleton.1 hx;exact hb⟩
theorem Zmv (w:World) (v1 v2:Value) (qs:List Rat) (h1:Sl encQ 1 w w.heap.size v1 qs) (h2:Sl encQ 1 w w.heap.size v2 qs):Calls Tryz.prog 71 #[v1,v2] w (Ret (.bool true) w):=by
  obtain ⟨a1,c1,rfl,hl,p1⟩:=h1;obtain ⟨a2,c2,rfl,-,p2⟩:=h2;have HP1:=Zh p1;have HP2:=Zh p2;obtain ⟨n,hn⟩: ∃n,qs.length=n:=⟨_,rfl⟩;have HN:=Zh hn;rw [hn] at hl ⊢;clear hn p1 p2;go_enter Tryz.func71,Tryz.ntmps71;go_wp2_with fail
  go_loopw [5] (fun i wr=> ∃k:Nat,k<=n/\i= .int .i64 k/\Hid (Below w.heap.size w wr)) (fun i _=>n-(intOf i).toNat)
  case atStart=>exact ⟨0,by omega,rfl,Zh (Below.refl _ _)⟩
  case round=>
    obtain ⟨k,hk,rfl,HBE⟩:=hrel
    by_cases hlt:k<n
    ·have hk1:k<qs.length:=by rw [HN.out];exact hlt
     obtain ⟨b1,o1,rfl,l1,q1⟩:=HP1.out (by omega);obtain ⟨b2,o2,rfl,l2,q2⟩:=HP2.out (by omega);have d1:=((q1 k hk1).below HBE.out l1) 0 _ rfl;have d2:=((q2 k hk1).below HBE.out l2) 0 _ rfl;rw [Nat.mul_one,Nat.add_zero] at d1 d2;have e1:b1<wr.heap.size:=Nat.lt_of_lt_of_le l1 HBE.size;have e2:b2<wr.heap.size:=Nat.lt_of_lt_of_le l2 HBE.size;generalize txq qs[k]=T at *;clear q1 q2 HP1 HP2;go_wp2_with fail;refine Zaf (by kernel_rfl) (by kernel_rfl) ?_
     repeat go_big_quiet_step (fail)
     refine wpQuiet_nil ?_;rintro w14 ⟨⟨_,hb14⟩,rfl⟩;have HB14:=Zh (HBE.Zg hb14);clear hb14 d1 d2;go_wp2_with fail;go_roundw
     case rel=>exact ⟨k+1,by omega,by go_num,HB14⟩
     case measure=>simp [intOf];omega
    ·obtain rfl:n=k:=by omega
     clear HP1 HP2;go_wp2_with fail;go_ret;exact ⟨rfl,HBE.out⟩
theorem Zkl:trmR (cF wShip) (lF wShip [20,0]) wShip.wt.length= -4:=by decide+kernel
theorem Zf5:sheL wShip [20,0]=[-1,2,-1,0]:=by decide+kernel
theorem Zc5:txq (-1)=⟨#[45,49]⟩/\txq 2=⟨#[50]⟩/\txq 0=⟨#[48]⟩/\txq (-4)=⟨#[45,52]⟩:=⟨by kernel_rfl,by kernel_rfl,by kernel_rfl,by kernel_rfl⟩
def keyL (ms:List Int):List UInt8:=ms.flatMap fun z=>Lib.itoa z++ [32]
theorem Zmw (ms:List Int) (k:Nat) (h:k<ms.length):keyL (ms.take (k+1))=keyL (ms.take k)++(Lib.itoa ms[k]++ [32]):=by
  unfold keyL;rw [List.take_succ_eq_append_getElem h,List.flatMap_append];simp
theorem Zmx {z:Int} (h:MsP z):(Lib.itoa z).length<=10:=Zd0 (k:=9) (by decide) (by have:=h.1;have:=h.2;omega)
theorem Zhd: ∀ (ms:List Int),(∀z∈ms,MsP z)->(keyL ms).length<=11* ms.length
  | [],_=>by simp [keyL]
  | z::ms,h=>by
    have h1:=Zhd ms (fun x hx=>h x (by simp [hx]));have h2:=Zmx (h z (by simp));have e:keyL (z::ms)=(Lib.itoa z++ [32])++keyL ms:=by simp [keyL]
    rw [e,List.length_append,List.length_append,List.length_cons,List.length_cons,List.length_nil];omega
theorem Zsp (w:World) (hw:TbR w) (v:Value) (ms:List Int) (h:Sl encI 1 w w.heap.size v ms) (hm: ∀z∈ms,MsP z) (hn1:ms.length<=1000):Calls Tryz.prog 149 #[v] w (Ret (.string (tx (keyL ms))) w):=by
  obtain ⟨a,c,rfl,hl,p⟩:=h;have HP:=Zh p;have HIT:=Zh (fun (u:World) (hb:Below w.heap.size w u) (k:Nat) (hk:k<ms.length)=>(by have:=hm _ (List.getElem_mem hk);exact Zlh u (hw.later hb) ms[k] (by omega) (by omega):Calls Tryz.prog 220 #[.int .i64 ms[k]] u (Ret (.string (txz ms[k])) u)));have HKS:=Zh (fun (k:Nat) (h:k<ms.length)=>(show tx (keyL (ms.take k))++(txz ms[k]++⟨#[32]⟩)=tx (keyL (ms.take (k+1))) from by
    rw [Zmw ms k h,show (⟨#[32]⟩:ByteArray)=tx [32] from rfl,show txz ms[k]=tx (Lib.itoa ms[k]) from rfl,Zcv,Zcv]))
  have HSZ:=Zh (fun (k:Nat) (h:k<ms.length)=>(show (tx (keyL (ms.take k))).size<=11000/\(txz ms[k]).size<=10 from ⟨by
    rw [Zag];have:=Zhd (ms.take k) (fun z hz=>hm z (List.mem_of_mem_take hz));rw [List.length_take] at this;omega,by rw [show txz ms[k]=tx (Lib.itoa ms[k]) from rfl,Zag];exact Zmx (hm _ (List.getElem_mem h))⟩))
  obtain ⟨n,hn⟩: ∃n,ms.length=n:=⟨_,rfl⟩;have HN:=Zh hn;have HALL:=Zh (show keyL (ms.take n)=keyL ms by rw [List.take_of_length_le (by omega)]);rw [hn] at hl hn1 ⊢;clear hn p hm hw;go_enter Tryz.func149,Tryz.ntmps149;go_wp2_with fail
  go_loopw [3,8] (fun s i wr=> ∃k:Nat,k<=n/\i= .int .i64 k/\s= .string (tx (keyL (ms.take k)))/\Hid (Below w.heap.size w wr)) (fun _ i _=>n-(intOf i).toNat)
  case atStart=>exact ⟨0,by omega,rfl,rfl,Zh (Below.refl _ _)⟩
  case round=>
    obtain ⟨k,hk,rfl,rfl,HBE⟩:=hrel
    by_cases hlt:k<n
    ·have hk1:k<ms.length:=by rw [HN.out];exact hlt
     obtain ⟨b1,o1,rfl,l1,q1⟩:=HP.out (by omega);have d1:=((q1 k hk1).below HBE.out l1) 0 _ rfl;rw [Nat.mul_one,Nat.add_zero] at d1;have e1:b1<wr.heap.size:=Nat.lt_of_lt_of_le l1 HBE.size;have HS:=Zh (HIT.out _ HBE.out k hk1);have HK:=Zh (HKS.out k hk1);obtain ⟨z1,z2⟩:=HSZ.out k hk1;clear q1 HP HIT HKS HALL HSZ;obtain ⟨S2,hS2⟩: ∃S,tx (keyL (ms.take (k+1)))=S:=⟨_,rfl⟩;rw [hS2] at HK;have HS2:=Zh hS2;clear hS2;generalize tx (keyL (ms.take k))=S1 at *;generalize txz ms[k]=T at *;generalize ms[k]=z at *;have z3:(⟨#[32]⟩:ByteArray).size=1:=rfl;have z4:(T++⟨#[32]⟩:ByteArray).size<=11:=by rw [ByteArray.size_append];omega
     go_wp2_with fail;refine HS.mono ?_;rintro e5 w5 ⟨rfl,hb⟩;have HB5:=Zh (HBE.Zg hb);clear hb d1;go_wp2_with fail;go_roundw
     case rel=>exact ⟨k+1,by omega,by go_num,by rw [HK.out,HS2.out],HB5⟩
     case measure=>simp [intOf];omega
    ·obtain rfl:n=k:=by omega
     clear HP HIT HKS HSZ;rw [HALL.out];go_wp2_with fail;go_ret;exact ⟨rfl,HBE.out⟩
def sumI:List Int->Int
  | []=>0
  | z::l=>z+sumI l
theorem Zou (a b:List Int):sumI (a++b)=sumI a+sumI b:=by
  induction a with
  | nil=>simp [sumI]
  | cons z a ih=>simp only [List.cons_append,sumI,ih];omega
theorem Zmy (l:List Int) (k:Nat) (h:k<l.length):sumI (l.take (k+1))=sumI (l.take k)+l[k]:=by
  rw [List.take_succ_eq_append_getElem h,Zou];simp [sumI]
theorem Zmz: ∀ (l:List Int),(∀z∈l,MsP z)->0<=sumI l/\sumI l<=999999999* (l.length:Int)
  | [],_=>by simp [sumI]
  | z::l,h=>by
    have h1:=Zmz l (fun x hx=>h x (by simp [hx]));have h2:=h z (by simp);simp only [sumI,List.length_cons];omega
theorem Zkm (w:World) (v:Value) (ms:List Int) (h:Sl encI 1 w w.heap.size v ms) (hm: ∀z∈ms,MsP z) (hn1:ms.length<=1000) (hpos:sumI ms≠0):Calls Tryz.prog 130 #[v] w (Ret (.tuple #[.int .i64 (sumI ms),.int .i64 0]) w):=by
  obtain ⟨a,c,rfl,hl,p⟩:=h;have HP:=Zh p;have HKS:=Zh (fun (k:Nat) (h:k<ms.length)=>Zmy ms k h);have HSZ:=Zh (fun (k:Nat) (h:k<ms.length)=>(show 0<=sumI (ms.take k)/\sumI (ms.take k)<=999999999000/\MsP ms[k] from by
    have:=Zmz (ms.take k) (fun z hz=>hm z (List.mem_of_mem_take hz));rw [List.length_take] at this;exact ⟨this.1,by omega,hm _ (List.getElem_mem h)⟩))
  obtain ⟨n,hn⟩: ∃n,ms.length=n:=⟨_,rfl⟩;have HN:=Zh hn;have HALL:=Zh (show sumI (ms.take n)=sumI ms by rw [List.take_of_length_le (by omega)]);rw [hn] at hl hn1 ⊢;clear hn p hm;obtain ⟨S,hS⟩: ∃S,sumI ms=S:=⟨_,rfl⟩;rw [hS] at hpos HALL ⊢;have g0:(S==0)=false:=beq_eq_false_iff_ne.2 hpos;clear hS hpos;go_enter Tryz.func130,Tryz.ntmps130;go_wp2_with fail
  go_loopw [4,9] (fun s i wr=> ∃k:Nat,k<=n/\i= .int .i64 k/\s= .int .i64 (sumI (ms.take k))/\Hid (Below w.heap.size w wr)) (fun _ i _=>n-(intOf i).toNat)
  case atStart=>exact ⟨0,by omega,rfl,rfl,Zh (Below.refl _ _)⟩
  case round=>
    obtain ⟨k,hk,rfl,rfl,HBE⟩:=hrel
    by_cases hlt:k<n
    ·have hk1:k<ms.length:=by rw [HN.out];exact hlt
     obtain ⟨b1,o1,rfl,l1,q1⟩:=HP.out (by omega);have d1:=((q1 k hk1).below HBE.out l1) 0 _ rfl;rw [Nat.mul_one,Nat.add_zero] at d1;have e1:b1<wr.heap.size:=Nat.lt_of_lt_of_le l1 HBE.size;obtain ⟨z1,z2,z3,z4⟩:=HSZ.out k hk1;have HK:=Zh (HKS.out k hk1);clear q1 HP HKS HALL HSZ;obtain ⟨S2,hS2⟩: ∃S2,sumI (ms.take (k+1))=S2:=⟨_,rfl⟩;rw [hS2] at HK;have HS2:=Zh hS2;clear hS2;generalize sumI (ms.take k)=S1 at *;generalize ms[k]=z at *;have f1:decide (z<0)=false:=Zf (by omega);have f2:decide (999999999<z)=false:=Zf (by omega);go_wp2_with fail;go_roundw
     case rel=>exact ⟨k+1,by omega,by go_num,by rw [HS2.out,HK.out],HBE⟩
     case measure=>simp [intOf];omega
    ·obtain rfl:n=k:=by omega
     clear HP HKS HSZ;rw [HALL.out];go_wp2_with fail;refine bodyPost_ret (v:= .tuple #[.int .i64 S,.int .i64 0]) (by simp [results,Tryz.results130,go_sem, *]) rfl ?_;exact ⟨rfl,HBE.out⟩
theorem Zh7 (w:World) (r c:Nat) (p1 p2 p3:Value) (h0:w.cell? ⟨r,0,none⟩=some (.int .i64 0)) (h1:w.cell? ⟨r,1,none⟩=some (.int .i64 1)) (hr:r<w.heap.size)
    (hc: ∀u,Below w.heap.size w u->Calls Tryz.prog 280 #[.int .i64 1,.int .i64 0,p1,p2,p3] u (Ret (.int .i64 0) u)):
    Calls Tryz.prog 389 #[.slice (some ⟨r,0,none⟩) 2 c,.int .i64 0,.int .i64 2,.func (.func 280) #[] #[p1,p2,p3]] w (fun e w'=>(∃v,e= .returned v)/\Below w.heap.size w w'):=by
 have HC:=Zh hc;have H0:=Zh h0;have H1:=Zh h1;clear hc h0 h1;go_enter Tryz.func389,Tryz.ntmps389;go_wp2_with fail
 go_loopw [8] (fun i wr=>Hid (Below w.heap.size w wr)/\(i= .int .i64 1∨i= .int .i64 2)) (fun i _=>2-(intOf i).toNat)
 case atStart=>exact ⟨Zh (Below.refl _ _),.inl rfl⟩
 case round=>
   obtain ⟨HBE,rfl|rfl⟩:=hrel
   ·go_wp2_with fail
    go_loopw [9] (fun i wi=>Hid (Below w.heap.size w wi)/\i= .int .i64 1) (fun i _=>2-(intOf i).toNat)
    case atStart=>exact ⟨HBE,rfl⟩
    case round=>
      obtain ⟨HBI,rfl⟩:=hrel;have d0:=(HBI.cell (p:=⟨r,0,none⟩) hr).trans H0.out;have d1:=(HBI.cell (p:=⟨r,1,none⟩) hr).trans H1.out;have hb1:r<wr.heap.size:=Nat.lt_of_lt_of_le hr HBI.size;go_wp2_with fail;refine Za3 14 (by kernel_rfl) (by kernel_rfl) ?_;simp only [Z2,Z6,Z3,Z7]
      repeat go_big_quiet_step (fail)
      refine wpQuiet_nil ?_;rintro w14 ⟨⟨_,hb14⟩,rfl⟩;have HB14:=Zh (HBI.Zg hb14);have HS:=Zh (HC.out _ HB14.out);clear hb14 d0 d1 hb1;go_wp2_with fail;refine HS.mono ?_;rintro e4 w4 ⟨rfl,hb4⟩;have HB4:=Zh (HB14.Zg hb4);clear hb4;go_wp2_with fail;go_roundw
      case rel=>exact ⟨HB4,.inr rfl⟩
      case measure=>simp [intOf]
   ·go_wp2_with fail;refine bodyPost_end (v:= .tuple #[]) (by simp [results,Tryz.results389,go_sem, *]) rfl ?_;exact ⟨⟨_,rfl⟩,HBE.out⟩
theorem Zm0 (w:World) (r c:Nat) (p1 p2 p3:Value) (h0:w.cell? ⟨r,0,none⟩=some (.int .i64 0)) (h1:w.cell? ⟨r,1,none⟩=some (.int .i64 1)) (hr:r<w.heap.size)
    (hc: ∀u,Below w.heap.size w u->Calls Tryz.prog 280 #[.int .i64 1,.int .i64 0,p1,p2,p3] u (Ret (.int .i64 0) u)):
    Calls Tryz.prog 337 #[.slice (some ⟨r,0,none⟩) 2 c,.int .i64 2,.func (.func 280) #[] #[p1,p2,p3]] w (fun e w'=>(∃v,e= .returned v)/\Below w.heap.size w w'):=by
 have HS:=Zh (Zh7 w r c p1 p2 p3 h0 h1 hr hc);clear h0 h1 hr hc;go_enter Tryz.func337,Tryz.ntmps337;go_wp2_with fail
 go_loopw [7,8] (fun a b wr=>wr=w/\a= .int .i64 0/\b= .int .i64 20) (fun _ _ _=>0)
 case atStart=>exact ⟨rfl,rfl,rfl⟩
 case round=>
   obtain ⟨rfl,rfl,rfl⟩:=hrel;go_wp2_with fail;refine HS.mono ?_;rintro e4 w4 ⟨⟨v,rfl⟩,hb⟩;have HB:=Zh hb;clear hb HS;go_wp2_with fail
   go_loopw [6] (fun a wi=>wi=w4/\a= .int .i64 20) (fun _ _=>0)
   case atStart=>exact ⟨rfl,rfl⟩
   case round=>
     obtain ⟨rfl,rfl⟩:=hrel;go_wp2_with fail;refine bodyPost_end (v:= .tuple #[]) (by simp [results,Tryz.results337,go_sem, *]) rfl ?_;exact ⟨⟨_,rfl⟩,HB.out⟩
theorem Zrc (w:World) (r c:Nat) (p1 p2 p3:Value) (h0:w.cell? ⟨r,0,none⟩=some (.int .i64 0)) (h1:w.cell? ⟨r,1,none⟩=some (.int .i64 1)) (hr:r<w.heap.size)
    (hc: ∀u,Below w.heap.size w u->Calls Tryz.prog 280 #[.int .i64 1,.int .i64 0,p1,p2,p3] u (Ret (.int .i64 0) u)):
    Calls Tryz.prog 279 #[.slice (some ⟨r,0,none⟩) 2 c,.func (.func 280) #[] #[p1,p2,p3]] w (fun e w'=>(∃v,e= .returned v)/\Below w.heap.size w w'):=by
 have HS:=Zh (Zm0 w r c p1 p2 p3 h0 h1 hr hc);clear h0 h1 hr hc;go_enter Tryz.func279,Tryz.ntmps279;go_wp2_with fail;refine HS.mono ?_;rintro e4 w4 ⟨⟨v,rfl⟩,hb⟩;have HB:=Zh hb;clear hb HS;go_wp2_with fail;refine bodyPost_end (v:= .tuple #[]) (by simp [results,Tryz.results279,go_sem, *]) rfl ?_;exact ⟨⟨_,rfl⟩,HB.out⟩
theorem Zsq (w:World):Calls Tryz.prog 278 #[.int .u64 1,.int .u64 2] w (Ret (.tuple #[.int .u64 0,.int .u64 2]) w):=by
  have HS:=Zh (Tryz.bits_Mul64 1 2 (by decide) (by decide) w);go_enter Tryz.func278,Tryz.ntmps278;go_wp2_with fail;refine HS.mono ?_;rintro e4 w4 ⟨rfl,rfl⟩;go_wp2_with fail;refine bodyPost_ret (v:= .tuple #[.int .u64 0,.int .u64 2]) (by simp [results,Tryz.results278,go_sem, *]) rfl ?_;exact ⟨rfl,Below.refl _ _⟩
theorem Zov:(Tryz.prog.info? 3).map (fun i=>(i.zero,i.size,i.bytes))=some (some (.int .i64 0),1,8):=by kernel_rfl
theorem Zjr {α:Type} {f:α->List Value} {sz:Nat} (hf: ∀x,(f x).length=sz) {w:World} {g:Nat} {e:TypeId} (l:List α) (hB:Box w g e (l.flatMap f)) (n c:Nat) (hn:l.length=n) (hl:n<=1000000):
    Sl f sz w w.heap.size (.slice (some ⟨g,0,none⟩) n c) l:=by
 subst hn;refine ⟨_,c,rfl,by omega,fun _=>⟨g,0,rfl,hB.lt,fun i h j u hu=> ?_⟩⟩;have hj:j<sz:=by
   rw [<-hf l[i]];exact (List.getElem?_eq_some_iff.1 hu).1
 rw [hB.cell,show 0+i* sz+j=i* sz+j by omega,Zci f sz hf l i h j hj];exact hu
theorem Zjs (w:World) (g o dl dc b q sl sc:Nat) (vs:List Value) (z:Int) (hB:Box w g 3 vs) (ho:o<vs.length) (hn:Nat.min sl dl=1) (hc:w.cell? ⟨b,q,none⟩=some (.int .i64 z)):
    (Builtin.copy_ #[27,27] 3 #[.slice (some ⟨g,o,none⟩) dl dc,.slice (some ⟨b,q,none⟩) sl sc]).run Tryz.prog w= .ok (.int .i64 1) (w.setCell ⟨g,o,none⟩ (.int .i64 z)):=by
 have h:=run_copy_cells (P:=Tryz.prog) w 27 27 3 3 g o dl dc ⟨b,q,none⟩ sl sc [.int .i64 z] Tryz.underlying27 (by kernel_rfl) hn.symm (fun j v hj=>by
   obtain rfl:j=0:=by have:=(List.getElem?_eq_some_iff.1 hj).1;simp at this;omega
   simp at hj;subst hj;exact hc) (fun j hj=>by
   obtain rfl:j=0:=by simp at hj;omega
   rw [Nat.add_zero,hB.cell,List.getElem?_eq_getElem ho];rfl) (fun j hj=>hB.frozen _) (fun v hv=>by
   obtain rfl:=List.mem_singleton.1 hv;rfl)
 exact h
theorem Zm1 (w:World) (v:Value) (h:Sl encI 1 w w.heap.size v [1]):Calls Tryz.prog 216 #[v,.int .i64 2] w (fun e w'=> ∃v',e= .returned v'/\Sl encI 1 w' w'.heap.size v' [1,1]/\Below w.heap.size w w'):=by
  obtain ⟨a,c,rfl,-,p⟩:=h;obtain ⟨b,o,rfl,l1,q⟩:=p (by simp);have d1:=q 0 (by simp) 0 _ rfl;rw [Nat.mul_one,Nat.add_zero] at d1;have d2:w.cell? ⟨b,o,none⟩=some (.int .i64 1):=d1;clear d1 p q;simp only [List.length_cons,List.length_nil];have HM:=Zh (fun (u:World)=>Zsq u);go_enter Tryz.func216,Tryz.ntmps216;go_wp2_with fail;refine (HM.out _).mono ?_;rintro e4 w4 ⟨rfl,hb⟩;have HB:=Zh hb;have HIN:=Zh Zov;have d3:=hb.cell (p:=⟨b,o,none⟩) l1;rw [d2] at d3;clear d2 hb;go_wp2_with (at_make;refine Zbu encI 1 (fun _=>rfl) (by decide) 0 (.int .i64 0) rfl 27 3 8 Tryz.underlying27 HIN.out (by decide) w4.heap.size w4 2 (by omega) (Nat.le_refl _) rfl _ _ rfl .i64 .i64 rfl rfl ?_;intro w3 ho3 hg3);have hB:Box w3 w4.heap.size 3 [.int .i64 0,.int .i64 0]:=Own.box ho3;have hb3:Below w4.heap.size w4 w3:=⟨hg3.os,hg3.tape,hg3.output,hg3.size,fun k hk=>hg3.block k hk (by simp)⟩;have hlt:=hB.lt;have hbw:b<w4.heap.size:=Nat.lt_of_lt_of_le l1 HB.size;have d4:w3.cell? ⟨b,o,none⟩=some (.int .i64 1):=(hb3.cell (p:=⟨b,o,none⟩) hbw).trans d3;have HB3:=Zh (HB.Zg hb3);have hsz4:w.heap.size<=w4.heap.size:=HB.size;have hcp:=Zjs w3 w4.heap.size 0 2 2 b o 1 c [.int .i64 0,.int .i64 0] 1 hB (by decide) (by decide) d4;have hB2:=Zh (Box.set hB 0 (.int .i64 1):Box (w3.setCell ⟨w4.heap.size,0,none⟩ (.int .i64 1)) w4.heap.size 3 [.int .i64 1,.int .i64 0]);have HB4:=Zh (show Below w.heap.size w (w3.setCell ⟨w4.heap.size,0,none⟩ (.int .i64 1)) from HB3.setCell hsz4 _);clear d3 d4 hB hb3 ho3 hg3;rw [hcp];go_wp2_with fail;generalize w3.setCell ⟨w4.heap.size,0,none⟩ (.int .i64 1)=w5 at *;clear hcp
  go_loopw [8] (fun i wr=>Hid (Below w.heap.size w wr)/\((i= .int .i64 1/\Hid (Box wr w4.heap.size 3 [.int .i64 1,.int .i64 0]))∨(i= .int .i64 2/\Hid (Box wr w4.heap.size 3 [.int .i64 1,.int .i64 1])))) (fun i _=>2-(intOf i).toNat)
  case atStart=>exact ⟨HB4,.inl ⟨rfl,hB2⟩⟩
  case round=>
    obtain ⟨HBE,⟨rfl,HX⟩|⟨rfl,HX⟩⟩:=hrel
    ·clear hB2 HB4;go_wp2_with fail;refine Zcl 8 7 [.pure,.pure,.pure,.rel,.pure,.pure,.rel,.app] (kxs [.is (.int .i64 1),.is (.slice (some ⟨w4.heap.size,0,none⟩) 2 2),.is (.int .i64 1),.is (.slice (some ⟨w4.heap.size,1,none⟩) 1 1),.is (.slice (some ⟨w4.heap.size,0,none⟩) 2 2),.is (.int .i64 1),.is (.slice (some ⟨w4.heap.size,0,none⟩) 1 2),.is undef]) (fun v u=>v= .int .i64 1/\Below w.heap.size w u/\Box u w4.heap.size 3 [.int .i64 1,.int .i64 1]) (by kernel_rfl) (by kernel_rfl) (by kernel_rfl) (fun j v u u' h hb=>Kx.later h hb) (fun j hj v u u' h=>Zg0 [.pure,.pure,.pure,.rel,.pure,.pure,.rel,.app] _ (by kernel_rfl) j hj h) ?_ ?_
     ·refine ⟨?_,?_,?_,?_,?_,?_,?_,?_,trivial⟩
      all_goals
        first|intro vs u hu hR|intro vs u hR
        simp only [Zac,Z2,Z6,Act.put,Z1,Z4,Z5]
      rotate_left;rotate_left;rotate_left;have e1:vs 1=_:=Zr hR 1;have e2:vs 2=_:=Zr hR 2;rotate_left;rotate_left;rotate_left;have e4:vs 4=_:=Zr hR 4;have e5:vs 5=_:=Zr hR 5;rotate_left
      ·have e3:vs 3=_:=Zr hR 3;have e6:vs 6=_:=Zr hR 6;have hX14:=HX.later hu;have HB14:=Zh (HBE.Zg hu);have hcp:=Zjs u w4.heap.size 1 1 1 w4.heap.size 0 1 2 [.int .i64 1,.int .i64 0] 1 hX14 (by decide) (by decide) (hX14.cell 0);have HX15:=Zh (Box.set hX14 1 (.int .i64 1):Box (u.setCell ⟨w4.heap.size,1,none⟩ (.int .i64 1)) w4.heap.size 3 [.int .i64 1,.int .i64 1]);have HB15:=Zh (show Below w.heap.size w (u.setCell ⟨w4.heap.size,1,none⟩ (.int .i64 1)) from HB14.setCell hsz4 _);clear hX14 hR hu;go_wp2_with fail;exact ⟨rfl,rfl,_,_,rfl,rfl,rfl,HB15.out,HX15.out⟩
      all_goals
        clear hR
        try clear hu
        go_wp2_with fail
        first|exact ⟨rfl,rfl,_,_,rfl,rfl,rfl,rfl⟩|exact ⟨rfl,rfl,_,_,rfl,rfl,Below.refl _ _,rfl⟩
     ·intro vs u hap hR;obtain ⟨e7,hb15,hx15⟩:=hap;have HB15:=Zh hb15;have HX15:=Zh hx15;have e0:vs 0= .int .i64 1:=hR (0) (by decide) (by kernel_rfl);simp only [Zac,Z3,Z7,Z2,Z6,Act.put,Z1,Z4,Z5,e0,e7];clear hR hb15 hx15 e0 e7;go_wp2_with fail;go_roundw
      case rel=>exact ⟨HB15,.inr ⟨rfl,HX15⟩⟩
      case measure=>simp [intOf]
    ·go_wp2_with fail;go_ret;exact ⟨_,rfl,Zjr (f:=encI) (sz:=1) (fun _=>rfl) [1,1] HX.out 2 2 rfl (by decide),HBE.out⟩
theorem Zow (w:World) (z:Int):Calls Tryz.prog 338 #[.int .i64 z] w (Ret (.bool false) w):=by
  go_enter Tryz.func338,Tryz.ntmps338;go_wp2_with fail;go_ret;exact ⟨rfl,Below.refl _ _⟩
theorem Zkn (w:World) (z:Int):Calls Tryz.prog 281 #[.int .i64 z,.int .i64 z] w (Ret (.int .i64 0) w):=by
  have H:=Zh (fun (u:World)=>Zow u z);have f1:decide (z<z)=false:=Zf (by omega);go_enter Tryz.func281,Tryz.ntmps281;go_wp2_with fail;refine (H.out _).mono ?_;rintro e4 w4 ⟨rfl,hb4⟩;have HB4:=Zh hb4;clear hb4;go_wp2_with fail;refine (H.out _).mono ?_;rintro e5 w5 ⟨rfl,hb5⟩;have HB5:=Zh (HB4.Zg hb5);clear hb5;go_wp2_with fail;go_ret;exact ⟨rfl,HB5.out⟩
theorem Zox (w:World) (bz bw bt g o:Nat) (n c:Nat) (i j:Nat) (hz:w.cell? ⟨bz,0,none⟩=some (.int .i64 40)) (hw:w.cell? ⟨bw,0,none⟩=some (.slice (some ⟨g,o,none⟩) n c)) (ht:w.cell? ⟨bt,0,none⟩=some (.int .i64 2))
    (hg: ∀k,k<n->w.cell? ⟨g,o+k,none⟩=some (.int .i64 1)) (hi:i<n) (hj:j<n) (b1:bz<w.heap.size) (b2:bw<w.heap.size) (b3:bt<w.heap.size) (b4:g<w.heap.size):
    Calls Tryz.prog 280 #[.int .i64 i,.int .i64 j,.pointer (some ⟨bz,0,none⟩),.pointer (some ⟨bw,0,none⟩),.pointer (some ⟨bt,0,none⟩)] w (Ret (.int .i64 0) w):=by
 have H:=Zh (fun (u:World) (z:Int)=>Zkn u z);have d1:=hg i hi;have d2:=hg j hj;clear hg;go_enter Tryz.func280,Tryz.ntmps280;go_wp2_with fail;refine Za3 16 (by kernel_rfl) (by kernel_rfl) ?_;simp only [Z2,Z6,Z3,Z7]
 repeat go_big_quiet_step (fail)
 refine wpQuiet_nil ?_;rintro w14 ⟨⟨_,hb14⟩,rfl⟩;have HB:=Zh hb14;clear hb14 hz hw ht d1 d2;go_wp2_with fail;refine (H.out _ _).mono ?_;rintro e4 w4 ⟨rfl,hb4⟩;have HB4:=Zh (HB.Zg hb4);clear hb4;go_wp2_with fail;go_ret;exact ⟨rfl,HB4.out⟩
theorem Zh8 (w:World) (v:Value) (h:Sl encI 1 w w.heap.size v [1,1]):Calls Tryz.prog 217 #[.int .i64 40,v] w (fun e w'=> ∃g,e= .returned (.tuple #[.slice (some ⟨g,0,none⟩) 2 2,.int .i64 0])/\w.heap.size<=g/\Box w' g 3 [.int .i64 20,.int .i64 20]/\Below w.heap.size w w'):=by
  have HW:=Zh (fun (u:World) (hb:Below w.heap.size w u)=>Zkm u v [1,1] (h.later hb) (fun z hz=>by
    obtain rfl:z=1:=by simp at hz;exact hz
    exact ⟨by decide,by decide⟩) (by simp) (by decide))
  have HIN:=Zh Zov;obtain ⟨a,c,rfl,-,p⟩:=h;obtain ⟨b,o,rfl,l1,q⟩:=p (by simp);have d0:=q 0 (by simp) 0 _ rfl;have d1:=q 1 (by simp) 0 _ rfl;rw [Nat.mul_one,Nat.add_zero] at d0 d1;have HD:=Zh (And.intro (show w.cell? ⟨b,o,none⟩=some (.int .i64 1) from d0) (show w.cell? ⟨b,o+1,none⟩=some (.int .i64 1) from d1));clear d0 d1 p q;have HW:=Zh (fun (u:World) (hb:Below w.heap.size w u)=>(by exact HW.out u hb:Calls Tryz.prog 130 #[.slice (some ⟨b,o,none⟩) 2 c] u (Ret (.tuple #[.int .i64 2,.int .i64 0]) u)));show Calls Tryz.prog 217 #[.int .i64 40,.slice (some ⟨b,o,none⟩) 2 c] w _;have HB_0:=Zh ((Below.refl w.heap.size w).alloc (Nat.le_refl _) (.cells #[.int .i64 40] 3));have HB:=Zh (HB_0.alloc HB_0.size (.cells #[.slice (some ⟨b,o,none⟩) 2 c] 27));have HX:=Zh ((Box.new w #[.int .i64 40] 3).alloc (.cells #[.slice (some ⟨b,o,none⟩) 2 c] 27));have HY:=Zh (Box.newAt (w.alloc (.cells #[.int .i64 40] 3)) #[.slice (some ⟨b,o,none⟩) 2 c] 27 (n:=w.heap.size+1) (by simp));have HS:=Zh (HW.out _ HB.out);go_enter Tryz.func217,Tryz.ntmps217;go_wp2_with fail;refine HS.mono ?_;rintro e4 w4 ⟨rfl,hb⟩;have HX4:=Zh (HX.later hb);have HY4:=Zh (HY.later hb);have HB4:=Zh (HB.Zg hb);have hsz4:=HB4.size;have hs4:w.heap.size+1<w4.heap.size:=HY4.lt;clear hb HX HY HB_0 HB HS HW;have hbx:Below w4.heap.size w4 (w4.alloc (.cells #[.int .i64 2] 3)):=(Below.refl _ _).alloc (Nat.le_refl _) _;have HX5:=Zh (HX4.later hbx);have HY5:=Zh (HY4.later hbx);have HT5:=Zh (Box.new w4 #[.int .i64 2] 3);have HB5:=Zh (HB4.Zg hbx);obtain ⟨x0,xf,xz⟩:=HX4.v1;obtain ⟨y0,yf,yz⟩:=HY4.v1;clear hbx;go_wp2_with (
    at_make
    refine Zbu encI 1 (fun _=>rfl) (by decide) 0 (.int .i64 0) rfl 27 3 8 Tryz.underlying27 HIN.out (by decide) 0 _ 2 (by omega) (Nat.zero_le _) rfl _ _ rfl .i64 .i64 rfl rfl ?_;intro w6 ho6 hg6;have hb6:Below (w4.alloc (.cells #[.int .i64 2] 3)).heap.size (w4.alloc (.cells #[.int .i64 2] 3)) w6:=⟨hg6.os,hg6.tape,hg6.output,hg6.size,fun k hk=>hg6.block k hk (by simp)⟩;have HX6:=Zh (HX5.later hb6);have HY6:=Zh (HY5.later hb6);have HT6:=Zh (HT5.later hb6);have HB6:=Zh (HB5.Zg hb6);have HR6:=Zh (Own.box ho6);have hs6:w4.heap.size+1<w6.heap.size:=by have h:=HR6.lt;simpa using h
    clear x0 xf xz y0 yf yz HX4 HY4 HX5 HY5 HT5 ho6 hg6 hb6;obtain ⟨x0,xf,xz⟩:=HX6.v1;obtain ⟨y0,yf,yz⟩:=HY6.v1;go_wp2_with (
      at_make
      refine Zbu encI 1 (fun _=>rfl) (by decide) 0 (.int .i64 0) rfl 27 3 8 Tryz.underlying27 HIN.out (by decide) 0 _ 2 (by omega) (Nat.zero_le _) rfl _ _ rfl .i64 .i64 rfl rfl ?_;intro w7 ho7 hg7;have hb7:Below w6.heap.size w6 w7:=⟨hg7.os,hg7.tape,hg7.output,hg7.size,fun k hk=>hg7.block k hk (by simp)⟩;have HX7:=Zh (HX6.later hb7);have HY7:=Zh (HY6.later hb7);have HT7:=Zh (HT6.later hb7);have HR7:=Zh (HR6.later hb7);have HB7:=Zh (HB6.Zg hb7);have HQ7:=Zh (Own.box ho7);clear x0 xf xz y0 yf yz HX6 HY6 HT6 HR6 ho7 hg7 hb7;obtain ⟨x0,xf,xz⟩:=HX7.v1;obtain ⟨y0,yf,yz⟩:=HY7.v1))
  go_loopw [10,47] (fun s i wr=>Hid (Below w.heap.size w wr)/\Hid (Box wr w.heap.size 3 [.int .i64 40])/\Hid (Box wr (w.heap.size+1) 27 [.slice (some ⟨b,o,none⟩) 2 c])/\Hid (Box wr w4.heap.size 3 [.int .i64 2])/\((s= .int .i64 40/\i= .int .i64 0/\Hid (Box wr (w4.heap.size+1) 3 [.int .i64 0,.int .i64 0])/\Hid (Box wr w6.heap.size 3 [.int .i64 0,.int .i64 0]))∨(s= .int .i64 20/\i= .int .i64 1/\Hid (Box wr (w4.heap.size+1) 3 [.int .i64 20,.int .i64 0])/\Hid (Box wr w6.heap.size 3 [.int .i64 0,.int .i64 0]))∨(s= .int .i64 0/\i= .int .i64 2/\Hid (Box wr (w4.heap.size+1) 3 [.int .i64 20,.int .i64 20])/\Hid (Box wr w6.heap.size 3 [.int .i64 0,.int .i64 1])))) (fun _ i _=>2-(intOf i).toNat)
  case atStart=>exact ⟨HB7,HX7,HY7,HT7,.inl ⟨rfl,rfl,by have h:=HR7;simp [encI] at h;exact h,HQ7⟩⟩
  case round=>
    clear x0 xf xz y0 yf yz;obtain ⟨HBE,HX,HY,HT,⟨rfl,rfl,HR,HQ⟩|⟨rfl,rfl,HR,HQ⟩|⟨rfl,rfl,HR,HQ⟩⟩:=hrel
    ·obtain ⟨x0,xf,xz⟩:=HX.v1;obtain ⟨y0,yf,yz⟩:=HY.v1;obtain ⟨t0,tf,tz⟩:=HT.v1;obtain ⟨r0,r1,rf,rz⟩:=HR.v2;obtain ⟨q0,q1,qf,qz⟩:=HQ.v2;have d0:=(HBE.cell (p:=⟨b,o,none⟩) l1).trans HD.out.1;have hbw:b<wr.heap.size:=Nat.lt_of_lt_of_le l1 HBE.size;go_wp2_with fail;refine ⟨⟨Zh ((HBE.setCell (by dsimp only;omega) _).setCell (by dsimp only;omega) _),Zh (by repeat (first|exact HX.out|refine Box.other ?_ _ (by first|(dsimp only;omega)|(simp;done)|(simp;omega)))),Zh (by repeat (first|exact HY.out|refine Box.other ?_ _ (by first|(dsimp only;omega)|(simp;done)|(simp;omega)))),Zh (by repeat (first|exact HT.out|refine Box.other ?_ _ (by first|(dsimp only;omega)|(simp;done)|(simp;omega)))),.inr (.inl ⟨rfl,rfl,Zh (by repeat (first|exact (Box.set HR.out 0 (.int .i64 20))|refine Box.other ?_ _ (by first|(dsimp only;omega)|(simp;done)|(simp;omega)))),Zh (Box.set (show Box (wr.setCell ⟨w4.heap.size+1,0,none⟩ (.int .i64 20)) w6.heap.size 3 [.int .i64 0,.int .i64 0] from (by repeat (first|exact HQ.out|refine Box.other ?_ _ (by first|(dsimp only;omega)|(simp;done)|(simp;omega))))) 0 (.int .i64 0))⟩)⟩,by simp [intOf]⟩
    ·obtain ⟨x0,xf,xz⟩:=HX.v1;obtain ⟨y0,yf,yz⟩:=HY.v1;obtain ⟨t0,tf,tz⟩:=HT.v1;obtain ⟨r0,r1,rf,rz⟩:=HR.v2;obtain ⟨q0,q1,qf,qz⟩:=HQ.v2;have d0:=(HBE.cell (p:=⟨b,o+1,none⟩) l1).trans HD.out.2;have hbw:b<wr.heap.size:=Nat.lt_of_lt_of_le l1 HBE.size;go_wp2_with fail;refine ⟨⟨Zh ((HBE.setCell (by dsimp only;omega) _).setCell (by dsimp only;omega) _),Zh (by repeat (first|exact HX.out|refine Box.other ?_ _ (by first|(dsimp only;omega)|(simp;done)|(simp;omega)))),Zh (by repeat (first|exact HY.out|refine Box.other ?_ _ (by first|(dsimp only;omega)|(simp;done)|(simp;omega)))),Zh (by repeat (first|exact HT.out|refine Box.other ?_ _ (by first|(dsimp only;omega)|(simp;done)|(simp;omega)))),.inr (.inr ⟨rfl,rfl,Zh (by repeat (first|exact (Box.set HR.out 1 (.int .i64 20))|refine Box.other ?_ _ (by first|(dsimp only;omega)|(simp;done)|(simp;omega)))),Zh (Box.set (show Box (wr.setCell ⟨w4.heap.size+1,1,none⟩ (.int .i64 20)) w6.heap.size 3 [.int .i64 0,.int .i64 0] from (by repeat (first|exact HQ.out|refine Box.other ?_ _ (by first|(dsimp only;omega)|(simp;done)|(simp;omega))))) 1 (.int .i64 1))⟩)⟩,by simp [intOf]⟩
    ·have HORD:=Zh (fun (u:World) (hb:Below wr.heap.size wr u)=>(by
       have hbu:=HBE.Zg hb;exact Zox u w.heap.size (w.heap.size+1) w4.heap.size b o 2 c 1 0 ((HX.later hb).cell 0) ((HY.later hb).cell 0) ((HT.later hb).cell 0) (fun k hk=>by
         rcases (by omega:k=0∨k=1) with rfl|rfl
         ·exact (hbu.cell (p:=⟨b,o,none⟩) l1).trans HD.out.1
         ·exact (hbu.cell (p:=⟨b,o+1,none⟩) l1).trans HD.out.2) (by omega) (by omega) (HX.later hb).lt (HY.later hb).lt (HT.later hb).lt (Nat.lt_of_lt_of_le l1 hbu.size):Calls Tryz.prog 280 #[.int .i64 1,.int .i64 0,.pointer (some ⟨w.heap.size,0,none⟩),.pointer (some ⟨w.heap.size+1,0,none⟩),.pointer (some ⟨w4.heap.size,0,none⟩)] u (Ret (.int .i64 0) u)))
     have HS:=Zh (Zrc wr w6.heap.size 2 _ _ _ (HQ.cell 0) (HQ.cell 1) HQ.lt HORD.out);go_wp2_with fail;refine HS.mono ?_;rintro e8 w8 ⟨⟨v8,rfl⟩,hb8⟩;have HB8:=Zh (HBE.Zg hb8);have HR8:=Zh (HR.later hb8);clear hb8 HS HORD HX HY HT HQ HR HBE;go_wp2_with fail
     go_loopw [78] (fun i wi=>wi=w8/\i= .int .i64 0) (fun _ _=>0)
     case atStart=>exact ⟨rfl,rfl⟩
     case round=>
       obtain ⟨rfl,rfl⟩:=hrel;go_wp2_with fail;refine bodyPost_ret (v:= .tuple #[.slice (some ⟨w4.heap.size+1,0,none⟩) 2 2,.int .i64 0]) (by simp [results,Tryz.results217,go_sem, *]) rfl ?_;exact ⟨_,rfl,by omega,HR8.out,HB8.out⟩
theorem Zm2 (w:World) (z:Int) (h:z≠0):Calls Tryz.prog 219 #[.int .i64 z] w (Ret (.bool false) w):=by
  have d1:(z==0)=false:=beq_eq_false_iff_ne.2 h;go_enter Tryz.func219,Tryz.ntmps219;go_wp2_with fail;go_ret;exact ⟨rfl,Below.refl _ _⟩
theorem Zoy (w:World) (v:Value) (ms:List Int) (h:Sl encI 1 w w.heap.size v ms) (hm: ∀z∈ms,z≠0):Calls Tryz.prog 246 #[v,.func (.func 219) #[] #[]] w (Ret (.int .i64 (-1)) w):=by
  obtain ⟨a,c,rfl,hl,p⟩:=h;have HP:=Zh p;have HZ:=Zh (fun (u:World) (k:Nat) (hk:k<ms.length)=>Zm2 u ms[k] (hm _ (List.getElem_mem hk)));obtain ⟨n,hn⟩: ∃n,ms.length=n:=⟨_,rfl⟩;have HN:=Zh hn;rw [hn] at hl ⊢;clear hn p hm;go_enter Tryz.func246,Tryz.ntmps246;go_wp2_with fail
  go_loopw [8] (fun i wr=> ∃k:Nat,k<=n/\i= .int .i64 k/\Hid (Below w.heap.size w wr)) (fun i _=>n-(intOf i).toNat)
  case atStart=>exact ⟨0,by omega,rfl,Zh (Below.refl _ _)⟩
  case round=>
    obtain ⟨k,hk,rfl,HBE⟩:=hrel
    by_cases hlt:k<n
    ·have hk1:k<ms.length:=by rw [HN.out];exact hlt
     obtain ⟨b1,o1,rfl,l1,q1⟩:=HP.out (by omega);have d1:=((q1 k hk1).below HBE.out l1) 0 _ rfl;rw [Nat.mul_one,Nat.add_zero] at d1;have e1:b1<wr.heap.size:=Nat.lt_of_lt_of_le l1 HBE.size;have HS:=Zh (HZ.out wr k hk1);clear q1 HP HZ;generalize ms[k]=z at *;go_wp2_with fail;refine HS.mono ?_;rintro e5 w5 ⟨rfl,hb⟩;have HB5:=Zh (HBE.Zg hb);clear hb d1;go_wp2_with fail;go_roundw
     case rel=>exact ⟨k+1,by omega,by go_num,HB5⟩
     case measure=>simp [intOf];omega
    ·obtain rfl:n=k:=by omega
     clear HP HZ;go_wp2_with fail;go_ret;exact ⟨rfl,HBE.out⟩
theorem Zm3 (w:World) (v:Value) (ms:List Int) (h:Sl encI 1 w w.heap.size v ms) (hm: ∀z∈ms,z≠0):Calls Tryz.prog 218 #[v,.func (.func 219) #[] #[]] w (Ret v w):=by
  have HS:=Zh (Zoy w v ms h hm);obtain ⟨a,c,rfl,-⟩:=h;clear hm;generalize ms.length=n at *;go_enter Tryz.func218,Tryz.ntmps218;go_wp2_with fail;refine HS.mono ?_;rintro e5 w5 ⟨rfl,hb⟩;have HB:=Zh hb;clear hb HS;go_wp2_with fail;go_ret;exact ⟨rfl,HB.out⟩
end Go.Proofs.YtijajkfmlghgkaaGreatDoor.Nu
