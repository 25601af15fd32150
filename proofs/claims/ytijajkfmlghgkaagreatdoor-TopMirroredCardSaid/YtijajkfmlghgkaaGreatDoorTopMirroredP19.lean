/- Lemmas on the way to the law TopMirrored: Rt Ry Sd Se Sf Sg Xe Vm Va Vb -/
import Derived.Maps.AppendAt
import Derived.Test.YtijajkfmlghgkaaGreatDoorTopMirroredP18
import Derived.Maps.Own
import Derived.Maps.OwnOps
import Derived.Maps.OwnSet
import Derived.Maps.Views
set_option linter.unusedVariables false
set_option linter.unusedSimpArgs false
set_option maxRecDepth 100000
set_option maxHeartbeats 4000000
namespace Go
open Go.RowKit
section
def Region.relS (ops:Array Oper) (n:Nat):Bool:=
  Region.noSelect ops && decide (n<ops.size) && Region.sinkB .any ops n && Region.chainB .any ops n && Region.seqB .any ops (ops.size-n) n (Region.marked ops.size n) &&
  ((List.range n).all fun i=>match ops[i]? with|some o=>o.after.all fun e=> !Region.binds .any e || decide (e.on<i)|none=>true) &&
  ((List.range n).all fun i=>(List.range n).all fun j=>Region.flowPair ops i j) &&
  ((List.range n).all fun i=>match ops[i]? with|some o=>o.guard.isNone|none=>true)
structure JoinFlowS (ops:Array Oper) (n:Nat) (a0:Act) (J:(Nat->Bool)->(Nat->Value)->World->Prop) (vs:Nat->Value) (listed:Array Bool) (a:Act) (w:World):Prop where
  inv:HeadInv .any ops n listed
  size:a.tmps.size=a0.tmps.size
  defers:a.defers=a0.defers
  slot: ∀j o t,j<n->ops[j]?=some o->o.dst=some t->a.tmps[t]?=if listed.getD j false=true then a0.tmps[t]?.map (fun _=>vs j) else a0.tmps[t]?
  other: ∀t,(∀j o,j<n->ops[j]?=some o->o.dst≠some t)->a.tmps[t]?=a0.tmps[t]?
  join:J (fun j=>listed.getD j false) vs w
def JoinPostS (a0:Act) (o:Oper) (K:Value->World->Prop) (e:Exit) (a:Act) (w:World):Prop:=e= .normal/\a.defers=a0.defers/\∃v,(∀t,o.dst=some t->a.tmps[t]?=some v)/\K v w
theorem JoinPostS.out {a0:Act} {o:Oper} {K:Value->World->Prop}: ¬LetsOut (JoinPostS a0 o K):=fun ⟨_,_,h⟩=>by cases h.1
theorem Zok {P:Program} {Q:Exit->Act->World->Prop} {ops:Array Oper} {o:Oper} {i:Nat} (hi:ops[i]?=some o) (hg:o.guard=none) {L:Value->World->Prop} {a a':Act} {w:World} {K:Act->World->Prop} (he:execOp a'.eval o=execOp a.eval o)
    (h:wpList P ops (JoinPostS a' o L) [o] a' w) (hK: ∀v w',L v w'->K (a.put o.dst v) w'):wpOp P ops Q i K a w:=by
 have hwant: ∀x,Region.wanted o x=true:=fun x=>by simp [Region.wanted,hg]
 unfold wpOp;simp only [hi];rw [if_pos (hwant _)];unfold wpList at h;rw [if_pos (hwant _)] at h
 rcases h with h|h
 rotate_left
 ·exact absurd h.2 JoinPostS.out
 refine .inl ?_;have hpost: ∀v w',JoinPostS a' o L .normal (a'.put o.dst v) w'->K (a.put o.dst v) w':=fun v w' hp=>by
   obtain ⟨_,_,v',hv',hR⟩:=hp;cases hd:o.dst with
   | none=>
     have h1:=hK v' w' hR;rw [hd] at h1;exact h1
   | some t=>
     have hv'':=hv' t hd;rw [Zaf,if_pos hd] at hv'';have e:v=v':=by
       cases hx:a'.tmps[t]? with
       | none=>rw [hx] at hv'';cases hv''
       | some y=>rw [hx] at hv'';injection hv''
     subst e;have h1:=hK v w' hR;rw [hd] at h1;exact h1
 unfold Oper.wp at h ⊢;rw [he] at h;generalize (execOp a.eval o).run P w=r at *;cases r with
 | ok x w'=>
   cases x with
   | value v=>exact hpost v w' h
   | skip=>exact hpost undef w' h
   | defer d=>
     exfalso
     obtain ⟨_,hdf,_⟩:=h;rw [Zal] at hdf;have:=congrArg List.length hdf;simp at this
   | enter f args=>
     refine Calls.mono h ?_;intro e w'' he;cases e with
     | returned v=>exact hpost v w'' he
     | panicked chain=>cases he.1
     | outgrown=>exact absurd he JoinPostS.out
   | row row args=>exact Rows.mono h (fun v w'' he=>hpost v w'' he)
   | _=>exact h.elim
 | halt x w'=>
   cases x with
   | panic v=>cases h.1
   | _=>exact h.elim
variable {P:Program} {l:List Oper} {n:Nat} {a0:Act} {J:(Nat->Bool)->(Nat->Value)->World->Prop} {Q:Exit->Act->World->Prop}
theorem Zmm (hB:Region.relS l.toArray n=true)
    (hq: ∀i o,i<n->l[i]?=some o->∀ (D:Nat->Bool) (vs:Nat->Value) (w:World),D i=false->(∀j,j<i->Region.blindTo l.toArray i j=false->D j=true)->J D vs w->∃L:Value->World->Prop,wpList P l.toArray (JoinPostS (Zac vs 0 a0 (l.take i)) o L) [o] (Zac vs 0 a0 (l.take i)) w/\∀v w',L v w'->J (setF D i true) (setF vs i v) w')
    (ht: ∀ (D:Nat->Bool) (vs:Nat->Value) (w:World),(∀j,j<n->D j=true)->J D vs w->wpList P l.toArray Q (l.drop n) (Zac vs 0 a0 (l.take n)) w):
    ∀ (f:Nat) (U:List Nat) (vs:Nat->Value) (listed:Array Bool) (a:Act) (w:World),U.length=f->U.Nodup->(∀i,i∈U↔i<n/\listed.getD i false=false)->
      JoinFlowS l.toArray n a0 J vs listed a w->wpAny P .any l.toArray Q (f+(l.toArray.size-n)) listed a w:=by
 simp only [Region.relS,Bool.and_eq_true,decide_eq_true_eq,List.all_eq_true,List.mem_range] at hB;obtain ⟨⟨⟨⟨⟨⟨⟨hsel,hn⟩,hsink⟩,hchain⟩,hseq⟩,hedge⟩,hpair⟩,hguard⟩:=hB;have hn':n<=l.length:=by have h:=hn;rw [List.size_toArray] at h;omega
 have hsz:l.toArray.size=l.length:=by simp
 have hget: ∀i:Nat,l.toArray[i]?=l[i]?:=fun i=>by simp
 have hselect:=Region.noSelect_spec hsel;have hpw: ∀m,m<=n->(l.take m).Pairwise (fun o o'=> ∀t,o.dst=some t->o'.dst≠some t):=fun m hm=>by
   rw [List.pairwise_iff_getElem];intro i j hi hj hij t ht;rw [List.length_take] at hi hj;rw [List.getElem_take] at ht ⊢;exact Region.flowPair_dst (hpair i (by omega) j (by omega)) (by rw [hget];exact List.getElem?_eq_getElem (by omega)) (by rw [hget];exact List.getElem?_eq_getElem (by omega)) (fun e=>by subst e;omega) ht
 have hputAt: ∀ (vs:Nat->Value) m,m<=n->∀j o t,j<m->l.toArray[j]?=some o->o.dst=some t->(Zac vs 0 a0 (l.take m)).tmps[t]?=a0.tmps[t]?.map (fun _=>vs j):=fun vs m hm j o t hj ho hd=>by
   rw [Zd3 vs t (l.take m) 0 a0 j o (hpw m hm) (by rw [List.getElem?_take,if_pos hj,<-hget];exact ho) hd,Nat.zero_add]
 have hputO: ∀ (vs:Nat->Value) m,m<=n->∀t,(∀j o,j<n->l.toArray[j]?=some o->o.dst≠some t)->(Zac vs 0 a0 (l.take m)).tmps[t]?=a0.tmps[t]?:=fun vs m hm t h=>
   Zb0 vs t _ 0 a0 fun o ho=>by
     obtain ⟨q,hq'⟩:=List.mem_iff_getElem?.1 ho;rw [List.getElem?_take] at hq'
     split at hq'
     ·exact h q o (by omega) (by rw [hget];exact hq')
     ·cases hq'
 intro f
 induction f with
 | zero=>
   intro U vs listed a w hU _ hUm hF;obtain rfl:U=[]:=List.eq_nil_of_length_eq_zero hU;have hall: ∀i,i<n->listed.getD i false=true:=fun i hi=>by
     cases h:listed.getD i false with
     | true=>rfl
     | false=>have:=(hUm i).2 ⟨hi,h⟩;simp at this
   have hl:listed=Region.marked l.toArray.size n:=by
     apply Array.ext_getElem?;intro i
     by_cases hi:i<l.toArray.size
     ·have hil:i<listed.size:=by rw [hF.inv.size];exact hi
      have e2:(Region.marked l.toArray.size n)[i]?=some (decide (i<n)):=by
        rw [List.size_toArray] at hi;unfold Region.marked;simp [hi]
      rw [e2,Array.getElem?_eq_getElem hil]
      by_cases hin:i<n
      ·have:=hall i hin;simp [hil] at this;simp [this,hin]
      ·have:=hF.inv.tail i (by omega) hi;simp [hil] at this;simp [this,hin]
     ·rw [Array.getElem?_eq_none (by rw [hF.inv.size];omega),Array.getElem?_eq_none (by rw [List.size_toArray] at hi;unfold Region.marked;simp;omega)]
   have ha:a=Zac vs 0 a0 (l.take n):=by
     have htm:a.tmps=(Zac vs 0 a0 (l.take n)).tmps:=by
       apply Array.ext_getElem?;intro t
       by_cases h: ∃j o,j<n/\l.toArray[j]?=some o/\o.dst=some t
       ·obtain ⟨j,o,h1,h2,h3⟩:=h;rw [hF.slot j o t h1 h2 h3,if_pos (hall j h1),hputAt vs n (Nat.le_refl _) j o t h1 h2 h3]
       ·have h': ∀j o,j<n->l.toArray[j]?=some o->o.dst≠some t:=fun j o h1 h2 h3=>h ⟨j,o,h1,h2,h3⟩;rw [hF.other t h',hputO vs n (Nat.le_refl _) t h']
     have hd:a.defers=(Zac vs 0 a0 (l.take n)).defers:=by rw [Zb8,hF.defers]
     cases a;simp only at htm hd;cases hX:Zac vs 0 a0 (l.take n);rw [hX] at htm hd;simp only at htm hd;rw [htm,hd]
   rw [ha];have hdl:(l.drop n).length=l.toArray.size-n:=by simp
   have:=wpAny_of_seq (md:= .any) (Q':=Q) (ops:=l.toArray) (l.drop n) n listed (Zac vs 0 a0 (l.take n)) w (fun j=>by simp [List.getElem?_drop]) (by rw [hdl,hl];exact hseq) (ht _ vs w hall hF.join);rw [hdl] at this
   rwa [Nat.zero_add]
 | succ f ih=>
   intro U vs listed a w hU hnd hUm hF;obtain ⟨i0,hi0,hleast⟩:=Zay U (fun e=>by rw [e] at hU;simp at hU);obtain ⟨hi0n,hi0u⟩:=(hUm i0).1 hi0;have hin: ∀i,i<n->i<listed.size:=fun i hi=>by rw [hF.inv.size];omega
   have hready:i0∈Region.ready .any l.toArray listed:=by
     have hlt:i0<l.toArray.size:=by omega
     refine mem_ready.2 ⟨getD_in (hin _ hi0n) hi0u,l.toArray[i0],Array.getElem?_eq_getElem hlt,fun e he hbd=> ?_⟩;have h1:=hedge i0 hi0n;rw [Array.getElem?_eq_getElem hlt] at h1;simp only [Array.all_eq_true_iff_forall_mem] at h1;have h2:=h1 e he;simp only [hbd,Bool.not_true,Bool.false_or,decide_eq_true_eq] at h2;cases h:listed.getD e.on false with
     | true=>rfl
     | false=>
       have:=hleast e.on ((hUm e.on).2 ⟨by omega,h⟩);omega
   rw [show f+1+(l.toArray.size-n)=(f+(l.toArray.size-n))+1 by omega];refine ⟨fun h=>(by rw [h] at hready;cases hready),fun i hi=> ?_⟩;obtain ⟨hiu,o,ho,hdep⟩:=mem_ready.1 hi;have hilt:i<n:=Nat.lt_of_not_le fun h=>tail_waits hsink hchain hn hF.inv _ i0 rfl hi0n (getD_in (hin _ hi0n) hi0u) i h hi;have hiU:i∈U:=(hUm i).2 ⟨hilt,getD_both hiu⟩;have hinv:=hF.inv.set hi hilt;have hlist: ∀j,(listed.setIfInBounds i true).getD j false=if j=i then true else listed.getD j false:=fun j=>by
    by_cases h:j=i
    ·subst h;rw [if_pos rfl];simp [hin j hilt]
    ·rw [if_neg h,getD_set_ne false (Ne.symm h)]
   have hUm': ∀j,j∈U.erase i↔j<n/\(listed.setIfInBounds i true).getD j false=false:=fun j=>by
     rw [hnd.mem_erase_iff,hUm j,hlist j]
     by_cases h:j=i
     ·simp [h]
     ·simp [h]
   have hlen':(U.erase i).length=f:=by rw [List.length_erase_of_mem hiU];omega
   have hnd':=hnd.erase i;have hseen: ∀t∈o.looksAt l.toArray,∀j oj,j<n->l.toArray[j]?=some oj->oj.dst=some t->i≠j/\j<i/\listed.getD j false=true:=by
     intro t ht j oj hj hoj hd;have hne:i≠j:=fun e=>by
       subst e;rw [ho] at hoj;cases hoj;exact Region.flowPair_self (hpair i hilt i hilt) ho hd ht
     have h1:=Region.flowPair_looks (hpair i hilt j hj) ho hoj hne hd ht;obtain ⟨o',ho',e,he,hbd,hon⟩:=Region.waitsFor_spec h1.2;rw [ho] at ho';cases ho';have:=hdep e he hbd;rw [hon] at this;exact ⟨hne,h1.1,this⟩
   have hgd:=hguard i hilt;rw [ho] at hgd;simp only [Option.isNone_iff_eq_none] at hgd;have hg:=hgd;have hex:execOp (Zac vs 0 a0 (l.take i)).eval o=execOp a.eval o:=(Za0 (ops:=l.toArray) (fun cs bb=>hselect i o cs bb ho) fun t htl=>by
     by_cases h: ∃j o,j<n/\l.toArray[j]?=some o/\o.dst=some t
     ·obtain ⟨j,oj,h1,h2,h3⟩:=h;obtain ⟨k1,k2,k3⟩:=hseen t htl j oj h1 h2 h3;rw [hputAt vs i (by omega) j oj t k2 h2 h3,hF.slot j oj t h1 h2 h3,if_pos k3]
     ·have h': ∀j o,j<n->l.toArray[j]?=some o->o.dst≠some t:=fun j o h1 h2 h3=>h ⟨j,o,h1,h2,h3⟩;rw [hputO vs i (by omega) t h',hF.other t h']).1
   have hdepD: ∀j,j<i->Region.blindTo l.toArray i j=false->listed.getD j false=true:=fun j hj hbl=>by
     have hjl:j<l.toArray.size:=by omega
     unfold Region.blindTo at hbl;rw [ho,Array.getElem?_eq_getElem hjl] at hbl;simp only at hbl
     split at hbl
     ·rename_i d hdj;have hmem:d∈o.looksAt l.toArray:=by simpa using hbl
      exact (hseen d hmem j _ (by omega) (Array.getElem?_eq_getElem hjl) hdj).2.2
     ·cases hbl
   obtain ⟨L,hL1,hL2⟩:=hq i o hilt (by rw [<-hget];exact ho) (fun j=>listed.getD j false) vs w (getD_both hiu) hdepD hF.join;refine Zok ho hg hex hL1 (fun v w' hR0=> ?_);have hR:=hL2 v w' hR0;refine ih (U.erase i) (setF vs i v) _ _ _ hlen' hnd' hUm' ⟨hinv,by rw [Zbd,hF.size],by rw [Zal,hF.defers],?_,?_,?_⟩
   ·intro j oj t hj hoj hd;rw [Zaf,hlist j]
    by_cases hji:j=i
    ·subst hji;rw [ho] at hoj;cases hoj;rw [if_pos hd,if_pos rfl,if_pos rfl,Zad,hF.slot j o t hj ho hd,if_neg (by rw [getD_both hiu];simp)]
    ·have hne:o.dst≠some t:=fun h=>Region.flowPair_dst (hpair i hilt j hj) ho hoj (Ne.symm hji) h hd;rw [if_neg hne,if_neg hji,Zaa _ _ hji,hF.slot j oj t hj hoj hd]
   ·intro t h;rw [Zaf,if_neg (h i o hilt ho),hF.other t h]
   ·have e:(fun j=>(listed.setIfInBounds i true).getD j false)=setF (fun j=>listed.getD j false) i true:=funext fun j=>hlist j;rw [e];exact hR
theorem Za8 {id:Nat} {W:World} (n:Nat) (J:(Nat->Bool)->(Nat->Value)->World->Prop) (hm:P.follows .mixedOrders=true) (hB:Region.relS l.toArray n=true)
    (h0:J (fun _=>false) (fun _=>undef) W.drew)
    (hq:relAll (fun i o=> ∀ (D:Nat->Bool) (vs:Nat->Value) (w:World),D i=false->(∀j,j<i->Region.blindTo l.toArray i j=false->D j=true)->J D vs w->∃L:Value->World->Prop,wpList P l.toArray (JoinPostS (Zac vs 0 a0 (l.take i)) o L) [o] (Zac vs 0 a0 (l.take i)) w/\∀v w',L v w'->J (setF D i true) (setF vs i v) w') 0 (l.take n))
    (ht: ∀ (D:Nat->Bool) (vs:Nat->Value) (w:World),(∀j,j<n->D j=true)->J D vs w->wpList P l.toArray Q (l.drop n) (Zac vs 0 a0 (l.take n)) w):
    (Code.region id l.toArray true).wp P Q a0 W:=by
 refine wp_region_any hm ?_;have hB':=hB;simp only [Region.relS,Bool.and_eq_true,decide_eq_true_eq] at hB';have hn:=hB'.1.1.1.1.1.1.2;have inv0:HeadInv .any l.toArray n (Array.replicate l.toArray.size false):=
   ⟨by simp,fun j oj _ hl=>(by rw [getD_replicate_false] at hl;cases hl),fun t _ ht=>getD_in (by simpa using ht) (getD_replicate_false _ _)⟩
 have e0:(fun j=>(Array.replicate l.toArray.size false).getD j false)=fun _=>false:=funext fun j=>getD_replicate_false _ _;have h:=Zmm (a0:=a0) (J:=J) (Q:=Q) hB
   (fun i o hi ho=>by
     have:=relAll.get _ 0 hq i o (by rw [List.getElem?_take,if_pos hi];exact ho)
     rwa [Nat.zero_add] at this) ht n (List.range n) (fun _=>undef) (Array.replicate l.toArray.size false) a0 W.drew (by simp) List.nodup_range (fun i=>by rw [List.mem_range];exact ⟨fun h=>⟨h,getD_replicate_false _ _⟩,fun h=>h.1⟩)
   ⟨inv0,rfl,rfl,fun j o t _ _ _=>by rw [getD_replicate_false];rfl,fun t _=>rfl,by rw [e0];exact h0⟩
 rwa [show n+(l.toArray.size-n)=l.toArray.size by omega] at h
end
end Go
namespace Go.Proofs.YtijajkfmlghgkaaGreatDoor
open Go Go.Proofs Go.RowKit
theorem Zbm {α:Type} (f:α->List Value) (sz bytes:Nat) (t e:TypeId) (z:Value) {P:Program} (hT:P.underlying t=some (.slice e)) (hI:(P.info? e).map (fun i=>(i.zero,i.size,i.bytes))=some (some z,sz,bytes))
    (hzs:z.cells.size=sz) (hsz:0<sz) (hby:bytes<=1000) (hf: ∀x,(f x).length=sz) (h1c: ∀x,∀u∈f x,u.oneCell'=true)
    (l:List α) (x:α) (base:Nat) (w:World) (g:Nat) (cs:Array Value) (e':TypeId) (hg:w.heap[g]?=some (.cells cs e' (0,0))) (hcs:cs.toList=f x) (v:Value) (hown:Own f sz e w base v l) (hbase:base<=w.heap.size) (hlen:l.length<=1000000)
    {ops:Array Oper} {rest:List Oper} {o:Oper} {a:Act} {Q:Exit->Act->World->Prop} (hgd:o.guard=none) (s y:Operand)
    (ho:o.op= .call { callee:= .builtin .append,args:= #[s,y],argTypes:= #[t,t] }) (hs:a.eval s=v) (hy:a.eval y= .slice (some ⟨g,0,none⟩) 1 1)
    (h: ∀v' w',Own f sz e w' base v' (l++ [x])->w.grownBy w' v.ownBlock->(v'.ownBlock=v.ownBlock∨v'.ownBlock=some w.heap.size)->wpList P ops Q rest (a.put o.dst v') w'):wpList P ops Q (o::rest) a w:=by
 obtain ⟨i,hi,hz0,hz1,hz2⟩:=info_parts hI;have hmul:(l.length+1) * bytes<=1000001* 1000:=Nat.mul_le_mul (by omega) hby
 refine wpList_append_own_at _ hgd s y t ho base e i z sz bytes hT hi hz0 hz1 hz2 hzs hsz v l.length _ hs hown ⟨g,0,none⟩ 1 1 (f x) hy (by rw [hf];omega) ?_ (h1c x) (by simp [maxLen];omega) (by omega) hbase ?_
 ·intro j u hu;rw [Addr.add_lit,Nat.zero_add,cell_of_row _ g j cs e' (0,0) hg];rw [<-hcs] at hu;simpa using hu
 ·intro v' w' ho' hg' _ hat;refine h v' w' ?_ hg' hat;unfold Own;rw [List.length_append,List.length_singleton,List.flatMap_append,List.flatMap_singleton];exact ho'
structure TwoOwn {α β:Type} (f:α->List Value) (sz:Nat) (e:TypeId) (f':β->List Value) (sz':Nat) (e':TypeId) (B:Nat) (w0:World) (q:Nat) (qe:TypeId) (qs:List Value) (c1:Value) (l1:List α) (c2:Value) (l2:List β) (w:World):Prop where
  below:Below B w0 w
  base:B<=w.heap.size
  box:Box w q qe qs
  own1:Own f sz e w B c1 l1
  own2:Own f' sz' e' w B c2 l2
  sep: ∀g,c1.ownBlock=some g->c2.ownBlock≠some g
  nq1:c1.ownBlock≠some q
  nq2:c2.ownBlock≠some q
section
variable {α β:Type} {f:α->List Value} {sz:Nat} {e:TypeId} {f':β->List Value} {sz':Nat} {e':TypeId} {B:Nat} {w0 w w':World} {q:Nat} {qe:TypeId} {qs:List Value} {c1 c2:Value} {l1:List α} {l2:List β}
theorem TwoOwn.swap (h:TwoOwn f sz e f' sz' e' B w0 q qe qs c1 l1 c2 l2 w):TwoOwn f' sz' e' f sz e B w0 q qe qs c2 l2 c1 l1 w:=
  ⟨h.below,h.base,h.box,h.own2,h.own1,fun g h2 h1=>h.sep g h1 h2,h.nq2,h.nq1⟩
theorem Own.lt2 {v:Value} {l:List α} (h:Own f sz e w B v l): ∀k,v.ownBlock=some k->k<w.heap.size:=fun k hk=>(World.ownsRow.lt h k hk).2
theorem TwoOwn.grow (h:TwoOwn f sz e f' sz' e' B w0 q qe qs c1 l1 c2 l2 w) (hb:Below w.heap.size w w'):TwoOwn f sz e f' sz' e' B w0 q qe qs c1 l1 c2 l2 w':=
  ⟨h.below.trans (hb.mono h.base),Nat.le_trans h.base hb.size,h.box.later hb,h.own1.later hb,h.own2.later hb,h.sep,h.nq1,h.nq2⟩
theorem TwoOwn.push1 (h:TwoOwn f sz e f' sz' e' B w0 q qe qs c1 l1 c2 l2 w) {v:Value} {x:α} (ho:Own f sz e w' B v (l1++ [x])) (hg:w.grownBy w' c1.ownBlock) (hat:v.ownBlock=c1.ownBlock∨v.ownBlock=some w.heap.size):
    TwoOwn f sz e f' sz' e' B w0 q qe qs v (l1++ [x]) c2 l2 w':=by
 have hqlt:=h.box.lt;refine ⟨h.below.grown hg h.base (fun k hk=>h.own1.lt' k hk),Nat.le_trans h.base hg.size,h.box.kept hg (fun e=>h.nq1 e.symm),ho,?_,fun g h1 h2=> ?_,fun h1=> ?_,h.nq2⟩
 ·refine h.own2.kept hg ?_;cases h2:c2.ownBlock with
  | none=>exact .inl rfl
  | some g=>exact .inr (fun e=>h.sep g e.symm h2)
 ·rcases hat with h3|h3
  ·exact h.sep g (h3 ▸ h1) h2
  ·have:=h.own2.lt2 g h2;rw [h3] at h1;injection h1 with h1;omega
 ·rcases hat with h3|h3
  ·exact h.nq1 (h3 ▸ h1)
  ·rw [h3] at h1;injection h1 with h1;omega
def LitAt (w:World) (q:Nat) (c1 c2 v:Value) (cs:List Value) (t:TypeId):Prop:=∃g,v= .slice (some ⟨g,0,none⟩) 1 1/\Box w g t cs/\c1.ownBlock≠some g/\c2.ownBlock≠some g/\g≠q
theorem LitAt.grow {v:Value} {cs:List Value} {t:TypeId} (h:LitAt w q c1 c2 v cs t) (hb:Below w.heap.size w w'):LitAt w' q c1 c2 v cs t:=by
  obtain ⟨g,h1,h2,h3⟩:=h;exact ⟨g,h1,h2.later hb,h3⟩
theorem LitAt.push1 {v v1:Value} {cs:List Value} {t:TypeId} (h:LitAt w q c1 c2 v cs t) (hg:w.grownBy w' c1.ownBlock) (hat:v1.ownBlock=c1.ownBlock∨v1.ownBlock=some w.heap.size):LitAt w' q v1 c2 v cs t:=by
  obtain ⟨g,h1,h2,h3,h4,h5⟩:=h;refine ⟨g,h1,h2.kept hg (fun e=>h3 e.symm),fun h5=> ?_,h4,h5⟩
  rcases hat with h6|h6
  ·exact h3 (h6 ▸ h5)
  ·rw [h6] at h5;injection h5 with h5;have:=h2.lt;omega
theorem LitAt.swap {v:Value} {cs:List Value} {t:TypeId} (h:LitAt w q c1 c2 v cs t):LitAt w q c2 c1 v cs t:=by
  obtain ⟨g,h1,h2,h3,h4,h5⟩:=h;exact ⟨g,h1,h2,h4,h3,h5⟩
theorem LitAt.new (h:TwoOwn f sz e f' sz' e' B w0 q qe qs c1 l1 c2 l2 w) (cs:Array Value) (t:TypeId):LitAt (w.alloc (.cells cs t)) q c1 c2 (.slice (some ⟨w.heap.size,0,none⟩) 1 1) cs.toList t:=
  ⟨_,rfl,Box.new w cs t,fun h1=>Nat.lt_irrefl _ (h.own1.lt2 _ h1),fun h1=>Nat.lt_irrefl _ (h.own2.lt2 _ h1),fun e=>by have:=h.box.lt;omega⟩
theorem LitAt.put {v:Value} {cs:List Value} {t:TypeId} (h:LitAt w q c1 c2 v cs t) (j:Nat) (u:Value):LitAt (w.setCell ⟨q,j,none⟩ u) q c1 c2 v cs t:=by
  obtain ⟨g,h1,h2,h3,h4,h5⟩:=h;exact ⟨g,h1,h2.other u (fun e=>h5 e.symm),h3,h4,h5⟩
theorem TwoOwn.put (h:TwoOwn f sz e f' sz' e' B w0 q qe qs c1 l1 c2 l2 w) (hq:B<=q) (j:Nat) (u:Value):TwoOwn f sz e f' sz' e' B w0 q qe (qs.set j u) c1 l1 c2 l2 (w.setCell ⟨q,j,none⟩ u):=
  ⟨h.below.setCell hq u,by simpa using h.base,h.box.set j u,h.own1.other u h.nq1,h.own2.other u h.nq2,h.sep,h.nq1,h.nq2⟩
end
structure J2 {α β:Type} (f:α->List Value) (sz:Nat) (e:TypeId) (f':β->List Value) (sz':Nat) (e':TypeId) (B:Nat) (w0:World) (q:Nat) (qe:TypeId) (qs:List Value) (fo:Nat) (ks:List (Option Value)) (j0 i1 p1 i2 p2 st:Nat) (v1 v2:Value) (l1:List α) (l2:List β) (x1:α) (x2:β) (D:Nat->Bool) (vs:Nat->Value) (w:World):Prop where
  two:TwoOwn f sz e f' sz' e' B w0 q qe (if D st then qs.set fo (vs p1) else qs) (if D p1 then vs p1 else v1) (if D p1 then l1++ [x1] else l1) (if D p2 then vs p2 else v2) (if D p2 then l2++ [x2] else l2) w
  val: ∀j v,ks[j]?=some (some v)->D j=true->vs j=v
  lit1:D i1=true->D p1=false->LitAt w q (if D p1 then vs p1 else v1) (if D p2 then vs p2 else v2) (vs i1) (f x1) e
  lit2:D i2=true->D p2=false->LitAt w q (if D p1 then vs p1 else v1) (if D p2 then vs p2 else v2) (vs i2) (f' x2) e'
  ordS:D st=true->D p1=true
  ordP:D p1=true->D j0=true
  nst:st=1000->D st=false
def apart5 (i1 p1 i2 p2 st:Nat):Bool:=i1 !=p1 && i1 !=i2 && i1 !=p2 && i1 !=st && p1 !=i2 && p1 !=p2 && p1 !=st && i2 !=p2 && i2 !=st && p2 !=st
section
variable {α β:Type} {f:α->List Value} {sz:Nat} {e:TypeId} {f':β->List Value} {sz':Nat} {e':TypeId} {B:Nat} {w0:World} {q:Nat} {qe:TypeId} {qs:List Value} {fo:Nat} {ks:List (Option Value)} {j0 i1 p1 i2 p2 st:Nat} {v1 v2:Value} {l1:List α} {l2:List β} {x1:α} {x2:β} {D:Nat->Bool} {vs:Nat->Value} {w w':World}
theorem apart5.ne (h:apart5 i1 p1 i2 p2 st=true):i1≠p1/\i1≠i2/\i1≠p2/\i1≠st/\p1≠i2/\p1≠p2/\p1≠st/\i2≠p2/\i2≠st/\p2≠st:=by
  simpa [apart5,and_assoc] using h
theorem J2.vals (h: ∀j v,ks[j]?=some (some v)->D j=true->vs j=v) (i:Nat) {v:Value} (hk: ∀v',ks[i]?=some (some v')->v=v'): ∀j v',ks[j]?=some (some v')->setF D i true j=true->setF vs i v j=v':=fun j v' hj hd=>by
  by_cases hji:j=i
  ·subst hji;rw [Zad];exact hk v' hj
  ·rw [Zaa _ _ hji] at hd ⊢;exact h j v' hj hd
theorem J2.start (h:TwoOwn f sz e f' sz' e' B w0 q qe qs v1 l1 v2 l2 w):J2 f sz e f' sz' e' B w0 q qe qs fo ks j0 i1 p1 i2 p2 st v1 v2 l1 l2 x1 x2 (fun _=>false) (fun _=>undef) w.drew:=
  ⟨by simp only [Bool.false_eq_true,if_false];exact h.grow ⟨rfl,rfl,rfl,Nat.le_refl _,fun _ _=>rfl⟩,(fun j v _ h=>by cases h),(fun h=>by cases h),(fun h=>by cases h),(fun h=>by cases h),(fun h=>by cases h),fun _=>rfl⟩
theorem Za5 {D:Nat->Bool} {a b i:Nat} (h:D a=true->D b=true) (hi:a≠i):setF D i true a=true->setF D i true b=true:=fun hd=>by
  rw [Zaa _ _ hi] at hd
  by_cases hb:b=i
  ·subst hb;rw [Zad]
  ·rw [Zaa _ _ hb];exact h hd
theorem J2.quiet (h:J2 f sz e f' sz' e' B w0 q qe qs fo ks j0 i1 p1 i2 p2 st v1 v2 l1 l2 x1 x2 D vs w) (i:Nat) (hi: [i1,p1,i2,p2,st].contains i=false) {v:Value} (hk: ∀v',ks[i]?=some (some v')->v=v') (hb:Below w.heap.size w w'):J2 f sz e f' sz' e' B w0 q qe qs fo ks j0 i1 p1 i2 p2 st v1 v2 l1 l2 x1 x2 (setF D i true) (setF vs i v) w':=by
  simp at hi;obtain ⟨h1,h2,h3,h4,h5⟩:=hi
  constructor
  ·rw [Zaa _ _ (Ne.symm h5),Zaa _ _ (Ne.symm h2),Zaa _ _ (Ne.symm h2),Zaa _ _ (Ne.symm h4),Zaa _ _ (Ne.symm h4)];exact h.two.grow hb
  ·exact J2.vals h.val i hk
  ·rw [Zaa _ _ (Ne.symm h2),Zaa _ _ (Ne.symm h2),Zaa _ _ (Ne.symm h4),Zaa _ _ (Ne.symm h4),Zaa _ _ (Ne.symm h1),Zaa _ _ (Ne.symm h1)];exact fun k1 k2=>(h.lit1 k1 k2).grow hb
  ·rw [Zaa _ _ (Ne.symm h2),Zaa _ _ (Ne.symm h2),Zaa _ _ (Ne.symm h4),Zaa _ _ (Ne.symm h4),Zaa _ _ (Ne.symm h3),Zaa _ _ (Ne.symm h3)];exact fun k1 k2=>(h.lit2 k1 k2).grow hb
  ·exact Za5 h.ordS (Ne.symm h5)
  ·exact Za5 h.ordP (Ne.symm h2)
  ·intro hs;rw [Zaa _ _ (Ne.symm h5)];exact h.nst hs
theorem Zai (w:World) (o:Obj):Below w.heap.size w (w.alloc o):=(Below.refl _ _).alloc (Nat.le_refl _) _
theorem J2.new1 (h:J2 f sz e f' sz' e' B w0 q qe qs fo ks j0 i1 p1 i2 p2 st v1 v2 l1 l2 x1 x2 D vs w) (ha:apart5 i1 p1 i2 p2 st=true) (hk:ks[i1]?=some none) {cs:Array Value} (hcs:cs.toList=f x1):J2 f sz e f' sz' e' B w0 q qe qs fo ks j0 i1 p1 i2 p2 st v1 v2 l1 l2 x1 x2 (setF D i1 true) (setF vs i1 (.slice (some ⟨w.heap.size,0,none⟩) 1 1)) (w.alloc (.cells cs e)):=by
  obtain ⟨a1,a2,a3,a4,a5,a6,a7,a8,a9,a10⟩:=apart5.ne ha
  constructor
  ·rw [Zaa _ _ (Ne.symm a4),Zaa _ _ (Ne.symm a1),Zaa _ _ (Ne.symm a1),Zaa _ _ (Ne.symm a3),Zaa _ _ (Ne.symm a3)];exact h.two.grow (Zai _ _)
  ·exact J2.vals h.val i1 (fun v' e=>by rw [hk] at e;cases e)
  ·rw [Zaa _ _ (Ne.symm a1),Zaa _ _ (Ne.symm a1),Zaa _ _ (Ne.symm a3),Zaa _ _ (Ne.symm a3),Zad,Zad,<-hcs];exact fun _ _=>LitAt.new h.two cs e
  ·rw [Zaa _ _ (Ne.symm a1),Zaa _ _ (Ne.symm a1),Zaa _ _ (Ne.symm a3),Zaa _ _ (Ne.symm a3),Zaa _ _ (Ne.symm a2),Zaa _ _ (Ne.symm a2)];exact fun k1 k2=>(h.lit2 k1 k2).grow (Zai _ _)
  ·exact Za5 h.ordS (Ne.symm a4)
  ·exact Za5 h.ordP (Ne.symm a1)
  ·intro hs;rw [Zaa _ _ (Ne.symm a4)];exact h.nst hs
theorem J2.new2 (h:J2 f sz e f' sz' e' B w0 q qe qs fo ks j0 i1 p1 i2 p2 st v1 v2 l1 l2 x1 x2 D vs w) (ha:apart5 i1 p1 i2 p2 st=true) (hk:ks[i2]?=some none) {cs:Array Value} (hcs:cs.toList=f' x2):J2 f sz e f' sz' e' B w0 q qe qs fo ks j0 i1 p1 i2 p2 st v1 v2 l1 l2 x1 x2 (setF D i2 true) (setF vs i2 (.slice (some ⟨w.heap.size,0,none⟩) 1 1)) (w.alloc (.cells cs e')):=by
  obtain ⟨a1,a2,a3,a4,a5,a6,a7,a8,a9,a10⟩:=apart5.ne ha
  constructor
  ·rw [Zaa _ _ (Ne.symm a9),Zaa _ _ a5,Zaa _ _ a5,Zaa _ _ (Ne.symm a8),Zaa _ _ (Ne.symm a8)];exact h.two.grow (Zai _ _)
  ·exact J2.vals h.val i2 (fun v' e=>by rw [hk] at e;cases e)
  ·rw [Zaa _ _ a5,Zaa _ _ a5,Zaa _ _ (Ne.symm a8),Zaa _ _ (Ne.symm a8),Zaa _ _ a2,Zaa _ _ a2];exact fun k1 k2=>(h.lit1 k1 k2).grow (Zai _ _)
  ·rw [Zaa _ _ a5,Zaa _ _ a5,Zaa _ _ (Ne.symm a8),Zaa _ _ (Ne.symm a8),Zad,Zad,<-hcs];exact fun _ _=>LitAt.new h.two cs e'
  ·exact Za5 h.ordS (Ne.symm a9)
  ·exact Za5 h.ordP a5
  ·intro hs;rw [Zaa _ _ (Ne.symm a9)];exact h.nst hs
theorem J2.push1 (h:J2 f sz e f' sz' e' B w0 q qe qs fo ks j0 i1 p1 i2 p2 st v1 v2 l1 l2 x1 x2 D vs w) (ha:apart5 i1 p1 i2 p2 st=true) (hk:ks[p1]?=some none) (hD:D p1=false) (h0:D j0=true) {v:Value} (ho:Own f sz e w' B v (l1++ [x1])) (hg:w.grownBy w' v1.ownBlock) (hat:v.ownBlock=v1.ownBlock∨v.ownBlock=some w.heap.size):J2 f sz e f' sz' e' B w0 q qe qs fo ks j0 i1 p1 i2 p2 st v1 v2 l1 l2 x1 x2 (setF D p1 true) (setF vs p1 v) w':=by
  obtain ⟨a1,a2,a3,a4,a5,a6,a7,a8,a9,a10⟩:=apart5.ne ha;have hs:D st=false:=by
    cases hs:D st with
    | false=>rfl
    | true=>rw [h.ordS hs] at hD;cases hD
  have h2:=h.two;have h3:=h.lit2;rw [hD,hs] at h2;rw [hD] at h3;simp only [Bool.false_eq_true,if_false] at h2
  constructor
  ·rw [Zaa _ _ (Ne.symm a7),hs,Zad,Zad,Zaa _ _ (Ne.symm a6),Zaa _ _ (Ne.symm a6)];simp only [Bool.false_eq_true,if_false,if_true];exact h2.push1 ho hg hat
  ·exact J2.vals h.val p1 (fun v' e=>by rw [hk] at e;cases e)
  ·rw [Zad];exact fun _ k=>by cases k
  ·rw [Zad,Zad,Zaa _ _ (Ne.symm a6),Zaa _ _ (Ne.symm a6),Zaa _ _ (Ne.symm a5),Zaa _ _ (Ne.symm a5)];simp only [if_true];exact fun k1 k2=>(h3 k1 k2).push1 hg hat
  ·intro hx;rw [Zaa _ _ (Ne.symm a7),hs] at hx;cases hx
  ·intro _
   by_cases hj:j0=p1
   ·rw [hj,Zad]
   ·rw [Zaa _ _ hj];exact h0
  ·intro hx;rw [Zaa _ _ (Ne.symm a7)];exact h.nst hx
theorem J2.push2 (h:J2 f sz e f' sz' e' B w0 q qe qs fo ks j0 i1 p1 i2 p2 st v1 v2 l1 l2 x1 x2 D vs w) (ha:apart5 i1 p1 i2 p2 st=true) (hk:ks[p2]?=some none) (hD:D p2=false) {v:Value} (ho:Own f' sz' e' w' B v (l2++ [x2])) (hg:w.grownBy w' v2.ownBlock) (hat:v.ownBlock=v2.ownBlock∨v.ownBlock=some w.heap.size):J2 f sz e f' sz' e' B w0 q qe qs fo ks j0 i1 p1 i2 p2 st v1 v2 l1 l2 x1 x2 (setF D p2 true) (setF vs p2 v) w':=by
  obtain ⟨a1,a2,a3,a4,a5,a6,a7,a8,a9,a10⟩:=apart5.ne ha;have h2:=h.two;have h3:=h.lit1;rw [hD] at h2 h3;simp only [Bool.false_eq_true,if_false] at h2 h3
  constructor
  ·rw [Zaa _ _ (Ne.symm a10),Zaa _ _ a6,Zaa _ _ a6,Zad,Zad];simp only [if_true];exact (h2.swap.push1 ho hg hat).swap
  ·exact J2.vals h.val p2 (fun v' e=>by rw [hk] at e;cases e)
  ·rw [Zad,Zad,Zaa _ _ a6,Zaa _ _ a6,Zaa _ _ a3,Zaa _ _ a3];simp only [if_true];exact fun k1 k2=>((h3 k1 k2).swap.push1 hg hat).swap
  ·rw [Zad];exact fun _ k=>by cases k
  ·exact Za5 h.ordS (Ne.symm a10)
  ·exact Za5 h.ordP a6
  ·intro hs;rw [Zaa _ _ (Ne.symm a10)];exact h.nst hs
theorem J2.put (h:J2 f sz e f' sz' e' B w0 q qe qs fo ks j0 i1 p1 i2 p2 st v1 v2 l1 l2 x1 x2 D vs w) (ha:apart5 i1 p1 i2 p2 st=true) (hk:ks[st]?=some none) (hB:B<=q) (hs:st≠1000) (hD:D st=false) (hp:D p1=true) {v:Value}:J2 f sz e f' sz' e' B w0 q qe qs fo ks j0 i1 p1 i2 p2 st v1 v2 l1 l2 x1 x2 (setF D st true) (setF vs st v) (w.setCell ⟨q,fo,none⟩ (vs p1)):=by
  obtain ⟨a1,a2,a3,a4,a5,a6,a7,a8,a9,a10⟩:=apart5.ne ha;have h2:=h.two;rw [hD] at h2;simp only [Bool.false_eq_true,if_false] at h2
  constructor
  ·rw [Zad,Zaa _ _ a7,Zaa _ _ a7,Zaa _ _ a10,Zaa _ _ a10];simp only [if_true];exact h2.put hB fo (vs p1)
  ·exact J2.vals h.val st (fun v' e=>by rw [hk] at e;cases e)
  ·rw [Zaa _ _ a7,Zaa _ _ a7,Zaa _ _ a10,Zaa _ _ a10,Zaa _ _ a4,Zaa _ _ a4];exact fun k1 k2=>(h.lit1 k1 k2).put fo (vs p1)
  ·rw [Zaa _ _ a7,Zaa _ _ a7,Zaa _ _ a10,Zaa _ _ a10,Zaa _ _ a9,Zaa _ _ a9];exact fun k1 k2=>(h.lit2 k1 k2).put fo (vs p1)
  ·intro _;rw [Zaa _ _ a7];exact hp
  ·exact Za5 h.ordP a7
  ·intro hx;exact absurd hx hs
theorem J2.field (h:J2 f sz e f' sz' e' B w0 q qe qs fo ks j0 i1 p1 i2 p2 st v1 v2 l1 l2 x1 x2 D vs w) (k:Nat) (hk:k≠fo):w.cell? ⟨q,k,none⟩=qs[k]?:=by
  have h2:=h.two.box.cell k;rw [h2]
  split
  ·rw [List.getElem?_set_ne (Ne.symm hk)]
  ·rfl
theorem J2.field0 (h:J2 f sz e f' sz' e' B w0 q qe qs fo ks j0 i1 p1 i2 p2 st v1 v2 l1 l2 x1 x2 D vs w) (hD:D j0=false) (k:Nat):w.cell? ⟨q,k,none⟩=qs[k]?:=by
  have h2:=h.two.box.cell k;have hs:D st=false:=by
    cases hs:D st with
    | false=>rfl
    | true=>rw [h.ordP (h.ordS hs)] at hD;cases hD
  rw [hs] at h2;exact h2
end
structure TwoOwnB {α β:Type} (f:α->List Value) (sz:Nat) (e:TypeId) (f':β->List Value) (sz':Nat) (e':TypeId) (B:Nat) (w0:World) (ob:List (Nat×TypeId×List Value)) (q:Nat) (qe:TypeId) (qs:List Value) (c1:Value) (l1:List α) (c2:Value) (l2:List β) (w:World):Prop where
  below:Below B w0 w
  base:B<=w.heap.size
  box:Box w q qe qs
  own1:Own f sz e w B c1 l1
  own2:Own f' sz' e' w B c2 l2
  sep: ∀g,c1.ownBlock=some g->c2.ownBlock≠some g
  nq1:c1.ownBlock≠some q
  nq2:c2.ownBlock≠some q
  oth: ∀x∈ob,Box w x.1 x.2.1 x.2.2/\c1.ownBlock≠some x.1/\c2.ownBlock≠some x.1/\q≠x.1
section
variable {α β:Type} {f:α->List Value} {sz:Nat} {e:TypeId} {f':β->List Value} {sz':Nat} {e':TypeId} {B:Nat} {w0 w w':World} {ob:List (Nat×TypeId×List Value)} {q:Nat} {qe:TypeId} {qs:List Value} {c1 c2:Value} {l1:List α} {l2:List β}
theorem TwoOwnB.swap (h:TwoOwnB f sz e f' sz' e' B w0 ob q qe qs c1 l1 c2 l2 w):TwoOwnB f' sz' e' f sz e B w0 ob q qe qs c2 l2 c1 l1 w:=
  ⟨h.below,h.base,h.box,h.own2,h.own1,fun g h2 h1=>h.sep g h1 h2,h.nq2,h.nq1,fun x hx=>⟨(h.oth x hx).1,(h.oth x hx).2.2.1,(h.oth x hx).2.1,(h.oth x hx).2.2.2⟩⟩
theorem TwoOwnB.grow (h:TwoOwnB f sz e f' sz' e' B w0 ob q qe qs c1 l1 c2 l2 w) (hb:Below w.heap.size w w'):TwoOwnB f sz e f' sz' e' B w0 ob q qe qs c1 l1 c2 l2 w':=
  ⟨h.below.trans (hb.mono h.base),Nat.le_trans h.base hb.size,h.box.later hb,h.own1.later hb,h.own2.later hb,h.sep,h.nq1,h.nq2,fun x hx=>⟨(h.oth x hx).1.later hb,(h.oth x hx).2⟩⟩
theorem TwoOwnB.push1 (h:TwoOwnB f sz e f' sz' e' B w0 ob q qe qs c1 l1 c2 l2 w) {v:Value} {x:α} (ho:Own f sz e w' B v (l1++ [x])) (hg:w.grownBy w' c1.ownBlock) (hat:v.ownBlock=c1.ownBlock∨v.ownBlock=some w.heap.size):
    TwoOwnB f sz e f' sz' e' B w0 ob q qe qs v (l1++ [x]) c2 l2 w':=by
 have hqlt:=h.box.lt;refine ⟨h.below.grown hg h.base (fun k hk=>h.own1.lt' k hk),Nat.le_trans h.base hg.size,h.box.kept hg (fun e=>h.nq1 e.symm),ho,?_,fun g h1 h2=> ?_,fun h1=> ?_,h.nq2,fun x hx=>⟨(h.oth x hx).1.kept hg (fun e=>(h.oth x hx).2.1 e.symm),fun h1=> ?_,(h.oth x hx).2.2⟩⟩
 ·refine h.own2.kept hg ?_;cases h2:c2.ownBlock with
  | none=>exact .inl rfl
  | some g=>exact .inr (fun e=>h.sep g e.symm h2)
 ·rcases hat with h3|h3
  ·exact h.sep g (h3 ▸ h1) h2
  ·have:=h.own2.lt2 g h2;rw [h3] at h1;injection h1 with h1;omega
 ·rcases hat with h3|h3
  ·exact h.nq1 (h3 ▸ h1)
  ·rw [h3] at h1;injection h1 with h1;omega
 ·rcases hat with h3|h3
  ·exact (h.oth x hx).2.1 (h3 ▸ h1)
  ·rw [h3] at h1;injection h1 with h1;have:=(h.oth x hx).1.lt;omega
def LitAtB (w:World) (q:Nat) (c1 c2 v:Value) (cs:List Value) (t:TypeId):Prop:=∃g,v= .slice (some ⟨g,0,none⟩) 1 1/\Box w g t cs/\c1.ownBlock≠some g/\c2.ownBlock≠some g/\g≠q
theorem LitAtB.grow {v:Value} {cs:List Value} {t:TypeId} (h:LitAtB w q c1 c2 v cs t) (hb:Below w.heap.size w w'):LitAtB w' q c1 c2 v cs t:=by
  obtain ⟨g,h1,h2,h3⟩:=h;exact ⟨g,h1,h2.later hb,h3⟩
theorem LitAtB.push1 {v v1:Value} {cs:List Value} {t:TypeId} (h:LitAtB w q c1 c2 v cs t) (hg:w.grownBy w' c1.ownBlock) (hat:v1.ownBlock=c1.ownBlock∨v1.ownBlock=some w.heap.size):LitAtB w' q v1 c2 v cs t:=by
  obtain ⟨g,h1,h2,h3,h4,h5⟩:=h;refine ⟨g,h1,h2.kept hg (fun e=>h3 e.symm),fun h5=> ?_,h4,h5⟩
  rcases hat with h6|h6
  ·exact h3 (h6 ▸ h5)
  ·rw [h6] at h5;injection h5 with h5;have:=h2.lt;omega
theorem LitAtB.swap {v:Value} {cs:List Value} {t:TypeId} (h:LitAtB w q c1 c2 v cs t):LitAtB w q c2 c1 v cs t:=by
  obtain ⟨g,h1,h2,h3,h4,h5⟩:=h;exact ⟨g,h1,h2,h4,h3,h5⟩
theorem LitAtB.new (h:TwoOwnB f sz e f' sz' e' B w0 ob q qe qs c1 l1 c2 l2 w) (cs:Array Value) (t:TypeId):LitAtB (w.alloc (.cells cs t)) q c1 c2 (.slice (some ⟨w.heap.size,0,none⟩) 1 1) cs.toList t:=
  ⟨_,rfl,Box.new w cs t,fun h1=>Nat.lt_irrefl _ (h.own1.lt2 _ h1),fun h1=>Nat.lt_irrefl _ (h.own2.lt2 _ h1),fun e=>by have:=h.box.lt;omega⟩
theorem LitAtB.put {v:Value} {cs:List Value} {t:TypeId} (h:LitAtB w q c1 c2 v cs t) (j:Nat) (u:Value):LitAtB (w.setCell ⟨q,j,none⟩ u) q c1 c2 v cs t:=by
  obtain ⟨g,h1,h2,h3,h4,h5⟩:=h;exact ⟨g,h1,h2.other u (fun e=>h5 e.symm),h3,h4,h5⟩
theorem TwoOwnB.put (h:TwoOwnB f sz e f' sz' e' B w0 ob q qe qs c1 l1 c2 l2 w) (hq:B<=q) (j:Nat) (u:Value):TwoOwnB f sz e f' sz' e' B w0 ob q qe (qs.set j u) c1 l1 c2 l2 (w.setCell ⟨q,j,none⟩ u):=
  ⟨h.below.setCell hq u,by simpa using h.base,h.box.set j u,h.own1.other u h.nq1,h.own2.other u h.nq2,h.sep,h.nq1,h.nq2,fun x hx=>⟨(h.oth x hx).1.other u (h.oth x hx).2.2.2,(h.oth x hx).2⟩⟩
end
structure J2B {α β:Type} (f:α->List Value) (sz:Nat) (e:TypeId) (f':β->List Value) (sz':Nat) (e':TypeId) (B:Nat) (w0:World) (ob:List (Nat×TypeId×List Value)) (q:Nat) (qe:TypeId) (qs:List Value) (fo:Nat) (ks:List (Option Value)) (j0 i1 p1 i2 p2 st:Nat) (v1 v2:Value) (l1:List α) (l2:List β) (x1:α) (x2:β) (D:Nat->Bool) (vs:Nat->Value) (w:World):Prop where
  two:TwoOwnB f sz e f' sz' e' B w0 ob q qe (if D st then qs.set fo (vs p1) else qs) (if D p1 then vs p1 else v1) (if D p1 then l1++ [x1] else l1) (if D p2 then vs p2 else v2) (if D p2 then l2++ [x2] else l2) w
  val: ∀j v,ks[j]?=some (some v)->D j=true->vs j=v
  lit1:D i1=true->D p1=false->LitAtB w q (if D p1 then vs p1 else v1) (if D p2 then vs p2 else v2) (vs i1) (f x1) e
  lit2:D i2=true->D p2=false->LitAtB w q (if D p1 then vs p1 else v1) (if D p2 then vs p2 else v2) (vs i2) (f' x2) e'
  ordS:D st=true->D p1=true
  ordP:D p1=true->D j0=true
  nst:st=1000->D st=false
section
variable {α β:Type} {f:α->List Value} {sz:Nat} {e:TypeId} {f':β->List Value} {sz':Nat} {e':TypeId} {B:Nat} {w0:World} {ob:List (Nat×TypeId×List Value)} {q:Nat} {qe:TypeId} {qs:List Value} {fo:Nat} {ks:List (Option Value)} {j0 i1 p1 i2 p2 st:Nat} {v1 v2:Value} {l1:List α} {l2:List β} {x1:α} {x2:β} {D:Nat->Bool} {vs:Nat->Value} {w w':World}
theorem J2B.vals (h: ∀j v,ks[j]?=some (some v)->D j=true->vs j=v) (i:Nat) {v:Value} (hk: ∀v',ks[i]?=some (some v')->v=v'): ∀j v',ks[j]?=some (some v')->setF D i true j=true->setF vs i v j=v':=fun j v' hj hd=>by
  by_cases hji:j=i
  ·subst hji;rw [Zad];exact hk v' hj
  ·rw [Zaa _ _ hji] at hd ⊢;exact h j v' hj hd
theorem J2B.start (h:TwoOwnB f sz e f' sz' e' B w0 ob q qe qs v1 l1 v2 l2 w):J2B f sz e f' sz' e' B w0 ob q qe qs fo ks j0 i1 p1 i2 p2 st v1 v2 l1 l2 x1 x2 (fun _=>false) (fun _=>undef) w.drew:=
  ⟨by simp only [Bool.false_eq_true,if_false];exact h.grow ⟨rfl,rfl,rfl,Nat.le_refl _,fun _ _=>rfl⟩,(fun j v _ h=>by cases h),(fun h=>by cases h),(fun h=>by cases h),(fun h=>by cases h),(fun h=>by cases h),fun _=>rfl⟩
theorem J2B.quiet (h:J2B f sz e f' sz' e' B w0 ob q qe qs fo ks j0 i1 p1 i2 p2 st v1 v2 l1 l2 x1 x2 D vs w) (i:Nat) (hi: [i1,p1,i2,p2,st].contains i=false) {v:Value} (hk: ∀v',ks[i]?=some (some v')->v=v') (hb:Below w.heap.size w w'):J2B f sz e f' sz' e' B w0 ob q qe qs fo ks j0 i1 p1 i2 p2 st v1 v2 l1 l2 x1 x2 (setF D i true) (setF vs i v) w':=by
  simp at hi;obtain ⟨h1,h2,h3,h4,h5⟩:=hi
  constructor
  ·rw [Zaa _ _ (Ne.symm h5),Zaa _ _ (Ne.symm h2),Zaa _ _ (Ne.symm h2),Zaa _ _ (Ne.symm h4),Zaa _ _ (Ne.symm h4)];exact h.two.grow hb
  ·exact J2B.vals h.val i hk
  ·rw [Zaa _ _ (Ne.symm h2),Zaa _ _ (Ne.symm h2),Zaa _ _ (Ne.symm h4),Zaa _ _ (Ne.symm h4),Zaa _ _ (Ne.symm h1),Zaa _ _ (Ne.symm h1)];exact fun k1 k2=>(h.lit1 k1 k2).grow hb
  ·rw [Zaa _ _ (Ne.symm h2),Zaa _ _ (Ne.symm h2),Zaa _ _ (Ne.symm h4),Zaa _ _ (Ne.symm h4),Zaa _ _ (Ne.symm h3),Zaa _ _ (Ne.symm h3)];exact fun k1 k2=>(h.lit2 k1 k2).grow hb
  ·exact Za5 h.ordS (Ne.symm h5)
  ·exact Za5 h.ordP (Ne.symm h2)
  ·intro hs;rw [Zaa _ _ (Ne.symm h5)];exact h.nst hs
theorem J2B.new1 (h:J2B f sz e f' sz' e' B w0 ob q qe qs fo ks j0 i1 p1 i2 p2 st v1 v2 l1 l2 x1 x2 D vs w) (ha:apart5 i1 p1 i2 p2 st=true) (hk:ks[i1]?=some none) {cs:Array Value} (hcs:cs.toList=f x1):J2B f sz e f' sz' e' B w0 ob q qe qs fo ks j0 i1 p1 i2 p2 st v1 v2 l1 l2 x1 x2 (setF D i1 true) (setF vs i1 (.slice (some ⟨w.heap.size,0,none⟩) 1 1)) (w.alloc (.cells cs e)):=by
  obtain ⟨a1,a2,a3,a4,a5,a6,a7,a8,a9,a10⟩:=apart5.ne ha
  constructor
  ·rw [Zaa _ _ (Ne.symm a4),Zaa _ _ (Ne.symm a1),Zaa _ _ (Ne.symm a1),Zaa _ _ (Ne.symm a3),Zaa _ _ (Ne.symm a3)];exact h.two.grow (Zai _ _)
  ·exact J2B.vals h.val i1 (fun v' e=>by rw [hk] at e;cases e)
  ·rw [Zaa _ _ (Ne.symm a1),Zaa _ _ (Ne.symm a1),Zaa _ _ (Ne.symm a3),Zaa _ _ (Ne.symm a3),Zad,Zad,<-hcs];exact fun _ _=>LitAtB.new h.two cs e
  ·rw [Zaa _ _ (Ne.symm a1),Zaa _ _ (Ne.symm a1),Zaa _ _ (Ne.symm a3),Zaa _ _ (Ne.symm a3),Zaa _ _ (Ne.symm a2),Zaa _ _ (Ne.symm a2)];exact fun k1 k2=>(h.lit2 k1 k2).grow (Zai _ _)
  ·exact Za5 h.ordS (Ne.symm a4)
  ·exact Za5 h.ordP (Ne.symm a1)
  ·intro hs;rw [Zaa _ _ (Ne.symm a4)];exact h.nst hs
theorem J2B.new2 (h:J2B f sz e f' sz' e' B w0 ob q qe qs fo ks j0 i1 p1 i2 p2 st v1 v2 l1 l2 x1 x2 D vs w) (ha:apart5 i1 p1 i2 p2 st=true) (hk:ks[i2]?=some none) {cs:Array Value} (hcs:cs.toList=f' x2):J2B f sz e f' sz' e' B w0 ob q qe qs fo ks j0 i1 p1 i2 p2 st v1 v2 l1 l2 x1 x2 (setF D i2 true) (setF vs i2 (.slice (some ⟨w.heap.size,0,none⟩) 1 1)) (w.alloc (.cells cs e')):=by
  obtain ⟨a1,a2,a3,a4,a5,a6,a7,a8,a9,a10⟩:=apart5.ne ha
  constructor
  ·rw [Zaa _ _ (Ne.symm a9),Zaa _ _ a5,Zaa _ _ a5,Zaa _ _ (Ne.symm a8),Zaa _ _ (Ne.symm a8)];exact h.two.grow (Zai _ _)
  ·exact J2B.vals h.val i2 (fun v' e=>by rw [hk] at e;cases e)
  ·rw [Zaa _ _ a5,Zaa _ _ a5,Zaa _ _ (Ne.symm a8),Zaa _ _ (Ne.symm a8),Zaa _ _ a2,Zaa _ _ a2];exact fun k1 k2=>(h.lit1 k1 k2).grow (Zai _ _)
  ·rw [Zaa _ _ a5,Zaa _ _ a5,Zaa _ _ (Ne.symm a8),Zaa _ _ (Ne.symm a8),Zad,Zad,<-hcs];exact fun _ _=>LitAtB.new h.two cs e'
  ·exact Za5 h.ordS (Ne.symm a9)
  ·exact Za5 h.ordP a5
  ·intro hs;rw [Zaa _ _ (Ne.symm a9)];exact h.nst hs
theorem J2B.push1 (h:J2B f sz e f' sz' e' B w0 ob q qe qs fo ks j0 i1 p1 i2 p2 st v1 v2 l1 l2 x1 x2 D vs w) (ha:apart5 i1 p1 i2 p2 st=true) (hk:ks[p1]?=some none) (hD:D p1=false) (h0:D j0=true) {v:Value} (ho:Own f sz e w' B v (l1++ [x1])) (hg:w.grownBy w' v1.ownBlock) (hat:v.ownBlock=v1.ownBlock∨v.ownBlock=some w.heap.size):J2B f sz e f' sz' e' B w0 ob q qe qs fo ks j0 i1 p1 i2 p2 st v1 v2 l1 l2 x1 x2 (setF D p1 true) (setF vs p1 v) w':=by
  obtain ⟨a1,a2,a3,a4,a5,a6,a7,a8,a9,a10⟩:=apart5.ne ha;have hs:D st=false:=by
    cases hs:D st with
    | false=>rfl
    | true=>rw [h.ordS hs] at hD;cases hD
  have h2:=h.two;have h3:=h.lit2;rw [hD,hs] at h2;rw [hD] at h3;simp only [Bool.false_eq_true,if_false] at h2
  constructor
  ·rw [Zaa _ _ (Ne.symm a7),hs,Zad,Zad,Zaa _ _ (Ne.symm a6),Zaa _ _ (Ne.symm a6)];simp only [Bool.false_eq_true,if_false,if_true];exact h2.push1 ho hg hat
  ·exact J2B.vals h.val p1 (fun v' e=>by rw [hk] at e;cases e)
  ·rw [Zad];exact fun _ k=>by cases k
  ·rw [Zad,Zad,Zaa _ _ (Ne.symm a6),Zaa _ _ (Ne.symm a6),Zaa _ _ (Ne.symm a5),Zaa _ _ (Ne.symm a5)];simp only [if_true];exact fun k1 k2=>(h3 k1 k2).push1 hg hat
  ·intro hx;rw [Zaa _ _ (Ne.symm a7),hs] at hx;cases hx
  ·intro _
   by_cases hj:j0=p1
   ·rw [hj,Zad]
   ·rw [Zaa _ _ hj];exact h0
  ·intro hx;rw [Zaa _ _ (Ne.symm a7)];exact h.nst hx
theorem J2B.push2 (h:J2B f sz e f' sz' e' B w0 ob q qe qs fo ks j0 i1 p1 i2 p2 st v1 v2 l1 l2 x1 x2 D vs w) (ha:apart5 i1 p1 i2 p2 st=true) (hk:ks[p2]?=some none) (hD:D p2=false) {v:Value} (ho:Own f' sz' e' w' B v (l2++ [x2])) (hg:w.grownBy w' v2.ownBlock) (hat:v.ownBlock=v2.ownBlock∨v.ownBlock=some w.heap.size):J2B f sz e f' sz' e' B w0 ob q qe qs fo ks j0 i1 p1 i2 p2 st v1 v2 l1 l2 x1 x2 (setF D p2 true) (setF vs p2 v) w':=by
  obtain ⟨a1,a2,a3,a4,a5,a6,a7,a8,a9,a10⟩:=apart5.ne ha;have h2:=h.two;have h3:=h.lit1;rw [hD] at h2 h3;simp only [Bool.false_eq_true,if_false] at h2 h3
  constructor
  ·rw [Zaa _ _ (Ne.symm a10),Zaa _ _ a6,Zaa _ _ a6,Zad,Zad];simp only [if_true];exact (h2.swap.push1 ho hg hat).swap
  ·exact J2B.vals h.val p2 (fun v' e=>by rw [hk] at e;cases e)
  ·rw [Zad,Zad,Zaa _ _ a6,Zaa _ _ a6,Zaa _ _ a3,Zaa _ _ a3];simp only [if_true];exact fun k1 k2=>((h3 k1 k2).swap.push1 hg hat).swap
  ·rw [Zad];exact fun _ k=>by cases k
  ·exact Za5 h.ordS (Ne.symm a10)
  ·exact Za5 h.ordP a6
  ·intro hs;rw [Zaa _ _ (Ne.symm a10)];exact h.nst hs
theorem J2B.put (h:J2B f sz e f' sz' e' B w0 ob q qe qs fo ks j0 i1 p1 i2 p2 st v1 v2 l1 l2 x1 x2 D vs w) (ha:apart5 i1 p1 i2 p2 st=true) (hk:ks[st]?=some none) (hB:B<=q) (hs:st≠1000) (hD:D st=false) (hp:D p1=true) {v:Value}:J2B f sz e f' sz' e' B w0 ob q qe qs fo ks j0 i1 p1 i2 p2 st v1 v2 l1 l2 x1 x2 (setF D st true) (setF vs st v) (w.setCell ⟨q,fo,none⟩ (vs p1)):=by
  obtain ⟨a1,a2,a3,a4,a5,a6,a7,a8,a9,a10⟩:=apart5.ne ha;have h2:=h.two;rw [hD] at h2;simp only [Bool.false_eq_true,if_false] at h2
  constructor
  ·rw [Zad,Zaa _ _ a7,Zaa _ _ a7,Zaa _ _ a10,Zaa _ _ a10];simp only [if_true];exact h2.put hB fo (vs p1)
  ·exact J2B.vals h.val st (fun v' e=>by rw [hk] at e;cases e)
  ·rw [Zaa _ _ a7,Zaa _ _ a7,Zaa _ _ a10,Zaa _ _ a10,Zaa _ _ a4,Zaa _ _ a4];exact fun k1 k2=>(h.lit1 k1 k2).put fo (vs p1)
  ·rw [Zaa _ _ a7,Zaa _ _ a7,Zaa _ _ a10,Zaa _ _ a10,Zaa _ _ a9,Zaa _ _ a9];exact fun k1 k2=>(h.lit2 k1 k2).put fo (vs p1)
  ·intro _;rw [Zaa _ _ a7];exact hp
  ·exact Za5 h.ordP a7
  ·intro hx;exact absurd hx hs
theorem J2B.field (h:J2B f sz e f' sz' e' B w0 ob q qe qs fo ks j0 i1 p1 i2 p2 st v1 v2 l1 l2 x1 x2 D vs w) (k:Nat) (hk:k≠fo):w.cell? ⟨q,k,none⟩=qs[k]?:=by
  have h2:=h.two.box.cell k;rw [h2]
  split
  ·rw [List.getElem?_set_ne (Ne.symm hk)]
  ·rfl
theorem J2B.field0 (h:J2B f sz e f' sz' e' B w0 ob q qe qs fo ks j0 i1 p1 i2 p2 st v1 v2 l1 l2 x1 x2 D vs w) (hD:D j0=false) (k:Nat):w.cell? ⟨q,k,none⟩=qs[k]?:=by
  have h2:=h.two.box.cell k;have hs:D st=false:=by
    cases hs:D st with
    | false=>rfl
    | true=>rw [h.ordP (h.ordS hs)] at hD;cases hD
  rw [hs] at h2;exact h2
end
structure R4J (W:World) (sv:Value) (ty:TypeId) (zs nv:List Value) (D:Nat->Bool) (vs:Nat->Value) (u:World):Prop where
  later:Below W.heap.size W u
  v0:D 0=true->vs 0=sv
  v1:D 1=true->vs 1=sv
  b2:D 2=true->∃g,vs 2= .pointer (some ⟨g,0,none⟩)/\W.heap.size<=g/\Box u g ty (if D 4 then nv else zs)
  b3:D 3=true->∃g,vs 3= .pointer (some ⟨g,0,none⟩)/\W.heap.size<=g/\Box u g ty zs
  ne:D 2=true->D 3=true->vs 2≠vs 3
  ord:D 4=true->D 2=true
section
variable {W u u':World} {sv:Value} {ty:TypeId} {zs nv:List Value} {D:Nat->Bool} {vs:Nat->Value}
theorem R4J.start:R4J W sv ty zs nv (fun _=>false) (fun _=>undef) W.drew:=
  ⟨⟨rfl,rfl,rfl,Nat.le_refl _,fun _ _=>rfl⟩,(fun h=>by cases h),(fun h=>by cases h),(fun h=>by cases h),(fun h=>by cases h),(fun h=>by cases h),(fun h=>by cases h)⟩
theorem R4J.quiet0 (h:R4J W sv ty zs nv D vs u):R4J W sv ty zs nv (setF D 0 true) (setF vs 0 sv) u:=by
  refine ⟨h.later,fun _=>Zad _ _ _,?_,?_,?_,?_,?_⟩ <;> simp only [setF,Nat.reduceEqDiff,reduceIte,if_false]
  ·exact h.v1
  ·exact h.b2
  ·exact h.b3
  ·exact h.ne
  ·exact h.ord
theorem R4J.quiet1 (h:R4J W sv ty zs nv D vs u):R4J W sv ty zs nv (setF D 1 true) (setF vs 1 sv) u:=by
  refine ⟨h.later,?_,fun _=>Zad _ _ _,?_,?_,?_,?_⟩ <;> simp only [setF,Nat.reduceEqDiff,reduceIte,if_false]
  ·exact h.v0
  ·exact h.b2
  ·exact h.b3
  ·exact h.ne
  ·exact h.ord
theorem R4J.new2 (h:R4J W sv ty zs nv D vs u) (hD:D 2=false):R4J W sv ty zs nv (setF D 2 true) (setF vs 2 (.pointer (some ⟨u.heap.size,0,none⟩))) (u.alloc (.cells zs.toArray ty)):=by
  have h4:D 4=false:=by
    cases h4:D 4 with
    | false=>rfl
    | true=>rw [h.ord h4] at hD;cases hD
  have hb:=Zai u (.cells zs.toArray ty);refine ⟨h.later.trans (hb.mono h.later.size),?_,?_,?_,?_,?_,?_⟩ <;> simp only [setF,Nat.reduceEqDiff,reduceIte,if_false]
  ·exact h.v0
  ·exact h.v1
  ·intro _;rw [h4];exact ⟨_,rfl,h.later.size,by have:=Box.new u zs.toArray ty;simpa using this⟩
  ·intro h3;obtain ⟨g,e,hl,hx⟩:=h.b3 h3;exact ⟨g,e,hl,hx.later hb⟩
  ·intro _ h3 e;obtain ⟨g,e2,hl,hx⟩:=h.b3 h3;rw [e2] at e;injection e with e
   injection e with e
   injection e with e
   have:=hx.lt;omega
  ·intro h;rw [h4] at h;cases h
theorem R4J.new3 (h:R4J W sv ty zs nv D vs u):R4J W sv ty zs nv (setF D 3 true) (setF vs 3 (.pointer (some ⟨u.heap.size,0,none⟩))) (u.alloc (.cells zs.toArray ty)):=by
  have hb:=Zai u (.cells zs.toArray ty);refine ⟨h.later.trans (hb.mono h.later.size),?_,?_,?_,?_,?_,?_⟩ <;> simp only [setF,Nat.reduceEqDiff,reduceIte,if_false]
  ·exact h.v0
  ·exact h.v1
  ·intro h2;obtain ⟨g,e,hl,hx⟩:=h.b2 h2;exact ⟨g,e,hl,hx.later hb⟩
  ·intro _;exact ⟨_,rfl,h.later.size,by have:=Box.new u zs.toArray ty;simpa using this⟩
  ·intro h2 _ e;obtain ⟨g,e2,hl,hx⟩:=h.b2 h2;rw [e2] at e;injection e with e
   injection e with e
   injection e with e
   have:=hx.lt;omega
  ·exact h.ord
theorem R4J.put (h:R4J W sv ty zs nv D vs u) (h2:D 2=true) {g:Nat} (hg:vs 2= .pointer (some ⟨g,0,none⟩)) (hb:Below W.heap.size W u') (hl:W.heap.size<=g) (hx:Box u' g ty nv) (hk: ∀k t l,k≠g->Box u k t l->Box u' k t l) {v:Value}:R4J W sv ty zs nv (setF D 4 true) (setF vs 4 v) u':=by
  refine ⟨hb,?_,?_,?_,?_,?_,?_⟩ <;> simp only [setF,Nat.reduceEqDiff,reduceIte,if_false,if_true]
  ·exact h.v0
  ·exact h.v1
  ·exact fun _=>⟨g,hg,hl,hx⟩
  ·intro h3;obtain ⟨g3,e,hl3,hx3⟩:=h.b3 h3;refine ⟨g3,e,hl3,hk g3 _ _ (fun e2=> ?_) hx3⟩;exact h.ne h2 h3 (by rw [hg,e,e2])
  ·exact h.ne
  ·exact fun _=>h2
end
def rowBox (w:World) (c:Value):List (Nat×TypeId×List Value):=
  match c.ownBlock with
  | none=> []
  | some g=>match w.heap[g]? with
    | some (.cells cur e _)=> [(g,e,cur.toList)]
    | _=> []
section
variable {α:Type} {f:α->List Value} {sz:Nat} {e:TypeId} {B:Nat} {w w':World} {c:Value} {l:List α}
theorem rowBox.at {x:Nat×TypeId×List Value} (hx:x∈rowBox w c):c.ownBlock=some x.1:=by
  unfold rowBox at hx
  split at hx
  ·cases hx
  ·rename_i g hg
   split at hx
   ·rw [List.mem_singleton.1 hx];exact hg
   ·cases hx
theorem Own.boxes (h:Own f sz e w B c l): ∀x∈rowBox w c,Box w x.1 x.2.1 x.2.2:=by
  intro x hx
  rcases h.2 with ⟨h1,_⟩|⟨g,cap,cur,h1,_,h3,_⟩
  ·subst h1;cases hx
  ·subst h1;simp only [rowBox,Value.ownBlock,h3,List.mem_singleton] at hx;subst hx;exact h3
theorem Own.ofBoxes (h:Own f sz e w B c l) (hx: ∀x∈rowBox w c,Box w' x.1 x.2.1 x.2.2):Own f sz e w' B c l:=by
  refine ⟨h.1,?_⟩
  rcases h.2 with h1|⟨g,cap,cur,h1,h2,h3,h4⟩
  ·exact .inl h1
  ·refine .inr ⟨g,cap,cur,h1,h2,?_,h4⟩;have:=hx (g,e,cur.toList) (by subst h1;simp only [rowBox,Value.ownBlock,h3,List.mem_singleton]);exact this
theorem Own.boxAt (h:Own f sz e w B c l) {g:Nat} (hg:c.ownBlock=some g): ∃x∈rowBox w c,x.1=g:=by
  rcases h.2 with ⟨h1,_⟩|⟨g',cap,cur,h1,_,h3,_⟩
  ·subst h1;cases hg
  ·subst h1;simp only [Value.ownBlock,Option.some.injEq] at hg;exact ⟨(g',e,cur.toList),by simp only [rowBox,Value.ownBlock,h3,List.mem_singleton],hg⟩
end
structure Four {α β γ δ:Type} (f1:α->List Value) (z1:Nat) (e1:TypeId) (f2:β->List Value) (z2:Nat) (e2:TypeId) (f3:γ->List Value) (z3:Nat) (e3:TypeId) (f4:δ->List Value) (z4:Nat) (e4:TypeId) (B:Nat) (w0:World) (ob:List (Nat×TypeId×List Value)) (q:Nat) (qe:TypeId) (qs:List Value) (c1:Value) (l1:List α) (c2:Value) (l2:List β) (c3:Value) (l3:List γ) (c4:Value) (l4:List δ) (w:World):Prop where
  two:TwoOwnB f1 z1 e1 f2 z2 e2 B w0 ob q qe qs c1 l1 c2 l2 w
  owt:TwoOwnB f3 z3 e3 f4 z4 e4 B w0 ob q qe qs c3 l3 c4 l4 w
  s13: ∀g,c1.ownBlock=some g->c3.ownBlock≠some g
  s14: ∀g,c1.ownBlock=some g->c4.ownBlock≠some g
  s23: ∀g,c2.ownBlock=some g->c3.ownBlock≠some g
  s24: ∀g,c2.ownBlock=some g->c4.ownBlock≠some g
section
variable {α β γ δ:Type} {f1:α->List Value} {z1:Nat} {e1:TypeId} {f2:β->List Value} {z2:Nat} {e2:TypeId} {f3:γ->List Value} {z3:Nat} {e3:TypeId} {f4:δ->List Value} {z4:Nat} {e4:TypeId} {B:Nat} {w0 w w':World} {ob:List (Nat×TypeId×List Value)} {q:Nat} {qe:TypeId} {qs qs':List Value} {c1 c2 c3 c4 c1' c2':Value} {l1 l1':List α} {l2 l2':List β} {l3:List γ} {l4:List δ}
theorem Four.swap (h:Four f1 z1 e1 f2 z2 e2 f3 z3 e3 f4 z4 e4 B w0 ob q qe qs c1 l1 c2 l2 c3 l3 c4 l4 w):Four f3 z3 e3 f4 z4 e4 f1 z1 e1 f2 z2 e2 B w0 ob q qe qs c3 l3 c4 l4 c1 l1 c2 l2 w:=
  ⟨h.owt,h.two,fun g h1 h2=>h.s13 g h2 h1,fun g h1 h2=>h.s23 g h2 h1,fun g h1 h2=>h.s14 g h2 h1,fun g h1 h2=>h.s24 g h2 h1⟩
theorem Four.grow (h:Four f1 z1 e1 f2 z2 e2 f3 z3 e3 f4 z4 e4 B w0 ob q qe qs c1 l1 c2 l2 c3 l3 c4 l4 w) (hb:Below w.heap.size w w'):Four f1 z1 e1 f2 z2 e2 f3 z3 e3 f4 z4 e4 B w0 ob q qe qs c1 l1 c2 l2 c3 l3 c4 l4 w':=
  ⟨h.two.grow hb,h.owt.grow hb,h.s13,h.s14,h.s23,h.s24⟩
theorem Four.put (h:Four f1 z1 e1 f2 z2 e2 f3 z3 e3 f4 z4 e4 B w0 ob q qe qs c1 l1 c2 l2 c3 l3 c4 l4 w) (hq:B<=q) (j:Nat) (u:Value):Four f1 z1 e1 f2 z2 e2 f3 z3 e3 f4 z4 e4 B w0 ob q qe (qs.set j u) c1 l1 c2 l2 c3 l3 c4 l4 (w.setCell ⟨q,j,none⟩ u):=
  ⟨h.two.put hq j u,h.owt.put hq j u,h.s13,h.s14,h.s23,h.s24⟩
theorem Four.to (h:Four f1 z1 e1 f2 z2 e2 f3 z3 e3 f4 z4 e4 B w0 ob q qe qs c1 l1 c2 l2 c3 l3 c4 l4 w):TwoOwnB f1 z1 e1 f2 z2 e2 B w0 (rowBox w c3++rowBox w c4++ob) q qe qs c1 l1 c2 l2 w:=by
  refine ⟨h.two.below,h.two.base,h.two.box,h.two.own1,h.two.own2,h.two.sep,h.two.nq1,h.two.nq2,fun x hx=> ?_⟩
  rcases List.mem_append.1 hx with hx|hx
  ·rcases List.mem_append.1 hx with hx|hx
   ·have e:=rowBox.at hx;exact ⟨h.owt.own1.boxes x hx,fun k=>h.s13 _ k e,fun k=>h.s23 _ k e,fun k=>h.owt.nq1 (k ▸ e)⟩
   ·have e:=rowBox.at hx;exact ⟨h.owt.own2.boxes x hx,fun k=>h.s14 _ k e,fun k=>h.s24 _ k e,fun k=>h.owt.nq2 (k ▸ e)⟩
  ·exact h.two.oth x hx
theorem Four.of (h:Four f1 z1 e1 f2 z2 e2 f3 z3 e3 f4 z4 e4 B w0 ob q qe qs c1 l1 c2 l2 c3 l3 c4 l4 w) (h2:TwoOwnB f1 z1 e1 f2 z2 e2 B w0 (rowBox w c3++rowBox w c4++ob) q qe qs' c1' l1' c2' l2' w'):Four f1 z1 e1 f2 z2 e2 f3 z3 e3 f4 z4 e4 B w0 ob q qe qs' c1' l1' c2' l2' c3 l3 c4 l4 w':=by
  have m3: ∀x∈rowBox w c3,x∈rowBox w c3++rowBox w c4++ob:=fun x hx=>List.mem_append.2 (.inl (List.mem_append.2 (.inl hx)));have m4: ∀x∈rowBox w c4,x∈rowBox w c3++rowBox w c4++ob:=fun x hx=>List.mem_append.2 (.inl (List.mem_append.2 (.inr hx)));have mo: ∀x∈ob,x∈rowBox w c3++rowBox w c4++ob:=fun x hx=>List.mem_append.2 (.inr hx);refine ⟨⟨h2.below,h2.base,h2.box,h2.own1,h2.own2,h2.sep,h2.nq1,h2.nq2,fun x hx=>h2.oth x (mo x hx)⟩,⟨h2.below,h2.base,h2.box,h.owt.own1.ofBoxes (fun x hx=>(h2.oth x (m3 x hx)).1),h.owt.own2.ofBoxes (fun x hx=>(h2.oth x (m4 x hx)).1),h.owt.sep,h.owt.nq1,h.owt.nq2,fun x hx=>⟨(h2.oth x (mo x hx)).1,(h.owt.oth x hx).2⟩⟩,?_,?_,?_,?_⟩
  ·intro g k1 k3;obtain ⟨x,hx,e⟩:=h.owt.own1.boxAt k3;exact (h2.oth x (m3 x hx)).2.1 (e ▸ k1)
  ·intro g k1 k3;obtain ⟨x,hx,e⟩:=h.owt.own2.boxAt k3;exact (h2.oth x (m4 x hx)).2.1 (e ▸ k1)
  ·intro g k1 k3;obtain ⟨x,hx,e⟩:=h.owt.own1.boxAt k3;exact (h2.oth x (m3 x hx)).2.2.1 (e ▸ k1)
  ·intro g k1 k3;obtain ⟨x,hx,e⟩:=h.owt.own2.boxAt k3;exact (h2.oth x (m4 x hx)).2.2.1 (e ▸ k1)
theorem Four.turn {p:Nat} {pe:TypeId} {ps:List Value} (h:Four f1 z1 e1 f2 z2 e2 f3 z3 e3 f4 z4 e4 B w0 ((p,pe,ps)::ob) q qe qs c1 l1 c2 l2 c3 l3 c4 l4 w) (hp: ∀x∈ob,p≠x.1):Four f1 z1 e1 f2 z2 e2 f3 z3 e3 f4 z4 e4 B w0 ((q,qe,qs)::ob) p pe ps c1 l1 c2 l2 c3 l3 c4 l4 w:=by
  have h1:=h.two.oth (p,pe,ps) (List.mem_cons_self ..);have h2:=h.owt.oth (p,pe,ps) (List.mem_cons_self ..);refine ⟨⟨h.two.below,h.two.base,h1.1,h.two.own1,h.two.own2,h.two.sep,h1.2.1,h1.2.2.1,fun x hx=> ?_⟩,⟨h.two.below,h.two.base,h1.1,h.owt.own1,h.owt.own2,h.owt.sep,h2.2.1,h2.2.2.1,fun x hx=> ?_⟩,h.s13,h.s14,h.s23,h.s24⟩
  ·rcases List.mem_cons.1 hx with rfl|hx
   ·exact ⟨h.two.box,h.two.nq1,h.two.nq2,fun e=>h1.2.2.2 e.symm⟩
   ·have h3:=h.two.oth x (List.mem_cons_of_mem _ hx);exact ⟨h3.1,h3.2.1,h3.2.2.1,hp x hx⟩
  ·rcases List.mem_cons.1 hx with rfl|hx
   ·exact ⟨h.two.box,h.owt.nq1,h.owt.nq2,fun e=>h1.2.2.2 e.symm⟩
   ·have h3:=h.owt.oth x (List.mem_cons_of_mem _ hx);exact ⟨h3.1,h3.2.1,h3.2.2.1,hp x hx⟩
end
section
variable {α β γ δ ε ζ:Type} {f1:α->List Value} {z1:Nat} {e1:TypeId} {f2:β->List Value} {z2:Nat} {e2:TypeId} {f3:γ->List Value} {z3:Nat} {e3:TypeId} {f4:δ->List Value} {z4:Nat} {e4:TypeId} {f5:ε->List Value} {z5:Nat} {e5:TypeId} {f6:ζ->List Value} {z6:Nat} {e6:TypeId} {B:Nat} {w0 w w':World} {ob:List (Nat×TypeId×List Value)} {q:Nat} {qe:TypeId} {qs qs':List Value} {c1 c2 c3 c4 c5 c6:Value} {l1:List α} {l2:List β} {l3:List γ} {l4:List δ} {l5:List ε} {l6:List ζ}
theorem Four.all (h:Four f1 z1 e1 f2 z2 e2 f3 z3 e3 f4 z4 e4 B w0 ob q qe qs c1 l1 c2 l2 c3 l3 c4 l4 w) (f5:ε->List Value) (z5:Nat) (e5:TypeId) (f6:ζ->List Value) (z6:Nat) (e6:TypeId):
    TwoOwnB f5 z5 e5 f6 z6 e6 B w0 (rowBox w c1++rowBox w c2++rowBox w c3++rowBox w c4++ob) q qe qs (.slice none 0 0) [] (.slice none 0 0) [] w:=by
 refine ⟨h.two.below,h.two.base,h.two.box,Own.nil _ _ _ _ _,Own.nil _ _ _ _ _,(fun g h=>by cases h),(fun h=>by cases h),(fun h=>by cases h),fun x hx=>⟨?_,(fun h=>by cases h),(fun h=>by cases h),?_⟩⟩
 ·simp only [List.mem_append] at hx
  rcases hx with (((hx|hx)|hx)|hx)|hx
  ·exact h.two.own1.boxes x hx
  ·exact h.two.own2.boxes x hx
  ·exact h.owt.own1.boxes x hx
  ·exact h.owt.own2.boxes x hx
  ·exact (h.two.oth x hx).1
 ·simp only [List.mem_append] at hx
  rcases hx with (((hx|hx)|hx)|hx)|hx
  ·exact fun k=>h.two.nq1 (k ▸ rowBox.at hx)
  ·exact fun k=>h.two.nq2 (k ▸ rowBox.at hx)
  ·exact fun k=>h.owt.nq1 (k ▸ rowBox.at hx)
  ·exact fun k=>h.owt.nq2 (k ▸ rowBox.at hx)
  ·exact (h.two.oth x hx).2.2.2
theorem Four.back (h:Four f1 z1 e1 f2 z2 e2 f3 z3 e3 f4 z4 e4 B w0 ob q qe qs c1 l1 c2 l2 c3 l3 c4 l4 w) (h2:TwoOwnB f5 z5 e5 f6 z6 e6 B w0 (rowBox w c1++rowBox w c2++rowBox w c3++rowBox w c4++ob) q qe qs' c5 l5 c6 l6 w'):
    Own f1 z1 e1 w' B c1 l1/\Own f2 z2 e2 w' B c2 l2/\Own f3 z3 e3 w' B c3 l3/\Own f4 z4 e4 w' B c4 l4/\∀x∈ob,Box w' x.1 x.2.1 x.2.2:=by
 have m: ∀x,x∈rowBox w c1∨x∈rowBox w c2∨x∈rowBox w c3∨x∈rowBox w c4∨x∈ob->Box w' x.1 x.2.1 x.2.2:=fun x hx=>by
   refine (h2.oth x ?_).1;simp only [List.mem_append]
   rcases hx with hx|hx|hx|hx|hx <;> simp [hx]
 exact ⟨h.two.own1.ofBoxes fun x hx=>m x (.inl hx),h.two.own2.ofBoxes fun x hx=>m x (.inr (.inl hx)),h.owt.own1.ofBoxes fun x hx=>m x (.inr (.inr (.inl hx))),h.owt.own2.ofBoxes fun x hx=>m x (.inr (.inr (.inr (.inl hx)))),fun x hx=>m x (.inr (.inr (.inr (.inr hx))))⟩
end
end Go.Proofs.YtijajkfmlghgkaaGreatDoor
namespace Go.Proofs.YtijajkfmlghgkaaGreatDoor.Nu
open Go Go.Proofs Go.RowKit Go.Proofs.YtijajkfmlghgkaaGreatDoor
structure FiveP (w:World) (SV vm:Value) (n:Nat) (qb qs qe:List Rat) (qt:Rat) (sf:Prop):Prop where
  run: ∀ (f:Nat) (qs':List Rat),f=27/\qs'=qb∨f=23/\qs'=qs∨f=24/\qs'=qe->∀u:World,Below w.heap.size w u->Calls Tryz.prog f #[SV,vm] u (fun e w'=> ∃a c,e= .returned (.tuple #[.slice a n c,.int .i64 0])/\Sl encQ 1 w' w'.heap.size (.slice a n c) qs'/\Below u.heap.size u w')
  trm: ∀u:World,Below w.heap.size w u->Calls Tryz.prog 28 #[SV,vm] u (fun e w'=>e= .returned (.tuple #[.string (txq qt),.int .i64 0])/\Below u.heap.size u w')
  saf: ∀u:World,Below w.heap.size w u->Calls Tryz.prog 26 #[SV,vm] u (fun e w'=> ∃t:Bool,e= .returned (.tuple #[.bool t,.int .i64 0])/\(t=true↔sf)/\Below u.heap.size u w')
  dn: ∀l,l=qb∨l=qs∨l=qe->∀q∈l,Dn 600 q
  dt:Dn 600 qt
  len: ∀l,l=qb∨l=qs∨l=qe->l.length=n
theorem Zg1 {u:World} {f:Nat} {args:Array Value} {l:List Rat} {n:Nat} (h:Calls Tryz.prog f args u (Zb3 u l)) (hl:l.length=n):Calls Tryz.prog f args u (fun e w'=> ∃a c,e= .returned (.tuple #[.slice a n c,.int .i64 0])/\Sl encQ 1 w' w'.heap.size (.slice a n c) l/\Below u.heap.size u w'):=by
  refine h.mono ?_;rintro e w' ⟨v,rfl,hs,hb⟩;obtain ⟨a,c,e,hr⟩:=id hs;rw [hl] at e;subst e;exact ⟨a,c,rfl,hs,hb⟩
theorem Zsh (w:World) (hw:TbR w) (x:ShV) (s:Shp) (vm:Value) (ms:List Int) (hs:ShR w x s) (hm:Sl encI 1 w w.heap.size vm ms) (ok:ShOk s) (cg:CgOk s ms) (n:Nat) (hn:s.wt.length=n):
    FiveP w (x.v s.t) vm n (buoL s ms) (sheL s ms) (benL s ms) (trmR (cF s) (lF s ms) s.wt.length) (SafeS s ms):=by
 have hl: ∀l,l=buoL s ms∨l=sheL s ms∨l=benL s ms->l.length=n:=by
   rintro l (rfl|rfl|rfl) <;> simp [buoL,sheL,benL,hn]
 obtain ⟨t1,t2,t3,t4⟩:=Zmb s ms ok cg;refine ⟨?_,fun u hu=> ?_,fun u hu=>Zpq u (hw.later hu) x s vm ms (hs.later hu) (hm.later hu) ok cg,?_,t4 _ (List.mem_singleton.2 rfl),hl⟩
 ·rintro f qs' (⟨rfl,rfl⟩|⟨rfl,rfl⟩|⟨rfl,rfl⟩) u hu
  ·exact Zg1 (Zka u (hw.later hu) x s vm ms (hs.later hu) (hm.later hu) ok cg) (hl _ (.inl rfl))
  ·exact Zg1 (Zmc u (hw.later hu) x s vm ms (hs.later hu) (hm.later hu) ok cg) (hl _ (.inr (.inl rfl)))
  ·exact Zg1 (Zmd u (hw.later hu) x s vm ms (hs.later hu) (hm.later hu) ok cg) (hl _ (.inr (.inr rfl)))
 ·exact Zpo u (hw.later hu) x s vm ms (hs.later hu) (hm.later hu) ok cg
 ·rintro l (rfl|rfl|rfl)
  ·exact t1
  ·exact t2
  ·exact t3
structure MirP (n:Nat) (ub us ue vb vs ve:List Rat):Prop where
  b: ∀k m,m+1+k=n->∀ (h1:k<vb.length) (h2:m<ub.length),vb[k]=ub[m]
  s: ∀k m,m+2+k=n->∀ (h1:k<vs.length) (h2:m<us.length),vs[k]= -us[m]
  s0: ∀k,k+1=n->∀ (h1:k<vs.length),vs[k]=0
  e: ∀k m,m+3+k=n->∀ (h1:k<ve.length) (h2:m<ue.length),ve[k]=ue[m]
  e0: ∀k,k<n->n<=k+2->∀ (h1:k<ve.length),ve[k]=0
theorem mirP (s:Shp) (ms:List Int) (ok:ShOk s) (cg:CgOk s ms):MirP s.wt.length (buoL (Zbx s) ms) (sheL (Zbx s) ms) (benL (Zbx s) ms) (buoL (mirS s) ms.reverse) (sheL (mirS s) ms.reverse) (benL (mirS s) ms.reverse):=by
  refine ⟨fun k m hm h1 h2=> ?_,fun k m hm h1 h2=> ?_,fun k hk h1=> ?_,fun k m hm h1 h2=> ?_,fun k hk hn h1=> ?_⟩
  ·simp only [buoL,List.getElem_map,List.getElem_range];have:=Zht ok cg k (by omega);rw [show s.wt.length-1-k=m by omega] at this;exact this
  ·simp only [sheL,List.getElem_map,List.getElem_range];have:=Zem ok cg k (by omega);rw [if_pos (by omega),show s.wt.length-2-k=m by omega] at this;exact this
  ·simp only [sheL,List.getElem_map,List.getElem_range];have:=Zem ok cg k (by omega);rw [if_neg (by omega)] at this;exact this
  ·simp only [benL,List.getElem_map,List.getElem_range];have:=Zen ok cg k (by omega);rw [if_pos (by omega),show s.wt.length-3-k=m by omega] at this;exact this
  ·simp only [benL,List.getElem_map,List.getElem_range];have:=Zen ok cg k hk;rw [if_neg (by omega)] at this;exact this
theorem Zg2:txq 0=⟨#[48]⟩:=by decide+kernel
theorem Zol (W:World) (hw:TbR W) (s:Shp) (la:List Int) (ok:ShOk s) (cg:CgOk s la) (n:Nat) (hn:s.wt.length=n) (xe xm:ShV) (vm va:Value) (he:ShR W xe (Zbx s)) (hm:ShR W xm (mirS s)) (hv:Sl encI 1 W W.heap.size vm la) (ha:Sl encI 1 W W.heap.size va la.reverse) (T:ByteArray) (hT:txq s.t=T):
    ∃ (ub us ue vb vs ve:List Rat) (qt:Rat) (sf:Prop),FiveP W (.agg #[.slice xe.ah xe.nh xe.ch,.slice xe.aw xe.nw xe.cw,.slice xe.ac xe.nc xe.cc,.slice xe.az xe.ns xe.cs,.slice xe.ab xe.nb xe.cb,.string T]) vm n ub us ue qt sf/\FiveP W (.agg #[.slice xm.ah xm.nh xm.ch,.slice xm.aw xm.nw xm.cw,.slice xm.ac xm.nc xm.cc,.slice xm.az xm.ns xm.cs,.slice xm.ab xm.nb xm.cb,.string T]) va n vb vs ve (-qt) sf/\MirP n ub us ue vb vs ve:=by
 subst hT hn;refine ⟨buoL (Zbx s) la,sheL (Zbx s) la,benL (Zbx s) la,buoL (mirS s) la.reverse,sheL (mirS s) la.reverse,benL (mirS s) la.reverse,trmR (cF (Zbx s)) (lF (Zbx s) la) s.wt.length,SafeS (Zbx s) la,?_,?_,mirP s la ok cg⟩
 ·exact Zsh W hw xe (Zbx s) vm la he hv (Zqz ok) (Zq0 cg) _ rfl
 ·have h:=Zsh W hw xm (mirS s) va la.reverse hm ha (Zsf ok) (Zsg cg) s.wt.length Zeu;rw [Zhu ok cg,propext (Zgz ok cg)] at h;exact h
theorem Zom {n:Nat} (l:List HoR) (k m:Nat) (hm:m+1+k=l.length) (h:m<l.length):(l.map (mirH n)).reverse.take (k+1)=(l.map (mirH n)).reverse.take k++ [mirH n l[m]]:=by
  have hk:k<(l.map (mirH n)).reverse.length:=by simp;omega
  rw [List.take_succ_eq_append_getElem hk,List.getElem_reverse,List.getElem_map]
  congr 4
  simp;omega
theorem Zon {α:Type} (l:List α) (k m:Nat) (hm:m+1+k=l.length) (h:m<l.length):l.reverse.take (k+1)=l.reverse.take k++ [l[m]]:=by
  have hk:k<l.reverse.length:=by simp;omega
  rw [List.take_succ_eq_append_getElem hk,List.getElem_reverse]
  congr 3
  omega
end Go.Proofs.YtijajkfmlghgkaaGreatDoor.Nu
namespace Go.Proofs.YtijajkfmlghgkaaGreatDoor
open Go Go.Proofs Go.RowKit Go.Maps
def SetM {κ:Type} [DecidableEq κ] (f:κ->Lit) (P:Program) (k e:TypeId) (w:World) (b:Nat) (L:List κ):Prop:=
  ∃D:DataW Unit,w.ownsMap P k (plainElem P e) b L.length D/\IsMap D/\∀x,D.atKey (f x) (.lit (.bool false))= .lit (.bool (decide (x∈L)))
section
variable {κ:Type} [DecidableEq κ] {f:κ->Lit} {P:Program} {k e:TypeId} {w w':World} {b:Nat} {L:List κ}
theorem SetM.kept {row:Option Nat} (h:SetM f P k e w b L) (hg:w.grownBy w' row) (hne:some b≠row):SetM f P k e w' b L:=
  let ⟨D,h1,h2⟩:=h;⟨D,h1.kept hg hne,h2⟩
theorem SetM.later (h:SetM f P k e w b L) (hb:Below w.heap.size w w'):SetM f P k e w' b L:=
  h.kept (row:=none) ⟨hb.os,hb.tape,hb.output,hb.size,fun k hk _=>hb.block k hk⟩ (by simp)
theorem SetM.alloc (h:SetM f P k e w b L) (o:Obj):SetM f P k e (w.alloc o) b L:=h.later ((Below.refl _ _).alloc (Nat.le_refl _) _)
theorem SetM.lt (h:SetM f P k e w b L):b<w.heap.size:=let ⟨_,h1,_⟩:=h;h1.lt
theorem SetM.made (f:κ->Lit) (P:Program) (k e:TypeId) (w:World):SetM f P k e (w.alloc (.map #[] 0)) w.heap.size []:=
  ⟨.map [],World.ownsMap_made w P k _,⟨[],rfl⟩,fun kl=>by simp [DataW.atKey]⟩
theorem SetM.look {t:TypeId} (h:SetM f P k e w b L) (K:Keyed P k) (ht:P.underlying t=some (.map k e)) (he:P.underlying e=some .bool) (hz:(zeroValue e).run P w= .ok (.bool false) w) {key:Value} {x:κ} (hkey:keyOf P k key=some (f x)):
    (Instr.lookup t (.map (some b)) key false).run P w= .ok (.bool (decide (x∈L))) w:=by
 obtain ⟨D,h1,h2,h3⟩:=h;obtain ⟨v,ps,hrun,hv⟩:=h1.lookup K ht hz (plainElem_bool (H:=Unit) he false) hkey;rw [h3 x] at hv;have:v= .bool (decide (x∈L)):=by
   unfold plainElem at hv;rw [he] at hv;cases v <;> simp at hv
   rw [hv.1]
 rw [<-this];exact hrun
theorem Zdd {t:TypeId} {ops:Array Oper} {rest:List Oper} {o:Oper} {a:Act} {Q:Exit->Act->World->Prop} (h:SetM f P k e w b L) (K:Keyed P k) (ht:P.underlying t=some (.map k e)) (he:P.underlying e=some .bool) (hz:(zeroValue e).run P w= .ok (.bool false) w)
    {key:Value} {x:κ} (hkey:keyOf P k key=some (f x)) (hg:o.guard=none) (m y:Operand) (hop:o.op=Op.lookup t m y false) (hm:a.eval m= .map (some b)) (hx:a.eval y=key)
    (hK:wpList P ops Q rest (a.put o.dst (.bool (decide (x∈L)))) w):wpList P ops Q (o::rest) a w:=by
 refine wpList_plain hg fun K' hK'=> ?_;have hrun:=h.look K ht he hz hkey;unfold Oper.wp;simp [execOp,hop,hm,hx,hrun,Result.andThen];exact hK' _ _ (by simpa using hK)
end
def Zdo (s:List UInt8):Lit:= .string s
end Go.Proofs.YtijajkfmlghgkaaGreatDoor
namespace Go.Proofs.YtijajkfmlghgkaaGreatDoor.Nu
open Go Go.Proofs Go.RowKit Go.Proofs.YtijajkfmlghgkaaGreatDoor
def wShip:Shp:=⟨[⟨0,2,40⟩,⟨2,4,40⟩],[10,10,10,10],[1,1,1,1],[20,20,20,20],[30,30,30,30],5⟩
theorem Zeo {α:Type} {f:α->List Value} {sz:Nat} (hf: ∀x,(f x).length=sz) (w:World) (l:List α) (cells:Array Value) (hc:cells=(l.flatMap f).toArray) (t:TypeId) (n c:Nat) (hn:l.length=n) (hl:n<=1000000) (g:Nat) (hg:w.heap.size=g):
    Sl f sz (w.alloc (.cells cells t)) (w.alloc (.cells cells t)).heap.size (.slice (some ⟨g,0,none⟩) n c) l:=by
 subst hc hn hg;have hB:=Box.new w (l.flatMap f).toArray t;refine ⟨_,c,rfl,by omega,fun _=>⟨w.heap.size,0,rfl,by simp,fun i h j u hu=> ?_⟩⟩;have hj:j<sz:=by
   rw [<-hf l[i]];exact (List.getElem?_eq_some_iff.1 hu).1
 rw [hB.cell,show 0+i* sz+j=i* sz+j by omega];show (l.flatMap f)[i* sz+j]?=some u;rw [Zce f sz hf l i h j hj];exact hu
theorem Zq1:txq 1=⟨#[49]⟩:=by kernel_rfl
theorem Zoo:txq 5=⟨#[53]⟩:=by kernel_rfl
theorem Zik (w:World):Calls Tryz.prog 69 #[] w (fun e w'=> ∃x:ShV,e= .returned (x.v wShip.t)/\ShR w' x wShip/\Below w.heap.size w w'):=by
  go_enter Tryz.func69,Tryz.ntmps69;go_wp2_with fail;refine bodyPost_ret (v:= .agg #[.slice (some ⟨w.heap.size+1,0,none⟩) 2 2,.slice (some ⟨w.heap.size+1+1,0,none⟩) 4 4,.slice (some ⟨w.heap.size+1+1+1,0,none⟩) 4 4,.slice (some ⟨w.heap.size+1+1+1+1,0,none⟩) 4 4,.slice (some ⟨w.heap.size+1+1+1+1+1,0,none⟩) 4 4,.string ⟨#[53]⟩]) (by simp [results,Tryz.results69,go_sem, *]) rfl ?_;refine ⟨⟨some ⟨w.heap.size+1,0,none⟩,some ⟨w.heap.size+1+1,0,none⟩,some ⟨w.heap.size+1+1+1,0,none⟩,some ⟨w.heap.size+1+1+1+1,0,none⟩,some ⟨w.heap.size+1+1+1+1+1,0,none⟩,2,4,4,4,4,2,4,4,4,4⟩,by rw [<-Zoo];rfl,⟨?_,?_,?_,?_,?_⟩,?_⟩
  ·exact (Zeo (f:=Zc2) (sz:=3) Zhq (w.alloc (.cells #[.slice (some ⟨w.heap.size+1,0,none⟩) 2 2,.slice (some ⟨w.heap.size+1+1,0,none⟩) 4 4,.slice (some ⟨w.heap.size+1+1+1,0,none⟩) 4 4,.slice (some ⟨w.heap.size+1+1+1+1,0,none⟩) 4 4,.slice (some ⟨w.heap.size+1+1+1+1+1,0,none⟩) 4 4,.string ⟨#[53]⟩] 51)) wShip.hs #[.int .i64 0,.int .i64 2,.int .i64 40,.int .i64 2,.int .i64 4,.int .i64 40] rfl 63 2 2 rfl (by decide) (w.heap.size+1) (by simp)).later (by repeat (first|exact Below.refl _ _|refine .Za ?_ _))
  ·exact (Zeo (f:=encI) (sz:=1) (fun _=>rfl) ((w.alloc (.cells #[.slice (some ⟨w.heap.size+1,0,none⟩) 2 2,.slice (some ⟨w.heap.size+1+1,0,none⟩) 4 4,.slice (some ⟨w.heap.size+1+1+1,0,none⟩) 4 4,.slice (some ⟨w.heap.size+1+1+1+1,0,none⟩) 4 4,.slice (some ⟨w.heap.size+1+1+1+1+1,0,none⟩) 4 4,.string ⟨#[53]⟩] 51)).alloc (.cells #[.int .i64 0,.int .i64 2,.int .i64 40,.int .i64 2,.int .i64 4,.int .i64 40] 63)) wShip.wt #[.int .i64 10,.int .i64 10,.int .i64 10,.int .i64 10] rfl 3 4 4 rfl (by decide) (w.heap.size+1+1) (by simp)).later (by repeat (first|exact Below.refl _ _|refine .Za ?_ _))
  ·exact (Zeo (f:=encQ) (sz:=1) (fun _=>rfl) (((w.alloc (.cells #[.slice (some ⟨w.heap.size+1,0,none⟩) 2 2,.slice (some ⟨w.heap.size+1+1,0,none⟩) 4 4,.slice (some ⟨w.heap.size+1+1+1,0,none⟩) 4 4,.slice (some ⟨w.heap.size+1+1+1+1,0,none⟩) 4 4,.slice (some ⟨w.heap.size+1+1+1+1+1,0,none⟩) 4 4,.string ⟨#[53]⟩] 51)).alloc (.cells #[.int .i64 0,.int .i64 2,.int .i64 40,.int .i64 2,.int .i64 4,.int .i64 40] 63)).alloc (.cells #[.int .i64 10,.int .i64 10,.int .i64 10,.int .i64 10] 3)) wShip.ca #[.string ⟨#[49]⟩,.string ⟨#[49]⟩,.string ⟨#[49]⟩,.string ⟨#[49]⟩] (by show _=(#[Value.string (txq 1),Value.string (txq 1),Value.string (txq 1),Value.string (txq 1)]:Array Value);rw [Zq1]) 32 4 4 rfl (by decide) (w.heap.size+1+1+1) (by simp)).later (by repeat (first|exact Below.refl _ _|refine .Za ?_ _))
  ·exact (Zeo (f:=encI) (sz:=1) (fun _=>rfl) ((((w.alloc (.cells #[.slice (some ⟨w.heap.size+1,0,none⟩) 2 2,.slice (some ⟨w.heap.size+1+1,0,none⟩) 4 4,.slice (some ⟨w.heap.size+1+1+1,0,none⟩) 4 4,.slice (some ⟨w.heap.size+1+1+1+1,0,none⟩) 4 4,.slice (some ⟨w.heap.size+1+1+1+1+1,0,none⟩) 4 4,.string ⟨#[53]⟩] 51)).alloc (.cells #[.int .i64 0,.int .i64 2,.int .i64 40,.int .i64 2,.int .i64 4,.int .i64 40] 63)).alloc (.cells #[.int .i64 10,.int .i64 10,.int .i64 10,.int .i64 10] 3)).alloc (.cells #[.string ⟨#[49]⟩,.string ⟨#[49]⟩,.string ⟨#[49]⟩,.string ⟨#[49]⟩] 32)) wShip.sh #[.int .i64 20,.int .i64 20,.int .i64 20,.int .i64 20] rfl 3 4 4 rfl (by decide) (w.heap.size+1+1+1+1) (by simp)).later (by repeat (first|exact Below.refl _ _|refine .Za ?_ _))
  ·exact (Zeo (f:=encI) (sz:=1) (fun _=>rfl) (((((w.alloc (.cells #[.slice (some ⟨w.heap.size+1,0,none⟩) 2 2,.slice (some ⟨w.heap.size+1+1,0,none⟩) 4 4,.slice (some ⟨w.heap.size+1+1+1,0,none⟩) 4 4,.slice (some ⟨w.heap.size+1+1+1+1,0,none⟩) 4 4,.slice (some ⟨w.heap.size+1+1+1+1+1,0,none⟩) 4 4,.string ⟨#[53]⟩] 51)).alloc (.cells #[.int .i64 0,.int .i64 2,.int .i64 40,.int .i64 2,.int .i64 4,.int .i64 40] 63)).alloc (.cells #[.int .i64 10,.int .i64 10,.int .i64 10,.int .i64 10] 3)).alloc (.cells #[.string ⟨#[49]⟩,.string ⟨#[49]⟩,.string ⟨#[49]⟩,.string ⟨#[49]⟩] 32)).alloc (.cells #[.int .i64 20,.int .i64 20,.int .i64 20,.int .i64 20] 3)) wShip.be #[.int .i64 30,.int .i64 30,.int .i64 30,.int .i64 30] rfl 3 4 4 rfl (by decide) (w.heap.size+1+1+1+1+1) (by simp)).later (by repeat (first|exact Below.refl _ _|refine .Za ?_ _))
  ·repeat (first|exact Below.refl _ _|refine .Za ?_ _)
theorem Ze3:ShOk wShip:=by
  refine ⟨by decide,by decide,rfl,rfl,rfl,?_,?_,?_,?_,by decide,by decide,?_,?_,by decide,⟨by decide,by decide⟩⟩
  ·intro x hx;obtain rfl:x=10:=by simp [wShip] at hx;exact hx
   exact ⟨by decide,by decide⟩
  ·intro x hx;obtain rfl:x=1:=by simp [wShip] at hx;exact hx
   exact ⟨⟨by decide,by decide⟩,by decide⟩
  ·intro x hx;obtain rfl:x=20:=by simp [wShip] at hx;exact hx
   exact ⟨by decide,by decide⟩
  ·intro x hx;obtain rfl:x=30:=by simp [wShip] at hx;exact hx
   exact ⟨by decide,by decide⟩
  ·intro k h;have hk:k<2:=h
   rcases (by omega:k=0∨k=1) with rfl|rfl
   ·exact ⟨(by decide:(0:Int)<=0),(by decide:(0:Int)<2),(by decide:(2:Int)<=((4:Nat):Int)),(by decide:(0:Int)<=40),(by decide:(40:Int)<=999999999)⟩
   ·exact ⟨(by decide:(0:Int)<=2),(by decide:(2:Int)<4),(by decide:(4:Int)<=((4:Nat):Int)),(by decide:(0:Int)<=40),(by decide:(40:Int)<=999999999)⟩
  ·intro k h;have hk:k+1<2:=h;obtain rfl:k=0:=by omega
   exact (by decide:(2:Int)<=2)
theorem Ze4 (a b:Int) (ha:MsP a) (hb:MsP b):CgOk wShip [a,b]:=⟨rfl,fun x hx=>by
  rcases List.mem_cons.1 hx with rfl|hx
  ·exact ha
  ·obtain rfl:=List.mem_singleton.1 hx;exact hb⟩
theorem Zmn (w:World) (v1 v2:Value) (qs:List Rat) (h1:Sl encQ 1 w w.heap.size v1 qs) (h2:Sl encQ 1 w w.heap.size v2 qs):Calls Tryz.prog 71 #[v1,v2] w (Ret (.bool true) w):=by
  obtain ⟨a1,c1,rfl,hl,p1⟩:=h1;obtain ⟨a2,c2,rfl,-,p2⟩:=h2;have HP1:=Zh p1;have HP2:=Zh p2;obtain ⟨n,hn⟩: ∃n,qs.length=n:=⟨_,rfl⟩;have HN:=Zh hn;rw [hn] at hl ⊢;clear hn p1 p2;go_enter Tryz.func71,Tryz.ntmps71;go_wp2_with fail
  go_loopw [5] (fun i wr=> ∃k:Nat,k<=n/\i= .int .i64 k/\Hid (Below w.heap.size w wr)) (fun i _=>n-(intOf i).toNat)
  case atStart=>exact ⟨0,by omega,rfl,Zh (Below.refl _ _)⟩
  case round=>
    obtain ⟨k,hk,rfl,HBE⟩:=hrel
    by_cases hlt:k<n
    ·have hk1:k<qs.length:=by rw [HN.out];exact hlt
     obtain ⟨b1,o1,rfl,l1,q1⟩:=HP1.out (by omega);obtain ⟨b2,o2,rfl,l2,q2⟩:=HP2.out (by omega);have d1:=((q1 k hk1).below HBE.out l1) 0 _ rfl;have d2:=((q2 k hk1).below HBE.out l2) 0 _ rfl;rw [Nat.mul_one,Nat.add_zero] at d1 d2;have e1:b1<wr.heap.size:=Nat.lt_of_lt_of_le l1 HBE.size;have e2:b2<wr.heap.size:=Nat.lt_of_lt_of_le l2 HBE.size;generalize txq qs[k]=T at *;clear q1 q2 HP1 HP2;go_wp2_with fail;refine Zah (by kernel_rfl) (by kernel_rfl) ?_
     repeat go_big_quiet_step (fail)
     refine wpQuiet_nil ?_;rintro w14 ⟨⟨_,hb14⟩,rfl⟩;have HB14:=Zh (HBE.Zg hb14);clear hb14 d1 d2;go_wp2_with fail;go_roundw
     case rel=>exact ⟨k+1,by omega,by go_num,HB14⟩
     case measure=>simp [intOf];omega
    ·obtain rfl:n=k:=by omega
     clear HP1 HP2;go_wp2_with fail;go_ret;exact ⟨rfl,HBE.out⟩
theorem Zkc:trmR (cF wShip) (lF wShip [20,0]) wShip.wt.length= -4:=by decide+kernel
theorem Zfx:sheL wShip [20,0]=[-1,2,-1,0]:=by decide+kernel
theorem Zc3:txq (-1)=⟨#[45,49]⟩/\txq 2=⟨#[50]⟩/\txq 0=⟨#[48]⟩/\txq (-4)=⟨#[45,52]⟩:=⟨by kernel_rfl,by kernel_rfl,by kernel_rfl,by kernel_rfl⟩
end Go.Proofs.YtijajkfmlghgkaaGreatDoor.Nu
