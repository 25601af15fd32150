/- Lemmas on the way to the law TopMirrored: Rm Ep Rn Es Et Eu -/
import Derived.Test.YtijajkfmlghgkaaGreatDoorTopMirroredP04
set_option linter.unusedVariables false
set_option linter.unusedSimpArgs false
set_option maxRecDepth 100000
set_option maxHeartbeats 4000000
namespace Go
open Go.RowKit
section
variable {P:Program} {l:List Oper} {n b:Nat} {ob:Oper} {W:World} {a0 A:Act} {D:Value->World->Prop} {Q:Exit->Act->World->Prop}
theorem Zgb (hB:Region.flowB l.toArray n b=true) (hob:l[b]?=some ob)
    (hq:wpQuiet P l.toArray (fun w'=>w'=W) (fun a'=>a'=A) (Zat l n b) a0)
    {W2:World} (hfree: ∀i o,i<n->i≠b->l[i]?=some o->Region.waitsFor .any l.toArray b i=false->∀v a,YieldsIn P l.toArray (fun w'=>w'=W) o v a->YieldsIn P l.toArray (fun w'=>w'=W2) o v a) (hDW: ∀v w,D v w->w=W2) (hb:(execOp A.eval ob).run P W= .ok .skip W2) (hD0:D undef W2)
    (ht: ∀v w,D v w->wpList P l.toArray Q (l.drop n) (A.put ob.dst v) w):
    ∀ (f:Nat) (U:List Nat) (listed:Array Bool) (a:Act) (w:World) (v:Value),U.length=f->U.Nodup->(∀i,i∈U↔i<n/\listed.getD i false=false)->
      CallFlow l.toArray n b ob W a0 A D listed a w v->wpAny P .any l.toArray Q (f+(l.toArray.size-n)) listed a w:=by
 simp only [Region.flowB,Bool.and_eq_true,decide_eq_true_eq,List.all_eq_true,List.mem_range] at hB;obtain ⟨⟨⟨⟨⟨⟨⟨⟨⟨hsel,hn⟩,hbn⟩,hsink⟩,hchain⟩,hseq⟩,hedge⟩,hpair⟩,hguard⟩,hblind⟩:=hB;have hn':n<=l.length:=by have h:=hn;rw [List.size_toArray] at h;omega
 have hsz:l.toArray.size=l.length:=by simp
 have hget: ∀i:Nat,l.toArray[i]?=l[i]?:=fun i=>by simp
 have hselect:=Region.noSelect_spec hsel;have hpw:(Zat l n b).Pairwise (fun o o'=> ∀t,o.dst=some t->o'.dst≠some t):=by
   rw [List.pairwise_iff_getElem];intro i j hi hj hij t ht;obtain ⟨i',h1,h2,h3,h4⟩:=Zas hbn hn' (List.getElem?_eq_getElem hi);obtain ⟨j',k1,k2,k3,k4⟩:=Zas hbn hn' (List.getElem?_eq_getElem hj);exact Region.flowPair_dst (hpair i' h1 j' k1) (by rw [hget];exact h3) (by rw [hget];exact k3) (fun e=>by subst e;omega) ht
 have hA:=Zbj _ _ hq hpw;have hAo: ∀t,(∀j o,j<n->l.toArray[j]?=some o->j≠b->o.dst≠some t)->A.tmps[t]?=a0.tmps[t]?:=fun t h=>hA.1 t fun o ho=>by
   obtain ⟨q,hq'⟩:=List.mem_iff_getElem?.1 ho;obtain ⟨j,h1,h2,h3,_⟩:=Zas hbn hn' hq';exact h j o h1 (by rw [hget];exact h3) h2
 have hAs:=hA.2.1;have hAd:=hA.2.2.1;have hobA:l.toArray[b]?=some ob:=by rw [hget];exact hob
 intro f
 induction f with
 | zero=>
   intro U listed a w vb hU _ hUm hF;obtain rfl:U=[]:=List.eq_nil_of_length_eq_zero hU;have hall: ∀i,i<n->listed.getD i false=true:=fun i hi=>by
     cases h:listed.getD i false with
     | true=>rfl
     | false=>have:=(hUm i).2 ⟨hi,h⟩;simp at this
   have hl:listed=Region.marked l.toArray.size n:=by
     apply Array.ext_getElem?;intro i
     by_cases hi:i<l.toArray.size
     ·have hil:i<listed.size:=by rw [hF.inv.size];exact hi
      have e2:(Region.marked l.toArray.size n)[i]?=some (decide (i<n)):=by
        rw [List.size_toArray] at hi;unfold Region.marked;simp [hi]
      rw [e2,Array.getElem?_eq_getElem hil]
      by_cases hin:i<n
      ·have:=hall i hin;simp [hil] at this;simp [this,hin]
      ·have:=hF.inv.tail i (by omega) hi;simp [hil] at this;simp [this,hin]
     ·rw [Array.getElem?_eq_none (by rw [hF.inv.size];omega),Array.getElem?_eq_none (by rw [List.size_toArray] at hi;unfold Region.marked;simp;omega)]
   have hbt:=hall b hbn;have ha:a=A.put ob.dst vb:=by
     have htm:a.tmps=(A.put ob.dst vb).tmps:=by
       apply Array.ext_getElem?;intro t;rw [Zaf]
       by_cases hbd:ob.dst=some t
       ·rw [if_pos hbd,hF.slotb t hbd,if_pos hbt]
        by_cases h:t<a0.tmps.size
        ·rw [Array.getElem?_eq_getElem h,Array.getElem?_eq_getElem (by rw [hAs];exact h)];rfl
        ·rw [Array.getElem?_eq_none (by omega),Array.getElem?_eq_none (by rw [hAs];omega)] <;> rfl
       ·rw [if_neg hbd]
        by_cases h: ∃j o,j<n/\l.toArray[j]?=some o/\o.dst=some t
        ·obtain ⟨j,o,h1,h2,h3⟩:=h;have hjb:j≠b:=fun e=>by subst e;rw [hobA] at h2;cases h2;exact hbd h3
         rw [hF.slot j o t h1 h2 h3 hjb,if_pos (hall j h1)]
        ·have h': ∀j o,j<n->l.toArray[j]?=some o->o.dst≠some t:=fun j o h1 h2 h3=>h ⟨j,o,h1,h2,h3⟩;rw [hF.other t h',hAo t fun j o h1 h2 _=>h' j o h1 h2]
     have hd:a.defers=(A.put ob.dst vb).defers:=by rw [Zal,hAd,hF.defers]
     cases a;simp only at htm hd;cases hX:A.put ob.dst vb;rw [hX] at htm hd;simp only at htm hd;rw [htm,hd]
   rw [ha];have hdl:(l.drop n).length=l.toArray.size-n:=by simp
   have:=wpAny_of_seq (md:= .any) (Q':=Q) (ops:=l.toArray) (l.drop n) n listed (A.put ob.dst vb) w (fun j=>by simp [List.getElem?_drop]) (by rw [hdl,hl];exact hseq) (ht vb w (hF.wld.1 hbt));rw [hdl] at this
   rwa [Nat.zero_add]
 | succ f ih=>
   intro U listed a w vb hU hnd hUm hF;obtain ⟨i0,hi0,hleast⟩:=Zay U (fun e=>by rw [e] at hU;simp at hU);obtain ⟨hi0n,hi0u⟩:=(hUm i0).1 hi0;have hin: ∀i,i<n->i<listed.size:=fun i hi=>by rw [hF.inv.size];omega
   have hready:i0∈Region.ready .any l.toArray listed:=by
     have hlt:i0<l.toArray.size:=by omega
     refine mem_ready.2 ⟨getD_in (hin _ hi0n) hi0u,l.toArray[i0],Array.getElem?_eq_getElem hlt,fun e he hbd=> ?_⟩;have h1:=hedge i0 hi0n;rw [Array.getElem?_eq_getElem hlt] at h1;simp only [Array.all_eq_true_iff_forall_mem] at h1;have h2:=h1 e he;simp only [hbd,Bool.not_true,Bool.false_or,decide_eq_true_eq] at h2;cases h:listed.getD e.on false with
     | true=>rfl
     | false=>
       have:=hleast e.on ((hUm e.on).2 ⟨by omega,h⟩);omega
   rw [show f+1+(l.toArray.size-n)=(f+(l.toArray.size-n))+1 by omega];refine ⟨fun h=>(by rw [h] at hready;cases hready),fun i hi=> ?_⟩;obtain ⟨hiu,o,ho,hdep⟩:=mem_ready.1 hi;have hilt:i<n:=Nat.lt_of_not_le fun h=>tail_waits hsink hchain hn hF.inv _ i0 rfl hi0n (getD_in (hin _ hi0n) hi0u) i h hi;have hiU:i∈U:=(hUm i).2 ⟨hilt,getD_both hiu⟩;have hinv:=hF.inv.set hi hilt;have hlist: ∀j,(listed.setIfInBounds i true).getD j false=if j=i then true else listed.getD j false:=fun j=>by
    by_cases h:j=i
    ·subst h;rw [if_pos rfl];simp [hin j hilt]
    ·rw [if_neg h,getD_set_ne false (Ne.symm h)]
   have hUm': ∀j,j∈U.erase i↔j<n/\(listed.setIfInBounds i true).getD j false=false:=fun j=>by
     rw [hnd.mem_erase_iff,hUm j,hlist j]
     by_cases h:j=i
     ·simp [h]
     ·simp [h]
   have hlen':(U.erase i).length=f:=by rw [List.length_erase_of_mem hiU];omega
   have hnd':=hnd.erase i;have hseen: ∀t∈o.looksAt l.toArray,∀j oj,j<n->l.toArray[j]?=some oj->oj.dst=some t->i≠j/\j<i/\listed.getD j false=true:=by
     intro t ht j oj hj hoj hd;have hne:i≠j:=fun e=>by
       subst e;rw [ho] at hoj;cases hoj;exact Region.flowPair_self (hpair i hilt i hilt) ho hd ht
     have h1:=Region.flowPair_looks (hpair i hilt j hj) ho hoj hne hd ht;obtain ⟨o',ho',e,he,hbd,hon⟩:=Region.waitsFor_spec h1.2;rw [ho] at ho';cases ho';have:=hdep e he hbd;rw [hon] at this;exact ⟨hne,h1.1,this⟩
   by_cases hib:i=b
   ·subst hib;rw [hobA] at ho;cases ho;have hg:ob.guard=none:=by rw [hobA] at hguard;simpa using hguard
    obtain rfl:w=W:=hF.wld.2 (getD_both hiu);have hex:execOp a.eval ob=execOp A.eval ob:=(Za0 (ops:=l.toArray) (fun cs bb=>hselect i ob cs bb hobA) fun t htl=>by
      by_cases h: ∃j o,j<n/\l.toArray[j]?=some o/\o.dst=some t
      ·obtain ⟨j,oj,h1,h2,h3⟩:=h;obtain ⟨k1,k2,k3⟩:=hseen t htl j oj h1 h2 h3;rw [hF.slot j oj t h1 h2 h3 (Ne.symm k1),if_pos k3]
      ·have h': ∀j o,j<n->l.toArray[j]?=some o->o.dst≠some t:=fun j o h1 h2 h3=>h ⟨j,o,h1,h2,h3⟩;rw [hF.other t h',hAo t fun j o h1 h2 _=>h' j o h1 h2]).1
    unfold wpOp;simp only [hobA];rw [if_pos (by simp [Region.wanted,hg])];refine .inl ?_;unfold Oper.wp;rw [hex,hb];simp only [Oper.upon_skip];have hD:=hD0;refine ih (U.erase i) _ _ _ undef hlen' hnd' hUm' ⟨hinv,by rw [Zbd,hF.size],by rw [Zal,hF.defers],?_,?_,?_,fun _=>hD,fun h=>(by rw [hlist i,if_pos rfl] at h;cases h)⟩
    ·intro j oj t hj hoj hd hjb;have hne:ob.dst≠some t:=fun h=>Region.flowPair_dst (hpair i hilt j hj) hobA hoj (Ne.symm hjb) h hd;rw [Zaf,if_neg hne,hF.slot j oj t hj hoj hd hjb,hlist j,if_neg hjb]
    ·intro t hd;rw [Zaf,if_pos hd,hlist i,if_pos rfl,if_pos rfl,hF.slotb t hd,if_neg (by rw [getD_both hiu];simp)]
    ·intro t h;rw [Zaf,if_neg (h i ob hilt hobA),hF.other t h]
   ·have hcl:w=W∨∃v,D v w:=by
      cases h:listed.getD b false with
      | true=>exact .inr ⟨vb,hF.wld.1 h⟩
      | false=>exact .inl (hF.wld.2 h)
    have hpos:=Zbf hbn hn' hilt hib;have hol:l[i]?=some o:=by rw [<-hget];exact ho
    rw [hol] at hpos;have hsplit:Zat l n b=(Zat l n b).take (Zcy b i)++o::(Zat l n b).drop (Zcy b i+1):=by
     have hlt:=(List.getElem?_eq_some_iff.1 hpos).1;have e:=(List.getElem?_eq_some_iff.1 hpos).2;rw [<-e,<-List.drop_eq_getElem_cons hlt,List.take_append_drop]
    obtain ⟨_,_,_,htext⟩:=Zbj _ _ hq hpw;obtain ⟨ai,v,hy,t1,t2,t3⟩:=htext _ o _ hsplit;have hal:=Za0 (ops:=l.toArray) (o:=o) (a:=a) (a':=ai) (fun cs bb=>hselect i o cs bb ho) fun t htl=>by
      by_cases h: ∃j o,j<n/\l.toArray[j]?=some o/\o.dst=some t
      ·obtain ⟨j,oj,h1,h2,h3⟩:=h;obtain ⟨k1,k2,k3⟩:=hseen t htl j oj h1 h2 h3
       by_cases hjb:j=b
       ·-- nobody else looks at b's yield
        subst hjb;have h4:=hblind i hilt;simp only [Bool.or_eq_true,beq_iff_eq,hib,false_or] at h4;exact absurd htl (Region.blindTo_spec h4 ho h2 h3)
       ·rw [hF.slot j oj t h1 h2 h3 hjb,if_pos k3];refine (t1 t ⟨oj,?_,h3⟩).symm;have hjp:=Zbf hbn hn' h1 hjb;rw [<-hget,h2] at hjp;refine List.mem_of_getElem? (i:=Zcy b j) ?_;rw [List.getElem?_take,if_pos (by unfold Zcy;split <;> split <;> omega)]
        exact hjp
      ·have h': ∀j o,j<n->l.toArray[j]?=some o->o.dst≠some t:=fun j o h1 h2 h3=>h ⟨j,o,h1,h2,h3⟩;rw [hF.other t h'];refine (t2 t fun p hp=> ?_).symm;obtain ⟨q,hq'⟩:=List.mem_iff_getElem?.1 (List.mem_of_mem_take hp);obtain ⟨j,h1,h2,h3,_⟩:=Zas hbn hn' hq';exact h' j p h1 (by rw [hget];exact h3)
    have hy0:=hy.of_same hal.1 hal.2;have hy':YieldsIn P l.toArray (fun w'=>w'=w) o v a:=by
      cases h:listed.getD b false with
      | false=>obtain rfl:=hF.wld.2 h;exact hy0
      | true=>
        obtain rfl:=hDW _ _ (hF.wld.1 h);refine hfree i o hilt hib hol ?_ v a hy0;cases hwf:Region.waitsFor .any l.toArray b i with
        | false=>rfl
        | true=>
          obtain ⟨o',ho',e,he,hbd,hon⟩:=Region.waitsFor_spec hwf;have h2:=hF.inv.closed b o' ho' h e he hbd;rw [hon,getD_both hiu] at h2;cases h2
    have hqo:=hy'.qOp (K:=fun a'=>a'=a.put o.dst v) ho rfl;refine wpOp_of_qOp (C:=fun w'=>w'=w) rfl ?_ hqo;rintro a' w' rfl rfl;refine ih (U.erase i) _ _ _ vb hlen' hnd' hUm' ⟨hinv,by rw [Zbd,hF.size],by rw [Zal,hF.defers],?_,?_,?_,?_⟩
    ·intro j oj t hj hoj hd hjb;rw [Zaf,hlist j]
     by_cases hji:j=i
     ·subst hji;rw [ho] at hoj;cases hoj;rw [if_pos hd,if_pos rfl,if_pos rfl,hF.slot j o t hj ho hd hjb,if_neg (by rw [getD_both hiu];simp),t3 t hd]
     ·have hne:o.dst≠some t:=fun h=>Region.flowPair_dst (hpair i hilt j hj) ho hoj (Ne.symm hji) h hd;rw [if_neg hne,if_neg hji,hF.slot j oj t hj hoj hd hjb]
    ·intro t hd;have hne:o.dst≠some t:=fun h=>Region.flowPair_dst (hpair i hilt b hbn) ho hobA hib h hd;rw [Zaf,if_neg hne,hF.slotb t hd,hlist b,if_neg (Ne.symm hib)]
    ·intro t h;rw [Zaf,if_neg (h i o hilt ho),hF.other t h]
    ·rw [hlist b,if_neg (Ne.symm hib)];exact hF.wld
theorem Zdp {id:Nat} (n b:Nat) (ob:Oper) (W2:World) (hm:P.follows .mixedOrders=true) (hB:Region.flowB l.toArray n b=true) (hob:l[b]?=some ob)
    (hfree: ∀i o,i<n->i≠b->l[i]?=some o->Region.waitsFor .any l.toArray b i=false->∀v a,YieldsIn P l.toArray (fun w'=>w'= { W with drawn:=W.drawn+1 }) o v a->YieldsIn P l.toArray (fun w'=>w'=W2) o v a)
    (hh: ∃A,wpQuiet P l.toArray (fun w'=>w'= { W with drawn:=W.drawn+1 }) (fun a'=>a'=A) (Zat l n b) a0/\
      (execOp A.eval ob).run P { W with drawn:=W.drawn+1 }= .ok .skip W2/\
        wpList P l.toArray Q (l.drop n) (A.put ob.dst undef) W2):
    (Code.region id l.toArray true).wp P Q a0 W:=by
 obtain ⟨A,hq,hb,ht⟩:=hh;refine wp_region_any hm ?_;have hB':=hB;simp only [Region.flowB,Bool.and_eq_true,decide_eq_true_eq] at hB';have hn:=hB'.1.1.1.1.1.1.1.1.2;have inv0:HeadInv .any l.toArray n (Array.replicate l.toArray.size false):=
   ⟨by simp,fun j oj _ hl=>(by rw [getD_replicate_false] at hl;cases hl),fun t _ ht=>getD_in (by simpa using ht) (getD_replicate_false _ _)⟩
 have h:=Zgb (W:= { W with drawn:=W.drawn+1 }) (a0:=a0) (A:=A) (D:=fun v w=>v=undef/\w=W2) (Q:=Q) hB hob hq hfree (fun v w h=>h.2) hb ⟨rfl,rfl⟩ (fun v w h=>by rw [h.1,h.2];exact ht) n (List.range n) (Array.replicate l.toArray.size false) a0 _ undef (by simp) List.nodup_range (fun i=>by rw [List.mem_range];exact ⟨fun h=>⟨h,getD_replicate_false _ _⟩,fun h=>h.1⟩)
   ⟨inv0,rfl,rfl,fun j o t _ _ _ _=>by rw [getD_replicate_false];rfl,fun t _=>by rw [getD_replicate_false];rfl,fun _ _=>rfl,fun h=>(by rw [getD_replicate_false] at h;cases h),fun _=>rfl⟩
 rwa [show n+(l.toArray.size-n)=l.toArray.size by omega] at h
end
end Go
namespace Go.Proofs.YtijajkfmlghgkaaGreatDoor.Nu
open Go Go.Proofs Go.RowKit Go.Proofs.YtijajkfmlghgkaaGreatDoor
theorem Zit {a w w':World} {row:Option Nat} (h:a.grownBy w row) (k:w.grownBy w' row):a.grownBy w' row:=
  ⟨k.os.trans h.os,k.tape.trans h.tape,k.output.trans h.output,Nat.le_trans h.size k.size,fun i hi hn=>(k.block i (Nat.lt_of_lt_of_le hi h.size) hn).trans (h.block i hi hn)⟩
theorem Zm9 {a w w':World} {row:Option Nat} (h:a.grownBy w row) (hb:Below w.heap.size w w'):a.grownBy w' row:=Zit h ⟨hb.os,hb.tape,hb.output,hb.size,fun i hi _=>hb.block i hi⟩
theorem Zhe {a w:World} {g:Nat} (h:a.grownBy w (some g)) (i:Nat) (v:Value):a.grownBy (w.setCell ⟨g,i,none⟩ v) (some g):=
  Zit h ⟨rfl,rfl,rfl,by simp [World.setCell],fun k _ hk=>heap_setCell_other w ⟨g,i,none⟩ k v (fun e=>hk (by rw [e]))⟩
theorem Zpt (w:World) (row:Option Nat):w.grownBy w row:=⟨rfl,rfl,rfl,Nat.le_refl _,fun _ _ _=>rfl⟩
structure StepO (w w':World) (g nu cu base k:Nat) (u v u':List Nat) (t:Nat):Prop where
  own:Own encW 1 345 w' base (.slice (some ⟨g,0,none⟩) nu cu) u'
  len:u'.length=u.length
  tk:u'.take k=u.take k
  dg:Dg (2^64) u'
  zer: ∀x∈ (u'.drop k).drop v.length,x=0
  eq:val (2^64) ((u'.drop k).take v.length)+t* val (2^64) v=val (2^64) (u.drop k)
  lt:val (2^64) (u.drop k)<(t+1) * val (2^64) v
  tB:t<2^64
  gb:w.grownBy w' (some g)
def Zrb (w:World) (g nu cu base k:Nat) (u v:List Nat) (e:Ending) (w':World):Prop:=∃u' t,e= .returned (.int .u64 ((t:Nat):Int))/\StepO w w' g nu cu base k u v u' t
theorem Zh6 {B:Nat} {l:List Nat} (h:Dg B l) (hB:0<B) (hv:val B l=0): ∀x∈l,x=0:=by
  induction l with
  | nil=>intro x hx;cases hx
  | cons y l ih=>
    have e:y+B* val B l=0:=hv;intro x hx
    rcases List.mem_cons.1 hx with rfl|hx
    ·omega
    ·refine ih (fun z hz=>h z (List.mem_cons_of_mem _ hz)) ?_ x hx
     rcases Nat.eq_zero_or_pos (val B l) with h0|h0
     ·exact h0
     ·have:=Nat.mul_pos hB h0;omega
theorem Zna (t y cy x bw:Nat) (ht:t<2^64) (hy:y<2^64) (hcy:cy<2^64) (hx:x<2^64) (hbw:bw<=1): ∃hi lo l1 c1 h1 s b':Nat,
    (∀w:World,Calls Tryz.prog 297 #[.int .u64 t,.int .u64 y] w fun e w'=>e= .returned (.tuple #[.int .u64 (hi:Int),.int .u64 (lo:Int)])/\w'=w)/\
    (∀w:World,(callFunc 342 #[.int .u64 (lo:Int),.int .u64 (cy:Int),.int .u64 0]).run Tryz.prog w= .ok (.value (.tuple #[.int .u64 (l1:Int),.int .u64 (c1:Int)])) w)/\
    IntKind.u64.wrap ((hi:Int)+(c1:Int))=(h1:Int)/\
    (∀w:World,(callFunc 343 #[.int .u64 (x:Int),.int .u64 (l1:Int),.int .u64 (bw:Int)]).run Tryz.prog w= .ok (.value (.tuple #[.int .u64 (s:Int),.int .u64 (b':Int)])) w)/\
    h1<2^64/\b'<=1/\s<2^64/\s+t* y+(cy+bw)=x+2^64* (h1+b'):=by
 have hp:=Zg9 ht hy;have hM:=fun w=>Tryz.bits_Mul64 t y ht hy w;generalize t* y=p at *;have hp2:p<=340282366920938463426481119284349108225:=hp;clear hp;have hl1:(p % 18446744073709551616+cy) % 18446744073709551616<2^64:=by omega
 obtain ⟨s,b',hs,hs1,hs2,hs3⟩:=Zd1 x _ bw hx hl1 hbw;refine ⟨_,_,_,_,p / 18446744073709551616+(p % 18446744073709551616+cy) / 18446744073709551616,s,b',fun w=>hM w,fun w=>Zga _ _ w,?_,hs,?_,hs3,hs2,?_⟩
 ·rw [IntWalk.u64_in _ (by omega)];omega
 ·omega
 ·omega
structure SbI (W0:List Nat) (u v u':List Nat) (k t cy bw i:Nat):Prop where
  len:u'.length=u.length
  tk:u'.take k=u.take k
  dg:Dg (2^64) u'
  b1:bw<=1
  cB:cy<2^64
  sm:SmI (2^64) W0 v (u'.drop k) t (cy+bw) i
theorem SbI.step {W0 u v u':List Nat} {k t cy bw i:Nat} (h:SbI W0 u v u' k t cy bw i) (hi:i<v.length) (hw:i<(u'.drop k).length) {s h1 b':Nat} (hh:h1<2^64) (hb:b'<=1) (hs:s<2^64) (he:s+t* v[i]+(cy+bw)=(u'.drop k)[i]+2^64* (h1+b')):SbI W0 u v (u'.set (k+i) s) k t h1 b' (i+1):=
  ⟨by rw [List.length_set];exact h.len,by rw [Zb7];exact h.tk,h.dg.set _ hs,hb,hh,by rw [Zbh];exact h.sm.step hi hw hs he⟩
theorem SbI.un {W0 u v u':List Nat} {k t cy bw:Nat} (h:SbI W0 u v u' k t cy bw v.length) (hW:Win (2^64) W0 v) (hw:v.length<(u'.drop k).length):(u'.drop k)[v.length]=W0[v.length]'hW.len:=by
  have h1:=h.sm.rest;rw [List.drop_eq_getElem_cons hw,List.drop_eq_getElem_cons hW.len] at h1;injection h1
theorem Zfe {α:Type} {a b:List α} {n:Nat} (h:a.drop n=b.drop n):a.drop (n+1)=b.drop (n+1):=by
  have h2:=congrArg (List.drop 1) h
  rwa [List.drop_drop,List.drop_drop] at h2
theorem Zf1 {P:Program} {ops:Array Oper} {o:Oper} {x:Operand} {k:Nat} (ho:o.op= .extract x k) (W W2:World) (v:Value) (a:Act) (h:YieldsIn P ops (fun w'=>w'=W) o v a):YieldsIn P ops (fun w'=>w'=W2) o v a:=by
  rcases h with ⟨h1,h2⟩|h
  ·refine .inl ⟨h1,?_⟩;rintro w rfl;have h3:=h2 W rfl;clear h2 h1;unfold Oper.quietAt execOp at *;rw [ho] at h3 ⊢;simp only [Instr.extract] at h3 ⊢;generalize a.eval x=y at *;cases y with
   | tuple vs=>
     simp only at h3 ⊢;cases hv:vs[k]? with
     | some u=>
       rw [hv] at h3;simp [Oper.quietUpon] at h3 ⊢;exact h3
     | none=>rw [hv] at h3;simp [Oper.quietUpon,stuck] at h3
   | _=>simp [Oper.quietUpon,stuck] at h3
  ·exact .inr h
structure AbS (u u2 v u3:List Nat) (k c i:Nat):Prop where
  len:u3.length=u.length
  tk:u3.take k=u.take k
  dg:Dg (2^64) u3
  ab:AbI (2^64) (u2.drop k) v (u3.drop k) c i
theorem AbS.step {u u2 v u3:List Nat} {k c i:Nat} (h:AbS u u2 v u3 k c i) (hv:Dg (2^64) v) (hi:i<v.length) (hw:i<(u3.drop k).length) {s:Nat} (hs:s=(u3.drop k)[i]+v[i]+c):AbS u u2 v (u3.set (k+i) (s % 2^64)) k (s / 2^64) (i+1):=
  ⟨by rw [List.length_set];exact h.len,by rw [Zb7];exact h.tk,h.dg.set _ (Nat.mod_lt _ (by decide)),by rw [Zbh];exact h.ab.step hv hi hw hs⟩
theorem Zrc {w w':World} {g nu cu base k:Nat} {u v u' u3:List Nat} {t cy bw c x:Nat} (h:SbI (u.drop k) u v u' k t cy bw v.length) (hW:Win (2^64) (u.drop k) v) (hd:GuD (u.drop k) v t) (hlt:val (2^64) (u.drop k)<t* val (2^64) v) (he:val (2^64) ((u'.drop k).take v.length)+t* val (2^64) v=val (2^64) (u.drop k)+(2^64)^v.length)
    (h3:AbS u (u'.set (k+v.length) x) v u3 k c v.length) (hO:Own encW 1 345 w' base (.slice (some ⟨g,0,none⟩) nu cu) (u3.set (k+v.length) 0)) (hg:w.grownBy w' (some g)):c=1/\0<t/\StepO w w' g nu cu base k u v (u3.set (k+v.length) 0) (t-1):=by
 have ht:0<t:=by
   rcases Nat.eq_zero_or_pos t with rfl|h0
   ·omega
   ·exact h0
 have hd2:(u'.set (k+v.length) x).drop k=(u'.drop k).set v.length x:=Zbh _ _ _ _;have hab:=h3.ab;rw [hd2] at hab;obtain ⟨hc,hval⟩:=AbI.done hW (by rw [List.length_set];exact h.sm.len) ht hlt hd.le (by rw [List.take_set_of_le (Nat.le_refl _)];exact he) hab;refine ⟨hc,ht,hO,by rw [List.length_set];exact h3.len,by rw [Zb7];exact h3.tk,h3.dg.set _ (by decide),?_,?_,?_,by have:=hd.lt;omega,hg⟩
 ·rw [Zbh];have hl:v.length<((u3.drop k).set v.length 0).length:=by
   rw [List.length_set,hab.len,List.length_set,h.sm.len];exact hW.len
  rw [List.drop_eq_getElem_cons hl,List.getElem_set_self,List.drop_set_of_lt (by omega)];intro y hy
  rcases List.mem_cons.1 hy with rfl|hy
  ·rfl
  ·rw [Zfe hab.rest,List.drop_set_of_lt (by omega),Zfe h.sm.rest] at hy;exact hW.zer y hy
 ·rw [Zbh,List.take_set_of_le (Nat.le_refl _)];exact hval
 ·rw [show t-1+1=t by omega];exact hlt
theorem AbS.un {u v u' u3:List Nat} {k c x:Nat} (h3:AbS u (u'.set (k+v.length) x) v u3 k c v.length) (hw2:k+v.length<u'.length):u3[k+v.length]?=some x:=by
  have h1:=congrArg (fun l:List Nat=>l[0]?) h3.ab.rest;simp only [List.getElem?_drop,Nat.add_zero] at h1;rw [h1,List.getElem?_set_self hw2]
theorem Zgc {P:Program} {l:List Oper} {n b:Nat} (f:Nat) {of:Oper} {x:Operand} {k:Nat} (hall:(List.range n).all (fun i=>i==f || (i==b || Region.waitsFor .any l.toArray b i))=true) (hf:l[f]?=some of) (ho:of.op= .extract x k) (W W2:World):
    ∀i o,i<n->i≠b->l[i]?=some o->Region.waitsFor .any l.toArray b i=false->∀v a,YieldsIn P l.toArray (fun w'=>w'=W) o v a->YieldsIn P l.toArray (fun w'=>w'=W2) o v a:=by
 intro i o hi hne hio hw v a h;have h1:=List.all_eq_true.1 hall i (List.mem_range.2 hi);rw [hw,Bool.or_false,Bool.or_eq_true,beq_iff_eq,beq_iff_eq] at h1
 rcases h1 with rfl|h1
 ·rw [hf] at hio;injection hio with hio
  subst hio;exact Zf1 ho W W2 v a h
 ·exact absurd h1 hne
theorem Zpu {w w':World} {g nu cu base k:Nat} {u v u':List Nat} {t cy bw:Nat} (h:SbI (u.drop k) u v u' k t cy bw v.length) (hW:Win (2^64) (u.drop k) v) (hd:GuD (u.drop k) v t) (hle:t* val (2^64) v<=val (2^64) (u.drop k)) (he:val (2^64) ((u'.drop k).take v.length)+t* val (2^64) v=val (2^64) (u.drop k))
    (hO:Own encW 1 345 w' base (.slice (some ⟨g,0,none⟩) nu cu) (u'.set (k+v.length) 0)) (hg:w.grownBy w' (some g)):StepO w w' g nu cu base k u v (u'.set (k+v.length) 0) t:=by
 refine ⟨hO,by rw [List.length_set];exact h.len,by rw [Zb7];exact h.tk,h.dg.set _ (by decide),?_,?_,hd.ge,hd.lt,hg⟩
 ·rw [Zbh];have hl:v.length<((u'.drop k).set v.length 0).length:=by
   rw [List.length_set,h.sm.len];exact hW.len
  rw [List.drop_eq_getElem_cons hl,List.getElem_set_self,List.drop_set_of_lt (by omega)];intro x hx
  rcases List.mem_cons.1 hx with rfl|hx
  ·rfl
  ·rw [Zfe h.sm.rest] at hx;exact hW.zer x hx
 ·rw [Zbh,List.take_set_of_le (Nat.le_refl _)];exact he
theorem Zpv (w:World) (g nu cu base k b o n c1 c2:Nat) (u v:List Nat) (hown:Own encW 1 345 w base (.slice (some ⟨g,0,none⟩) nu cu) u) (hnu:u.length=nu) (hW:Win (2^64) (u.drop k) v) (hdu:Dg (2^64) u)
    (hv: ∀i (h:i<v.length),w.cell? ⟨b,o+i,none⟩=some (.int .u64 (v[i]:Int))) (hbz:b<w.heap.size) (hne:b≠g) (hn:v.length=n) (hn2:n<=10000000):
    Calls Tryz.prog 326 #[.slice (some ⟨g,k,none⟩) (n+1) c1,.slice (some ⟨b,o,none⟩) n c2] w (Zrb w g nu cu base k u v):=by
 obtain ⟨m1,hm1⟩: ∃m,n=m+1:=⟨n-1,by have:=hW.two;omega⟩;obtain ⟨m2,hm2⟩: ∃m,m1=m+1:=⟨m1-1,by have:=hW.two;omega⟩;have hlen:=hW.len;have hdl:(u.drop k).length=nu-k:=by rw [List.length_drop,hnu]
 obtain ⟨un,hun⟩: ∃x,(u.drop k)[v.length]'hlen=x:=⟨_,rfl⟩;obtain ⟨u1,hu1⟩: ∃x,(u.drop k)[v.length-1]'(by omega)=x:=⟨_,rfl⟩;obtain ⟨u2,hu2⟩: ∃x,(u.drop k)[v.length-2]'(by omega)=x:=⟨_,rfl⟩;obtain ⟨v1,hv1⟩: ∃x,v[v.length-1]'(by omega)=x:=⟨_,rfl⟩;obtain ⟨v2,hv2⟩: ∃x,v[v.length-2]'(by omega)=x:=⟨_,rfl⟩;have hWN:WinN (u.drop k) v n un u1 u2 v1 v2:=⟨hW,hn,hun,hu1,hu2,hv1,hv2⟩;have HWN:=Zh hWN;have hcell: ∀ (W:World) (u':List Nat) (h:Own encW 1 345 W base (.slice (some ⟨g,0,none⟩) nu cu) u') (hl:u'.length=nu) (i:Nat) (hi:i<(u'.drop k).length),W.cell? ⟨g,k+i,none⟩=some (.int .u64 ((u'.drop k)[i]:Int)):=fun W u' h hl i hi=>by
   rw [List.getElem_drop];exact Zam h hl Zae (k+i) (by rw [List.length_drop] at hi;omega) _ rfl
 have HCELL:=Zh hcell;have c_un:w.cell? ⟨g,k+n,none⟩=some (.int .u64 (un:Int)):=by
   have h:=hcell w u hown hnu n (by omega);rw [h,show (u.drop k)[n]'(by omega)=un from by rw [<-hun];congr 1;omega]
 have c_u1:w.cell? ⟨g,k+m1,none⟩=some (.int .u64 (u1:Int)):=by
   have h:=hcell w u hown hnu m1 (by omega);rw [h,show (u.drop k)[m1]'(by omega)=u1 from by rw [<-hu1];congr 1;omega]
 have c_u2:w.cell? ⟨g,k+m2,none⟩=some (.int .u64 (u2:Int)):=by
   have h:=hcell w u hown hnu m2 (by omega);rw [h,show (u.drop k)[m2]'(by omega)=u2 from by rw [<-hu2];congr 1;omega]
 have c_v1:w.cell? ⟨b,o+m1,none⟩=some (.int .u64 (v1:Int)):=by
   rw [hv m1 (by omega),show v[m1]'(by omega)=v1 from by rw [<-hv1];congr 1;omega]
 have c_v2:w.cell? ⟨b,o+m2,none⟩=some (.int .u64 (v2:Int)):=by
   rw [hv m2 (by omega),show v[m2]'(by omega)=v2 from by rw [<-hv2];congr 1;omega]
 have HC0:=Zh (show∀W:World,Below w.heap.size w W->W.cell? ⟨g,k+m1,none⟩=some (.int .u64 (u1:Int))/\W.cell? ⟨g,k+m2,none⟩=some (.int .u64 (u2:Int))/\W.cell? ⟨b,o+m1,none⟩=some (.int .u64 (v1:Int))/\W.cell? ⟨b,o+m2,none⟩=some (.int .u64 (v2:Int)) from
   fun W hb=>⟨(hb.cell (p:=⟨g,k+m1,none⟩) (Zaz hown)).trans c_u1,(hb.cell (p:=⟨g,k+m2,none⟩) (Zaz hown)).trans c_u2,(hb.cell (p:=⟨b,o+m1,none⟩) hbz).trans c_v1,(hb.cell (p:=⟨b,o+m2,none⟩) hbz).trans c_v2⟩)
 have hgz:g<w.heap.size:=Zaz hown;have hb1:=hW.dv.get (v.length-1) (by omega);have hb2:=hW.dv.get (v.length-2) (by omega);have hb3:=hW.dw.get (v.length-1) (by omega);have hb4:=hW.dw.get (v.length-2) (by omega);rw [hv1] at hb1;rw [hv2] at hb2;rw [hu1] at hb3;rw [hu2] at hb4;have HB12:=Zh (And.intro hb2 hb4);have HST:=Zh (fun (h:un<v1)=>Zks hWN h hb3 hb1);have HSM:=Zh (fun (h:v1<=un)=>Zhd hWN h hb3 hb1);have HD149:=Zh (fun (h:un<v1) (w:World)=>Zo2 w un u1 v1 h hb3 hb1);have k1:IntKind.i64.wrap ((n:Int)-1)=(m1:Int):=by rw [IntWalk.i64_in _ (by omega)];omega
 have k2:IntKind.i64.wrap ((n:Int)-2)=(m2:Int):=by rw [IntWalk.i64_in _ (by omega)];omega
 have i1:m1<n:=by omega
 have i2:m2<n:=by omega
 have i3:n<n+1:=by omega
 have i4:m1<n+1:=by omega
 have i5:m2<n+1:=by omega
 have HOWN:=Zh hown;have HNU:=Zh hnu;have HW:=Zh hW;have HDU:=Zh hdu;have HV:=Zh (fun (W:World) (hg:w.grownBy W (some g)) (i:Nat) (h:i<v.length)=>hg.cell (hv i h) (by simpa using hne));have HN:=Zh hn;have HLEN:=Zh (show n<(u.drop k).length by omega);have HN2:=Zh hn2;have HNE:=Zh hne;obtain ⟨Q,hQ⟩: ∃Q,Zrb w g nu cu base k u v=Q:=⟨_,rfl⟩;have HQ:=Zh (show∀u' t w',StepO w w' g nu cu base k u v u' t->Q (.returned (.int .u64 ((t:Nat):Int))) w' from fun u' t w' h=>by rw [<-hQ];exact ⟨u',t,rfl,h⟩);rw [hQ];clear hown hnu hW hdu hv hn hlen hdl hun hu1 hu2 hv1 hv2 hWN hcell c_u2 c_v2 hb1 hb2 hb3 hb4 hm1 hm2 hn2 hQ
 by_cases hge:v1<=un
 case' pos=>
   have d1:decide ((v1:Int)<=(un:Int))=true:=Zt (by omega);have d1':decide (v1<=un)=true:=Zt hge;obtain ⟨r,o1,hadd,hgt⟩:=HSM.out hge;have HGT:=Zh hgt;clear hgt hge;go_enter Tryz.func326,Tryz.ntmps326;go_wp2_with fail;refine Zah (by kernel_rfl) (by kernel_rfl) ?_
   repeat go_big_quiet_step (fail)
   refine wpQuiet_nil ?_;rintro w3 ⟨⟨_,hb⟩,rfl⟩;have HB3:=Zh hb;have hgz3:g<w3.heap.size:=by have:=hb.size;omega
   have hbz3:b<w3.heap.size:=by have:=hb.size;omega
   obtain ⟨q1,q2,q3,q4⟩:=HC0.out w3 hb;have q5:w3.cell? ⟨g,k+n,none⟩=some (.int .u64 (un:Int)):=(hb.cell (p:=⟨g,k+n,none⟩) hgz).trans c_un;clear hb;go_wp2_with fail;refine Zah (by kernel_rfl) (by kernel_rfl) ?_
   repeat go_big_quiet_step (fail)
   refine wpQuiet_nil ?_;rintro w4 ⟨⟨_,hb⟩,rfl⟩;have HB4:=Zh (HB3.Zg hb);clear hb HB3 hgz3 hbz3 q1 q2 q3 q4 q5
 case' neg=>
   have d1:decide ((v1:Int)<=(un:Int))=false:=Zf (by omega);have d1':decide (v1<=un)=false:=Zf hge;have hlt:un<v1:=by omega
   have HGT0:=Zh (HST.out hlt);have HDD:=Zh (HD149.out hlt);obtain ⟨t,ht⟩: ∃t,(un* 18446744073709551616+u1) / v1=t:=⟨_,rfl⟩;obtain ⟨r,hr⟩: ∃t,(un* 18446744073709551616+u1) % v1=t:=⟨_,rfl⟩;rw [ht,hr] at HGT0 HDD;have HGT:=Zh HGT0.out;clear hge hlt ht hr HGT0;go_enter Tryz.func326,Tryz.ntmps326;go_wp2_with fail;refine Zah (by kernel_rfl) (by kernel_rfl) ?_
   repeat go_big_quiet_step (fail)
   refine wpQuiet_nil ?_;rintro w3 ⟨⟨_,hb⟩,rfl⟩;have HB3:=Zh hb;have hgz3:g<w3.heap.size:=by have:=hb.size;omega
   have hbz3:b<w3.heap.size:=by have:=hb.size;omega
   obtain ⟨q1,q2,q3,q4⟩:=HC0.out w3 hb;have q5:w3.cell? ⟨g,k+n,none⟩=some (.int .u64 (un:Int)):=(hb.cell (p:=⟨g,k+n,none⟩) hgz).trans c_un;clear hb;go_wp2_with fail;refine Zah (by kernel_rfl) (by kernel_rfl) ?_
   repeat go_big_quiet_step ((go_at_call 322;exact Calls.later (HDD.out _)))
   refine wpQuiet_nil ?_;rintro w4 ⟨⟨_,hb⟩,rfl⟩;have HB4:=Zh (HB3.Zg hb);clear hb HB3 hgz3 hbz3 q1 q2 q3 q4 q5
 all_goals
   clear d1 d1' c_un c_u1 c_v1
   try clear hadd
   have hgz4:g<w4.heap.size:=by have:=HB4.size;omega
   have hbz4:b<w4.heap.size:=by have:=HB4.size;omega
   obtain ⟨q1,q2,q3,q4⟩:=HC0.out w4 HB4.out;go_wp2_with fail
   go_loop [6,7,8] (fun t r ov=> ∃tn rn on:Nat,t= .int .u64 (tn:Int)/\r= .int .u64 (rn:Int)/\ov= .int .u64 (on:Int)/\GuT (u.drop k) v un u1 v1 tn rn on) (fun t _ _=>(intOf t).toNat)
   case atStart=>first|exact ⟨18446744073709551615,_,_,rfl,rfl,rfl,HGT.out⟩|exact ⟨_,_,0,rfl,rfl,rfl,HGT.out⟩
   case round=>
     obtain ⟨tn,rn,on,rfl,rfl,rfl,hin⟩:=hrel;clear HGT
     try clear HDD
     rcases Zm8 HWN.out hin HB12.out.2 HB12.out.1 with ⟨e1,hd⟩|⟨rfl,hi,lo,hM,⟨e2,hd⟩|⟨e2,rfl,e3,hd⟩|⟨e2,e3,tq,r2,o2,e4,e5,hg2,hlt⟩|⟨e2,rfl,e3,tq,r2,o2,e4,e5,hg2,hlt⟩⟩
     rotate_left 3
     ·have HM:=Zh hM;have HG2:=Zh hg2;have HLT:=Zh hlt;clear hM hg2 hlt hin;go_wp2_with (go_at_call 297;refine (HM.out _).mono ?_;rintro e6 w6 ⟨rfl,rfl⟩)
      go_round
      case rel=>exact ⟨tq,r2,o2,rfl,rfl,rfl,HG2.out⟩
      case measure=>have:=HLT.out;simp [intOf];omega
     ·have HM:=Zh hM;have HG2:=Zh hg2;have HLT:=Zh hlt;clear hM hg2 hlt hin;go_wp2_with (go_at_call 297;refine (HM.out _).mono ?_;rintro e6 w6 ⟨rfl,rfl⟩)
      go_round
      case rel=>exact ⟨tq,r2,o2,rfl,rfl,rfl,HG2.out⟩
      case measure=>have:=HLT.out;simp [intOf];omega
     all_goals
       have HD:=Zh hd
       try have HM:=Zh hM
       try clear hM
       clear hd hin;have HOW4:=Zh (HOWN.later HB4.out);have HGB4:=Zh (Zm9 (Zpt w (some g)) HB4.out);have HSB0:=Zh (show SbI (u.drop k) u v u k tn 0 0 0 from ⟨rfl,rfl,HDU.out,by omega,by omega,SmI.start (HDU.drop k)⟩);go_wp2_with (go_at_call 297;refine (HM.out _).mono ?_;rintro e6 w6 ⟨rfl,rfl⟩)
       go_loopw [105,11,12] (fun i bo ca wr=> ∃ (j bw cy:Nat) (u':List Nat),j<=n/\i= .int .i64 j/\bo= .int .u64 (bw:Int)/\ca= .int .u64 (cy:Int)/\SbI (u.drop k) u v u' k tn cy bw j/\Own encW 1 345 wr base (.slice (some ⟨g,0,none⟩) nu cu) u'/\w.grownBy wr (some g)) (fun i _ _ _=>n-(intOf i).toNat)
       case atStart=>exact ⟨0,0,0,u,Nat.zero_le _,rfl,rfl,rfl,HSB0.out,HOW4.out,HGB4.out⟩
       case round=>
         clear q1 q2 q3 q4 hgz4 hbz4 HOW4 HGB4 HSB0
         try clear HM
         try clear e1
         try clear e2
         try clear e3
         obtain ⟨j,bw,cy,u',hj,rfl,rfl,rfl,hsb,hown,hgb⟩:=hrel;have HSB:=Zh hsb;have HO:=Zh hown;have HG:=Zh hgb;have HLU:=Zh (show u'.length=nu by rw [hsb.len,HNU.out]);have hlw:n<(u'.drop k).length:=by rw [hsb.sm.len];exact HLEN.out
         have hgz:g<wr.heap.size:=Zaz hown;have hbz2:b<wr.heap.size:=by have:=hgb.size;omega
         have hcyB:=hsb.cB;have hbw1:=hsb.b1;clear hsb hown hgb
         by_cases hjn:j<n
         ·have d2:decide ((j:Int)<(n:Int))=true:=Zt (by omega);have d2':decide (j<n)=true:=Zt hjn;have hjv:j<v.length:=by rw [HN.out];exact hjn
          have hju:j<(u'.drop k).length:=by omega
          have p1:=HV.out wr HG.out j hjv;have p2:=HCELL.out wr u' HO.out HLU.out j hju;have p3:=Own.frozenN HO.out HLU.out (k+j);have hkj:k+j<nu:=by rw [List.length_drop,HLU.out] at hju;omega
          have HSET:=Zh (fun (y:Nat)=>Zaq HO.out HLU.out Zae (k+j) hkj y (.int .u64 (y:Int)) rfl);have HSTP:=Zh (fun s h1 b' a1 a2 a3 a4=>HSB.step (s:=s) (h1:=h1) (b':=b') hjv hju a1 a2 a3 a4);have hyB:=HW.dv.get j hjv;have hxB:=(HSB.dg.drop k).get j hju;generalize v[j]=y at *;generalize hxe:(u'.drop k)[j]=x at *;obtain ⟨hi2,lo2,l1,cc,h1,s,b',r1,r3,r4,r5,r6,r7,r8,r9⟩:=Zna tn y cy x bw HD.lt hyB hcyB hxB hbw1;have HM2:=Zh r1;have HNEW:=Zh (HSTP.out s h1 b' r6 r7 r8 r9);have k3:IntKind.i64.wrap ((j:Int)+1)=((j+1:Nat):Int):=by rw [IntWalk.i64_in _ (by have:=HN2.out;omega)];omega
          have i6:j<n+1:=by omega
          clear r1 r6 r7 r8 r9 hyB hxB hxe hcyB hbw1;go_wp2_with (go_at_call 297;refine (HM2.out _).mono ?_;rintro e6 w6 ⟨rfl,rfl⟩);go_roundw
          case rel=>exact ⟨j+1,b',h1,u'.set (k+j) s,by omega,by go_num,rfl,rfl,HNEW.out,HSET.out s,Zhe HG.out _ _⟩
          case measure=>simp [intOf];omega
         ·obtain rfl:n=j:=by omega
          have hnv:=HN.out;have p2:=HCELL.out wr u' HO.out HLU.out n hlw;have p3:=Own.frozenN HO.out HLU.out (k+n);have hkn:k+n<nu:=by rw [List.length_drop,HLU.out] at hlw;omega
          have HSB2:=Zh (show SbI (u.drop k) u v u' k tn cy bw v.length by rw [hnv];exact HSB.out);have hunx:(u'.drop k)[n]=un:=by
            have h1:=HSB2.un HW.out (by rw [hnv];exact hlw);have h2:=HWN.hun;rw [<-h2,<-h1];congr 1;omega
          rw [hunx] at p2;have HSET:=Zh (fun (y:Nat)=>Zaq HO.out HLU.out Zae (k+n) hkn y (.int .u64 (y:Int)) rfl);have hunB:un<2^64:=by rw [<-hunx];exact (HSB.dg.drop k).get n hlw
          obtain ⟨s,b',hsub,t1,t2,t3⟩:=Zd1 un cy bw hunB hcyB hbw1;have hdone:=HSB2.sm.done HW.out HD.ge HD.le;rw [HWN.hun] at hdone
          rcases hdone with ⟨hle,hcu,heq⟩|⟨hlt,hcu,heq⟩
          ·have hs0:s=0/\b'=0:=by omega
           obtain ⟨rfl,rfl⟩:=hs0;have hO2:=HSET.out 0;have HFIN:=Zh (HQ.out _ tn _ (Zpu HSB2.out HW.out HD.out hle heq (by rw [hnv];exact hO2) (Zhe HG.out _ _)));clear hle heq hcu hunx hunB t1 t2 t3 hO2 hnv hcyB hbw1;go_wp2_with fail;exact HFIN.out
          ·have hs1:s=18446744073709551615/\b'=1:=by omega
           obtain ⟨rfl,rfl⟩:=hs1;have HO2:=Zh (HSET.out 18446744073709551615);have HLT:=Zh hlt;have HEQ:=Zh heq;obtain ⟨u2,hu2⟩: ∃l,u'.set (k+n) 18446744073709551615=l:=⟨_,rfl⟩;have HU2:=Zh hu2;rw [hu2] at HO2;have HAB0:=Zh (show AbS u u2 v u2 k 0 0 from ⟨by rw [<-hu2,List.length_set];exact HSB.len,by rw [<-hu2,Zb7];exact HSB.tk,by rw [<-hu2];exact HSB.dg.set _ (by decide),AbI.start (by rw [<-hu2];exact (HSB.dg.set _ (by decide)).drop k)⟩);have HG2:=Zh (Zhe HG.out (k+n) (.int .u64 18446744073709551615));clear hlt heq hcu hunx hunB t1 t2 t3 hnv hu2;go_wp2_with fail
           go_loopw [157,17] (fun i c wr=> ∃ (j c':Nat) (u3:List Nat),j<=n/\i= .int .i64 j/\c= .int .u64 (c':Int)/\AbS u u2 v u3 k c' j/\Own encW 1 345 wr base (.slice (some ⟨g,0,none⟩) nu cu) u3/\w.grownBy wr (some g)) (fun i _ _=>n-(intOf i).toNat)
           case atStart=>exact ⟨0,0,u2,Nat.zero_le _,rfl,rfl,HAB0.out,HO2.out,HG2.out⟩
           case round=>
             clear HAB0 HO2 HG2 p2 p3 hgz hbz2 hsub;obtain ⟨j,c,u3,hj,rfl,rfl,hab,hown,hgb⟩:=hrel;have HAB:=Zh hab;have HO3:=Zh hown;have HG3:=Zh hgb;have HL3:=Zh (show u3.length=nu by rw [hab.len,HNU.out]);have hlw3:n<(u3.drop k).length:=by rw [List.length_drop,HL3.out];omega
             have hgz:g<wr.heap.size:=Zaz hown;have hbz2:b<wr.heap.size:=by have:=hgb.size;omega
             have hc1:=hab.ab.carry;clear hab hown hgb
             by_cases hjn2:j<n
             ·have d2:decide ((j:Int)<(n:Int))=true:=Zt (by omega);have d2':decide (j<n)=true:=Zt hjn2;have hjv:j<v.length:=by rw [HN.out];exact hjn2
              have hju:j<(u3.drop k).length:=by omega
              have hkj:k+j<nu:=by omega
              have i6:j<n+1:=by omega
              have HSTP:=Zh (fun s hs=>HAB.step HW.dv hjv hju (s:=s) hs);have k3:IntKind.i64.wrap ((j:Int)+1)=((j+1:Nat):Int):=by rw [IntWalk.i64_in _ (by have:=HN2.out;omega)];omega
              have p1:=HV.out wr HG3.out j hjv;have p2:=HCELL.out wr u3 HO3.out HL3.out j hju;have HOD:=Zh (HO3.drew);have p3:wr.drew.frozen? ⟨g,k+j,none⟩=false:=Own.frozenN HOD.out HL3.out (k+j);have p4:=HCELL.out wr.drew u3 HOD.out HL3.out j hju;have HSET2:=Zh (fun (y:Nat)=>Zaq HOD.out HL3.out Zae (k+j) hkj y (.int .u64 (y:Int)) rfl);have HGD:=Zh (show w.grownBy wr.drew (some g) from ⟨HG3.os,HG3.tape,HG3.output,HG3.size,HG3.block⟩);have p5:=HV.out wr.drew HGD.out j hjv;have hgzd:g<wr.drew.heap.size:=hgz;have hbzd:b<wr.drew.heap.size:=hbz2;generalize v[j]=y at *;generalize hxe:(u3.drop k)[j]=x at *;obtain ⟨sv,hsv⟩: ∃q,(x+y+c) % 18446744073709551616=q:=⟨_,rfl⟩;obtain ⟨cv,hcv⟩: ∃q,(x+y+c) / 18446744073709551616=q:=⟨_,rfl⟩;have hadd:=fun w:World=>Zf6 x y c hc1 w;rw [hsv,hcv] at hadd;have HNEW:=Zh (show AbS u u2 v (u3.set (k+j) sv) k cv (j+1) by
                have h:=HSTP.out (x+y+c) rfl;rw [<-hsv,<-hcv];exact h)
              clear hxe hsv hcv hc1;go_wp2_with fail;refine Zdp 17 16 _ (({ wr with drawn:=wr.drawn+1 }:World).setCell ⟨g,k+j,none⟩ (.int .u64 (sv:Int))) (by kernel_rfl) (by kernel_rfl) rfl (Zgc 14 (by kernel_rfl) rfl rfl _ _) ?_;apply Exists.intro;refine ⟨?_,?_,?_⟩
              ·obtain ⟨X,hX⟩: ∃X:Keep wr (fun _ _=>True),({ wr with drawn:=wr.drawn+1 }:World)=X.w:=⟨⟨{ wr with drawn:=wr.drawn+1 },fun b o _=>rfl⟩,rfl⟩;rw [hX,<-Zh2 X];simp only [Zat,Z2,Z3,Z6,Z7,Nat.reduceSub,List.cons_append,List.nil_append]
               repeat go_big_quiet_step (fail)
               exact wpQuiet_nil rfl
              ·have zf2:wr.frozen? ⟨g,k+j,none⟩=false:=Own.frozenN HO3.out HL3.out (k+j);have zs2:=HCELL.out ({ wr with drawn:=wr.drawn+1 }:World) u3 HO3.out HL3.out j hju;clear p4 p3
               go_simp
               first|done|rfl
              simp only [Act.put,Z1,Z4,Z5,Z3,Z7];have HNO:=Zh (Zaq (w:=({ wr with drawn:=wr.drawn+1 }:World)) HO3.out HL3.out Zae (k+j) hkj sv (.int .u64 (sv:Int)) rfl);have HNG:=Zh (Zhe (w:=({ wr with drawn:=wr.drawn+1 }:World)) (g:=g) ⟨HG3.os,HG3.tape,HG3.output,HG3.size,HG3.block⟩ (k+j) (.int .u64 (sv:Int)));clear p1 p2 p3 p4 p5 hadd;go_wp2_with fail;go_roundw
              case rel=>exact ⟨j+1,cv,u3.set (k+j) sv,by omega,by go_num,rfl,HNEW.out,HNO.out,HNG.out⟩
              case measure=>simp [intOf];omega
             ·obtain rfl:n=j:=by omega
              have hnv:=HN.out;have HAB2:=Zh (show AbS u (u'.set (k+v.length) 18446744073709551615) v u3 k c v.length by rw [hnv,HU2.out];exact HAB.out);have hk3:u3[k+n]?=some 18446744073709551615:=by
                have h1:=HAB2.un (by rw [hnv,HLU.out];exact hkn)
                rwa [hnv] at h1
              obtain ⟨hq1,hq2⟩:=List.getElem?_eq_some_iff.1 hk3;have p2:=Zam HO3.out HL3.out Zae (k+n) hq1 (.int .u64 18446744073709551615) (by rw [hq2];rfl);have p3:=Own.frozenN HO3.out HL3.out (k+n);have hO4:=Zaq HO3.out HL3.out Zae (k+n) hkn 0 (.int .u64 0) rfl;obtain ⟨rfl,htp,hso⟩:=Zrc HSB2.out HW.out HD.out HLT.out HEQ.out HAB2.out (by rw [hnv];exact hO4) (Zhe HG3.out (k+n) (.int .u64 0));rw [hnv] at hso;obtain ⟨tm,htm⟩: ∃q,tn-1=q:=⟨_,rfl⟩;rw [htm] at hso;have HFIN:=Zh (HQ.out _ tm _ hso);have kt:IntKind.u64.wrap ((tn:Int)-1)=(tm:Int):=by rw [IntWalk.u64_in _ (by have:=HD.lt;omega)];omega
              have kw:IntKind.u64.wrap ((18446744073709551615:Int)+1)=0:=by rfl
              clear hk3 hq1 hq2 hO4 htp hso htm hnv hc1;go_wp2_with fail;exact HFIN.out
end Go.Proofs.YtijajkfmlghgkaaGreatDoor.Nu
namespace Go
open Go.RowKit
section
theorem Zff {P:Program} {ops:Array Oper} {o:Oper} {x:Operand} {k:Nat} (ho:o.op= .extract x k) {C C2:World->Prop} {W:World} (hW:C W) {v:Value} {a:Act} (h:YieldsIn P ops C o v a):YieldsIn P ops C2 o v a:=by
  rcases h with ⟨h1,h2⟩|h
  ·refine .inl ⟨h1,?_⟩;intro w _;have h3:=h2 W hW;clear h2 h1;unfold Oper.quietAt execOp at *;rw [ho] at h3 ⊢;simp only [Instr.extract] at h3 ⊢;generalize a.eval x=y at *;cases y with
   | tuple vs=>
     simp only at h3 ⊢;cases hv:vs[k]? with
     | some u=>
       rw [hv] at h3;simp [Oper.quietUpon] at h3 ⊢;exact h3
     | none=>rw [hv] at h3;simp [Oper.quietUpon,stuck] at h3
   | _=>simp [Oper.quietUpon,stuck] at h3
  ·exact .inr h
structure StoreFlow (ops:Array Oper) (n b:Nat) (ob:Oper) (W:World) (a0 A:Act) (D:World->Prop) (listed:Array Bool) (a:Act) (w:World):Prop where
  inv:HeadInv .any ops n listed
  later:listed.getD b false=false->Below W.heap.size W w
  size:a.tmps.size=a0.tmps.size
  defers:a.defers=a0.defers
  slot: ∀j o t,j<n->ops[j]?=some o->o.dst=some t->j≠b->a.tmps[t]?=if listed.getD j false=true then A.tmps[t]? else a0.tmps[t]?
  slotb: ∀t,ob.dst=some t->a.tmps[t]?=if listed.getD b false=true then a0.tmps[t]?.map (fun _=>undef) else a0.tmps[t]?
  other: ∀t,(∀j o,j<n->ops[j]?=some o->o.dst≠some t)->a.tmps[t]?=a0.tmps[t]?
  box:listed.getD b false=true->D w
variable {P:Program} {l:List Oper} {n b:Nat} {ob:Oper} {W:World} {a0 A:Act} {D:World->Prop} {Q:Exit->Act->World->Prop}
theorem Zgd (hB:Region.flowB l.toArray n b=true) (hob:l[b]?=some ob)
    (hq: ∀Y:Later W,wpQuiet P l.toArray (fun w'=> ∃X:Later2 Y,w'=X.w) (fun a'=>a'=A) (Zat l n b) a0)
    (hfree: ∀i o,i<n->i≠b->l[i]?=some o->Region.waitsFor .any l.toArray b i=false->∃x k,o.op= .extract x k)
    (hb: ∀w,Below W.heap.size W w->∃w',(execOp A.eval ob).run P w= .ok .skip w'/\D w')
    (ht: ∀w,D w->wpList P l.toArray Q (l.drop n) (A.put ob.dst undef) w):
    ∀ (f:Nat) (U:List Nat) (listed:Array Bool) (a:Act) (w:World),U.length=f->U.Nodup->(∀i,i∈U↔i<n/\listed.getD i false=false)->
      StoreFlow l.toArray n b ob W a0 A D listed a w->wpAny P .any l.toArray Q (f+(l.toArray.size-n)) listed a w:=by
 simp only [Region.flowB,Bool.and_eq_true,decide_eq_true_eq,List.all_eq_true,List.mem_range] at hB;obtain ⟨⟨⟨⟨⟨⟨⟨⟨⟨hsel,hn⟩,hbn⟩,hsink⟩,hchain⟩,hseq⟩,hedge⟩,hpair⟩,hguard⟩,hblind⟩:=hB;have hn':n<=l.length:=by have h:=hn;rw [List.size_toArray] at h;omega
 have hsz:l.toArray.size=l.length:=by simp
 have hget: ∀i:Nat,l.toArray[i]?=l[i]?:=fun i=>by simp
 have hselect:=Region.noSelect_spec hsel;have hpw:(Zat l n b).Pairwise (fun o o'=> ∀t,o.dst=some t->o'.dst≠some t):=by
   rw [List.pairwise_iff_getElem];intro i j hi hj hij t ht;obtain ⟨i',h1,h2,h3,h4⟩:=Zas hbn hn' (List.getElem?_eq_getElem hi);obtain ⟨j',k1,k2,k3,k4⟩:=Zas hbn hn' (List.getElem?_eq_getElem hj);exact Region.flowPair_dst (hpair i' h1 j' k1) (by rw [hget];exact h3) (by rw [hget];exact k3) (fun e=>by subst e;omega) ht
 have hA:=Zbj _ _ (hq ⟨W,Below.refl _ _⟩) hpw;have hAo: ∀t,(∀j o,j<n->l.toArray[j]?=some o->j≠b->o.dst≠some t)->A.tmps[t]?=a0.tmps[t]?:=fun t h=>hA.1 t fun o ho=>by
   obtain ⟨q,hq'⟩:=List.mem_iff_getElem?.1 ho;obtain ⟨j,h1,h2,h3,_⟩:=Zas hbn hn' hq';exact h j o h1 (by rw [hget];exact h3) h2
 have hAs:=hA.2.1;have hAd:=hA.2.2.1;have hobA:l.toArray[b]?=some ob:=by rw [hget];exact hob
 intro f
 induction f with
 | zero=>
   intro U listed a w hU _ hUm hF;obtain rfl:U=[]:=List.eq_nil_of_length_eq_zero hU;have hall: ∀i,i<n->listed.getD i false=true:=fun i hi=>by
     cases h:listed.getD i false with
     | true=>rfl
     | false=>have:=(hUm i).2 ⟨hi,h⟩;simp at this
   have hl:listed=Region.marked l.toArray.size n:=by
     apply Array.ext_getElem?;intro i
     by_cases hi:i<l.toArray.size
     ·have hil:i<listed.size:=by rw [hF.inv.size];exact hi
      have e2:(Region.marked l.toArray.size n)[i]?=some (decide (i<n)):=by
        rw [List.size_toArray] at hi;unfold Region.marked;simp [hi]
      rw [e2,Array.getElem?_eq_getElem hil]
      by_cases hin:i<n
      ·have:=hall i hin;simp [hil] at this;simp [this,hin]
      ·have:=hF.inv.tail i (by omega) hi;simp [hil] at this;simp [this,hin]
     ·rw [Array.getElem?_eq_none (by rw [hF.inv.size];omega),Array.getElem?_eq_none (by rw [List.size_toArray] at hi;unfold Region.marked;simp;omega)]
   have hbt:=hall b hbn;have ha:a=A.put ob.dst undef:=by
     have htm:a.tmps=(A.put ob.dst undef).tmps:=by
       apply Array.ext_getElem?;intro t;rw [Zaf]
       by_cases hbd:ob.dst=some t
       ·rw [if_pos hbd,hF.slotb t hbd,if_pos hbt]
        by_cases h:t<a0.tmps.size
        ·rw [Array.getElem?_eq_getElem h,Array.getElem?_eq_getElem (by rw [hAs];exact h)];rfl
        ·rw [Array.getElem?_eq_none (by omega),Array.getElem?_eq_none (by rw [hAs];omega)] <;> rfl
       ·rw [if_neg hbd]
        by_cases h: ∃j o,j<n/\l.toArray[j]?=some o/\o.dst=some t
        ·obtain ⟨j,o,h1,h2,h3⟩:=h;have hjb:j≠b:=fun e=>by subst e;rw [hobA] at h2;cases h2;exact hbd h3
         rw [hF.slot j o t h1 h2 h3 hjb,if_pos (hall j h1)]
        ·have h': ∀j o,j<n->l.toArray[j]?=some o->o.dst≠some t:=fun j o h1 h2 h3=>h ⟨j,o,h1,h2,h3⟩;rw [hF.other t h',hAo t fun j o h1 h2 _=>h' j o h1 h2]
     have hd:a.defers=(A.put ob.dst undef).defers:=by rw [Zal,hAd,hF.defers]
     cases a;simp only at htm hd;cases hX:A.put ob.dst undef;rw [hX] at htm hd;simp only at htm hd;rw [htm,hd]
   rw [ha];have hdl:(l.drop n).length=l.toArray.size-n:=by simp
   have:=wpAny_of_seq (md:= .any) (Q':=Q) (ops:=l.toArray) (l.drop n) n listed (A.put ob.dst undef) w (fun j=>by simp [List.getElem?_drop]) (by rw [hdl,hl];exact hseq) (ht w (hF.box hbt));rw [hdl] at this
   rwa [Nat.zero_add]
 | succ f ih=>
   intro U listed a w hU hnd hUm hF;obtain ⟨i0,hi0,hleast⟩:=Zay U (fun e=>by rw [e] at hU;simp at hU);obtain ⟨hi0n,hi0u⟩:=(hUm i0).1 hi0;have hin: ∀i,i<n->i<listed.size:=fun i hi=>by rw [hF.inv.size];omega
   have hready:i0∈Region.ready .any l.toArray listed:=by
     have hlt:i0<l.toArray.size:=by omega
     refine mem_ready.2 ⟨getD_in (hin _ hi0n) hi0u,l.toArray[i0],Array.getElem?_eq_getElem hlt,fun e he hbd=> ?_⟩;have h1:=hedge i0 hi0n;rw [Array.getElem?_eq_getElem hlt] at h1;simp only [Array.all_eq_true_iff_forall_mem] at h1;have h2:=h1 e he;simp only [hbd,Bool.not_true,Bool.false_or,decide_eq_true_eq] at h2;cases h:listed.getD e.on false with
     | true=>rfl
     | false=>
       have:=hleast e.on ((hUm e.on).2 ⟨by omega,h⟩);omega
   rw [show f+1+(l.toArray.size-n)=(f+(l.toArray.size-n))+1 by omega];refine ⟨fun h=>(by rw [h] at hready;cases hready),fun i hi=> ?_⟩;obtain ⟨hiu,o,ho,hdep⟩:=mem_ready.1 hi;have hilt:i<n:=Nat.lt_of_not_le fun h=>tail_waits hsink hchain hn hF.inv _ i0 rfl hi0n (getD_in (hin _ hi0n) hi0u) i h hi;have hiU:i∈U:=(hUm i).2 ⟨hilt,getD_both hiu⟩;have hinv:=hF.inv.set hi hilt;have hlist: ∀j,(listed.setIfInBounds i true).getD j false=if j=i then true else listed.getD j false:=fun j=>by
    by_cases h:j=i
    ·subst h;rw [if_pos rfl];simp [hin j hilt]
    ·rw [if_neg h,getD_set_ne false (Ne.symm h)]
   have hUm': ∀j,j∈U.erase i↔j<n/\(listed.setIfInBounds i true).getD j false=false:=fun j=>by
     rw [hnd.mem_erase_iff,hUm j,hlist j]
     by_cases h:j=i
     ·simp [h]
     ·simp [h]
   have hlen':(U.erase i).length=f:=by rw [List.length_erase_of_mem hiU];omega
   have hnd':=hnd.erase i;have hseen: ∀t∈o.looksAt l.toArray,∀j oj,j<n->l.toArray[j]?=some oj->oj.dst=some t->i≠j/\j<i/\listed.getD j false=true:=by
     intro t ht j oj hj hoj hd;have hne:i≠j:=fun e=>by
       subst e;rw [ho] at hoj;cases hoj;exact Region.flowPair_self (hpair i hilt i hilt) ho hd ht
     have h1:=Region.flowPair_looks (hpair i hilt j hj) ho hoj hne hd ht;obtain ⟨o',ho',e,he,hbd,hon⟩:=Region.waitsFor_spec h1.2;rw [ho] at ho';cases ho';have:=hdep e he hbd;rw [hon] at this;exact ⟨hne,h1.1,this⟩
   by_cases hib:i=b
   ·subst hib;rw [hobA] at ho;cases ho;have hg:ob.guard=none:=by rw [hobA] at hguard;simpa using hguard
    obtain ⟨w',hrun,hD⟩:=hb w (hF.later (getD_both hiu));have hex:execOp a.eval ob=execOp A.eval ob:=(Za0 (ops:=l.toArray) (fun cs bb=>hselect i ob cs bb hobA) fun t htl=>by
      by_cases h: ∃j o,j<n/\l.toArray[j]?=some o/\o.dst=some t
      ·obtain ⟨j,oj,h1,h2,h3⟩:=h;obtain ⟨k1,k2,k3⟩:=hseen t htl j oj h1 h2 h3;rw [hF.slot j oj t h1 h2 h3 (Ne.symm k1),if_pos k3]
      ·have h': ∀j o,j<n->l.toArray[j]?=some o->o.dst≠some t:=fun j o h1 h2 h3=>h ⟨j,o,h1,h2,h3⟩;rw [hF.other t h',hAo t fun j o h1 h2 _=>h' j o h1 h2]).1
    unfold wpOp;simp only [hobA];rw [if_pos (by simp [Region.wanted,hg])];refine .inl ?_;unfold Oper.wp;rw [hex,hrun];simp only [Oper.upon_skip];refine ih (U.erase i) _ _ _ hlen' hnd' hUm' ⟨hinv,fun h=>(by rw [hlist i,if_pos rfl] at h;cases h),by rw [Zbd,hF.size],by rw [Zal,hF.defers],?_,?_,?_,fun _=>hD⟩
    ·intro j oj t hj hoj hd hjb;have hne:ob.dst≠some t:=fun h=>Region.flowPair_dst (hpair i hilt j hj) hobA hoj (Ne.symm hjb) h hd;rw [Zaf,if_neg hne,hF.slot j oj t hj hoj hd hjb,hlist j,if_neg hjb]
    ·intro t hd;rw [Zaf,if_pos hd,hlist i,if_pos rfl,if_pos rfl,hF.slotb t hd,if_neg (by rw [getD_both hiu];simp)]
    ·intro t h;rw [Zaf,if_neg (h i ob hilt hobA),hF.other t h]
   ·have hpos:=Zbf hbn hn' hilt hib;have hol:l[i]?=some o:=by rw [<-hget];exact ho
    rw [hol] at hpos;have hsplit:Zat l n b=(Zat l n b).take (Zcy b i)++o::(Zat l n b).drop (Zcy b i+1):=by
     have hlt:=(List.getElem?_eq_some_iff.1 hpos).1;have e:=(List.getElem?_eq_some_iff.1 hpos).2;rw [<-e,<-List.drop_eq_getElem_cons hlt,List.take_append_drop]
    obtain ⟨Y0,hY0⟩: ∃Y0:Later W,(listed.getD b false=false->Y0.w=w):=by
      cases h:listed.getD b false with
      | false=>exact ⟨⟨w,hF.later h⟩,fun _=>rfl⟩
      | true=>exact ⟨⟨W,Below.refl _ _⟩,fun h=>by cases h⟩
    obtain ⟨_,_,_,htext⟩:=Zbj _ _ (hq Y0) hpw;obtain ⟨ai,v,hy,t1,t2,t3⟩:=htext _ o _ hsplit;have hal:=Za0 (ops:=l.toArray) (o:=o) (a:=a) (a':=ai) (fun cs bb=>hselect i o cs bb ho) fun t htl=>by
      by_cases h: ∃j o,j<n/\l.toArray[j]?=some o/\o.dst=some t
      ·obtain ⟨j,oj,h1,h2,h3⟩:=h;obtain ⟨k1,k2,k3⟩:=hseen t htl j oj h1 h2 h3
       by_cases hjb:j=b
       ·-- nobody else looks at b's yield
        subst hjb;have h4:=hblind i hilt;simp only [Bool.or_eq_true,beq_iff_eq,hib,false_or] at h4;exact absurd htl (Region.blindTo_spec h4 ho h2 h3)
       ·rw [hF.slot j oj t h1 h2 h3 hjb,if_pos k3];refine (t1 t ⟨oj,?_,h3⟩).symm;have hjp:=Zbf hbn hn' h1 hjb;rw [<-hget,h2] at hjp;refine List.mem_of_getElem? (i:=Zcy b j) ?_;rw [List.getElem?_take,if_pos (by unfold Zcy;split <;> split <;> omega)]
        exact hjp
      ·have h': ∀j o,j<n->l.toArray[j]?=some o->o.dst≠some t:=fun j o h1 h2 h3=>h ⟨j,o,h1,h2,h3⟩;rw [hF.other t h'];refine (t2 t fun p hp=> ?_).symm;obtain ⟨q,hq'⟩:=List.mem_iff_getElem?.1 (List.mem_of_mem_take hp);obtain ⟨j,h1,h2,h3,_⟩:=Zas hbn hn' hq';exact h' j p h1 (by rw [hget];exact h3)
    have hy0:=hy.of_same hal.1 hal.2;obtain ⟨C,hCw,hC,hy'⟩: ∃C:World->Prop,C w/\(∀w',C w'->(listed.getD b false=false->Below W.heap.size W w')/\(listed.getD b false=true->w'=w))/\YieldsIn P l.toArray C o v a:=by
      cases h:listed.getD b false with
      | false=>
        obtain rfl:=hY0 h;exact ⟨_,⟨⟨Y0.w,Below.refl _ _⟩,rfl⟩,fun w' ⟨X,hX⟩=>⟨fun _=>by rw [hX];exact Y0.h.trans (X.h.mono Y0.h.size),fun h=>by cases h⟩,hy0⟩
      | true=>
        refine ⟨fun w'=>w'=w,rfl,fun w' h=>⟨fun h=>(by cases h),fun _=>h⟩,?_⟩;have hwf:Region.waitsFor .any l.toArray b i=false:=by
          cases hwf:Region.waitsFor .any l.toArray b i with
          | false=>rfl
          | true=>
            obtain ⟨o',ho',e,he,hbd,hon⟩:=Region.waitsFor_spec hwf;have h2:=hF.inv.closed b o' ho' h e he hbd;rw [hon,getD_both hiu] at h2;cases h2
        obtain ⟨x,k,hx⟩:=hfree i o hilt hib hol hwf;exact Zff hx ⟨⟨Y0.w,Below.refl _ _⟩,rfl⟩ hy0
    have hqo:=hy'.qOp (K:=fun a'=>a'=a.put o.dst v) ho rfl;refine wpOp_of_qOp hCw ?_ hqo;rintro a' w' hw' rfl;obtain ⟨hc1,hc2⟩:=hC w' hw';refine ih (U.erase i) _ _ _ hlen' hnd' hUm' ⟨hinv,?_,by rw [Zbd,hF.size],by rw [Zal,hF.defers],?_,?_,?_,?_⟩
    ·rw [hlist b,if_neg (Ne.symm hib)];exact hc1
    ·intro j oj t hj hoj hd hjb;rw [Zaf,hlist j]
     by_cases hji:j=i
     ·subst hji;rw [ho] at hoj;cases hoj;rw [if_pos hd,if_pos rfl,if_pos rfl,hF.slot j o t hj ho hd hjb,if_neg (by rw [getD_both hiu];simp),t3 t hd]
     ·have hne:o.dst≠some t:=fun h=>Region.flowPair_dst (hpair i hilt j hj) ho hoj (Ne.symm hji) h hd;rw [if_neg hne,if_neg hji,hF.slot j oj t hj hoj hd hjb]
    ·intro t hd;have hne:o.dst≠some t:=fun h=>Region.flowPair_dst (hpair i hilt b hbn) ho hobA hib h hd;rw [Zaf,if_neg hne,hF.slotb t hd,hlist b,if_neg (Ne.symm hib)]
    ·intro t h;rw [Zaf,if_neg (h i o hilt ho),hF.other t h]
    ·intro h;rw [hlist b,if_neg (Ne.symm hib)] at h;rw [hc2 h];exact hF.box h
theorem Zdq {id:Nat} (n b:Nat) (ob:Oper) (D:World->Prop) (hm:P.follows .mixedOrders=true) (hB:Region.flowB l.toArray n b=true) (hob:l[b]?=some ob)
    (hfree: ∀i o,i<n->i≠b->l[i]?=some o->Region.waitsFor .any l.toArray b i=false->∃x k,o.op= .extract x k)
    (hh: ∃A,(∀Y:Later W,wpQuiet P l.toArray (fun w'=> ∃X:Later2 Y,w'=X.w) (fun a'=>a'=A) (Zat l n b) a0)/\
      (∀w,Below W.heap.size W w->∃w',(execOp A.eval ob).run P w= .ok .skip w'/\D w')/\
       ∀w,D w->wpList P l.toArray Q (l.drop n) (A.put ob.dst undef) w):
    (Code.region id l.toArray true).wp P Q a0 W:=by
 obtain ⟨A,hq,hb,ht⟩:=hh;refine wp_region_any hm ?_;have hB':=hB;simp only [Region.flowB,Bool.and_eq_true,decide_eq_true_eq] at hB';have hn:=hB'.1.1.1.1.1.1.1.1.2;have inv0:HeadInv .any l.toArray n (Array.replicate l.toArray.size false):=
   ⟨by simp,fun j oj _ hl=>(by rw [getD_replicate_false] at hl;cases hl),fun t _ ht=>getD_in (by simpa using ht) (getD_replicate_false _ _)⟩
 have h:=Zgd (W:=W) (a0:=a0) (A:=A) (D:=D) (Q:=Q) hB hob hq hfree hb ht n (List.range n) (Array.replicate l.toArray.size false) a0 { W with drawn:=W.drawn+1 } (by simp) List.nodup_range (fun i=>by rw [List.mem_range];exact ⟨fun h=>⟨h,getD_replicate_false _ _⟩,fun h=>h.1⟩)
   ⟨inv0,fun _=>⟨rfl,rfl,rfl,Nat.le_refl _,fun _ _=>rfl⟩,rfl,rfl,fun j o t _ _ _ _=>by rw [getD_replicate_false];rfl,fun t _=>by rw [getD_replicate_false];rfl,fun _ _=>rfl,fun h=>by rw [getD_replicate_false] at h;cases h⟩
 rwa [show n+(l.toArray.size-n)=l.toArray.size by omega] at h
theorem Zf2 {l:List Oper} {n b:Nat} (f:Nat) {of:Oper} {x:Operand} {k:Nat} (hall:(List.range n).all (fun i=>i==f || (i==b || Region.waitsFor .any l.toArray b i))=true) (hf:l[f]?=some of) (ho:of.op= .extract x k):
    ∀i o,i<n->i≠b->l[i]?=some o->Region.waitsFor .any l.toArray b i=false->∃x k,o.op= .extract x k:=by
 intro i o hi hne hio hw;have h1:=List.all_eq_true.1 hall i (List.mem_range.2 hi);rw [hw,Bool.or_false,Bool.or_eq_true,beq_iff_eq,beq_iff_eq] at h1
 rcases h1 with rfl|h1
 ·rw [hf] at hio;injection hio with hio
  subst hio;exact ⟨x,k,ho⟩
 ·exact absurd h1 hne
end
end Go
namespace Go.Proofs.YtijajkfmlghgkaaGreatDoor.Nu
open Go Go.Proofs Go.RowKit Go.Proofs.YtijajkfmlghgkaaGreatDoor
def Za9 (l:List Nat):Nat:=(l.reverse.dropWhile (·==0)).length
theorem Zge {l:List Nat} {k:Nat} (hk:k<=l.length) (ht:Tr (l.take k)) (hz: ∀x∈l.drop k,x=0):k=Za9 l:=by
  unfold Za9;have e:l.reverse=List.replicate (l.length-k) 0++(l.take k).reverse:=by
    conv=>lhs;rw [<-List.take_append_drop k l,List.reverse_append]
    congr 1
    rw [show l.drop k=List.replicate (l.drop k).length 0 from List.eq_replicate_of_mem hz,List.length_drop,List.reverse_replicate]
  rw [e];have e2:(List.replicate (l.length-k) 0++(l.take k).reverse).dropWhile (·==0)=(l.take k).reverse:=by
   rw [List.dropWhile_append_of_pos (by intro a ha;rw [(List.mem_replicate.1 ha).2];rfl)];cases h:(l.take k).reverse with
   | nil=>rfl
   | cons x r=>
     rw [List.dropWhile_cons_of_neg];intro hx;have hx0:x=0:=by simpa using hx
     apply ht;rw [<-List.head?_reverse,h,hx0];rfl
  rw [e2,List.length_reverse,List.length_take];omega
theorem Zo3 {α:Type} (p:α->Bool): ∀ (l:List α) (x:α),x∈l.takeWhile p->p x=true
  | [],x,h=>by cases h
  | y::l,x,h=>by
    rw [List.takeWhile_cons] at h
    split at h
    ·rcases List.mem_cons.1 h with rfl|h
     ·assumption
     ·exact Zo3 p l x h
    ·cases h
theorem Zaj (l:List Nat):Za9 l<=l.length/\Tr (l.take (Za9 l))/\∀x∈l.drop (Za9 l),x=0:=by
  obtain ⟨A,hA⟩: ∃A,(l.reverse.dropWhile (·==0))=A:=⟨_,rfl⟩;obtain ⟨B,hB⟩: ∃B,(l.reverse.takeWhile (·==0))=B:=⟨_,rfl⟩;have e:l=A.reverse++B.reverse:=by
    rw [<-hA,<-hB,<-List.reverse_append,List.takeWhile_append_dropWhile,List.reverse_reverse]
  have hN:Za9 l=A.reverse.length:=by rw [List.length_reverse,<-hA];rfl
  rw [hN];refine ⟨?_,?_,?_⟩
  ·rw [e,List.length_append];omega
  ·have ht:l.take A.reverse.length=A.reverse:=by
     conv=>lhs;rw [e]
     rw [List.take_append_of_le_length (Nat.le_refl _),List.take_of_length_le (Nat.le_refl _)]
   rw [ht];unfold Tr;rw [List.getLast?_reverse];intro h;have h3:=List.head?_dropWhile_not (fun x=>x==0) l.reverse;rw [hA,h] at h3;simp at h3
  ·have hd:l.drop A.reverse.length=B.reverse:=by
     conv=>lhs;rw [e]
     rw [List.drop_append_of_le_length (Nat.le_refl _),List.drop_of_length_le (Nat.le_refl _),List.nil_append]
   rw [hd];intro x hx;rw [List.mem_reverse,<-hB] at hx;have:=Zo3 _ _ _ hx;simpa using this
theorem Zd2 (w:World) (a:Option Addr) (n c:Nat) (l:List Nat) (h:Sc encW 1 w w.heap.size (.slice a n c) l):Calls Tryz.prog 323 #[.slice a n c] w fun e w'=>e= .returned (.slice a (Za9 l) c)/\w=w':=by
  refine (Zf9 w a n c l h).mono ?_;rintro e w' ⟨k,rfl,h1,h2,h3,rfl⟩;obtain rfl:=Zge h1 h2 h3;exact ⟨rfl,rfl⟩
theorem Zkt {L:List Nat} {n:Nat} (hd:Dg (2^64) L) (hn:0<n) (hl:n<=L.length) (h1:(2^64)^ (n-1)<=val (2^64) L) (h2:val (2^64) L<(2^64)^n):Za9 L=n:=by
  symm;have hP:0<(2^64)^n:=Nat.pow_pos (by decide);have hs:=Za3 (2^64) L n hl;have hz0:val (2^64) (L.drop n)=0:=by
    rcases Nat.eq_zero_or_pos (val (2^64) (L.drop n)) with h0|h0
    ·exact h0
    ·have:(2^64)^n* 1<=(2^64)^n* val (2^64) (L.drop n):=Nat.mul_le_mul_left _ h0;omega
  have hz:=Zh6 (hd.drop n) (by decide) hz0;refine Zge hl (Tr.of_last (fun hpos e=> ?_)) hz;rw [hz0,Nat.mul_zero,Nat.add_zero] at hs;have hlt:(L.take n).length=n:=by rw [List.length_take];omega
  have h3:=Za3 (2^64) (L.take n) (n-1) (by omega);have h4:val (2^64) ((L.take n).drop (n-1))=0:=by
    rw [Zcf _ _ _ (by omega),show n-1+1=n by omega,List.drop_of_length_le (by omega)];have e2:(L.take n)[n-1]'(by omega)=0:=by rw [<-e];congr 1;omega
    rw [e2];rfl
  have h5:=Zbg ((hd.take n).take (n-1));rw [List.length_take,hlt,Nat.min_eq_left (by omega)] at h5;rw [h4,Nat.mul_zero,Nat.add_zero] at h3;omega
def DivP (w:World) (q r:Nat) (e:Ending) (w':World):Prop:=∃a n c l a2 n2 c2 l2,e= .returned (.tuple #[.slice a n c,.slice a2 n2 c2])/\WlR w' (.slice a n c) l q/\WlR w' (.slice a2 n2 c2) l2 r/\Below w.heap.size w w'
theorem Zku (w:World) (a1 a2:Option Addr) (n1 n2 c1 c2:Nat) (l1 l2:List Nat) (m1 m2:Nat) (h1:WlR w (.slice a1 n1 c1) l1 m1) (h2:WlR w (.slice a2 n2 c2) l2 m2) (hlt:m1<m2):
    Calls Tryz.prog 267 #[.slice a1 n1 c1,.slice a2 n2 c2] w (DivP w (m1 / m2) (m1 % m2)):=by
 rw [Nat.div_eq_of_lt hlt,Nat.mod_eq_of_lt hlt];have HC:=Zh (Zd0 w a1 a2 n1 n2 c1 c2 l1 l2 m1 m2 h1 h2);rw [show icmp (m1:Int) (m2:Int)= -1 from if_pos (by omega)] at HC;have H1:=Zh h1;clear h1 h2 hlt;go_enter Tryz.func267,Tryz.ntmps267;go_wp2_with fail;refine HC.mono ?_;rintro e3 w3 ⟨rfl,hb⟩;have HB:=Zh hb;clear hb;go_wp2_with fail;refine bodyPost_ret (v:= .tuple #[.slice none 0 0,.slice a1 n1 c1]) (by simp [results,Tryz.results267,go_sem, *]) rfl ?_;exact ⟨none,0,0,[],a1,n1,c1,l1,rfl,⟨Sc.nil _ _ _ _ _ _,Dg.nil _,Tr.nil,rfl⟩,H1.later HB.out,HB.out⟩
theorem Zjx (w:World) (a1 a2:Option Addr) (n1 c1 c2:Nat) (l1:List Nat) (v0 m1:Nat) (h1:WlR w (.slice a1 n1 c1) l1 m1) (h2:WlR w (.slice a2 1 c2) [v0] v0) (hb1:l1.length<=10000000) (hge:v0<=m1):
    Calls Tryz.prog 267 #[.slice a1 n1 c1,.slice a2 1 c2] w (DivP w (m1 / v0) (m1 % v0)):=by
 have HC:=Zh (Zd0 w a1 a2 n1 1 c1 c2 l1 [v0] m1 v0 h1 h2);have hic:decide (icmp (m1:Int) (v0:Int)<0)=false:=Zf (by unfold icmp;rw [if_neg (by omega)];split <;> omega)
 obtain ⟨ic,hic2⟩: ∃x,icmp (m1:Int) (v0:Int)=x:=⟨_,rfl⟩;rw [hic2] at HC hic;have hv0:0<v0:=by
   have:=h2.tr.last (by simp);simp at this;omega
 have hv0B:=h2.dg v0 (by simp);obtain ⟨⟨a1',c1',e,hl1,hl1',hA1⟩,hd1,ht1,hv1⟩:=h1;injection e with e1 e2 e3
 subst e1 e2 e3;obtain ⟨⟨a2',c2',e,hl2,hl2',hA2⟩,hd2,ht2,hv2⟩:=h2;injection e with e1 e2 e3
 subst e1 e3;clear e2;have HAX:=Zh hA1;simp only [List.length_singleton] at hl2';obtain ⟨b2,o2,rfl,hbb2,hcells2⟩:=hA2 (by simp);have g2:=(hcells2 0 (by simp)).c1;rw [Nat.zero_mul,Nat.add_zero] at g2;have HG2:=Zh (show∀W:World,Below w.heap.size w W->W.cell? ⟨b2,o2,none⟩=some (.int .u64 (v0:Int))/\b2<W.heap.size from fun W hb=>⟨(hb.cell (p:=⟨b2,o2,none⟩) hbb2).trans g2,by have:=hb.size;omega⟩);have HDX:=Zh hd1;have HV:=Zh hv1;have HV0:=Zh (And.intro hv0 hv0B);have HP:Hid (∀e w',DivP w (m1 / v0) (m1 % v0) e w'↔∃a n c l a2 n2 c2 l2,e= .returned (.tuple #[.slice a n c,.slice a2 n2 c2])/\WlR w' (.slice a n c) l (m1 / v0)/\WlR w' (.slice a2 n2 c2) l2 (m1 % v0)/\Below w.heap.size w w'):=Zh (fun _ _=>Iff.rfl);obtain ⟨Q,hQ⟩: ∃Q,DivP w (m1 / v0) (m1 % v0)=Q:=⟨_,rfl⟩;rw [hQ] at HP ⊢;obtain ⟨X,hN⟩: ∃N,l1.length=N:=⟨_,rfl⟩;have HNX:=Zh hN;rw [hN] at hb1 hl1' ⊢ HC;have HINFO:=Zh Zea;have k1:IntKind.i64.wrap ((X:Int)-1)=(X:Int)-1:=IntWalk.i64_in _ (by omega);clear hA1 hA2 hN hQ hv1 hd1 ht1 hl1 hd2 ht2 hv2 hl2 hcells2 g2 hv0 hv0B hge hic2;go_enter Tryz.func267,Tryz.ntmps267;go_wp2_with fail;refine HC.mono ?_;rintro e3 w2 ⟨rfl,hb⟩;have HB2:=Zh hb;clear hb;go_wp2_with (at_make;refine mk1 encW 0 (.int .u64 0) rfl 131 345 8 Tryz.underlying131 HINFO.out rfl (by decide) w.heap.size w2 X (by omega) HB2.size rfl _ _ rfl .i64 .i64 rfl rfl ?_;intro w3 ho3 hg3);have HB3:=Zh (HB2.trans ((Zbk hg3).mono HB2.size));have HO3:=Zh ho3;have HWS:=Zh HB2.size;clear ho3 hg3;generalize w2.heap.size=g at *;have HDI0:=Zh (show DivI (2^64) l1 (List.replicate X 0) v0 0 X by
   have h:=DivI.start (B:=2^64) (a:=l1) (q:=List.replicate X 0) HV0.out.1 (by rw [List.length_replicate,HNX.out])
   rwa [HNX.out] at h)
 go_loopw [8,7] (fun i rs wr=> ∃ (k r:Nat) (q:List Nat),k<=X/\i= .int .i64 ((k:Int)-1)/\rs= .int .u64 (r:Int)/\DivI (2^64) l1 q v0 r k/\Below w.heap.size w wr/\Own encW 1 345 wr w.heap.size (.slice (some ⟨g,0,none⟩) X X) q) (fun i _ _=>(intOf i+1).toNat)
 case atStart=>exact ⟨X,0,_,Nat.le_refl _,rfl,rfl,HDI0.out,HB3.out,HO3.out⟩
 case round=>
   clear HDI0 HB3 HO3 k1;obtain ⟨k,r,q,hk,rfl,rfl,hdi,hbe,hown⟩:=hrel;have HDI:=Zh hdi;have HB:=Zh hbe;have HO:=Zh hown;have HLL:=Zh (show q.length=X by rw [hdi.len,HNX.out]);clear hdi hown hbe
   by_cases h0:k=0
   ·subst h0;have HDN:=Zh HDI.done;have hrest:=HDI.rest;have HSC:=Zh (Sc.of_own Zae (by rw [HLL.out];omega) HO.out);have HT1:=Zh (Zd2 _ _ _ _ _ HSC.out);have HSP:=Zh (Zaj q);have HOL:=Zh (Own.lit (f:=encW) (sz:=1) (l:=[r]) Zae 345 wr #[.int .u64 (r:Int)] 1 wr.heap.size rfl rfl (by simp) (Nat.le_refl _));have HSC2:=Zh (Sc.of_own Zae (by simp) HOL.out);have HT2:=Zh (Zd2 _ _ _ _ _ HSC2.out);have HSP2:=Zh (Zaj [r]);have HBA:=Zh ((Below.refl _ _).alloc (Nat.le_refl _) (.cells #[.int .u64 (r:Int)] 345):Below wr.heap.size wr (wr.alloc (.cells #[.int .u64 (r:Int)] 345)));have HB9:=Zh (HB.trans (HBA.mono HB.size));have HW1:=Zh (show WlR (wr.alloc (.cells #[.int .u64 (r:Int)] 345)) (.slice (some ⟨g,0,none⟩) (Za9 q) X) (q.take (Za9 q)) (m1 / v0) from
      ⟨(HSC.take _ HSP.out.1).later HBA.out,by have:=HDI.dg;rw [Z7] at this;exact this.take _,HSP.out.2.1,by rw [Zar HSP.out.1 HSP.out.2.2,HDN.out.1,HV.out]⟩)
    have HW2:=Zh (show WlR (wr.alloc (.cells #[.int .u64 (r:Int)] 345)) (.slice (some ⟨wr.heap.size,0,none⟩) (Za9 [r]) 1) ([r].take (Za9 [r])) (m1 % v0) from
      ⟨HSC2.take _ HSP2.out.1,(Dg.one (by have:=HV0.out.2;omega)).take _,HSP2.out.2.1,by rw [Zar HSP2.out.1 HSP2.out.2.2,Zbr,HDN.out.2,HV.out]⟩)
    clear hrest;go_wp2_with fail;refine HT1.mono ?_;rintro e5 w5 ⟨rfl,rfl⟩;go_wp2_with fail;refine HT2.mono ?_;rintro e6 w6 ⟨rfl,rfl⟩;go_wp2_with fail;exact (HP.out _ _).2 ⟨_,_,_,_,_,_,_,_,rfl,HW1.out,HW2.out,HB9.out⟩
   ·obtain ⟨j,rfl⟩: ∃j,k=j+1:=⟨k-1,by omega⟩;have hjx:j<l1.length:=by rw [HNX.out];omega
    have hjX:j<X:=by omega
    obtain ⟨b1,o1,rfl,hbb1,hcells1⟩:=HAX.out (by omega);have HAC:=Zh (show∀W:World,Below w.heap.size w W->W.cell? ⟨b1,o1+j,none⟩=some (.int .u64 (l1[j]:Int))/\b1<W.heap.size from fun W hb=>⟨by
      have h:=((hcells1 j hjx).below hb hbb1).c1
      rwa [Nat.mul_one] at h,by have:=hb.size;omega⟩)
    have HST:=Zh (fun s hs=>HDI.step (by decide) (by have:=HV0.out.2;omega) HDX.out hjx (s:=s) hs);have hxB:=HDX.get j hjx;have hrest:=HDI.rest;have k1:IntKind.i64.wrap ((j:Int)-1)=(j:Int)-1:=IntWalk.i64_in _ (by omega);have k5:(((j+1:Nat):Int)-1)=(j:Int):=by omega
    rw [k5];have k2:decide ((0:Int)<=(j:Int))=true:=Zt (by omega);clear hcells1;generalize l1[j]=x at *;have HD:=Zh (fun W:World=>Zo2 W r x v0 hrest hxB HV0.out.2);obtain ⟨t,ht⟩: ∃t,(r* 18446744073709551616+x) / v0=t:=⟨_,rfl⟩;obtain ⟨r2,hr2⟩: ∃t,(r* 18446744073709551616+x) % v0=t:=⟨_,rfl⟩;have HNEW:=Zh (HST.out (r* 18446744073709551616+x) rfl);rw [ht,hr2] at HD HNEW;obtain ⟨x1,x2⟩:=HAC.out _ HB.out;obtain ⟨y1,y2⟩:=HG2.out _ HB.out;have hgz:g<wr.heap.size:=Zaz HO.out;clear hxB hrest ht hr2;go_wp2_with fail;refine Zdq 16 15 _ (fun W'=> ∃W1,Below wr.heap.size wr W1/\W'=W1.setCell ⟨g,j,none⟩ (.int .u64 (t:Int))) (by kernel_rfl) (by kernel_rfl) rfl (Zf2 13 (by kernel_rfl) rfl rfl) ?_;apply Exists.intro;refine ⟨fun Y=> ?_,fun W1 hW1=> ?_,?_⟩
    ·simp only [Zat,Z2,Z3,Z6,Z7,Nat.reduceSub,List.cons_append,List.nil_append]
     repeat go_big_quiet_step ((go_at_call 322;exact Calls.later2 (HD.out _)))
     exact wpQuiet_nil rfl
    ·refine ⟨W1.setCell ⟨g,j,none⟩ (.int .u64 (t:Int)),?_,W1,hW1,rfl⟩;have HO1:=HO.later hW1;have zf:=Own.frozenN HO1 HLL.out j;have zc:=Zam HO1 HLL.out Zae j (by rw [HLL.out];exact hjX) _ rfl;have zg:g<W1.heap.size:=Zaz HO1;clear x1 x2 y1 y2 hgz
     go_simp
     first|done|rfl
    rintro W2 ⟨W1,hW1,rfl⟩;simp only [Act.put,Z1,Z4,Z5,Z3,Z7];have HO1:=Zh (Zaq (HO.later hW1) HLL.out Zae j hjX t (.int .u64 (t:Int)) rfl);have HB1:=Zh ((HB.Zg hW1).setCell (p:=⟨g,j,none⟩) HWS.out (.int .u64 (t:Int)));clear hW1 x1 x2 y1 y2 hgz;go_wp2_with fail;go_roundw
    case rel=>exact ⟨j,r2,q.set j t,by omega,rfl,rfl,HNEW.out,HB1.out,HO1.out⟩
    case measure=>simp [intOf];try omega
theorem Znb {l:List Nat} {s y:Nat} (hd:Dg (2^64) l) (hn:0<l.length) (hy:l[l.length-1]=y) (h0:0<y) (h2:y* 2^s<2^64) (hs:s<=63):
    (2^64)^ (l.length-1)<=2^s* val (2^64) l/\2^s* val (2^64) l<(2^64)^l.length:=by
 have e:=Za3 (2^64) l (l.length-1) (by omega);rw [Zcf _ _ _ (by omega),show l.length-1+1=l.length by omega,List.drop_length,hy] at e;have e0:val (2^64) ([]:List Nat)=0:=rfl;rw [e0,Nat.mul_zero,Nat.add_zero] at e;have e1:=Zbg (hd.take (l.length-1));rw [List.length_take,Nat.min_eq_left (by omega)] at e1;have e2:(2^64)^l.length=(2^64)^ (l.length-1) * 2^64:=by rw [<-Nat.pow_succ,show (l.length-1).succ=l.length by omega]
 have e3:2^s* 2^ (64-s)=2^64:=by rw [<-Nat.pow_add,show s+(64-s)=64 by omega]
 have hSp:0<2^s:=Nat.pow_pos (by decide);generalize 2^s=S at *;generalize 2^ (64-s)=K at *;have hyK:y+1<=K:=by
   refine Nat.lt_of_mul_lt_mul_right (a:=S) ?_;rw [Nat.mul_comm K,e3];exact h2
 rw [e2,e];generalize (2^64)^ (l.length-1)=P at *;generalize val (2^64) (List.take (l.length-1) l)=r at *
 constructor
 ·have h1:P* 1<=P* y:=Nat.mul_le_mul_left _ h0;have h3:1* (r+P* y)<=S* (r+P* y):=Nat.mul_le_mul_right _ hSp;omega
 ·have h1:P* (y+1)<=P* K:=Nat.mul_le_mul_left _ hyK;rw [Nat.mul_add] at h1;have h3:S* (r+P* y)<S* (P* K):=Nat.mul_lt_mul_of_pos_left (by omega) hSp;rw [Nat.mul_left_comm S P K,e3] at h3;exact h3
theorem Zjy {l1 l2 U q:List Nat} {S e:Nat} (hS:0<S) (hd1:Dg (2^64) l1) (t2:Tr l2) (hn:0<l2.length) (he:l1.length=l2.length+e) (hU:U.length=l1.length+1) (hdU:Dg (2^64) U) (hvU:val (2^64) U=S* val (2^64) l1) (hq:q.length=e+1):
    LdI (2^64) (S* val (2^64) l1) (S* val (2^64) l2) U q l2.length (e+1):=by
 rw [<-hq];refine LdI.start (by omega) hdU hvU ?_;have h1:=Zbg hd1;have h2:=t2.le (B:=2^64) hn;have h3:(2^64)^l1.length=(2^64)^ (l2.length-1) * (2^64)^q.length:=by rw [<-Nat.pow_add,show l2.length-1+q.length=l1.length by omega]
 have h4:(2^64)^ (l2.length-1) * (2^64)^q.length<=val (2^64) l2* (2^64)^q.length:=Nat.mul_le_mul_right _ h2;rw [Nat.mul_assoc];exact Nat.mul_lt_mul_of_pos_left (by omega) hS
theorem Zkv {m1 m2 S n:Nat} {V U q d:List Nat} (hS:0<S) (hm2:0<m2) (hV:val (2^64) V=S* m2) (hVlt:S* m2<(2^64)^n) (h:LdI (2^64) (S* m1) (val (2^64) V) U q V.length 0) (hn:n<=U.length) (hu:UsI (2^64) S U d n):
    val (2^64) q=m1 / m2/\Dg (2^64) q/\d.length=n/\Dg (2^64) d/\val (2^64) d=m1 % m2:=by
 have hp:0<S* m2:=Nat.mul_pos hS hm2;obtain ⟨h1,h2,h3⟩:=h.done (by rw [hV];exact hp);rw [hV] at h1 h2;rw [Nat.mul_div_mul_left _ _ hS] at h1;rw [Nat.mul_mod_mul_left] at h2;refine ⟨h1,h3,hu.len,hu.dg,?_⟩;have e:=hu.eq;have hlt:m1 % m2<m2:=Nat.mod_lt _ hm2;have hz:val (2^64) (U.drop n)=0:=by
   have hs:=Za3 (2^64) U n hn
   rcases Nat.eq_zero_or_pos (val (2^64) (U.drop n)) with h0|h0
   ·exact h0
   ·have h5:(2^64)^n* 1<=(2^64)^n* val (2^64) (U.drop n):=Nat.mul_le_mul_left _ h0;have h6:S* (m1 % m2)<=S* m2:=Nat.mul_le_mul_left _ (by omega);omega
 rw [hz,h2,Nat.zero_div,Nat.mul_zero,Nat.add_zero,Nat.mul_div_cancel_left _ hS] at e;exact e
theorem Zhf (d U:List Nat) (k:Nat) (hd:d.length=k) (i:Nat) (hi:k+i<U.length): ∃h:k+i<(d++U.drop k).length,(d++U.drop k)[k+i]=U[k+i]:=by
  subst hd;refine ⟨by simp;omega,?_⟩;rw [List.getElem_append_right (by omega)];simp
theorem Zkw (d U:List Nat) (k z:Nat) (hd:d.length=k) (hk:k<U.length):(d++U.drop k).set k z=(d++ [z])++U.drop (k+1):=by
  subst hd;rw [List.drop_eq_getElem_cons hk,List.set_append_right _ _ (Nat.le_refl _),Nat.sub_self,Z5,List.append_assoc];rfl
theorem Zhg (d U:List Nat) (k:Nat) (hd:d.length=k) (hk:k<=U.length):(d++U.drop k).length=U.length:=by simp;omega
end Go.Proofs.YtijajkfmlghgkaaGreatDoor.Nu
