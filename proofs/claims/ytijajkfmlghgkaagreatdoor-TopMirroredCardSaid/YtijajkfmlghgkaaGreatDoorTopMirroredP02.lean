/- Lemmas on the way to the law TopMirrored: Ea Rc Eb Re Rf Rg Rk Ec Ed Ee -/
import Derived.Test.YtijajkfmlghgkaaGreatDoorTopMirroredP01
import Derived.IntWalk
import Derived.RegionTactic
import Derived.BigRegion
set_option linter.unusedVariables false
set_option linter.unusedSimpArgs false
set_option maxRecDepth 100000
set_option maxHeartbeats 4000000
namespace Go.Proofs.YtijajkfmlghgkaaGreatDoor.Nu
open Go Go.Proofs Go.RowKit Go.Proofs.YtijajkfmlghgkaaGreatDoor
def encW (n:Nat):List Value:=[.int .u64 (n:Int)]
theorem Zae (n:Nat):(encW n).length=1:=rfl
def encD (n:Nat):List Value:=[.int .i64 (n:Int)]
theorem Zao (n:Nat):(encD n).length=1:=rfl
theorem Zde (x:Nat): ∀u∈encD x,u.oneCell'=true:=by intro u hu;simp [encD] at hu;subst hu;rfl
def encS (s:ByteArray):List Value:=[.string s]
theorem Zcg (s:ByteArray):(encS s).length=1:=rfl
theorem Zf8 (x:ByteArray): ∀u∈encS x,u.oneCell'=true:=by intro u hu;simp [encS] at hu;subst hu;rfl
def Sc {α:Type} (f:α->List Value) (sz:Nat) (w:World) (B:Nat) (v:Value) (l:List α):Prop:=
  ∃a c,v= .slice a l.length c/\l.length<=1000000000/\l.length<=c/\(0<l.length->∃b off,a=some ⟨b,off,none⟩/\b<B/\
   ∀i (h:i<l.length),At w b (off+i* sz) (f l[i]))
section
variable {α:Type} {f:α->List Value} {sz:Nat} {w w':World} {B B':Nat} {v:Value} {l:List α}
theorem Sc.below (h:Sc f sz w B v l) (hb:Below B w w'):Sc f sz w' B v l:=by
  obtain ⟨a,c,rfl,h1,h2,h⟩:=h;refine ⟨a,c,rfl,h1,h2,fun h0=> ?_⟩;obtain ⟨b,off,rfl,hB,hc⟩:=h h0;exact ⟨b,off,rfl,hB,fun i hi=>(hc i hi).below hb hB⟩
theorem Sc.mono (h:Sc f sz w B v l) (hB':B<=B'):Sc f sz w B' v l:=by
  obtain ⟨a,c,rfl,h1,h2,h⟩:=h;refine ⟨a,c,rfl,h1,h2,fun h0=> ?_⟩;obtain ⟨b,off,rfl,hB,hc⟩:=h h0;exact ⟨b,off,rfl,by omega,hc⟩
theorem Sc.later (h:Sc f sz w w.heap.size v l) (hb:Below w.heap.size w w'):Sc f sz w' w'.heap.size v l:=(h.below hb).mono hb.size
theorem Sc.nil (f:α->List Value) (sz:Nat) (w:World) (B c:Nat) (a:Option Addr):Sc f sz w B (.slice a 0 c) []:=⟨a,c,rfl,by simp,Nat.zero_le _,fun h=>absurd h (by simp)⟩
theorem Sc.of_own {base:Nat} {e:TypeId} (hf: ∀x,(f x).length=sz) (hlen:l.length<=1000000000) (h:Own f sz e w base v l):Sc f sz w w.heap.size v l:=by
  rcases h.2 with ⟨rfl,h0⟩|⟨g,cap,cur,rfl,_,hg,hcap,_⟩
  ·obtain rfl:l=[]:=List.eq_nil_of_length_eq_zero h0;exact Sc.nil f sz w _ 0 none
  ·refine ⟨_,cap,rfl,hlen,hcap,fun _=>⟨g,0,rfl,(Array.getElem?_eq_some_iff.1 hg).1,fun i hi j u hu=> ?_⟩⟩;have hj:j<sz:=by have:=(List.getElem?_eq_some_iff.1 hu).1;rwa [hf] at this
   rw [show 0+i* sz+j=i* sz+j by omega,World.ownsRow.cellAt h (i* sz+j) (by have:(i+1) * sz<=l.length* sz:=Nat.mul_le_mul_right _ hi;rw [Nat.succ_mul] at this;omega),Zce f sz hf l i hi j hj];exact hu
theorem Sc.take {a:Option Addr} {n c:Nat} (h:Sc f sz w B (.slice a n c) l) (k:Nat) (hk:k<=l.length):Sc f sz w B (.slice a k c) (l.take k):=by
  obtain ⟨a',c',e,h1,h2,hA⟩:=h;injection e with e1 e2 e3
  subst e1 e3;have hl:(l.take k).length=k:=by simp;omega
  refine ⟨a,c,by rw [hl],by rw [hl];omega,by rw [hl];omega,fun h0=> ?_⟩;obtain ⟨b,off,e,hb,hc⟩:=hA (by omega);refine ⟨b,off,e,hb,fun i hi=> ?_⟩;rw [List.getElem_take];exact hc i (by rw [hl] at hi;omega)
theorem Sc.drop {b off n c:Nat} (h:Sc f sz w B (.slice (some ⟨b,off,none⟩) n c) l) (k:Nat) (hk:k<=l.length) (h0:0<l.length):Sc f sz w B (.slice (some ⟨b,off+k* sz,none⟩) (n-k) (c-k)) (l.drop k):=by
  obtain ⟨a',c',e,h1,h2,hA⟩:=h;injection e with e1 e2 e3
  subst e1 e2 e3;obtain ⟨b',off',e,hb,hc⟩:=hA h0;cases e;refine ⟨_,_,by rw [List.length_drop],by rw [List.length_drop];omega,by rw [List.length_drop];omega,fun _=>⟨b,off+k* sz,rfl,hb,fun i hi=> ?_⟩⟩;rw [List.length_drop] at hi;rw [List.getElem_drop,show off+k* sz+i* sz=off+(k+i) * sz by rw [Nat.add_mul];omega];exact hc (k+i) (by omega)
theorem Sc.shape (h:Sc f sz w B v l): ∃a c,v= .slice a l.length c/\l.length<=1000000000/\l.length<=c:=by
  obtain ⟨a,c,h1,h2,h3,_⟩:=h;exact ⟨a,c,h1,h2,h3⟩
theorem Sc.at {b off n c:Nat} (h:Sc f sz w B (.slice (some ⟨b,off,none⟩) n c) l) (i:Nat) (hi:i<l.length):At w b (off+i* sz) (f l[i]):=by
  obtain ⟨a',c',e,h1,h2,hA⟩:=h;injection e with e1 e2 e3
  subst e1;obtain ⟨b',off',e,hb,hc⟩:=hA (by omega);cases e;exact hc i hi
theorem Sc.blk {b off n c:Nat} (h:Sc f sz w B (.slice (some ⟨b,off,none⟩) n c) l) (h0:0<l.length):b<B:=by
  obtain ⟨a',c',e,h1,h2,hA⟩:=h;injection e with e1 e2 e3
  subst e1;obtain ⟨b',off',e,hb,hc⟩:=hA h0;cases e;exact hb
theorem Own.atN {e:TypeId} {base g n cap:Nat} (h:Own f sz e w base (.slice (some ⟨g,0,none⟩) n cap) l) (hn:l.length=n) (hf: ∀x,(f x).length=sz) (i:Nat) (hi:i<l.length):At w g (i* sz) (f l[i]):=by subst hn;exact h.at hf i hi
theorem Own.frozenN {e:TypeId} {base g n cap:Nat} (h:Own f sz e w base (.slice (some ⟨g,0,none⟩) n cap) l) (hn:l.length=n) (o:Nat):w.frozen? ⟨g,o,none⟩=false:=by subst hn;exact h.frozen o
theorem Own.setN {e:TypeId} {base g n cap:Nat} (h:Own f sz e w base (.slice (some ⟨g,0,none⟩) n cap) l) (hn:l.length=n) (hf: ∀x,(f x).length=sz) (i:Nat) (hi:i<l.length) (j:Nat) (hj:j<sz) (u:Value) (y:α) (hy:f y=(f l[i]).set j u):
    Own f sz e (w.setCell ⟨g,i* sz+j,none⟩ u) base (.slice (some ⟨g,0,none⟩) n cap) (l.set i y):=by subst hn;exact h.set hf i hi j hj u y hy
end
theorem mk1 {α:Type} (f:α->List Value) (x0:α) (z:Value) (hz:f x0=[z]) (t e:TypeId) (bytes:Nat) {P:Program} (hT:P.underlying t=some (.slice e)) (hI:(P.info? e).map (fun i=>(i.zero,i.size,i.bytes))=some (some z,1,bytes)) (hzc:z.cells= #[z])
    (hby:bytes<=1000) (base:Nat) (w:World) (n:Nat) (hn:n<=1000000000) (hb:base<=w.heap.size)
    {ops:Array Oper} {rest:List Oper} {o:Oper} {a:Act} {Q:Exit->Act->World->Prop} (hg:o.guard=none) (l c:Operand) (hop:o.op=Op.makeSlice t l c) (kl kc:IntKind) (hl:a.eval l= .int kl n) (hc:a.eval c= .int kc n)
    (h: ∀w',Own f 1 e w' base (.slice (some ⟨w.heap.size,0,none⟩) n n) (List.replicate n x0)->w.grownBy w' none->wpList P ops Q rest (a.put o.dst (.slice (some ⟨w.heap.size,0,none⟩) n n)) w'):wpList P ops Q (o::rest) a w:=by
 obtain ⟨i,hi,h0,h1,h2⟩:=info_parts hI;have hmul:bytes* n<=1000* 1000000000:=Nat.mul_le_mul hby hn;refine wpList_make_full w hg l c t hop base e i z 1 hT hi h0 h1 kl kc _ _ n hl hc rfl rfl (by rw [h2];omega) (by unfold maxLen;omega) hb ?_;intro w' how hgr;refine h w' ?_ hgr;unfold Own;rw [hzc,Nat.mul_one,toList_madeCells_one] at how;have:(List.replicate n x0).flatMap f=List.replicate n z:=by
   clear how hmul h hl hc hn
   induction n with
   | zero=>rfl
   | succ n ih=>rw [List.replicate_succ,List.flatMap_cons,ih,hz,List.replicate_succ];rfl
 rw [this,List.length_replicate];exact how
theorem Zbk {w w':World} (h:w.grownBy w' none):Below w.heap.size w w':=(Below.refl _ _).grown h (Nat.le_refl _) (fun k hk=>by cases hk)
def IntR (w:World) (v:Value) (z:Int):Prop:=
  (v= .agg #[.int .i64 z,.slice none 0 0]/\ -9223372036854775808<=z/\z<=9223372036854775807)∨
  (∃ (s:Int) (b off n c:Nat) (l:List Nat),v= .agg #[.int .i64 s,.slice (some ⟨b,off,none⟩) n c]/\Sc encW 1 w w.heap.size (.slice (some ⟨b,off,none⟩) n c) l/\n=l.length/\0<n/\Dg (2^64) l/\Tr l/\9223372036854775807<val (2^64) l/\
   ((s=1/\z=(val (2^64) l:Int))∨(s= -1/\z= -(val (2^64) l:Int))))
theorem IntR.later {w w':World} {v:Value} {z:Int} (h:IntR w v z) (hb:Below w.heap.size w w'):IntR w' v z:=by
  rcases h with h|⟨s,b,off,n,c,l,h1,h2,h3⟩
  ·exact .inl h
  ·exact .inr ⟨s,b,off,n,c,l,h1,h2.later hb,h3⟩
theorem IntR.small (w:World) {z:Int} (h1: -9223372036854775808<=z) (h2:z<=9223372036854775807):IntR w (.agg #[.int .i64 z,.slice none 0 0]) z:= .inl ⟨rfl,h1,h2⟩
structure Wds (k:Nat) (z:Int):Prop where
  lt:z.natAbs<2^ (64* k)
theorem Wds.mono {k m:Nat} {z:Int} (h:Wds k z) (hkm:k<=m):Wds m z:=⟨Nat.lt_of_lt_of_le h.lt (Nat.pow_le_pow_right (by decide) (by omega))⟩
theorem Wds.neg {k:Nat} {z:Int} (h:Wds k z):Wds k (-z):=⟨by rw [Int.natAbs_neg];exact h.lt⟩
theorem Wds.abs {k:Nat} {z:Int} (h:Wds k z):Wds k (z.natAbs:Int):=⟨by rw [Int.natAbs_natCast];exact h.lt⟩
theorem Wds.small {z:Int} (h1: -9223372036854775808<=z) (h2:z<=9223372036854775807):Wds 1 z:=⟨by omega⟩
theorem Wds.mul {i j:Nat} {a b:Int} (ha:Wds i a) (hb:Wds j b):Wds (i+j) (a* b):=by
  refine ⟨?_⟩;rw [Int.natAbs_mul,Nat.mul_add,Nat.pow_add];exact Nat.mul_lt_mul'' ha.lt hb.lt
theorem Wds.add {i j k:Nat} {a b:Int} (ha:Wds i a) (hb:Wds j b) (h1:i<k) (h2:j<k):Wds k (a+b):=by
  obtain ⟨m,rfl⟩: ∃m,k=m+1:=⟨k-1,by omega⟩;have h1:=(ha.mono (show i<=m by omega)).lt;have h2:=(hb.mono (show j<=m by omega)).lt;refine ⟨?_⟩;have e:2^ (64* (m+1))=2^ (64* m) * 2^64:=by rw [<-Nat.pow_add,Nat.mul_add]
  have:(a+b).natAbs<=a.natAbs+b.natAbs:=Int.natAbs_add_le a b;have:2^ (64* m) * 2<=2^ (64* m) * 2^64:=Nat.mul_le_mul_left _ (by decide);omega
theorem Wds.le {k:Nat} {a b:Int} (h:Wds k b) (hab:a.natAbs<=b.natAbs):Wds k a:=⟨Nat.lt_of_le_of_lt hab h.lt⟩
theorem Wds.len {k:Nat} {l:List Nat} (h:Wds k (val (2^64) l:Int)) (ht:Tr l):l.length<=k:=by
  refine Ze7 (B:=2^64) (by decide) ht (n:=k) ?_;have h1:=h.lt;rw [Int.natAbs_natCast] at h1;rw [<-Nat.pow_mul];exact h1
end Go.Proofs.YtijajkfmlghgkaaGreatDoor.Nu
namespace Go
open Go.RowKit
section
structure CallFlow (ops:Array Oper) (n b:Nat) (ob:Oper) (W:World) (a0 A:Act) (D:Value->World->Prop) (listed:Array Bool) (a:Act) (w:World) (v:Value):Prop where
  inv:HeadInv .any ops n listed
  size:a.tmps.size=a0.tmps.size
  defers:a.defers=a0.defers
  slot: ∀j o t,j<n->ops[j]?=some o->o.dst=some t->j≠b->a.tmps[t]?=if listed.getD j false=true then A.tmps[t]? else a0.tmps[t]?
  slotb: ∀t,ob.dst=some t->a.tmps[t]?=if listed.getD b false=true then a0.tmps[t]?.map (fun _=>v) else a0.tmps[t]?
  other: ∀t,(∀j o,j<n->ops[j]?=some o->o.dst≠some t)->a.tmps[t]?=a0.tmps[t]?
  wld:(listed.getD b false=true->D v w)/\(listed.getD b false=false->w=W)
variable {P:Program} {l:List Oper} {n b:Nat} {ob:Oper} {W:World} {a0 A:Act} {D:Value->World->Prop} {fn:FuncId} {args:Array Value} {Q:Exit->Act->World->Prop}
structure Keep (W:World) (S:Nat->Nat->Prop) where
  w:World
  cells: ∀b o,S b o->w.cell? ⟨b,o,none⟩=W.cell? ⟨b,o,none⟩
structure Keep1 {W:World} {S:Nat->Nat->Prop} (X:Keep W S) where
  w:World
  h:w=X.w
instance {W:World} {S:Nat->Nat->Prop} (X:Keep W S):Nonempty (Keep1 X):=⟨⟨X.w,rfl⟩⟩
theorem Keep1.cell {W:World} {S:Nat->Nat->Prop} {X:Keep W S} (Y:Keep1 X) (b o:Nat) (h:S b o):Y.w.cell? ⟨b,o,none⟩=W.cell? ⟨b,o,none⟩:=by rw [Y.h];exact X.cells b o h
attribute [go_sem] Keep1.cell
theorem Zh2 {W:World} {S:Nat->Nat->Prop} (X:Keep W S):(fun w'=> ∃Y:Keep1 X,w'=Y.w)=(fun w'=>w'=X.w):=funext fun w'=>propext ⟨fun ⟨Y,h⟩=>h.trans Y.h,fun h=>⟨⟨X.w,rfl⟩,h⟩⟩
end
end Go
namespace Go.Proofs.YtijajkfmlghgkaaGreatDoor.Nu
open Go Go.Proofs Go.RowKit Go.Proofs.YtijajkfmlghgkaaGreatDoor
theorem Zh3 (n:Int) (h1: -9223372036854775808<=n) (h2:n<=9223372036854775807) (w:World):Calls Tryz.prog 298 #[.int .i64 n] w fun e w'=>e= .returned (.int .u64 (n.natAbs:Int))/\w=w':=by
  by_cases h0:n<0
  ·have d0:decide (n<0)=true:=Zt h0;have hv:IntKind.u64.wrap (IntKind.i64.wrap (-n))=(n.natAbs:Int):=by
     rcases (show n= -9223372036854775808∨ -9223372036854775808<n by omega) with rfl|h3
     ·rfl
     ·rw [IntWalk.i64_in _ (by omega),IntWalk.u64_in _ (by omega)];omega
   generalize (n.natAbs:Int)=N at *;obtain ⟨m,hm⟩: ∃m,IntKind.i64.wrap (-n)=m:=⟨_,rfl⟩;rw [hm] at hv;clear h0 h1 h2;go_enter Tryz.func298,Tryz.ntmps298;go_wp2_with fail;go_ret;exact ⟨rfl,rfl⟩
  ·have d0:decide (n<0)=false:=Zf h0;have hv:IntKind.u64.wrap n=(n.natAbs:Int):=by rw [IntWalk.u64_in _ (by omega)];omega
   generalize (n.natAbs:Int)=N at *;clear h0 h1 h2;go_enter Tryz.func298,Tryz.ntmps298;go_wp2_with fail;go_ret;exact ⟨rfl,rfl⟩
theorem of94 (n:Int) (w:World):Calls Tryz.prog 235 #[.int .i64 n] w (Ret (.agg #[.int .i64 n,.slice none 0 0]) w):=by
  have HB:=Zh ((Below.refl w.heap.size w).alloc (Nat.le_refl _) (.cells #[.int .i64 n,.slice none 0 0] 133));go_enter Tryz.func235,Tryz.ntmps235;go_wp2_with fail;refine bodyPost_ret (v:= .agg #[.int .i64 n,.slice none 0 0]) (by simp [results,Tryz.results235,go_sem, *]) rfl ?_;exact ⟨rfl,HB.out⟩
end Go.Proofs.YtijajkfmlghgkaaGreatDoor.Nu
namespace Go
open Go.RowKit
section
structure GrowFlow (ops:Array Oper) (n b:Nat) (ob:Oper) (W:World) (a0 A:Act) (D:Value->World->Prop) (listed:Array Bool) (a:Act) (w:World) (v:Value):Prop where
  inv:HeadInv .any ops n listed
  later:Below W.heap.size W w
  size:a.tmps.size=a0.tmps.size
  defers:a.defers=a0.defers
  slot: ∀j o t,j<n->ops[j]?=some o->o.dst=some t->j≠b->a.tmps[t]?=if listed.getD j false=true then A.tmps[t]? else a0.tmps[t]?
  slotb: ∀t,ob.dst=some t->a.tmps[t]?=if listed.getD b false=true then a0.tmps[t]?.map (fun _=>v) else a0.tmps[t]?
  other: ∀t,(∀j o,j<n->ops[j]?=some o->o.dst≠some t)->a.tmps[t]?=a0.tmps[t]?
  box:listed.getD b false=true->D v w
variable {P:Program} {l:List Oper} {n b:Nat} {ob:Oper} {W:World} {a0 A:Act} {D:Value->World->Prop} {Q:Exit->Act->World->Prop}
theorem Zg7 (hB:Region.flowB l.toArray n b=true) (hob:l[b]?=some ob)
    (hq: ∀Y:Later W,wpQuiet P l.toArray (fun w'=> ∃X:Later2 Y,w'=X.w) (fun a'=>a'=A) (Zat l n b) a0)
    (hb: ∀w,Below W.heap.size W w->∃fn args,(execOp A.eval ob).run P w= .ok (.enter fn args) w/\Calls P fn args w fun e w'=> ∃v,e= .returned v/\D v w'/\Below w.heap.size w w')
    (hBp: ∀v w w',D v w->Below w.heap.size w w'->D v w')
    (ht: ∀v w,Below W.heap.size W w->D v w->wpList P l.toArray Q (l.drop n) (A.put ob.dst v) w):
    ∀ (f:Nat) (U:List Nat) (listed:Array Bool) (a:Act) (w:World) (vb:Value),U.length=f->U.Nodup->(∀i,i∈U↔i<n/\listed.getD i false=false)->
      GrowFlow l.toArray n b ob W a0 A D listed a w vb->wpAny P .any l.toArray Q (f+(l.toArray.size-n)) listed a w:=by
 simp only [Region.flowB,Bool.and_eq_true,decide_eq_true_eq,List.all_eq_true,List.mem_range] at hB;obtain ⟨⟨⟨⟨⟨⟨⟨⟨⟨hsel,hn⟩,hbn⟩,hsink⟩,hchain⟩,hseq⟩,hedge⟩,hpair⟩,hguard⟩,hblind⟩:=hB;have hn':n<=l.length:=by have h:=hn;rw [List.size_toArray] at h;omega
 have hsz:l.toArray.size=l.length:=by simp
 have hget: ∀i:Nat,l.toArray[i]?=l[i]?:=fun i=>by simp
 have hselect:=Region.noSelect_spec hsel;have hpw:(Zat l n b).Pairwise (fun o o'=> ∀t,o.dst=some t->o'.dst≠some t):=by
   rw [List.pairwise_iff_getElem];intro i j hi hj hij t ht;obtain ⟨i',h1,h2,h3,h4⟩:=Zas hbn hn' (List.getElem?_eq_getElem hi);obtain ⟨j',k1,k2,k3,k4⟩:=Zas hbn hn' (List.getElem?_eq_getElem hj);exact Region.flowPair_dst (hpair i' h1 j' k1) (by rw [hget];exact h3) (by rw [hget];exact k3) (fun e=>by subst e;omega) ht
 have hA:=Zbj _ _ (hq ⟨W,Below.refl _ _⟩) hpw;have hAo: ∀t,(∀j o,j<n->l.toArray[j]?=some o->j≠b->o.dst≠some t)->A.tmps[t]?=a0.tmps[t]?:=fun t h=>hA.1 t fun o ho=>by
   obtain ⟨q,hq'⟩:=List.mem_iff_getElem?.1 ho;obtain ⟨j,h1,h2,h3,_⟩:=Zas hbn hn' hq';exact h j o h1 (by rw [hget];exact h3) h2
 have hAs:=hA.2.1;have hAd:=hA.2.2.1;have hobA:l.toArray[b]?=some ob:=by rw [hget];exact hob
 intro f
 induction f with
 | zero=>
   intro U listed a w vb hU _ hUm hF;obtain rfl:U=[]:=List.eq_nil_of_length_eq_zero hU;have hall: ∀i,i<n->listed.getD i false=true:=fun i hi=>by
     cases h:listed.getD i false with
     | true=>rfl
     | false=>have:=(hUm i).2 ⟨hi,h⟩;simp at this
   have hl:listed=Region.marked l.toArray.size n:=by
     apply Array.ext_getElem?;intro i
     by_cases hi:i<l.toArray.size
     ·have hil:i<listed.size:=by rw [hF.inv.size];exact hi
      have e2:(Region.marked l.toArray.size n)[i]?=some (decide (i<n)):=by
        rw [List.size_toArray] at hi;unfold Region.marked;simp [hi]
      rw [e2,Array.getElem?_eq_getElem hil]
      by_cases hin:i<n
      ·have:=hall i hin;simp [hil] at this;simp [this,hin]
      ·have:=hF.inv.tail i (by omega) hi;simp [hil] at this;simp [this,hin]
     ·rw [Array.getElem?_eq_none (by rw [hF.inv.size];omega),Array.getElem?_eq_none (by rw [List.size_toArray] at hi;unfold Region.marked;simp;omega)]
   have hbt:=hall b hbn;have ha:a=A.put ob.dst vb:=by
     have htm:a.tmps=(A.put ob.dst vb).tmps:=by
       apply Array.ext_getElem?;intro t;rw [Zaf]
       by_cases hbd:ob.dst=some t
       ·rw [if_pos hbd,hF.slotb t hbd,if_pos hbt]
        by_cases h:t<a0.tmps.size
        ·rw [Array.getElem?_eq_getElem h,Array.getElem?_eq_getElem (by rw [hAs];exact h)];rfl
        ·rw [Array.getElem?_eq_none (by omega),Array.getElem?_eq_none (by rw [hAs];omega)] <;> rfl
       ·rw [if_neg hbd]
        by_cases h: ∃j o,j<n/\l.toArray[j]?=some o/\o.dst=some t
        ·obtain ⟨j,o,h1,h2,h3⟩:=h;have hjb:j≠b:=fun e=>by subst e;rw [hobA] at h2;cases h2;exact hbd h3
         rw [hF.slot j o t h1 h2 h3 hjb,if_pos (hall j h1)]
        ·have h': ∀j o,j<n->l.toArray[j]?=some o->o.dst≠some t:=fun j o h1 h2 h3=>h ⟨j,o,h1,h2,h3⟩;rw [hF.other t h',hAo t fun j o h1 h2 _=>h' j o h1 h2]
     have hd:a.defers=(A.put ob.dst vb).defers:=by rw [Zal,hAd,hF.defers]
     cases a;simp only at htm hd;cases hX:A.put ob.dst vb;rw [hX] at htm hd;simp only at htm hd;rw [htm,hd]
   rw [ha];have hdl:(l.drop n).length=l.toArray.size-n:=by simp
   have:=wpAny_of_seq (md:= .any) (Q':=Q) (ops:=l.toArray) (l.drop n) n listed (A.put ob.dst vb) w (fun j=>by simp [List.getElem?_drop]) (by rw [hdl,hl];exact hseq) (ht vb w hF.later (hF.box hbt));rw [hdl] at this
   rwa [Nat.zero_add]
 | succ f ih=>
   intro U listed a w vb hU hnd hUm hF;obtain ⟨i0,hi0,hleast⟩:=Zay U (fun e=>by rw [e] at hU;simp at hU);obtain ⟨hi0n,hi0u⟩:=(hUm i0).1 hi0;have hin: ∀i,i<n->i<listed.size:=fun i hi=>by rw [hF.inv.size];omega
   have hready:i0∈Region.ready .any l.toArray listed:=by
     have hlt:i0<l.toArray.size:=by omega
     refine mem_ready.2 ⟨getD_in (hin _ hi0n) hi0u,l.toArray[i0],Array.getElem?_eq_getElem hlt,fun e he hbd=> ?_⟩;have h1:=hedge i0 hi0n;rw [Array.getElem?_eq_getElem hlt] at h1;simp only [Array.all_eq_true_iff_forall_mem] at h1;have h2:=h1 e he;simp only [hbd,Bool.not_true,Bool.false_or,decide_eq_true_eq] at h2;cases h:listed.getD e.on false with
     | true=>rfl
     | false=>
       have:=hleast e.on ((hUm e.on).2 ⟨by omega,h⟩);omega
   rw [show f+1+(l.toArray.size-n)=(f+(l.toArray.size-n))+1 by omega];refine ⟨fun h=>(by rw [h] at hready;cases hready),fun i hi=> ?_⟩;obtain ⟨hiu,o,ho,hdep⟩:=mem_ready.1 hi;have hilt:i<n:=Nat.lt_of_not_le fun h=>tail_waits hsink hchain hn hF.inv _ i0 rfl hi0n (getD_in (hin _ hi0n) hi0u) i h hi;have hiU:i∈U:=(hUm i).2 ⟨hilt,getD_both hiu⟩;have hinv:=hF.inv.set hi hilt;have hlist: ∀j,(listed.setIfInBounds i true).getD j false=if j=i then true else listed.getD j false:=fun j=>by
    by_cases h:j=i
    ·subst h;rw [if_pos rfl];simp [hin j hilt]
    ·rw [if_neg h,getD_set_ne false (Ne.symm h)]
   have hUm': ∀j,j∈U.erase i↔j<n/\(listed.setIfInBounds i true).getD j false=false:=fun j=>by
     rw [hnd.mem_erase_iff,hUm j,hlist j]
     by_cases h:j=i
     ·simp [h]
     ·simp [h]
   have hlen':(U.erase i).length=f:=by rw [List.length_erase_of_mem hiU];omega
   have hnd':=hnd.erase i;have hseen: ∀t∈o.looksAt l.toArray,∀j oj,j<n->l.toArray[j]?=some oj->oj.dst=some t->i≠j/\j<i/\listed.getD j false=true:=by
     intro t ht j oj hj hoj hd;have hne:i≠j:=fun e=>by
       subst e;rw [ho] at hoj;cases hoj;exact Region.flowPair_self (hpair i hilt i hilt) ho hd ht
     have h1:=Region.flowPair_looks (hpair i hilt j hj) ho hoj hne hd ht;obtain ⟨o',ho',e,he,hbd,hon⟩:=Region.waitsFor_spec h1.2;rw [ho] at ho';cases ho';have:=hdep e he hbd;rw [hon] at this;exact ⟨hne,h1.1,this⟩
   by_cases hib:i=b
   ·subst hib;rw [hobA] at ho;cases ho;have hg:ob.guard=none:=by rw [hobA] at hguard;simpa using hguard
    obtain ⟨fn,args,hrun,hcall⟩:=hb w hF.later;have hex:execOp a.eval ob=execOp A.eval ob:=(Za0 (ops:=l.toArray) (fun cs bb=>hselect i ob cs bb hobA) fun t htl=>by
      by_cases h: ∃j o,j<n/\l.toArray[j]?=some o/\o.dst=some t
      ·obtain ⟨j,oj,h1,h2,h3⟩:=h;obtain ⟨k1,k2,k3⟩:=hseen t htl j oj h1 h2 h3;rw [hF.slot j oj t h1 h2 h3 (Ne.symm k1),if_pos k3]
      ·have h': ∀j o,j<n->l.toArray[j]?=some o->o.dst≠some t:=fun j o h1 h2 h3=>h ⟨j,o,h1,h2,h3⟩;rw [hF.other t h',hAo t fun j o h1 h2 _=>h' j o h1 h2]).1
    unfold wpOp;simp only [hobA];rw [if_pos (by simp [Region.wanted,hg])];refine .inl ?_;unfold Oper.wp;rw [hex,hrun,Oper.upon_enter];refine hcall.mono ?_;rintro _ w' ⟨v',rfl,hbox,hbel⟩;refine ih (U.erase i) _ _ _ v' hlen' hnd' hUm' ⟨hinv,hF.later.trans (hbel.mono hF.later.size),by rw [Zbd,hF.size],by rw [Zal,hF.defers],?_,?_,?_,fun _=>hbox⟩
    ·intro j oj t hj hoj hd hjb;have hne:ob.dst≠some t:=fun h=>Region.flowPair_dst (hpair i hilt j hj) hobA hoj (Ne.symm hjb) h hd;rw [Zaf,if_neg hne,hF.slot j oj t hj hoj hd hjb,hlist j,if_neg hjb]
    ·intro t hd;rw [Zaf,if_pos hd,hlist i,if_pos rfl,if_pos rfl,hF.slotb t hd,if_neg (by rw [getD_both hiu];simp)]
    ·intro t h;rw [Zaf,if_neg (h i ob hilt hobA),hF.other t h]
   ·have hpos:=Zbf hbn hn' hilt hib;have hol:l[i]?=some o:=by rw [<-hget];exact ho
    rw [hol] at hpos;have hsplit:Zat l n b=(Zat l n b).take (Zcy b i)++o::(Zat l n b).drop (Zcy b i+1):=by
     have hlt:=(List.getElem?_eq_some_iff.1 hpos).1;have e:=(List.getElem?_eq_some_iff.1 hpos).2;rw [<-e,<-List.drop_eq_getElem_cons hlt,List.take_append_drop]
    obtain ⟨_,_,_,htext⟩:=Zbj _ _ (hq ⟨w,hF.later⟩) hpw;obtain ⟨ai,v,hy,t1,t2,t3⟩:=htext _ o _ hsplit;have hal:=Za0 (ops:=l.toArray) (o:=o) (a:=a) (a':=ai) (fun cs bb=>hselect i o cs bb ho) fun t htl=>by
      by_cases h: ∃j o,j<n/\l.toArray[j]?=some o/\o.dst=some t
      ·obtain ⟨j,oj,h1,h2,h3⟩:=h;obtain ⟨k1,k2,k3⟩:=hseen t htl j oj h1 h2 h3
       by_cases hjb:j=b
       ·-- nobody else looks at b's yield
        subst hjb;have h4:=hblind i hilt;simp only [Bool.or_eq_true,beq_iff_eq,hib,false_or] at h4;exact absurd htl (Region.blindTo_spec h4 ho h2 h3)
       ·rw [hF.slot j oj t h1 h2 h3 hjb,if_pos k3];refine (t1 t ⟨oj,?_,h3⟩).symm;have hjp:=Zbf hbn hn' h1 hjb;rw [<-hget,h2] at hjp;refine List.mem_of_getElem? (i:=Zcy b j) ?_;rw [List.getElem?_take,if_pos (by unfold Zcy;split <;> split <;> omega)]
        exact hjp
      ·have h': ∀j o,j<n->l.toArray[j]?=some o->o.dst≠some t:=fun j o h1 h2 h3=>h ⟨j,o,h1,h2,h3⟩;rw [hF.other t h'];refine (t2 t fun p hp=> ?_).symm;obtain ⟨q,hq'⟩:=List.mem_iff_getElem?.1 (List.mem_of_mem_take hp);obtain ⟨j,h1,h2,h3,_⟩:=Zas hbn hn' hq';exact h' j p h1 (by rw [hget];exact h3)
    have hy':=hy.of_same hal.1 hal.2;have hqo:=hy'.qOp (K:=fun a'=>a'=a.put o.dst v) ho rfl;refine wpOp_of_qOp ⟨⟨w,Below.refl _ _⟩,rfl⟩ ?_ hqo;rintro a' w' ⟨X,rfl⟩ rfl;have hX:=X.h;refine ih (U.erase i) _ _ _ vb hlen' hnd' hUm' ⟨hinv,hF.later.trans (hX.mono hF.later.size),by rw [Zbd,hF.size],by rw [Zal,hF.defers],?_,?_,?_,?_⟩
    ·intro j oj t hj hoj hd hjb;rw [Zaf,hlist j]
     by_cases hji:j=i
     ·subst hji;rw [ho] at hoj;cases hoj;rw [if_pos hd,if_pos rfl,if_pos rfl,hF.slot j o t hj ho hd hjb,if_neg (by rw [getD_both hiu];simp),t3 t hd]
     ·have hne:o.dst≠some t:=fun h=>Region.flowPair_dst (hpair i hilt j hj) ho hoj (Ne.symm hji) h hd;rw [if_neg hne,if_neg hji,hF.slot j oj t hj hoj hd hjb]
    ·intro t hd;have hne:o.dst≠some t:=fun h=>Region.flowPair_dst (hpair i hilt b hbn) ho hobA hib h hd;rw [Zaf,if_neg hne,hF.slotb t hd,hlist b,if_neg (Ne.symm hib)]
    ·intro t h;rw [Zaf,if_neg (h i o hilt ho),hF.other t h]
    ·intro h;rw [hlist b,if_neg (Ne.symm hib)] at h;exact hBp vb w _ (hF.box h) hX
theorem Zdy {id:Nat} (n b:Nat) (ob:Oper) (D:Value->World->Prop) (hm:P.follows .mixedOrders=true) (hB:Region.flowB l.toArray n b=true) (hob:l[b]?=some ob)
    (hBp: ∀v w w',D v w->Below w.heap.size w w'->D v w')
    (hh: ∃A,(∀Y:Later W,wpQuiet P l.toArray (fun w'=> ∃X:Later2 Y,w'=X.w) (fun a'=>a'=A) (Zat l n b) a0)/\
      (∀w,Below W.heap.size W w->∃fn args,(execOp A.eval ob).run P w= .ok (.enter fn args) w/\Calls P fn args w fun e w'=> ∃v,e= .returned v/\D v w'/\Below w.heap.size w w')/\
       ∀v w,Below W.heap.size W w->D v w->wpList P l.toArray Q (l.drop n) (A.put ob.dst v) w):
    (Code.region id l.toArray true).wp P Q a0 W:=by
 obtain ⟨A,hq,hb,ht⟩:=hh;refine wp_region_any hm ?_;have hB':=hB;simp only [Region.flowB,Bool.and_eq_true,decide_eq_true_eq] at hB';have hn:=hB'.1.1.1.1.1.1.1.1.2;have inv0:HeadInv .any l.toArray n (Array.replicate l.toArray.size false):=
   ⟨by simp,fun j oj _ hl=>(by rw [getD_replicate_false] at hl;cases hl),fun t _ ht=>getD_in (by simpa using ht) (getD_replicate_false _ _)⟩
 have h:=Zg7 (W:=W) (a0:=a0) (A:=A) (D:=D) (Q:=Q) hB hob hq hb hBp ht n (List.range n) (Array.replicate l.toArray.size false) a0 { W with drawn:=W.drawn+1 } undef (by simp) List.nodup_range (fun i=>by rw [List.mem_range];exact ⟨fun h=>⟨h,getD_replicate_false _ _⟩,fun h=>h.1⟩)
   ⟨inv0,⟨rfl,rfl,rfl,Nat.le_refl _,fun _ _=>rfl⟩,rfl,rfl,fun j o t _ _ _ _=>by rw [getD_replicate_false];rfl,fun t _=>by rw [getD_replicate_false];rfl,fun _ _=>rfl,fun h=>by rw [getD_replicate_false] at h;cases h⟩
 rwa [show n+(l.toArray.size-n)=l.toArray.size by omega] at h
end
section
variable {P:Program} {ops:Array Oper} {C:World->Prop}
structure SameW (W:World) where
  w:World
  h:w=W
instance (W:World):Nonempty (SameW W):=⟨⟨W,rfl⟩⟩
theorem SameW.cell {W:World} (X:SameW W) (b o:Nat):X.w.cell? ⟨b,o,none⟩=W.cell? ⟨b,o,none⟩:=by rw [X.h]
attribute [go_sem] SameW.cell
end
section
def selF (f:Nat->Bool):Nat->List Oper->List Oper
  | _,[]=> []
  | k,o::r=>if f k then o::selF f (k+1) r else selF f (k+1) r
theorem Zev (f:Nat->Bool): ∀ (l:List Oper) (k:Nat) (o:Oper),o∈selF f k l->∃j,l[j]?=some o/\f (k+j)=true
  | [],_,_,h=>by simp [selF] at h
  | x::r,k,o,h=>by
    unfold selF at h;have hr: ∀ (h:o∈selF f (k+1) r),∃j,(x::r)[j]?=some o/\f (k+j)=true:=fun h=>by
      obtain ⟨j,h1,h2⟩:=Zev f r (k+1) o h;exact ⟨j+1,by simpa using h1,by rw [show k+(j+1)=k+1+j by omega];exact h2⟩
    split at h
    ·rename_i hf
     rcases List.mem_cons.1 h with rfl|h
     ·exact ⟨0,rfl,by simpa using hf⟩
     ·exact hr h
    ·exact hr h
theorem Zd8 (f:Nat->Bool): ∀ (l:List Oper) (k i:Nat) (o:Oper),l[i]?=some o->f (k+i)=true->
    ∃pre post,selF f k l=pre++o::post/\(∀p∈pre,∃j,j<i/\l[j]?=some p/\f (k+j)=true)/\(∀j p,j<i->l[j]?=some p->f (k+j)=true->p∈pre)
 | [],_,i,o,h,_=>by simp at h
 | x::r,k,0,o,h,hf=>by
   obtain rfl:x=o:=by simpa using h
   unfold selF;rw [if_pos (by simpa using hf)];exact ⟨[],_,rfl,by simp,fun j p hj=>by omega⟩
 | x::r,k,i+1,o,h,hf=>by
   obtain ⟨pre,post,h1,h2,h3⟩:=Zd8 f r (k+1) i o (by simpa using h) (by rw [show k+1+i=k+(i+1) by omega];exact hf);have h2': ∀p∈pre,∃j,j<i+1/\(x::r)[j]?=some p/\f (k+j)=true:=fun p hp=>by
     obtain ⟨j,a1,a2,a3⟩:=h2 p hp;exact ⟨j+1,by omega,by simpa using a2,by rw [show k+(j+1)=k+1+j by omega];exact a3⟩
   unfold selF
   by_cases hx:f k=true
   ·rw [if_pos hx,h1];refine ⟨x::pre,post,rfl,fun p hp=> ?_,fun j p hj hp hfj=> ?_⟩
    ·rcases List.mem_cons.1 hp with rfl|hp
     ·exact ⟨0,by omega,rfl,by simpa using hx⟩
     ·exact h2' p hp
    ·cases j with
     | zero=>obtain rfl:x=p:=by simpa using hp
             simp
     | succ j=>exact List.mem_cons_of_mem _ (h3 j p (by omega) (by simpa using hp) (by rw [show k+1+j=k+(j+1) by omega];exact hfj))
   ·rw [if_neg hx,h1];refine ⟨pre,post,rfl,h2',fun j p hj hp hfj=> ?_⟩;cases j with
    | zero=>exact absurd (by simpa using hfj) hx
    | succ j=>exact h3 j p (by omega) (by simpa using hp) (by rw [show k+1+j=k+(j+1) by omega];exact hfj)
theorem Zg8 (f:Nat->Bool) {R:Oper->Oper->Prop}: ∀ (l:List Oper) (k:Nat),(∀ (i j:Nat) (x y:Oper),i<j->l[i]?=some x->l[j]?=some y->R x y)->(selF f k l).Pairwise R
  | [],_,_=>by simp [selF]
  | x::r,k,h=>by
    have ih:=Zg8 f r (k+1) fun i j a b hij ha hb=>h (i+1) (j+1) a b (by omega) (by simpa using ha) (by simpa using hb);unfold selF
    split
    ·refine List.pairwise_cons.2 ⟨fun y hy=> ?_,ih⟩;obtain ⟨j,h1,_⟩:=Zev f r (k+1) y hy;exact h 0 (j+1) x y (by omega) rfl (by simpa using h1)
    ·exact ih
def Region.partB (ops:Array Oper) (b:Nat) (T:Nat->Bool):Bool:=
  Region.noSelect ops && decide (b<ops.size) && !T b &&
  ((List.range ops.size).all fun i=>match ops[i]? with|some o=>o.after.all fun e=> !Region.binds .any e || decide (e.on<i)|none=>true) &&
  ((List.range ops.size).all fun i=>(List.range ops.size).all fun j=>Region.flowPair ops i j) &&
  (match ops[b]? with|some o=>o.guard.isNone|none=>false) &&
  ((List.range ops.size).all fun i=>T i || ((List.range ops.size).all fun j=> !(T j || j==b) || (i==b && j==b) || Region.blindTo ops i j)) &&
  ((List.range ops.size).all fun i=> !T i || (List.range ops.size).any fun k=>(k==b || T k) && Region.waitsFor .any ops i k)
variable {P:Program} {l:List Oper} {b:Nat} {T:Nat->Bool} {ob:Oper} {W:World} {a0 A1:Act} {A2:Value->Act} {D:Value->World->Prop} {Q:Exit->Act->World->Prop}
end
section
variable {P:Program} {l:List Oper} {b:Nat} {T:Nat->Bool} {ob:Oper} {W:World} {a0 A1:Act} {A2:Value->Act} {D:Value->World->Prop} {Q:Exit->Act->World->Prop}
structure PartFlowA (ops:Array Oper) (b:Nat) (T:Nat->Bool) (ob:Oper) (W:World) (a0 A1:Act) (A2:Value->Act) (D:Value->World->Prop) (listed:Array Bool) (a:Act) (w:World) (v:Value):Prop where
  lsize:listed.size=ops.size
  later:Below W.heap.size W w
  size:a.tmps.size=a0.tmps.size
  defers:a.defers=a0.defers
  slot: ∀ (j:Nat) (o:Oper) (t:Nat),ops[j]?=some o->o.dst=some t->j≠b->a.tmps[t]?=if listed.getD j false=true then (if T j then (A2 v).tmps[t]? else A1.tmps[t]?) else a0.tmps[t]?
  slotb: ∀t,ob.dst=some t->a.tmps[t]?=if listed.getD b false=true then a0.tmps[t]?.map (fun _=>v) else a0.tmps[t]?
  other: ∀t,(∀ (j:Nat) (o:Oper),ops[j]?=some o->o.dst≠some t)->a.tmps[t]?=a0.tmps[t]?
  tb: ∀k,T k=true->listed.getD k false=true->listed.getD b false=true
  box:listed.getD b false=true->D v w
variable {P:Program} {l:List Oper} {b:Nat} {T:Nat->Bool} {ob:Oper} {W:World} {a0 A1:Act} {A2:Value->Act} {D:Value->World->Prop} {Q:Exit->Act->World->Prop}
theorem Zkm (hB:Region.partB l.toArray b T=true) (hob:l[b]?=some ob)
    (hq: ∀Y:Later W,wpQuiet P l.toArray (fun w'=> ∃X:Later2 Y,w'=X.w) (fun a'=>a'=A1) (selF (fun i=> !T i && !(i==b)) 0 l) a0)
    (hb: ∀w,Below W.heap.size W w->∃v w',(execOp A1.eval ob).run P w= .ok (.value v) w'/\D v w'/\Below w.heap.size w w')
    (hBp: ∀v w w',D v w->Below w.heap.size w w'->D v w')
    (hqT: ∀v w,Below W.heap.size W w->D v w->wpQuiet P l.toArray (fun w'=> ∃X:Later w,w'=X.w) (fun a'=>a'=A2 v) (selF T 0 l) (A1.put ob.dst v))
    (ht: ∀v w,Below W.heap.size W w->D v w->Q .normal (A2 v) w):
    ∀ (f:Nat) (U:List Nat) (listed:Array Bool) (a:Act) (w:World) (vb:Value),U.length=f->U.Nodup->(∀i,i∈U↔i<l.toArray.size/\listed.getD i false=false)->
      PartFlowA l.toArray b T ob W a0 A1 A2 D listed a w vb->wpAny P .any l.toArray Q f listed a w:=by
 simp only [Region.partB,Bool.and_eq_true,decide_eq_true_eq,List.all_eq_true,List.mem_range,Bool.not_eq_true'] at hB;obtain ⟨⟨⟨⟨⟨⟨⟨hsel,hbn⟩,hTb⟩,hedge⟩,hpair⟩,hguard⟩,hblind⟩,hTw⟩:=hB;have hget: ∀i:Nat,l.toArray[i]?=l[i]?:=fun i=>by simp
 have hselect:=Region.noSelect_spec hsel;have hlt: ∀ {i:Nat} {o:Oper},l.toArray[i]?=some o->i<l.toArray.size:=fun h=>(Array.getElem?_eq_some_iff.1 h).1;have hobA:l.toArray[b]?=some ob:=by rw [hget];exact hob
 have hdist: ∀ {i j:Nat} {x y:Oper},l.toArray[i]?=some x->l.toArray[j]?=some y->i≠j->∀t,x.dst=some t->y.dst≠some t:=fun hi hj hne t hd=>
   Region.flowPair_dst (hpair _ (hlt hi) _ (hlt hj)) hi hj hne hd
 have hpw: ∀g:Nat->Bool,(selF g 0 l).Pairwise (fun o o'=> ∀t,o.dst=some t->o'.dst≠some t):=fun g=>
   Zg8 g l 0 fun i j x y hij hx hy=>hdist (by rw [hget];exact hx) (by rw [hget];exact hy) (by omega)
 have hHm: ∀o,o∈selF (fun i=> !T i && !(i==b)) 0 l->∃j:Nat,l.toArray[j]?=some o/\T j=false/\j≠b:=fun o ho=>by
   obtain ⟨j,h1,h2⟩:=Zev _ l 0 o ho;simp only [Nat.zero_add,Bool.and_eq_true,Bool.not_eq_true',beq_eq_false_iff_ne] at h2;exact ⟨j,by rw [hget];exact h1,h2.1,h2.2⟩
 have hTm: ∀o,o∈selF T 0 l->∃j:Nat,l.toArray[j]?=some o/\T j=true:=fun o ho=>by
   obtain ⟨j,h1,h2⟩:=Zev _ l 0 o ho;rw [Nat.zero_add] at h2;exact ⟨j,by rw [hget];exact h1,h2⟩
 have hA:=Zbj _ _ (hq ⟨W,Below.refl _ _⟩) (hpw _);have hAo: ∀t,(∀ (j:Nat) (o:Oper),l.toArray[j]?=some o->T j=false->j≠b->o.dst≠some t)->A1.tmps[t]?=a0.tmps[t]?:=fun t h=>hA.1 t fun o ho=>by
   obtain ⟨j,h1,h2,h3⟩:=hHm o ho;exact h j o h1 h2 h3
 have hAs:=hA.2.1;have hAd:=hA.2.2.1;have hTT:=fun (v:Value) (w:World) (h1:Below W.heap.size W w) (h2:D v w)=>Zbj _ _ (hqT v w h1 h2) (hpw T);have hTo: ∀v w,Below W.heap.size W w->D v w->∀t,(∀ (j:Nat) (o:Oper),l.toArray[j]?=some o->T j=true->o.dst≠some t)->(A2 v).tmps[t]?=(A1.put ob.dst v).tmps[t]?:=fun v w h1 h2 t h=>(hTT v w h1 h2).1 t fun o ho=>by
   obtain ⟨j,h3,h4⟩:=hTm o ho;exact h j o h3 h4
 intro f
 induction f with
 | zero=>
   intro U listed a w vb hU _ hUm hF;obtain rfl:U=[]:=List.eq_nil_of_length_eq_zero hU;have hall: ∀i,i<l.toArray.size->listed.getD i false=true:=fun i hi=>by
     cases h:listed.getD i false with
     | true=>rfl
     | false=>have:=(hUm i).2 ⟨hi,h⟩;simp at this
   have hbt:=hall b hbn;have hD:=hF.box hbt;refine ⟨?_,?_⟩
   ·rw [List.eq_nil_iff_forall_not_mem];intro j hj;obtain ⟨h1,o,ho,_⟩:=mem_ready.1 hj;have h2:=hall j (hlt ho);rw [getD_both h1] at h2;cases h2
   have ha:a=A2 vb:=by
     have hTs:=hTT vb w hF.later hD;have htm:a.tmps=(A2 vb).tmps:=by
       apply Array.ext_getElem?;intro t
       by_cases hbd:ob.dst=some t
       ·have e1:=hTo vb w hF.later hD t fun j o h1 h2 h3=>hdist hobA h1 (fun e=>by subst e;rw [hTb] at h2;cases h2) t hbd h3;rw [e1,Zaf,if_pos hbd,hF.slotb t hbd,if_pos hbt,hAo t fun j o h1 _ h3 h4=>hdist hobA h1 (Ne.symm h3) t hbd h4]
       ·by_cases h: ∃ (j:Nat) (o:Oper),l.toArray[j]?=some o/\o.dst=some t
        ·obtain ⟨j,o,h2,h3⟩:=h;have hjb:j≠b:=fun e=>by subst e;rw [hobA] at h2;cases h2;exact hbd h3
         rw [hF.slot j o t h2 h3 hjb,if_pos (hall j (hlt h2))];cases hTj:T j with
         | true=>rfl
         | false=>
           have e1:=hTo vb w hF.later hD t fun j' o' h1' h2' h3'=>hdist h2 h1' (fun e=>by subst e;rw [hTj] at h2';cases h2') t h3 h3';rw [e1,Zaf,if_neg hbd];rfl
        ·have h': ∀ (j:Nat) (o:Oper),l.toArray[j]?=some o->o.dst≠some t:=fun j o h2 h3=>h ⟨j,o,h2,h3⟩;rw [hF.other t h',hTo vb w hF.later hD t fun j o h1 _=>h' j o h1,Zaf,if_neg hbd,hAo t fun j o h1 _ _=>h' j o h1]
     have hd:a.defers=(A2 vb).defers:=by rw [hTs.2.2.1,Zal,hAd,hF.defers]
     cases a;simp only at htm hd;cases hX:A2 vb;rw [hX] at htm hd;simp only at htm hd;rw [htm,hd]
   rw [ha];exact ht vb w hF.later hD
 | succ f ih=>
   intro U listed a w vb hU hnd hUm hF;obtain ⟨i0,hi0,hleast⟩:=Zay U (fun e=>by rw [e] at hU;simp at hU);obtain ⟨hi0n,hi0u⟩:=(hUm i0).1 hi0;have hin: ∀i,i<l.toArray.size->i<listed.size:=fun i hi=>by rw [hF.lsize];exact hi
   have hready:i0∈Region.ready .any l.toArray listed:=by
     refine mem_ready.2 ⟨getD_in (hin _ hi0n) hi0u,l.toArray[i0],Array.getElem?_eq_getElem hi0n,fun e he hbd=> ?_⟩;have h1:=hedge i0 hi0n;rw [Array.getElem?_eq_getElem hi0n] at h1;simp only [Array.all_eq_true_iff_forall_mem] at h1;have h2:=h1 e he;simp only [hbd,Bool.not_true,Bool.false_or,decide_eq_true_eq] at h2;cases h:listed.getD e.on false with
     | true=>rfl
     | false=>
       have:=hleast e.on ((hUm e.on).2 ⟨by omega,h⟩);omega
   refine ⟨fun h=>(by rw [h] at hready;cases hready),fun i hi=> ?_⟩;obtain ⟨hiu,o,ho,hdep⟩:=mem_ready.1 hi;have hilt:=hlt ho;have hiU:i∈U:=(hUm i).2 ⟨hilt,getD_both hiu⟩;have hlist: ∀j,(listed.setIfInBounds i true).getD j false=if j=i then true else listed.getD j false:=fun j=>by
     by_cases h:j=i
     ·subst h;rw [if_pos rfl];simp [hin j hilt]
     ·rw [if_neg h,getD_set_ne false (Ne.symm h)]
   have hUm': ∀j,j∈U.erase i↔j<l.toArray.size/\(listed.setIfInBounds i true).getD j false=false:=fun j=>by
     rw [hnd.mem_erase_iff,hUm j,hlist j]
     by_cases h:j=i
     ·simp [h]
     ·simp [h]
   have hlen':(U.erase i).length=f:=by rw [List.length_erase_of_mem hiU];omega
   have hnd':=hnd.erase i;have hls':(listed.setIfInBounds i true).size=l.toArray.size:=by simp [hF.lsize]
   have hseen: ∀t∈o.looksAt l.toArray,∀ (j:Nat) (oj:Oper),l.toArray[j]?=some oj->oj.dst=some t->i≠j/\j<i/\listed.getD j false=true:=by
     intro t ht j oj hoj hd;have hne:i≠j:=fun e=>by
       subst e;rw [ho] at hoj;cases hoj;exact Region.flowPair_self (hpair i hilt i hilt) ho hd ht
     have h1:=Region.flowPair_looks (hpair i hilt j (hlt hoj)) ho hoj hne hd ht;obtain ⟨o',ho',e,he,hbd,hon⟩:=Region.waitsFor_spec h1.2;rw [ho] at ho';cases ho';have:=hdep e he hbd;rw [hon] at this;exact ⟨hne,h1.1,this⟩
   have hblin:T i=false->∀t∈o.looksAt l.toArray,∀ (j:Nat) (oj:Oper),l.toArray[j]?=some oj->oj.dst=some t->T j=false/\(i=b∨j≠b):=fun hTi t ht j oj hoj hd=>by
     have h1:=hblind i hilt;rw [Bool.or_eq_true] at h1;have h2:=List.all_eq_true.1 (h1.resolve_left (by rw [hTi];simp)) j (List.mem_range.2 (hlt hoj));simp only [Bool.or_eq_true,Bool.not_eq_true',Bool.or_eq_false_iff,Bool.and_eq_true,beq_iff_eq,beq_eq_false_iff_ne] at h2
     rcases h2 with (h2|h2)|h2
     ·exact ⟨h2.1,.inr h2.2⟩
     ·exact ⟨by rw [h2.2];exact hTb,.inl h2.1⟩
     ·exact absurd ht (Region.blindTo_spec h2 ho hoj hd)
   by_cases hib:i=b
   ·subst hib;rw [hobA] at ho;cases ho;have hg:ob.guard=none:=by rw [hobA] at hguard;simpa using hguard
    obtain ⟨v',w',hrun,hbox,hbel⟩:=hb w hF.later;have hex:execOp a.eval ob=execOp A1.eval ob:=(Za0 (ops:=l.toArray) (fun cs bb=>hselect i ob cs bb hobA) fun t htl=>by
      by_cases h: ∃ (j:Nat) (o:Oper),l.toArray[j]?=some o/\o.dst=some t
      ·obtain ⟨j,oj,h2,h3⟩:=h;obtain ⟨k1,k2,k3⟩:=hseen t htl j oj h2 h3;rw [hF.slot j oj t h2 h3 (Ne.symm k1),if_pos k3,(hblin hTb t htl j oj h2 h3).1];rfl
      ·have h': ∀ (j:Nat) (o:Oper),l.toArray[j]?=some o->o.dst≠some t:=fun j o h2 h3=>h ⟨j,o,h2,h3⟩;rw [hF.other t h',hAo t fun j o h1 _ _=>h' j o h1]).1
    unfold wpOp;simp only [hobA];rw [if_pos (by simp [Region.wanted,hg])];refine .inl ?_;unfold Oper.wp;rw [hex,hrun];simp only [Oper.upon_value];refine ih (U.erase i) _ _ _ v' hlen' hnd' hUm' ⟨hls',hF.later.trans (hbel.mono hF.later.size),by rw [Zbd,hF.size],by rw [Zal,hF.defers],?_,?_,?_,?_,fun _=>hbox⟩
    ·intro j oj t hoj hd hjb;have hne:ob.dst≠some t:=fun h=>hdist hobA hoj (Ne.symm hjb) t h hd;rw [Zaf,if_neg hne,hF.slot j oj t hoj hd hjb,hlist j,if_neg hjb]
     by_cases hTj:T j=true
     ·have hjn:listed.getD j false=false:=by
        cases h:listed.getD j false with
        | false=>rfl
        | true=>have:=hF.tb j hTj h;rw [getD_both hiu] at this;cases this
      rw [if_neg (by rw [hjn];simp),if_neg (by rw [hjn];simp)]
     ·rw [if_neg hTj,if_neg hTj]
    ·intro t hd;rw [Zaf,if_pos hd,hlist i,if_pos rfl,if_pos rfl,hF.slotb t hd,if_neg (by rw [getD_both hiu];simp)]
    ·intro t h;rw [Zaf,if_neg (h i ob hobA),hF.other t h]
    ·intro k _ _;rw [hlist i,if_pos rfl]
   ·have hol:l[i]?=some o:=by rw [<-hget];exact ho
    cases hTi:T i with
    | false=>
      obtain ⟨pre,post,hsplit,hpre1,hpre2⟩:=Zd8 (fun i=> !T i && !(i==b)) l 0 i o hol (by rw [Nat.zero_add];simp [hTi,hib]);obtain ⟨_,_,_,htext⟩:=Zbj _ _ (hq ⟨w,hF.later⟩) (hpw _);obtain ⟨ai,v,hy,t1,t2,t3⟩:=htext _ o _ hsplit;have hal:=Za0 (ops:=l.toArray) (o:=o) (a:=a) (a':=ai) (fun cs bb=>hselect i o cs bb ho) fun t htl=>by
        by_cases h: ∃ (j:Nat) (o:Oper),l.toArray[j]?=some o/\o.dst=some t
        ·obtain ⟨j,oj,h2,h3⟩:=h;obtain ⟨k1,k2,k3⟩:=hseen t htl j oj h2 h3;obtain ⟨hTj,hjb⟩:=hblin hTi t htl j oj h2 h3;have hjb:=hjb.resolve_left hib;rw [hF.slot j oj t h2 h3 hjb,if_pos k3,hTj];refine (t1 t ⟨oj,hpre2 j oj k2 (by rw [<-hget];exact h2) (by rw [Nat.zero_add];simp [hTj,hjb]),h3⟩).symm
        ·have h': ∀ (j:Nat) (o:Oper),l.toArray[j]?=some o->o.dst≠some t:=fun j o h2 h3=>h ⟨j,o,h2,h3⟩;rw [hF.other t h'];refine (t2 t fun p hp=> ?_).symm;obtain ⟨j,_,h2,_⟩:=hpre1 p hp;exact h' j p (by rw [hget];exact h2)
      have hy':=hy.of_same hal.1 hal.2;have hqo:=hy'.qOp (K:=fun a'=>a'=a.put o.dst v) ho rfl;refine wpOp_of_qOp ⟨⟨w,Below.refl _ _⟩,rfl⟩ ?_ hqo;rintro a' w' ⟨X,rfl⟩ rfl;have hX:=X.h;refine ih (U.erase i) _ _ _ vb hlen' hnd' hUm' ⟨hls',hF.later.trans (hX.mono hF.later.size),by rw [Zbd,hF.size],by rw [Zal,hF.defers],?_,?_,?_,?_,?_⟩
      ·intro j oj t hoj hd hjb;rw [Zaf,hlist j]
       by_cases hji:j=i
       ·subst hji;rw [ho] at hoj;cases hoj;rw [if_pos hd,if_pos rfl,if_pos rfl,hTi,hF.slot j o t ho hd hjb,if_neg (by rw [getD_both hiu];simp)];exact (t3 t hd).symm
       ·have hne:o.dst≠some t:=fun h=>hdist ho hoj (Ne.symm hji) t h hd;rw [if_neg hne,if_neg hji,hF.slot j oj t hoj hd hjb]
      ·intro t hd;have hne:o.dst≠some t:=fun h=>hdist ho hobA hib t h hd;rw [Zaf,if_neg hne,hF.slotb t hd,hlist b,if_neg (Ne.symm hib)]
      ·intro t h;rw [Zaf,if_neg (h i o ho),hF.other t h]
      ·intro k hk1 hk2;rw [hlist k] at hk2;have hki:k≠i:=fun e=>by subst e;rw [hTi] at hk1;cases hk1
       rw [if_neg hki] at hk2;rw [hlist b,if_neg (Ne.symm hib)];exact hF.tb k hk1 hk2
      ·intro h;rw [hlist b,if_neg (Ne.symm hib)] at h;exact hBp vb w _ (hF.box h) hX
    | true=>
      have hbt:listed.getD b false=true:=by
        have h1:=hTw i hilt;rw [Bool.or_eq_true] at h1;obtain ⟨k,_,h2⟩:=List.any_eq_true.1 (h1.resolve_left (by rw [hTi];simp));simp only [Bool.and_eq_true,Bool.or_eq_true,beq_iff_eq] at h2;obtain ⟨o',ho',e,he,hbd,hon⟩:=Region.waitsFor_spec h2.2;rw [ho] at ho';cases ho';have h3:=hdep e he hbd;rw [hon] at h3
        rcases h2.1 with rfl|h4
        ·exact h3
        ·exact hF.tb k h4 h3
      have hD:=hF.box hbt;obtain ⟨pre,post,hsplit,hpre1,hpre2⟩:=Zd8 T l 0 i o hol (by rw [Nat.zero_add];exact hTi);obtain ⟨_,_,_,htext⟩:=hTT vb w hF.later hD;obtain ⟨ai,v,hy,t1,t2,t3⟩:=htext _ o _ hsplit;have hpo: ∀t,(∀ (j:Nat) (oj:Oper),l.toArray[j]?=some oj->T j=true->oj.dst≠some t)->ai.tmps[t]?=(A1.put ob.dst vb).tmps[t]?:=fun t h=>t2 t fun p hp=>by
        obtain ⟨j,_,h2,h3⟩:=hpre1 p hp;rw [Nat.zero_add] at h3;exact h j p (by rw [hget];exact h2) h3
      have hal:=Za0 (ops:=l.toArray) (o:=o) (a:=a) (a':=ai) (fun cs bb=>hselect i o cs bb ho) fun t htl=>by
        by_cases hbd:ob.dst=some t
        ·rw [hpo t fun j oj h1 h2 h3=>hdist hobA h1 (fun e=>by subst e;rw [hTb] at h2;cases h2) t hbd h3,Zaf,if_pos hbd,hF.slotb t hbd,if_pos hbt,hAo t fun j o h1 _ h3 h4=>hdist hobA h1 (Ne.symm h3) t hbd h4]
        ·by_cases h: ∃ (j:Nat) (o:Oper),l.toArray[j]?=some o/\o.dst=some t
         ·obtain ⟨j,oj,h2,h3⟩:=h;obtain ⟨k1,k2,k3⟩:=hseen t htl j oj h2 h3;have hjb:j≠b:=fun e=>by subst e;rw [hobA] at h2;cases h2;exact hbd h3
          rw [hF.slot j oj t h2 h3 hjb,if_pos k3];cases hTj:T j with
          | true=>exact (t1 t ⟨oj,hpre2 j oj k2 (by rw [<-hget];exact h2) (by rw [Nat.zero_add];exact hTj),h3⟩).symm
          | false=>
            rw [hpo t fun j' o' h1' h2' h3'=>hdist h2 h1' (fun e=>by subst e;rw [hTj] at h2';cases h2') t h3 h3',Zaf,if_neg hbd];rfl
         ·have h': ∀ (j:Nat) (o:Oper),l.toArray[j]?=some o->o.dst≠some t:=fun j o h2 h3=>h ⟨j,o,h2,h3⟩;rw [hF.other t h',hpo t fun j o h1 _=>h' j o h1,Zaf,if_neg hbd,hAo t fun j o h1 _ _=>h' j o h1]
      have hy':=hy.of_same hal.1 hal.2;have hqo:=hy'.qOp (K:=fun a'=>a'=a.put o.dst v) ho rfl;refine wpOp_of_qOp ⟨⟨w,Below.refl _ _⟩,rfl⟩ ?_ hqo;rintro a' w' ⟨X,rfl⟩ rfl;have hX:=X.h;refine ih (U.erase i) _ _ _ vb hlen' hnd' hUm' ⟨hls',hF.later.trans (hX.mono hF.later.size),by rw [Zbd,hF.size],by rw [Zal,hF.defers],?_,?_,?_,?_,?_⟩
      ·intro j oj t hoj hd hjb;rw [Zaf,hlist j]
       by_cases hji:j=i
       ·subst hji;rw [ho] at hoj;cases hoj;rw [if_pos hd,if_pos rfl,if_pos rfl,hTi,hF.slot j o t ho hd hjb,if_neg (by rw [getD_both hiu];simp)];have e1:=t3 t hd;have hbd:ob.dst≠some t:=fun h=>hdist hobA ho (Ne.symm hjb) t h hd;rw [Zaf,if_neg hbd,hAo t fun j' o' h1 h2 h3 h4=>hdist ho h1 (fun e=>by subst e;rw [hTi] at h2;cases h2) t hd h4] at e1;exact e1.symm
       ·have hne:o.dst≠some t:=fun h=>hdist ho hoj (Ne.symm hji) t h hd;rw [if_neg hne,if_neg hji,hF.slot j oj t hoj hd hjb]
      ·intro t hd;have hne:o.dst≠some t:=fun h=>hdist ho hobA hib t h hd;rw [Zaf,if_neg hne,hF.slotb t hd,hlist b,if_neg (Ne.symm hib)]
      ·intro t h;rw [Zaf,if_neg (h i o ho),hF.other t h]
      ·intro k _ _;rw [hlist b,if_neg (Ne.symm hib)];exact hbt
      ·intro h;rw [hlist b,if_neg (Ne.symm hib)] at h;exact hBp vb w _ (hF.box h) hX
theorem Ze8 {id:Nat} (b:Nat) (T:Nat->Bool) (ob:Oper) (D:Value->World->Prop) (hm:P.follows .mixedOrders=true) (hB:Region.partB l.toArray b T=true) (hob:l[b]?=some ob)
    (hBp: ∀v w w',D v w->Below w.heap.size w w'->D v w')
    (hh: ∃A1,(∀Y:Later W,wpQuiet P l.toArray (fun w'=> ∃X:Later2 Y,w'=X.w) (fun a'=>a'=A1) (selF (fun i=> !T i && !(i==b)) 0 l) a0)/\
      (∀w,Below W.heap.size W w->∃v w',(execOp A1.eval ob).run P w= .ok (.value v) w'/\D v w'/\Below w.heap.size w w')/\
       ∃A2:Value->Act,(∀v w,Below W.heap.size W w->D v w->wpQuiet P l.toArray (fun w'=> ∃X:Later w,w'=X.w) (fun a'=>a'=A2 v) (selF T 0 l) (A1.put ob.dst v))/\
        ∀v w,Below W.heap.size W w->D v w->Q .normal (A2 v) w):
    (Code.region id l.toArray true).wp P Q a0 W:=by
 obtain ⟨A1,hq,hb,A2,hqT,ht⟩:=hh;refine wp_region_any hm ?_;exact Zkm (W:=W) (a0:=a0) (A1:=A1) (A2:=A2) (D:=D) (Q:=Q) hB hob hq hb hBp hqT ht l.toArray.size (List.range l.toArray.size) (Array.replicate l.toArray.size false) a0 { W with drawn:=W.drawn+1 } undef (by simp) List.nodup_range (fun i=>by rw [List.mem_range];exact ⟨fun h=>⟨h,getD_replicate_false _ _⟩,fun h=>h.1⟩)
   ⟨by simp,⟨rfl,rfl,rfl,Nat.le_refl _,fun _ _=>rfl⟩,rfl,rfl,fun j o t _ _ _=>by rw [getD_replicate_false];rfl,fun t _=>by rw [getD_replicate_false];rfl,fun _ _=>rfl,fun k _ h=>(by rw [getD_replicate_false] at h;cases h),fun h=>by rw [getD_replicate_false] at h;cases h⟩
theorem Zeq {id:Nat} (b:Nat) (T:Nat->Bool) (ob:Oper) (D:Value->World->Prop) (G:Act->Value->Act) (hm:P.follows .mixedOrders=true) (hB:Region.partB l.toArray b T=true) (hob:l[b]?=some ob)
    (hBp: ∀v w w',D v w->Below w.heap.size w w'->D v w')
    (hh: ∃A1,(∀Y:Later W,wpQuiet P l.toArray (fun w'=> ∃X:Later2 Y,w'=X.w) (fun a'=>a'=A1) (selF (fun i=> !T i && !(i==b)) 0 l) a0)/\
      (∀w,Below W.heap.size W w->∃v w',(execOp A1.eval ob).run P w= .ok (.value v) w'/\D v w'/\Below w.heap.size w w')/\
       (∀v w,Below W.heap.size W w->D v w->wpQuiet P l.toArray (fun w'=> ∃X:Later w,w'=X.w) (fun a'=>a'=G A1 v) (selF T 0 l) (A1.put ob.dst v))/\
        ∀v w,Below W.heap.size W w->D v w->Q .normal (G A1 v) w):
    (Code.region id l.toArray true).wp P Q a0 W:=by
 obtain ⟨A1,hq,hb,hqT,ht⟩:=hh;exact Ze8 b T ob D hm hB hob hBp ⟨A1,hq,hb,G A1,hqT,ht⟩
end
end Go
namespace Go.Proofs.YtijajkfmlghgkaaGreatDoor.Nu
open Go Go.Proofs Go.RowKit Go.Proofs.YtijajkfmlghgkaaGreatDoor
theorem Zh4 {P:Program} (w:World) (t e:TypeId) (a:Option Addr) (n c n' c':Nat) (h:P.underlying t=some (.slice e)):
    (binOp .neq t (.slice a n c) (.slice none n' c')).run P w= .ok (.bool (!a.isNone)) w:=by
 simp only [binOp];simp [Op.equal,Op.maxDepth,Lib.run_equalIn_slice_nil w 9999 t e a n c n' c' h]
structure WlR (w:World) (v:Value) (l:List Nat) (m:Nat):Prop where
  sc:Sc encW 1 w w.heap.size v l
  dg:Dg (2^64) l
  tr:Tr l
  eq:val (2^64) l=m
theorem WlR.later {w w':World} {v:Value} {l:List Nat} {m:Nat} (h:WlR w v l m) (hb:Below w.heap.size w w'):WlR w' v l m:=⟨h.sc.later hb,h.dg,h.tr,h.eq⟩
theorem WlR.len {w:World} {v:Value} {l:List Nat} {m k:Nat} (h:WlR w v l m) (hm:Wds k (m:Int)):l.length<=k:=by
  refine Wds.len (k:=k) ?_ h.tr;rw [h.eq];exact hm
def Zdz (w:World) (z:Int) (e:Ending) (w':World):Prop:=
  ∃a n c l,e= .returned (.tuple #[.bool (decide (z<0)),.slice a n c])/\WlR w' (.slice a n c) l z.natAbs/\n=l.length/\Below w.heap.size w w'
theorem Zcz (w:World) (v:Value) (z:Int) (h:IntR w v z):Calls Tryz.prog 266 #[v] w (Zdz w z):=by
  have hq:=fun (w:World) (a:Option Addr) (n c:Nat)=>Lib.run_eql_slice_nil w 131 345 a n c 0 0 Tryz.underlying131;have hq2:=fun (w:World) (a:Option Addr) (n c:Nat)=>Zh4 w 131 345 a n c 0 0 Tryz.underlying131;have HPOST:Hid (∀e w',Zdz w z e w'↔∃a n c l,e= .returned (.tuple #[.bool (decide (z<0)),.slice a n c])/\WlR w' (.slice a n c) l z.natAbs/\n=l.length/\Below w.heap.size w w'):=Zh (fun _ _=>Iff.rfl);obtain ⟨Q,hQ⟩: ∃Q,Zdz w z=Q:=⟨_,rfl⟩;rw [hQ] at HPOST ⊢;clear hQ
  rcases h with ⟨rfl,h1,h2⟩|⟨s,b,off,n,c,l,rfl,hsc,hn,hn0,hdg,htr,hbig,hs⟩
  ·have HB:=Zh ((Below.refl w.heap.size w).alloc (Nat.le_refl _) (.cells #[.int .i64 z,.slice none 0 0] 133));have HX:=Zh (Box.new w #[.int .i64 z,.slice none 0 0] 133);obtain ⟨x0,x1,xf,xz⟩:=HX.v2
   by_cases h0:z=0
   ·subst h0;clear h1 h2;go_enter Tryz.func266,Tryz.ntmps266;go_wp2_with fail;exact (HPOST.out _ _).2 ⟨none,0,0,[],rfl,⟨Sc.nil _ _ _ _ _ _,Dg.nil _,Tr.nil,rfl⟩,rfl,HB.out⟩
   ·have d0:(z==0)=false:=beq_eq_false_iff_ne.2 h0;have HS:=Zh (Zh3 z h1 h2);have HZ:=Zh (show z.natAbs<2^64/\z.natAbs≠0 by omega);obtain ⟨q,hq1⟩: ∃q,decide (z<0)=q:=⟨_,rfl⟩;rw [hq1] at HPOST;obtain ⟨m,hm⟩: ∃m,z.natAbs=m:=⟨_,rfl⟩;rw [hm] at HPOST HS HZ;clear h0 h1 h2 hm;go_enter Tryz.func266,Tryz.ntmps266;go_wp2_with fail;refine Zeq 6 (fun i=>i==8) _ (fun v u=> ∃g,v= .slice (some ⟨g,0,none⟩) 1 1/\Sc encW 1 u u.heap.size v [m]) (fun A v=>(A.put (some 23) v).put (some 3) v) (by kernel_rfl) (by kernel_rfl) rfl (fun v u u' h hb=>by obtain ⟨g,h1,h2⟩:=h;exact ⟨g,h1,h2.later hb⟩) ?_;apply Exists.intro;refine ⟨fun Y=> ?_,fun wa hwa=>⟨.slice (some ⟨wa.heap.size,0,none⟩) 1 1,wa.alloc (.cells #[.int .u64 (m:Int)] 345),?_,⟨_,rfl,Sc.of_own Zae (by simp) (Own.lit (f:=encW) (sz:=1) (l:=[m]) Zae 345 wa #[.int .u64 (m:Int)] 1 wa.heap.size rfl rfl (by simp) (Nat.le_refl _))⟩,(Below.refl _ _).alloc (Nat.le_refl _) _⟩,fun vl w2 hb hD=> ?_,fun vl w2 hb hD=> ?_⟩
    ·simp only [selF,Nat.reduceAdd,Nat.reduceBEq,Bool.not_true,Bool.not_false,Bool.and_true,Bool.and_false,Bool.and_self,if_true,if_false,Bool.false_eq_true,reduceIte]
     repeat go_big_quiet_step ((go_at_call 298;exact Calls.later2_same (HS.out _)))
     exact wpQuiet_nil rfl
    ·go_simp
     first|done|rfl|(go_ints;rfl)
    ·obtain ⟨g,rfl,hsc⟩:=hD;simp only [selF,Nat.reduceAdd,Nat.reduceBEq,Bool.not_true,Bool.not_false,Bool.and_true,Bool.and_false,Bool.and_self,if_true,if_false,Bool.false_eq_true,reduceIte];simp only [Act.put,Z1,Z4,Z5]
     repeat go_big_quiet_step (fail)
     exact wpQuiet_nil rfl
    obtain ⟨g,rfl,hsc⟩:=hD;simp only [Act.put,Z1,Z4,Z5];have HD:=Zh hsc;have HB2:=Zh (HB.Zg hb);clear hb hsc x0 x1 xf xz;go_wp2_with fail;refine (HPOST.out _ _).2 ⟨_,1,1,[m],rfl,⟨HD.out,Dg.one HZ.out.1,Tr.of_last (fun _=>by simpa using HZ.out.2),by simp [val]⟩,rfl,HB2.out⟩
  ·have HB:=Zh ((Below.refl w.heap.size w).alloc (Nat.le_refl _) (.cells #[.int .i64 s,.slice (some ⟨b,off,none⟩) n c] 133));have HX:=Zh (Box.new w #[.int .i64 s,.slice (some ⟨b,off,none⟩) n c] 133);obtain ⟨x0,x1,xf,xz⟩:=HX.v2;have HW:=Zh (show WlR w (.slice (some ⟨b,off,none⟩) n c) l z.natAbs from ⟨hsc,hdg,htr,by rcases hs with ⟨_,h⟩|⟨_,h⟩ <;> omega⟩)
   have d0:decide (s<0)=decide (z<0):=by
     rcases hs with ⟨h1,h2⟩|⟨h1,h2⟩
     ·rw [Zf (show¬s<0 by omega),Zf (show¬z<0 by omega)]
     ·rw [Zt (show s<0 by omega),Zt (show z<0 by omega)]
   generalize decide (z<0)=q at *;have HN:=Zh hn;clear hs hsc hn;go_enter Tryz.func266,Tryz.ntmps266;go_wp2_with fail
   go_quiet (fail)
   go_wp2_with fail;exact (HPOST.out _ _).2 ⟨_,n,c,l,rfl,HW.later (below_drewN HB.out _),HN.out,below_drewN HB.out _⟩
def RetI (w:World) (z:Int) (e:Ending) (w':World):Prop:=∃v,e= .returned v/\IntR w' v z/\Below w.heap.size w w'
theorem RetI.mk {w w':World} {z:Int} {v v':Value} (h:v=v') (h1:IntR w' v' z) (hb:Below w.heap.size w w'):RetI w z (.returned v) w':=⟨v,rfl,h ▸ h1,hb⟩
def Zbb (neg:Bool) (m:Nat):Int:=if neg then -(m:Int) else m
theorem Zf5 (w:World) (neg:Bool) (a:Option Addr) (n c:Nat) (l:List Nat) (m:Nat) (h:WlR w (.slice a n c) l m):Calls Tryz.prog 299 #[.bool neg,.slice a n c] w (RetI w (Zbb neg m)):=by
  obtain ⟨hsc,hdg,htr,hm⟩:=h;have hsl:=hsc;obtain ⟨a',c',e,hl1,hl2,hA⟩:=hsc;injection e with e1 e2 e3
  subst e1 e2 e3;have HB:=Zh ((Below.refl w.heap.size w).alloc (Nat.le_refl _) (.cells #[.int .i64 0,.slice none 0 0] 133));have HX:=Zh (Box.new w #[.int .i64 0,.slice none 0 0] 133)
  by_cases h0:l=[]
  ·subst h0;have hm0:Zbb neg m=0:=by rw [<-hm];cases neg <;> rfl
   rw [hm0];clear hA hm hm0 hl1 hl2 hdg htr hsl;obtain ⟨x0,x1,xf,xz⟩:=HX.v2;go_enter Tryz.func299,Tryz.ntmps299;go_wp2_with fail;refine bodyPost_ret (v:= .agg #[.int .i64 0,.slice none 0 0]) (by simp [results,Tryz.results299,go_sem, *]) rfl ?_;refine RetI.mk rfl (IntR.small _ (by omega) (by omega)) ?_
   repeat (first|exact HB.out|exact Below.refl _ _|refine .Zs ?_ _|refine .Za ?_ _|refine .drew ?_)
  have hpos:0<l.length:=List.length_pos_iff.2 h0;obtain ⟨b,off,rfl,hbb,hcells⟩:=hA hpos;have HSL:=Zh hsl;have c0:=(hcells 0 hpos).c1;rw [Nat.zero_mul,Nat.add_zero] at c0;have hd0:=hdg.get 0 hpos;clear hA hcells
  by_cases h1:l.length=1/\l[0]<=9223372036854775807
  ·obtain ⟨h1,h2⟩:=h1;have hv:m=l[0]:=by
     obtain ⟨x,rfl⟩:=List.length_eq_one_iff.1 h1;rw [<-hm];simp [val]
   rw [hv];generalize l[0]=x at *;rw [h1] at *;have d1:decide ((x:Int)<=9223372036854775807)=true:=Zt (by omega);have k1:IntKind.i64.wrap (x:Int)=x:=IntWalk.i64_in _ (by omega);have k2:IntKind.i64.wrap (-(x:Int))= -x:=IntWalk.i64_in _ (by omega);have HX2:=Zh h2;clear hm hd0 htr hdg h1 h2 hl1 hl2 hpos h0 hsl;obtain ⟨x0,x1,xf,xz⟩:=HX.v2;cases neg with
   | true=>
     go_enter Tryz.func299,Tryz.ntmps299;go_wp2_with fail;refine bodyPost_ret (v:= .agg #[.int .i64 (-(x:Int)),.slice none 0 0]) (by simp [results,Tryz.results299,go_sem, *]) rfl ?_;refine RetI.mk rfl (IntR.small _ (by have:=HX2.out;omega) (by have:=HX2.out;omega)) ?_
     repeat (first|exact HB.out|exact Below.refl _ _|refine .Zs ?_ _|refine .Za ?_ _|refine .drew ?_)
   | false=>
     go_enter Tryz.func299,Tryz.ntmps299;go_wp2_with fail;refine bodyPost_ret (v:= .agg #[.int .i64 (x:Int),.slice none 0 0]) (by simp [results,Tryz.results299,go_sem, *]) rfl ?_;refine RetI.mk rfl (IntR.small _ (by have:=HX2.out;omega) (by have:=HX2.out;omega)) ?_
     repeat (first|exact HB.out|exact Below.refl _ _|refine .Zs ?_ _|refine .Za ?_ _|refine .drew ?_)
  ·have hbig:9223372036854775807<val (2^64) l:=by
     rcases (show l.length=1∨2<=l.length by omega) with h2|h2
     ·obtain ⟨x,rfl⟩:=List.length_eq_one_iff.1 h2;simp at h1;simp [val];omega
     ·have h3:=htr.le (B:=2^64) hpos;have h4:(2^64)^1<=(2^64)^ (l.length-1):=Nat.pow_le_pow_right (by decide) (by omega);omega
   have HI:=Zh (fun (w':World) (hb:Below w.heap.size w w') (s:Int) (z:Int) (hs:(s=1/\z=(val (2^64) l:Int))∨(s= -1/\z= -(val (2^64) l:Int)))=>
     (Or.inr ⟨s,b,off,l.length,c,l,rfl,HSL.later hb,rfl,hpos,hdg,htr,hbig,hs⟩:IntR w' (.agg #[.int .i64 s,.slice (some ⟨b,off,none⟩) l.length c]) z))
   have HM:=Zh hm;obtain ⟨p,hp⟩: ∃p,(decide (l.length=1) && decide (l[0]<=9223372036854775807))=p:=⟨_,rfl⟩;have hpf:p=false:=by rw [<-hp];simpa using h1
   obtain ⟨N,hN⟩: ∃N,l.length=N:=⟨_,rfl⟩;rw [hN] at HI;have k0:((N:Int)==0)=false:=beq_eq_false_iff_ne.2 (by omega);have HN:=Zh hN;have HP:=Zh (fun (h:N=1)=>show decide ((l[0]:Int)<=9223372036854775807)=false from Zf (fun h3=>h1 ⟨by rw [hN,h],by omega⟩));have hbz:b<(w.alloc (.cells #[.int .i64 0,.slice none 0 0] 133)).heap.size:=by simp;omega
   have c1:(w.alloc (.cells #[.int .i64 0,.slice none 0 0] 133)).cell? ⟨b,off,none⟩=some (.int .u64 (l[0]:Int)):=by
     rw [<-c0];exact ((Below.refl w.heap.size w).alloc (Nat.le_refl _) (.cells #[.int .i64 0,.slice none 0 0] 133)).cell (p:=⟨b,off,none⟩) hbb
   rw [hN] at hl1 hl2 hpos ⊢;generalize l[0]=x at *;clear hbig hp hpf hsl hd0 htr hdg h1 hm hN c0 h0;obtain ⟨x0,x1,xf,xz⟩:=HX.v2
   by_cases hN1:N=1
   ·subst hN1;have d1:=HP.out rfl;clear HP;cases neg with
    | true=>
      go_enter Tryz.func299,Tryz.ntmps299;go_wp2_with fail;refine bodyPost_ret (v:= .agg #[.int .i64 (-1),.slice (some ⟨b,off,none⟩) 1 c]) (by simp [results,Tryz.results299,go_sem, *]) rfl ?_;refine RetI.mk rfl (HI.out _ ?_ (-1) _ (Or.inr ⟨rfl,by rw [HM.out];rfl⟩)) ?_
      all_goals
        repeat (first|exact HB.out|exact Below.refl _ _|refine .Zs ?_ _|refine .Za ?_ _|refine .drew ?_)
    | false=>
      go_enter Tryz.func299,Tryz.ntmps299;go_wp2_with fail;refine bodyPost_ret (v:= .agg #[.int .i64 1,.slice (some ⟨b,off,none⟩) 1 c]) (by simp [results,Tryz.results299,go_sem, *]) rfl ?_;refine RetI.mk rfl (HI.out _ ?_ 1 _ (Or.inl ⟨rfl,by rw [HM.out];rfl⟩)) ?_
      all_goals
        repeat (first|exact HB.out|exact Below.refl _ _|refine .Zs ?_ _|refine .Za ?_ _|refine .drew ?_)
   ·have k1:((N:Int)==1)=false:=beq_eq_false_iff_ne.2 (by omega);clear HP hN1;cases neg with
    | true=>
      go_enter Tryz.func299,Tryz.ntmps299;go_wp2_with fail;refine bodyPost_ret (v:= .agg #[.int .i64 (-1),.slice (some ⟨b,off,none⟩) N c]) (by simp [results,Tryz.results299,go_sem, *]) rfl ?_;refine RetI.mk rfl (HI.out _ ?_ (-1) _ (Or.inr ⟨rfl,by rw [HM.out];rfl⟩)) ?_
      all_goals
        repeat (first|exact HB.out|exact Below.refl _ _|refine .Zs ?_ _|refine .Za ?_ _|refine .drew ?_)
    | false=>
      go_enter Tryz.func299,Tryz.ntmps299;go_wp2_with fail;refine bodyPost_ret (v:= .agg #[.int .i64 1,.slice (some ⟨b,off,none⟩) N c]) (by simp [results,Tryz.results299,go_sem, *]) rfl ?_;refine RetI.mk rfl (HI.out _ ?_ 1 _ (Or.inl ⟨rfl,by rw [HM.out];rfl⟩)) ?_
      all_goals
        repeat (first|exact HB.out|exact Below.refl _ _|refine .Zs ?_ _|refine .Za ?_ _|refine .drew ?_)
theorem IntR.form {w:World} {v:Value} {z:Int} (h:IntR w v z): ∃s a n c,v= .agg #[.int .i64 s,.slice a n c]/\s.sign=z.sign/\ -9223372036854775808<=s/\s<=9223372036854775807/\((a=none/\s=z/\n=0/\c=0)∨a.isNone=false):=by
  rcases h with ⟨rfl,h1,h2⟩|⟨s,b,off,n,c,l,rfl,hsc,hn,hn0,hdg,htr,hbig,hs⟩
  ·exact ⟨z,none,0,0,rfl,rfl,h1,h2,.inl ⟨rfl,rfl,rfl,rfl⟩⟩
  ·refine ⟨s,_,n,c,rfl,?_,?_,?_,.inr rfl⟩
   ·rcases hs with ⟨h1,h2⟩|⟨h1,h2⟩
    ·rw [h1,h2,Int.sign_eq_one_of_pos (by omega:(0:Int)<(val (2^64) l:Int))];rfl
    ·rw [h1,h2,Int.sign_eq_neg_one_of_neg (by omega: -(val (2^64) l:Int)<0)];rfl
   ·rcases hs with ⟨h1,_⟩|⟨h1,_⟩ <;> omega
   ·rcases hs with ⟨h1,_⟩|⟨h1,_⟩ <;> omega
theorem At.box {w:World} {b o k:Nat} {x:Nat} {e:TypeId} {vs:List Value} (h:At w b o (encW x)) (hB:Box w k e vs) (hv: ∀y,Value.int .u64 y∉vs) (j:Nat) (u:Value):At (w.setCell ⟨k,j,none⟩ u) b o (encW x):=by
  have hne:b≠k:=fun e=>by
    subst e;have h1:=h.c1;rw [hB.cell] at h1;exact hv _ (List.mem_of_getElem? h1)
  intro q y hq;rw [World.cell?_setCell_other _ _ _ _ (by intro e;injection e with e1;exact absurd e1 (by omega))];exact h q y hq
theorem Sc.box {w:World} {B:Nat} {v:Value} {l:List Nat} (h:Sc encW 1 w B v l) {k:Nat} {e:TypeId} {vs:List Value} (hB:Box w k e vs) (hv: ∀y,Value.int .u64 y∉vs) (j:Nat) (u:Value):Sc encW 1 (w.setCell ⟨k,j,none⟩ u) B v l:=by
  obtain ⟨a,c,rfl,h1,h2,h⟩:=h;refine ⟨a,c,rfl,h1,h2,fun h0=> ?_⟩;obtain ⟨b,off,rfl,hb,hc⟩:=h h0;exact ⟨b,off,rfl,hb,fun i hi=>At.box (hc i hi) hB hv j u⟩
theorem IntR.box {w:World} {v:Value} {z:Int} (h:IntR w v z) {k:Nat} {e:TypeId} {vs:List Value} (hB:Box w k e vs) (hv: ∀y,Value.int .u64 y∉vs) (j:Nat) (u:Value):IntR (w.setCell ⟨k,j,none⟩ u) v z:=by
  rcases h with h|⟨s,b,off,n,c,l,h1,h2,h3⟩
  ·exact .inl h
  ·exact .inr ⟨s,b,off,n,c,l,h1,by simpa using h2.box hB hv j u,h3⟩
theorem IntR.put {w:World} {v:Value} {z:Int} (h:IntR w v z) {k:Nat} {e:TypeId} {s:Int} {a:Option Addr} {n c:Nat} (hB:Box w k e [.int .i64 s,.slice a n c]) (s1:Int) (v2:Value):IntR ((w.setCell ⟨k,0,none⟩ (.int .i64 s1)).setCell ⟨k,1,none⟩ v2) v z:=
  (h.box hB (by simp) 0 _).box (hB.set 0 (.int .i64 s1)) (by simp) 1 _
theorem Zd9 (w:World) (v:Value) (z:Int) (h:IntR w v z):Calls Tryz.prog 250 #[v] w (Ret (.int .i64 z.sign) w):=by
  obtain ⟨s,a,n,c,rfl,hs,_,_,_⟩:=h.form;rw [<-hs];clear h hs;have HB:=Zh ((Below.refl w.heap.size w).alloc (Nat.le_refl _) (.cells #[.int .i64 s,.slice a n c] 133));have HX:=Zh (Box.new w #[.int .i64 s,.slice a n c] 133);obtain ⟨x0,x1,xf,xz⟩:=HX.v2
  rcases Int.lt_trichotomy s 0 with h0|h0|h0
  ·have h1:s<1:=by omega
   have h2:s<= -1:=by omega
   rw [Int.sign_eq_neg_one_of_neg h0];clear h0;go_enter Tryz.func250,Tryz.ntmps250;go_wp2_with fail;go_ret
   first|exact ⟨rfl,HB.out⟩|exact ⟨by show Ending.returned (Value.int .i64 (max (-1) (min 1 s)))=_;rw [show max (-1) (min 1 s)= -1 by omega],HB.out⟩
  ·subst h0;go_enter Tryz.func250,Tryz.ntmps250;go_wp2_with fail;go_ret;exact ⟨rfl,HB.out⟩
  ·have h1: ¬s<1:=by omega
   rw [Int.sign_eq_one_of_pos h0];clear h0;go_enter Tryz.func250,Tryz.ntmps250;go_wp2_with fail;go_ret
   first|exact ⟨rfl,HB.out⟩|exact ⟨by show Ending.returned (Value.int .i64 (max (-1) (min 1 s)))=_;rw [show max (-1) (min 1 s)=1 by omega],HB.out⟩
theorem Zjq (z:Int):Zbb (!decide (z<0)) z.natAbs= -z:=by
  unfold Zbb
  by_cases h:z<0
  ·rw [Zt h];simp;omega
  ·rw [Zf h];simp;omega
theorem Ziq (w:World) (v:Value) (z:Int) (h:IntR w v z):Calls Tryz.prog 260 #[v] w (RetI w (-z)):=by
  obtain ⟨s,a,n,c,rfl,_,hs1,hs2,hf⟩:=h.form;have hq:=fun (w:World) (a:Option Addr) (n c:Nat)=>Lib.run_eql_slice_nil w 131 345 a n c 0 0 Tryz.underlying131;have HP:=Zh (fun (w1:World) (hb:Below w.heap.size w w1)=>Zcz w1 _ z (h.later hb));have HB0:=Zh ((Below.refl w.heap.size w).alloc (Nat.le_refl _) (.cells #[.int .i64 s,.slice a n c] 133));have HB:=Zh (HB0.alloc HB0.size (.cells #[.int .i64 0,.slice none 0 0] 133));have HX:=Zh ((Box.new w #[.int .i64 s,.slice a n c] 133).alloc (.cells #[.int .i64 0,.slice none 0 0] 133));have HY:=Zh (Box.newAt (w.alloc (.cells #[.int .i64 s,.slice a n c] 133)) #[.int .i64 0,.slice none 0 0] 133 (n:=w.heap.size+1) (by simp));obtain ⟨x0,x1,xf,xz⟩:=HX.v2;obtain ⟨y0,y1,yf,yz⟩:=HY.v2;clear HB0 h;obtain ⟨big,hbig⟩: ∃big:Bool,big=(decide (a≠none) || decide (z= -9223372036854775808)):=⟨_,rfl⟩;cases hb:big with
  | false=>
    rw [hb] at hbig;have h1:a=none/\z≠ -9223372036854775808:=by
     have:=hbig.symm;rw [Bool.or_eq_false_iff,decide_eq_false_iff_not,decide_eq_false_iff_not] at this;exact ⟨Decidable.not_not.1 this.1,this.2⟩
    obtain ⟨rfl,h2⟩:=h1
    rcases hf with ⟨_,rfl,rfl,rfl⟩|h3
    rotate_left
    ·cases h3
    have k1:(s== -9223372036854775808)=false:=beq_eq_false_iff_ne.2 h2;have k2:IntKind.i64.wrap (-s)= -s:=IntWalk.i64_in _ (by omega);have HR:=Zh (show -9223372036854775808<= -s/\ -s<=9223372036854775807 by omega);clear hbig h2 hs1 hs2 HP;go_enter Tryz.func260,Tryz.ntmps260;go_wp2_with fail;refine bodyPost_ret (v:= .agg #[.int .i64 (-s),.slice none 0 0]) (by simp [results,Tryz.results260,go_sem, *]) rfl ?_;refine RetI.mk rfl (IntR.small _ HR.out.1 HR.out.2) ?_
    repeat (first|exact HB.out|exact Below.refl _ _|refine .Zs ?_ _|refine .Za ?_ _|refine .drew ?_)
  | true=>
    rw [hb] at hbig;have h1:a=none->(s== -9223372036854775808)=true:=fun e=>by
     subst e;simp at hbig
     rcases hf with ⟨_,rfl,_⟩|h3
     ·simp [hbig]
     ·cases h3
    clear hbig hf hs1 hs2;obtain ⟨q,hq1⟩: ∃q,decide (z<0)=q:=⟨_,rfl⟩;have HQ:=Zh hq1;unfold Zdz at HP;rw [hq1] at HP;clear hq1
    rcases a with _|a
    all_goals
      try have k1:=h1 rfl
      clear h1;go_enter Tryz.func260,Tryz.ntmps260;go_wp2_with fail;refine (HP.out _ HB.out).mono ?_;rintro e2 w2 ⟨a2,n2,c2,l2,rfl,hw2,hn2,hb⟩;have HM:=Zh (fun (w1:World) (hb:Below w2.heap.size w2 w1)=>Zf5 w1 (!q) a2 n2 c2 l2 _ (hw2.later hb));have HB2:=Zh (HB.Zg hb);have HY2:=Zh (HY.later hb);clear hb hw2 hn2 x0 x1 xf xz y0 y1 yf yz;obtain ⟨y0,y1,yf,yz⟩:=HY2.v2;go_wp2_with fail;refine (HM.out _ (Below.refl _ _)).mono ?_;rintro e3 w3 ⟨v3,rfl,hi3,hb⟩;have HI:=Zh hi3;have HB3:=Zh (HB2.Zg hb);have HY3:=Zh (HY2.later hb);obtain ⟨s3,a3,n3,c3,rfl,_,_,_,_⟩:=hi3.form;clear hb hi3 y0 y1 yf yz;obtain ⟨y0,y1,yf,yz⟩:=HY3.v2;go_wp2_with fail;refine bodyPost_ret (v:= .agg #[.int .i64 s3,.slice a3 n3 c3]) (by simp [results,Tryz.results260,go_sem, *]) rfl ?_;refine RetI.mk rfl (by rw [<-Zjq,HQ.out];exact HI.put HY3.out _ _) ?_
      repeat (first|exact HB3.out|exact Below.refl _ _|refine .Zs ?_ _|refine .Za ?_ _|refine .drew ?_)
theorem Zoz (w:World) (v:Value) (z:Int) (h:IntR w v z):Calls Tryz.prog 255 #[v] w (RetI w (z.natAbs:Int)):=by
  obtain ⟨s,a,n,c,rfl,hs0,hs1,hs2,hf⟩:=h.form;have HP:=Zh (fun (w1:World) (hb:Below w.heap.size w w1)=>Ziq w1 _ z (h.later hb));have HI0:=Zh h;have HB0:=Zh ((Below.refl w.heap.size w).alloc (Nat.le_refl _) (.cells #[.int .i64 s,.slice a n c] 133));have HB:=Zh (HB0.alloc HB0.size (.cells #[.int .i64 0,.slice none 0 0] 133));have HX:=Zh ((Box.new w #[.int .i64 s,.slice a n c] 133).alloc (.cells #[.int .i64 0,.slice none 0 0] 133));have HY:=Zh (Box.newAt (w.alloc (.cells #[.int .i64 s,.slice a n c] 133)) #[.int .i64 0,.slice none 0 0] 133 (n:=w.heap.size+1) (by simp));obtain ⟨x0,x1,xf,xz⟩:=HX.v2;obtain ⟨y0,y1,yf,yz⟩:=HY.v2;clear HB0 h
  by_cases hz:z<0
  ·have d0:decide (s<0)=true:=Zt (by rw [Int.sign_eq_neg_one_of_neg hz] at hs0;exact Int.neg_of_sign_eq_neg_one hs0);have HZ:=Zh (show -z=(z.natAbs:Int) by omega);clear hs0 hs1 hs2 hf hz;go_enter Tryz.func255,Tryz.ntmps255;go_wp2_with fail;refine (HP.out _ HB.out).mono ?_;rintro e3 w3 ⟨v3,rfl,hi3,hb⟩;have HI:=Zh hi3;have HB3:=Zh (HB.Zg hb);have HY3:=Zh (HY.later hb);obtain ⟨s3,a3,n3,c3,rfl,_,_,_,_⟩:=hi3.form;clear hb hi3 y0 y1 yf yz x0 x1 xf xz;obtain ⟨y0,y1,yf,yz⟩:=HY3.v2;go_wp2_with fail;refine bodyPost_ret (v:= .agg #[.int .i64 s3,.slice a3 n3 c3]) (by simp [results,Tryz.results255,go_sem, *]) rfl ?_;refine RetI.mk rfl (by rw [<-HZ.out];exact HI.put HY3.out _ _) ?_
   repeat (first|exact HB3.out|exact Below.refl _ _|refine .Zs ?_ _|refine .Za ?_ _|refine .drew ?_)
  ·have d0:decide (s<0)=false:=Zf (fun h1=>by rw [Int.sign_eq_neg_one_of_neg h1] at hs0;exact hz (Int.neg_of_sign_eq_neg_one hs0.symm));have HZ:=Zh (show z=(z.natAbs:Int) by omega);clear hs0 hs1 hs2 hf hz;go_enter Tryz.func255,Tryz.ntmps255;go_wp2_with fail;refine bodyPost_ret (v:= .agg #[.int .i64 s,.slice a n c]) (by simp [results,Tryz.results255,go_sem, *]) rfl ?_;have HB9:Below w.heap.size w ((w.alloc (.cells #[.int .i64 s,.slice a n c] 133)).alloc (.cells #[.int .i64 s,.slice a n c] 133)):=((Below.refl w.heap.size w).alloc (Nat.le_refl _) _).alloc (by simp) _;exact RetI.mk rfl (by rw [<-HZ.out];exact HI0.later HB9) HB9
end Go.Proofs.YtijajkfmlghgkaaGreatDoor.Nu
