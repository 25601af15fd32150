/- Lemmas on the way to the law TopMirrored: Vc Vg Vi Vj Ve Vf Vh Vk Vd Vn Vo Rz Vp -/
import Derived.Test.YtijajkfmlghgkaaGreatDoorTopMirroredP19
import Derived.Laws.IdiomCopy
import Derived.WalkSmall
set_option linter.unusedVariables false
set_option linter.unusedSimpArgs false
set_option maxRecDepth 100000
set_option maxHeartbeats 4000000
namespace Go.Proofs.YtijajkfmlghgkaaGreatDoor.Nu
open Go Go.Proofs Go.RowKit Go.Proofs.YtijajkfmlghgkaaGreatDoor
def keyL (ms:List Int):List UInt8:=ms.flatMap fun z=>Lib.itoa z++ [32]
theorem Zmo (ms:List Int) (k:Nat) (h:k<ms.length):keyL (ms.take (k+1))=keyL (ms.take k)++(Lib.itoa ms[k]++ [32]):=by
  unfold keyL;rw [List.take_succ_eq_append_getElem h,List.flatMap_append];simp
theorem Zmp {z:Int} (h:MsP z):(Lib.itoa z).length<=10:=Zdu (k:=9) (by decide) (by have:=h.1;have:=h.2;omega)
theorem Zg3: ∀ (ms:List Int),(∀z∈ms,MsP z)->(keyL ms).length<=11* ms.length
  | [],_=>by simp [keyL]
  | z::ms,h=>by
    have h1:=Zg3 ms (fun x hx=>h x (by simp [hx]));have h2:=Zmp (h z (by simp));have e:keyL (z::ms)=(Lib.itoa z++ [32])++keyL ms:=by simp [keyL]
    rw [e,List.length_append,List.length_append,List.length_cons,List.length_cons,List.length_nil];omega
theorem Zsi (w:World) (hw:TbR w) (v:Value) (ms:List Int) (h:Sl encI 1 w w.heap.size v ms) (hm: ∀z∈ms,MsP z) (hn1:ms.length<=1000):Calls Tryz.prog 149 #[v] w (Ret (.string (tx (keyL ms))) w):=by
  obtain ⟨a,c,rfl,hl,p⟩:=h;have HP:=Zh p;have HIT:=Zh (fun (u:World) (hb:Below w.heap.size w u) (k:Nat) (hk:k<ms.length)=>(by have:=hm _ (List.getElem_mem hk);exact Zk8 u (hw.later hb) ms[k] (by omega) (by omega):Calls Tryz.prog 220 #[.int .i64 ms[k]] u (Ret (.string (txz ms[k])) u)));have HKS:=Zh (fun (k:Nat) (h:k<ms.length)=>(show tx (keyL (ms.take k))++(txz ms[k]++⟨#[32]⟩)=tx (keyL (ms.take (k+1))) from by
    rw [Zmo ms k h,show (⟨#[32]⟩:ByteArray)=tx [32] from rfl,show txz ms[k]=tx (Lib.itoa ms[k]) from rfl,Zfl,Zfl]))
  have HSZ:=Zh (fun (k:Nat) (h:k<ms.length)=>(show (tx (keyL (ms.take k))).size<=11000/\(txz ms[k]).size<=10 from ⟨by
    rw [Zan];have:=Zg3 (ms.take k) (fun z hz=>hm z (List.mem_of_mem_take hz));rw [List.length_take] at this;omega,by rw [show txz ms[k]=tx (Lib.itoa ms[k]) from rfl,Zan];exact Zmp (hm _ (List.getElem_mem h))⟩))
  obtain ⟨n,hn⟩: ∃n,ms.length=n:=⟨_,rfl⟩;have HN:=Zh hn;have HALL:=Zh (show keyL (ms.take n)=keyL ms by rw [List.take_of_length_le (by omega)]);rw [hn] at hl hn1 ⊢;clear hn p hm hw;go_enter Tryz.func149,Tryz.ntmps149;go_wp2_with fail
  go_loopw [3,8] (fun s i wr=> ∃k:Nat,k<=n/\i= .int .i64 k/\s= .string (tx (keyL (ms.take k)))/\Hid (Below w.heap.size w wr)) (fun _ i _=>n-(intOf i).toNat)
  case atStart=>exact ⟨0,by omega,rfl,rfl,Zh (Below.refl _ _)⟩
  case round=>
    obtain ⟨k,hk,rfl,rfl,HBE⟩:=hrel
    by_cases hlt:k<n
    ·have hk1:k<ms.length:=by rw [HN.out];exact hlt
     obtain ⟨b1,o1,rfl,l1,q1⟩:=HP.out (by omega);have d1:=((q1 k hk1).below HBE.out l1) 0 _ rfl;rw [Nat.mul_one,Nat.add_zero] at d1;have e1:b1<wr.heap.size:=Nat.lt_of_lt_of_le l1 HBE.size;have HS:=Zh (HIT.out _ HBE.out k hk1);have HK:=Zh (HKS.out k hk1);obtain ⟨z1,z2⟩:=HSZ.out k hk1;clear q1 HP HIT HKS HALL HSZ;obtain ⟨S2,hS2⟩: ∃S,tx (keyL (ms.take (k+1)))=S:=⟨_,rfl⟩;rw [hS2] at HK;have HS2:=Zh hS2;clear hS2;generalize tx (keyL (ms.take k))=S1 at *;generalize txz ms[k]=T at *;generalize ms[k]=z at *;have z3:(⟨#[32]⟩:ByteArray).size=1:=rfl;have z4:(T++⟨#[32]⟩:ByteArray).size<=11:=by rw [ByteArray.size_append];omega
     go_wp2_with fail;refine HS.mono ?_;rintro e5 w5 ⟨rfl,hb⟩;have HB5:=Zh (HBE.Zg hb);clear hb d1;go_wp2_with fail;go_roundw
     case rel=>exact ⟨k+1,by omega,by go_num,by rw [HK.out,HS2.out],HB5⟩
     case measure=>simp [intOf];omega
    ·obtain rfl:n=k:=by omega
     clear HP HIT HKS HSZ;rw [HALL.out];go_wp2_with fail;go_ret;exact ⟨rfl,HBE.out⟩
def sumI:List Int->Int
  | []=>0
  | z::l=>z+sumI l
theorem Zop (a b:List Int):sumI (a++b)=sumI a+sumI b:=by
  induction a with
  | nil=>simp [sumI]
  | cons z a ih=>simp only [List.cons_append,sumI,ih];omega
theorem Zmq (l:List Int) (k:Nat) (h:k<l.length):sumI (l.take (k+1))=sumI (l.take k)+l[k]:=by
  rw [List.take_succ_eq_append_getElem h,Zop];simp [sumI]
theorem Zmr: ∀ (l:List Int),(∀z∈l,MsP z)->0<=sumI l/\sumI l<=999999999* (l.length:Int)
  | [],_=>by simp [sumI]
  | z::l,h=>by
    have h1:=Zmr l (fun x hx=>h x (by simp [hx]));have h2:=h z (by simp);simp only [sumI,List.length_cons];omega
theorem Zkd (w:World) (v:Value) (ms:List Int) (h:Sl encI 1 w w.heap.size v ms) (hm: ∀z∈ms,MsP z) (hn1:ms.length<=1000) (hpos:sumI ms≠0):Calls Tryz.prog 130 #[v] w (Ret (.tuple #[.int .i64 (sumI ms),.int .i64 0]) w):=by
  obtain ⟨a,c,rfl,hl,p⟩:=h;have HP:=Zh p;have HKS:=Zh (fun (k:Nat) (h:k<ms.length)=>Zmq ms k h);have HSZ:=Zh (fun (k:Nat) (h:k<ms.length)=>(show 0<=sumI (ms.take k)/\sumI (ms.take k)<=999999999000/\MsP ms[k] from by
    have:=Zmr (ms.take k) (fun z hz=>hm z (List.mem_of_mem_take hz));rw [List.length_take] at this;exact ⟨this.1,by omega,hm _ (List.getElem_mem h)⟩))
  obtain ⟨n,hn⟩: ∃n,ms.length=n:=⟨_,rfl⟩;have HN:=Zh hn;have HALL:=Zh (show sumI (ms.take n)=sumI ms by rw [List.take_of_length_le (by omega)]);rw [hn] at hl hn1 ⊢;clear hn p hm;obtain ⟨S,hS⟩: ∃S,sumI ms=S:=⟨_,rfl⟩;rw [hS] at hpos HALL ⊢;have g0:(S==0)=false:=beq_eq_false_iff_ne.2 hpos;clear hS hpos;go_enter Tryz.func130,Tryz.ntmps130;go_wp2_with fail
  go_loopw [4,9] (fun s i wr=> ∃k:Nat,k<=n/\i= .int .i64 k/\s= .int .i64 (sumI (ms.take k))/\Hid (Below w.heap.size w wr)) (fun _ i _=>n-(intOf i).toNat)
  case atStart=>exact ⟨0,by omega,rfl,rfl,Zh (Below.refl _ _)⟩
  case round=>
    obtain ⟨k,hk,rfl,rfl,HBE⟩:=hrel
    by_cases hlt:k<n
    ·have hk1:k<ms.length:=by rw [HN.out];exact hlt
     obtain ⟨b1,o1,rfl,l1,q1⟩:=HP.out (by omega);have d1:=((q1 k hk1).below HBE.out l1) 0 _ rfl;rw [Nat.mul_one,Nat.add_zero] at d1;have e1:b1<wr.heap.size:=Nat.lt_of_lt_of_le l1 HBE.size;obtain ⟨z1,z2,z3,z4⟩:=HSZ.out k hk1;have HK:=Zh (HKS.out k hk1);clear q1 HP HKS HALL HSZ;obtain ⟨S2,hS2⟩: ∃S2,sumI (ms.take (k+1))=S2:=⟨_,rfl⟩;rw [hS2] at HK;have HS2:=Zh hS2;clear hS2;generalize sumI (ms.take k)=S1 at *;generalize ms[k]=z at *;have f1:decide (z<0)=false:=Zf (by omega);have f2:decide (999999999<z)=false:=Zf (by omega);go_wp2_with fail;go_roundw
     case rel=>exact ⟨k+1,by omega,by go_num,by rw [HS2.out,HK.out],HBE⟩
     case measure=>simp [intOf];omega
    ·obtain rfl:n=k:=by omega
     clear HP HKS HSZ;rw [HALL.out];go_wp2_with fail;refine bodyPost_ret (v:= .tuple #[.int .i64 S,.int .i64 0]) (by simp [results,Tryz.results130,go_sem, *]) rfl ?_;exact ⟨rfl,HBE.out⟩
theorem Zhx (w:World) (r c:Nat) (p1 p2 p3:Value) (h0:w.cell? ⟨r,0,none⟩=some (.int .i64 0)) (h1:w.cell? ⟨r,1,none⟩=some (.int .i64 1)) (hr:r<w.heap.size)
    (hc: ∀u,Below w.heap.size w u->Calls Tryz.prog 280 #[.int .i64 1,.int .i64 0,p1,p2,p3] u (Ret (.int .i64 0) u)):
    Calls Tryz.prog 389 #[.slice (some ⟨r,0,none⟩) 2 c,.int .i64 0,.int .i64 2,.func (.func 280) #[] #[p1,p2,p3]] w (fun e w'=>(∃v,e= .returned v)/\Below w.heap.size w w'):=by
 have HC:=Zh hc;have H0:=Zh h0;have H1:=Zh h1;clear hc h0 h1;go_enter Tryz.func389,Tryz.ntmps389;go_wp2_with fail
 go_loopw [8] (fun i wr=>Hid (Below w.heap.size w wr)/\(i= .int .i64 1∨i= .int .i64 2)) (fun i _=>2-(intOf i).toNat)
 case atStart=>exact ⟨Zh (Below.refl _ _),.inl rfl⟩
 case round=>
   obtain ⟨HBE,rfl|rfl⟩:=hrel
   ·go_wp2_with fail
    go_loopw [9] (fun i wi=>Hid (Below w.heap.size w wi)/\i= .int .i64 1) (fun i _=>2-(intOf i).toNat)
    case atStart=>exact ⟨HBE,rfl⟩
    case round=>
      obtain ⟨HBI,rfl⟩:=hrel;have d0:=(HBI.cell (p:=⟨r,0,none⟩) hr).trans H0.out;have d1:=(HBI.cell (p:=⟨r,1,none⟩) hr).trans H1.out;have hb1:r<wr.heap.size:=Nat.lt_of_lt_of_le hr HBI.size;go_wp2_with fail;refine Zbn 14 (by kernel_rfl) (by kernel_rfl) ?_;simp only [Z2,Z6,Z3,Z7]
      repeat go_big_quiet_step (fail)
      refine wpQuiet_nil ?_;rintro w14 ⟨⟨_,hb14⟩,rfl⟩;have HB14:=Zh (HBI.Zg hb14);have HS:=Zh (HC.out _ HB14.out);clear hb14 d0 d1 hb1;go_wp2_with fail;refine HS.mono ?_;rintro e4 w4 ⟨rfl,hb4⟩;have HB4:=Zh (HB14.Zg hb4);clear hb4;go_wp2_with fail;go_roundw
      case rel=>exact ⟨HB4,.inr rfl⟩
      case measure=>simp [intOf]
   ·go_wp2_with fail;refine bodyPost_end (v:= .tuple #[]) (by simp [results,Tryz.results389,go_sem, *]) rfl ?_;exact ⟨⟨_,rfl⟩,HBE.out⟩
theorem Zms (w:World) (r c:Nat) (p1 p2 p3:Value) (h0:w.cell? ⟨r,0,none⟩=some (.int .i64 0)) (h1:w.cell? ⟨r,1,none⟩=some (.int .i64 1)) (hr:r<w.heap.size)
    (hc: ∀u,Below w.heap.size w u->Calls Tryz.prog 280 #[.int .i64 1,.int .i64 0,p1,p2,p3] u (Ret (.int .i64 0) u)):
    Calls Tryz.prog 337 #[.slice (some ⟨r,0,none⟩) 2 c,.int .i64 2,.func (.func 280) #[] #[p1,p2,p3]] w (fun e w'=>(∃v,e= .returned v)/\Below w.heap.size w w'):=by
 have HS:=Zh (Zhx w r c p1 p2 p3 h0 h1 hr hc);clear h0 h1 hr hc;go_enter Tryz.func337,Tryz.ntmps337;go_wp2_with fail
 go_loopw [7,8] (fun a b wr=>wr=w/\a= .int .i64 0/\b= .int .i64 20) (fun _ _ _=>0)
 case atStart=>exact ⟨rfl,rfl,rfl⟩
 case round=>
   obtain ⟨rfl,rfl,rfl⟩:=hrel;go_wp2_with fail;refine HS.mono ?_;rintro e4 w4 ⟨⟨v,rfl⟩,hb⟩;have HB:=Zh hb;clear hb HS;go_wp2_with fail
   go_loopw [6] (fun a wi=>wi=w4/\a= .int .i64 20) (fun _ _=>0)
   case atStart=>exact ⟨rfl,rfl⟩
   case round=>
     obtain ⟨rfl,rfl⟩:=hrel;go_wp2_with fail;refine bodyPost_end (v:= .tuple #[]) (by simp [results,Tryz.results337,go_sem, *]) rfl ?_;exact ⟨⟨_,rfl⟩,HB.out⟩
theorem Zq2 (w:World) (r c:Nat) (p1 p2 p3:Value) (h0:w.cell? ⟨r,0,none⟩=some (.int .i64 0)) (h1:w.cell? ⟨r,1,none⟩=some (.int .i64 1)) (hr:r<w.heap.size)
    (hc: ∀u,Below w.heap.size w u->Calls Tryz.prog 280 #[.int .i64 1,.int .i64 0,p1,p2,p3] u (Ret (.int .i64 0) u)):
    Calls Tryz.prog 279 #[.slice (some ⟨r,0,none⟩) 2 c,.func (.func 280) #[] #[p1,p2,p3]] w (fun e w'=>(∃v,e= .returned v)/\Below w.heap.size w w'):=by
 have HS:=Zh (Zms w r c p1 p2 p3 h0 h1 hr hc);clear h0 h1 hr hc;go_enter Tryz.func279,Tryz.ntmps279;go_wp2_with fail;refine HS.mono ?_;rintro e4 w4 ⟨⟨v,rfl⟩,hb⟩;have HB:=Zh hb;clear hb HS;go_wp2_with fail;refine bodyPost_end (v:= .tuple #[]) (by simp [results,Tryz.results279,go_sem, *]) rfl ?_;exact ⟨⟨_,rfl⟩,HB.out⟩
theorem Zsj (w:World):Calls Tryz.prog 278 #[.int .u64 1,.int .u64 2] w (Ret (.tuple #[.int .u64 0,.int .u64 2]) w):=by
  have HS:=Zh (Tryz.bits_Mul64 1 2 (by decide) (by decide) w);go_enter Tryz.func278,Tryz.ntmps278;go_wp2_with fail;refine HS.mono ?_;rintro e4 w4 ⟨rfl,rfl⟩;go_wp2_with fail;refine bodyPost_ret (v:= .tuple #[.int .u64 0,.int .u64 2]) (by simp [results,Tryz.results278,go_sem, *]) rfl ?_;exact ⟨rfl,Below.refl _ _⟩
theorem Zoq:(Tryz.prog.info? 3).map (fun i=>(i.zero,i.size,i.bytes))=some (some (.int .i64 0),1,8):=by kernel_rfl
theorem Zjj {α:Type} {f:α->List Value} {sz:Nat} (hf: ∀x,(f x).length=sz) {w:World} {g:Nat} {e:TypeId} (l:List α) (hB:Box w g e (l.flatMap f)) (n c:Nat) (hn:l.length=n) (hl:n<=1000000):
    Sl f sz w w.heap.size (.slice (some ⟨g,0,none⟩) n c) l:=by
 subst hn;refine ⟨_,c,rfl,by omega,fun _=>⟨g,0,rfl,hB.lt,fun i h j u hu=> ?_⟩⟩;have hj:j<sz:=by
   rw [<-hf l[i]];exact (List.getElem?_eq_some_iff.1 hu).1
 rw [hB.cell,show 0+i* sz+j=i* sz+j by omega,Zce f sz hf l i h j hj];exact hu
theorem Zjk (w:World) (g o dl dc b q sl sc:Nat) (vs:List Value) (z:Int) (hB:Box w g 3 vs) (ho:o<vs.length) (hn:Nat.min sl dl=1) (hc:w.cell? ⟨b,q,none⟩=some (.int .i64 z)):
    (Builtin.copy_ #[27,27] 3 #[.slice (some ⟨g,o,none⟩) dl dc,.slice (some ⟨b,q,none⟩) sl sc]).run Tryz.prog w= .ok (.int .i64 1) (w.setCell ⟨g,o,none⟩ (.int .i64 z)):=by
 have h:=run_copy_cells (P:=Tryz.prog) w 27 27 3 3 g o dl dc ⟨b,q,none⟩ sl sc [.int .i64 z] Tryz.underlying27 (by kernel_rfl) hn.symm (fun j v hj=>by
   obtain rfl:j=0:=by have:=(List.getElem?_eq_some_iff.1 hj).1;simp at this;omega
   simp at hj;subst hj;exact hc) (fun j hj=>by
   obtain rfl:j=0:=by simp at hj;omega
   rw [Nat.add_zero,hB.cell,List.getElem?_eq_getElem ho];rfl) (fun j hj=>hB.frozen _) (fun v hv=>by
   obtain rfl:=List.mem_singleton.1 hv;rfl)
 exact h
theorem Zmt (w:World) (v:Value) (h:Sl encI 1 w w.heap.size v [1]):Calls Tryz.prog 216 #[v,.int .i64 2] w (fun e w'=> ∃v',e= .returned v'/\Sl encI 1 w' w'.heap.size v' [1,1]/\Below w.heap.size w w'):=by
  obtain ⟨a,c,rfl,-,p⟩:=h;obtain ⟨b,o,rfl,l1,q⟩:=p (by simp);have d1:=q 0 (by simp) 0 _ rfl;rw [Nat.mul_one,Nat.add_zero] at d1;have d2:w.cell? ⟨b,o,none⟩=some (.int .i64 1):=d1;clear d1 p q;simp only [List.length_cons,List.length_nil];have HM:=Zh (fun (u:World)=>Zsj u);go_enter Tryz.func216,Tryz.ntmps216;go_wp2_with fail;refine (HM.out _).mono ?_;rintro e4 w4 ⟨rfl,hb⟩;have HB:=Zh hb;have HIN:=Zh Zoq;have d3:=hb.cell (p:=⟨b,o,none⟩) l1;rw [d2] at d3;clear d2 hb;go_wp2_with (at_make;refine Zb2 encI 1 (fun _=>rfl) (by decide) 0 (.int .i64 0) rfl 27 3 8 Tryz.underlying27 HIN.out (by decide) w4.heap.size w4 2 (by omega) (Nat.le_refl _) rfl _ _ rfl .i64 .i64 rfl rfl ?_;intro w3 ho3 hg3);have hB:Box w3 w4.heap.size 3 [.int .i64 0,.int .i64 0]:=Own.box ho3;have hb3:Below w4.heap.size w4 w3:=⟨hg3.os,hg3.tape,hg3.output,hg3.size,fun k hk=>hg3.block k hk (by simp)⟩;have hlt:=hB.lt;have hbw:b<w4.heap.size:=Nat.lt_of_lt_of_le l1 HB.size;have d4:w3.cell? ⟨b,o,none⟩=some (.int .i64 1):=(hb3.cell (p:=⟨b,o,none⟩) hbw).trans d3;have HB3:=Zh (HB.Zg hb3);have hsz4:w.heap.size<=w4.heap.size:=HB.size;have hcp:=Zjk w3 w4.heap.size 0 2 2 b o 1 c [.int .i64 0,.int .i64 0] 1 hB (by decide) (by decide) d4;have hB2:=Zh (Box.set hB 0 (.int .i64 1):Box (w3.setCell ⟨w4.heap.size,0,none⟩ (.int .i64 1)) w4.heap.size 3 [.int .i64 1,.int .i64 0]);have HB4:=Zh (show Below w.heap.size w (w3.setCell ⟨w4.heap.size,0,none⟩ (.int .i64 1)) from HB3.setCell hsz4 _);clear d3 d4 hB hb3 ho3 hg3;rw [hcp];go_wp2_with fail;generalize w3.setCell ⟨w4.heap.size,0,none⟩ (.int .i64 1)=w5 at *;clear hcp
  go_loopw [8] (fun i wr=>Hid (Below w.heap.size w wr)/\((i= .int .i64 1/\Hid (Box wr w4.heap.size 3 [.int .i64 1,.int .i64 0]))∨(i= .int .i64 2/\Hid (Box wr w4.heap.size 3 [.int .i64 1,.int .i64 1])))) (fun i _=>2-(intOf i).toNat)
  case atStart=>exact ⟨HB4,.inl ⟨rfl,hB2⟩⟩
  case round=>
    obtain ⟨HBE,⟨rfl,HX⟩|⟨rfl,HX⟩⟩:=hrel
    ·clear hB2 HB4;go_wp2_with fail;refine Zch 8 7 [.pure,.pure,.pure,.rel,.pure,.pure,.rel,.app] (kxs [.is (.int .i64 1),.is (.slice (some ⟨w4.heap.size,0,none⟩) 2 2),.is (.int .i64 1),.is (.slice (some ⟨w4.heap.size,1,none⟩) 1 1),.is (.slice (some ⟨w4.heap.size,0,none⟩) 2 2),.is (.int .i64 1),.is (.slice (some ⟨w4.heap.size,0,none⟩) 1 2),.is undef]) (fun v u=>v= .int .i64 1/\Below w.heap.size w u/\Box u w4.heap.size 3 [.int .i64 1,.int .i64 1]) (by kernel_rfl) (by kernel_rfl) (by kernel_rfl) (fun j v u u' h hb=>Kx.later h hb) (fun j hj v u u' h=>Zgr [.pure,.pure,.pure,.rel,.pure,.pure,.rel,.app] _ (by kernel_rfl) j hj h) ?_ ?_
     ·refine ⟨?_,?_,?_,?_,?_,?_,?_,?_,trivial⟩
      all_goals
        first|intro vs u hu hR|intro vs u hR
        simp only [Zac,Z2,Z6,Act.put,Z1,Z4,Z5]
      rotate_left;rotate_left;rotate_left;have e1:vs 1=_:=Zr hR 1;have e2:vs 2=_:=Zr hR 2;rotate_left;rotate_left;rotate_left;have e4:vs 4=_:=Zr hR 4;have e5:vs 5=_:=Zr hR 5;rotate_left
      ·have e3:vs 3=_:=Zr hR 3;have e6:vs 6=_:=Zr hR 6;have hX14:=HX.later hu;have HB14:=Zh (HBE.Zg hu);have hcp:=Zjk u w4.heap.size 1 1 1 w4.heap.size 0 1 2 [.int .i64 1,.int .i64 0] 1 hX14 (by decide) (by decide) (hX14.cell 0);have HX15:=Zh (Box.set hX14 1 (.int .i64 1):Box (u.setCell ⟨w4.heap.size,1,none⟩ (.int .i64 1)) w4.heap.size 3 [.int .i64 1,.int .i64 1]);have HB15:=Zh (show Below w.heap.size w (u.setCell ⟨w4.heap.size,1,none⟩ (.int .i64 1)) from HB14.setCell hsz4 _);clear hX14 hR hu;go_wp2_with fail;exact ⟨rfl,rfl,_,_,rfl,rfl,rfl,HB15.out,HX15.out⟩
      all_goals
        clear hR
        try clear hu
        go_wp2_with fail
        first|exact ⟨rfl,rfl,_,_,rfl,rfl,rfl,rfl⟩|exact ⟨rfl,rfl,_,_,rfl,rfl,Below.refl _ _,rfl⟩
     ·intro vs u hap hR;obtain ⟨e7,hb15,hx15⟩:=hap;have HB15:=Zh hb15;have HX15:=Zh hx15;have e0:vs 0= .int .i64 1:=hR (0) (by decide) (by kernel_rfl);simp only [Zac,Z3,Z7,Z2,Z6,Act.put,Z1,Z4,Z5,e0,e7];clear hR hb15 hx15 e0 e7;go_wp2_with fail;go_roundw
      case rel=>exact ⟨HB15,.inr ⟨rfl,HX15⟩⟩
      case measure=>simp [intOf]
    ·go_wp2_with fail;go_ret;exact ⟨_,rfl,Zjj (f:=encI) (sz:=1) (fun _=>rfl) [1,1] HX.out 2 2 rfl (by decide),HBE.out⟩
theorem Zor (w:World) (z:Int):Calls Tryz.prog 338 #[.int .i64 z] w (Ret (.bool false) w):=by
  go_enter Tryz.func338,Tryz.ntmps338;go_wp2_with fail;go_ret;exact ⟨rfl,Below.refl _ _⟩
theorem Zke (w:World) (z:Int):Calls Tryz.prog 281 #[.int .i64 z,.int .i64 z] w (Ret (.int .i64 0) w):=by
  have H:=Zh (fun (u:World)=>Zor u z);have f1:decide (z<z)=false:=Zf (by omega);go_enter Tryz.func281,Tryz.ntmps281;go_wp2_with fail;refine (H.out _).mono ?_;rintro e4 w4 ⟨rfl,hb4⟩;have HB4:=Zh hb4;clear hb4;go_wp2_with fail;refine (H.out _).mono ?_;rintro e5 w5 ⟨rfl,hb5⟩;have HB5:=Zh (HB4.Zg hb5);clear hb5;go_wp2_with fail;go_ret;exact ⟨rfl,HB5.out⟩
theorem Zos (w:World) (bz bw bt g o:Nat) (n c:Nat) (i j:Nat) (hz:w.cell? ⟨bz,0,none⟩=some (.int .i64 40)) (hw:w.cell? ⟨bw,0,none⟩=some (.slice (some ⟨g,o,none⟩) n c)) (ht:w.cell? ⟨bt,0,none⟩=some (.int .i64 2))
    (hg: ∀k,k<n->w.cell? ⟨g,o+k,none⟩=some (.int .i64 1)) (hi:i<n) (hj:j<n) (b1:bz<w.heap.size) (b2:bw<w.heap.size) (b3:bt<w.heap.size) (b4:g<w.heap.size):
    Calls Tryz.prog 280 #[.int .i64 i,.int .i64 j,.pointer (some ⟨bz,0,none⟩),.pointer (some ⟨bw,0,none⟩),.pointer (some ⟨bt,0,none⟩)] w (Ret (.int .i64 0) w):=by
 have H:=Zh (fun (u:World) (z:Int)=>Zke u z);have d1:=hg i hi;have d2:=hg j hj;clear hg;go_enter Tryz.func280,Tryz.ntmps280;go_wp2_with fail;refine Zbn 16 (by kernel_rfl) (by kernel_rfl) ?_;simp only [Z2,Z6,Z3,Z7]
 repeat go_big_quiet_step (fail)
 refine wpQuiet_nil ?_;rintro w14 ⟨⟨_,hb14⟩,rfl⟩;have HB:=Zh hb14;clear hb14 hz hw ht d1 d2;go_wp2_with fail;refine (H.out _ _).mono ?_;rintro e4 w4 ⟨rfl,hb4⟩;have HB4:=Zh (HB.Zg hb4);clear hb4;go_wp2_with fail;go_ret;exact ⟨rfl,HB4.out⟩
theorem Zhy (w:World) (v:Value) (h:Sl encI 1 w w.heap.size v [1,1]):Calls Tryz.prog 217 #[.int .i64 40,v] w (fun e w'=> ∃g,e= .returned (.tuple #[.slice (some ⟨g,0,none⟩) 2 2,.int .i64 0])/\w.heap.size<=g/\Box w' g 3 [.int .i64 20,.int .i64 20]/\Below w.heap.size w w'):=by
  have HW:=Zh (fun (u:World) (hb:Below w.heap.size w u)=>Zkd u v [1,1] (h.later hb) (fun z hz=>by
    obtain rfl:z=1:=by simp at hz;exact hz
    exact ⟨by decide,by decide⟩) (by simp) (by decide))
  have HIN:=Zh Zoq;obtain ⟨a,c,rfl,-,p⟩:=h;obtain ⟨b,o,rfl,l1,q⟩:=p (by simp);have d0:=q 0 (by simp) 0 _ rfl;have d1:=q 1 (by simp) 0 _ rfl;rw [Nat.mul_one,Nat.add_zero] at d0 d1;have HD:=Zh (And.intro (show w.cell? ⟨b,o,none⟩=some (.int .i64 1) from d0) (show w.cell? ⟨b,o+1,none⟩=some (.int .i64 1) from d1));clear d0 d1 p q;have HW:=Zh (fun (u:World) (hb:Below w.heap.size w u)=>(by exact HW.out u hb:Calls Tryz.prog 130 #[.slice (some ⟨b,o,none⟩) 2 c] u (Ret (.tuple #[.int .i64 2,.int .i64 0]) u)));show Calls Tryz.prog 217 #[.int .i64 40,.slice (some ⟨b,o,none⟩) 2 c] w _;have HB_0:=Zh ((Below.refl w.heap.size w).alloc (Nat.le_refl _) (.cells #[.int .i64 40] 3));have HB:=Zh (HB_0.alloc HB_0.size (.cells #[.slice (some ⟨b,o,none⟩) 2 c] 27));have HX:=Zh ((Box.new w #[.int .i64 40] 3).alloc (.cells #[.slice (some ⟨b,o,none⟩) 2 c] 27));have HY:=Zh (Box.newAt (w.alloc (.cells #[.int .i64 40] 3)) #[.slice (some ⟨b,o,none⟩) 2 c] 27 (n:=w.heap.size+1) (by simp));have HS:=Zh (HW.out _ HB.out);go_enter Tryz.func217,Tryz.ntmps217;go_wp2_with fail;refine HS.mono ?_;rintro e4 w4 ⟨rfl,hb⟩;have HX4:=Zh (HX.later hb);have HY4:=Zh (HY.later hb);have HB4:=Zh (HB.Zg hb);have hsz4:=HB4.size;have hs4:w.heap.size+1<w4.heap.size:=HY4.lt;clear hb HX HY HB_0 HB HS HW;have hbx:Below w4.heap.size w4 (w4.alloc (.cells #[.int .i64 2] 3)):=(Below.refl _ _).alloc (Nat.le_refl _) _;have HX5:=Zh (HX4.later hbx);have HY5:=Zh (HY4.later hbx);have HT5:=Zh (Box.new w4 #[.int .i64 2] 3);have HB5:=Zh (HB4.Zg hbx);obtain ⟨x0,xf,xz⟩:=HX4.v1;obtain ⟨y0,yf,yz⟩:=HY4.v1;clear hbx;go_wp2_with (
    at_make
    refine Zb2 encI 1 (fun _=>rfl) (by decide) 0 (.int .i64 0) rfl 27 3 8 Tryz.underlying27 HIN.out (by decide) 0 _ 2 (by omega) (Nat.zero_le _) rfl _ _ rfl .i64 .i64 rfl rfl ?_;intro w6 ho6 hg6;have hb6:Below (w4.alloc (.cells #[.int .i64 2] 3)).heap.size (w4.alloc (.cells #[.int .i64 2] 3)) w6:=⟨hg6.os,hg6.tape,hg6.output,hg6.size,fun k hk=>hg6.block k hk (by simp)⟩;have HX6:=Zh (HX5.later hb6);have HY6:=Zh (HY5.later hb6);have HT6:=Zh (HT5.later hb6);have HB6:=Zh (HB5.Zg hb6);have HR6:=Zh (Own.box ho6);have hs6:w4.heap.size+1<w6.heap.size:=by have h:=HR6.lt;simpa using h
    clear x0 xf xz y0 yf yz HX4 HY4 HX5 HY5 HT5 ho6 hg6 hb6;obtain ⟨x0,xf,xz⟩:=HX6.v1;obtain ⟨y0,yf,yz⟩:=HY6.v1;go_wp2_with (
      at_make
      refine Zb2 encI 1 (fun _=>rfl) (by decide) 0 (.int .i64 0) rfl 27 3 8 Tryz.underlying27 HIN.out (by decide) 0 _ 2 (by omega) (Nat.zero_le _) rfl _ _ rfl .i64 .i64 rfl rfl ?_;intro w7 ho7 hg7;have hb7:Below w6.heap.size w6 w7:=⟨hg7.os,hg7.tape,hg7.output,hg7.size,fun k hk=>hg7.block k hk (by simp)⟩;have HX7:=Zh (HX6.later hb7);have HY7:=Zh (HY6.later hb7);have HT7:=Zh (HT6.later hb7);have HR7:=Zh (HR6.later hb7);have HB7:=Zh (HB6.Zg hb7);have HQ7:=Zh (Own.box ho7);clear x0 xf xz y0 yf yz HX6 HY6 HT6 HR6 ho7 hg7 hb7;obtain ⟨x0,xf,xz⟩:=HX7.v1;obtain ⟨y0,yf,yz⟩:=HY7.v1))
  go_loopw [10,47] (fun s i wr=>Hid (Below w.heap.size w wr)/\Hid (Box wr w.heap.size 3 [.int .i64 40])/\Hid (Box wr (w.heap.size+1) 27 [.slice (some ⟨b,o,none⟩) 2 c])/\Hid (Box wr w4.heap.size 3 [.int .i64 2])/\((s= .int .i64 40/\i= .int .i64 0/\Hid (Box wr (w4.heap.size+1) 3 [.int .i64 0,.int .i64 0])/\Hid (Box wr w6.heap.size 3 [.int .i64 0,.int .i64 0]))∨(s= .int .i64 20/\i= .int .i64 1/\Hid (Box wr (w4.heap.size+1) 3 [.int .i64 20,.int .i64 0])/\Hid (Box wr w6.heap.size 3 [.int .i64 0,.int .i64 0]))∨(s= .int .i64 0/\i= .int .i64 2/\Hid (Box wr (w4.heap.size+1) 3 [.int .i64 20,.int .i64 20])/\Hid (Box wr w6.heap.size 3 [.int .i64 0,.int .i64 1])))) (fun _ i _=>2-(intOf i).toNat)
  case atStart=>exact ⟨HB7,HX7,HY7,HT7,.inl ⟨rfl,rfl,by have h:=HR7;simp [encI] at h;exact h,HQ7⟩⟩
  case round=>
    clear x0 xf xz y0 yf yz;obtain ⟨HBE,HX,HY,HT,⟨rfl,rfl,HR,HQ⟩|⟨rfl,rfl,HR,HQ⟩|⟨rfl,rfl,HR,HQ⟩⟩:=hrel
    ·obtain ⟨x0,xf,xz⟩:=HX.v1;obtain ⟨y0,yf,yz⟩:=HY.v1;obtain ⟨t0,tf,tz⟩:=HT.v1;obtain ⟨r0,r1,rf,rz⟩:=HR.v2;obtain ⟨q0,q1,qf,qz⟩:=HQ.v2;have d0:=(HBE.cell (p:=⟨b,o,none⟩) l1).trans HD.out.1;have hbw:b<wr.heap.size:=Nat.lt_of_lt_of_le l1 HBE.size;go_wp2_with fail;refine ⟨⟨Zh ((HBE.setCell (by dsimp only;omega) _).setCell (by dsimp only;omega) _),Zh (by repeat (first|exact HX.out|refine Box.other ?_ _ (by first|(dsimp only;omega)|(simp;done)|(simp;omega)))),Zh (by repeat (first|exact HY.out|refine Box.other ?_ _ (by first|(dsimp only;omega)|(simp;done)|(simp;omega)))),Zh (by repeat (first|exact HT.out|refine Box.other ?_ _ (by first|(dsimp only;omega)|(simp;done)|(simp;omega)))),.inr (.inl ⟨rfl,rfl,Zh (by repeat (first|exact (Box.set HR.out 0 (.int .i64 20))|refine Box.other ?_ _ (by first|(dsimp only;omega)|(simp;done)|(simp;omega)))),Zh (Box.set (show Box (wr.setCell ⟨w4.heap.size+1,0,none⟩ (.int .i64 20)) w6.heap.size 3 [.int .i64 0,.int .i64 0] from (by repeat (first|exact HQ.out|refine Box.other ?_ _ (by first|(dsimp only;omega)|(simp;done)|(simp;omega))))) 0 (.int .i64 0))⟩)⟩,by simp [intOf]⟩
    ·obtain ⟨x0,xf,xz⟩:=HX.v1;obtain ⟨y0,yf,yz⟩:=HY.v1;obtain ⟨t0,tf,tz⟩:=HT.v1;obtain ⟨r0,r1,rf,rz⟩:=HR.v2;obtain ⟨q0,q1,qf,qz⟩:=HQ.v2;have d0:=(HBE.cell (p:=⟨b,o+1,none⟩) l1).trans HD.out.2;have hbw:b<wr.heap.size:=Nat.lt_of_lt_of_le l1 HBE.size;go_wp2_with fail;refine ⟨⟨Zh ((HBE.setCell (by dsimp only;omega) _).setCell (by dsimp only;omega) _),Zh (by repeat (first|exact HX.out|refine Box.other ?_ _ (by first|(dsimp only;omega)|(simp;done)|(simp;omega)))),Zh (by repeat (first|exact HY.out|refine Box.other ?_ _ (by first|(dsimp only;omega)|(simp;done)|(simp;omega)))),Zh (by repeat (first|exact HT.out|refine Box.other ?_ _ (by first|(dsimp only;omega)|(simp;done)|(simp;omega)))),.inr (.inr ⟨rfl,rfl,Zh (by repeat (first|exact (Box.set HR.out 1 (.int .i64 20))|refine Box.other ?_ _ (by first|(dsimp only;omega)|(simp;done)|(simp;omega)))),Zh (Box.set (show Box (wr.setCell ⟨w4.heap.size+1,1,none⟩ (.int .i64 20)) w6.heap.size 3 [.int .i64 0,.int .i64 0] from (by repeat (first|exact HQ.out|refine Box.other ?_ _ (by first|(dsimp only;omega)|(simp;done)|(simp;omega))))) 1 (.int .i64 1))⟩)⟩,by simp [intOf]⟩
    ·have HORD:=Zh (fun (u:World) (hb:Below wr.heap.size wr u)=>(by
       have hbu:=HBE.Zg hb;exact Zos u w.heap.size (w.heap.size+1) w4.heap.size b o 2 c 1 0 ((HX.later hb).cell 0) ((HY.later hb).cell 0) ((HT.later hb).cell 0) (fun k hk=>by
         rcases (by omega:k=0∨k=1) with rfl|rfl
         ·exact (hbu.cell (p:=⟨b,o,none⟩) l1).trans HD.out.1
         ·exact (hbu.cell (p:=⟨b,o+1,none⟩) l1).trans HD.out.2) (by omega) (by omega) (HX.later hb).lt (HY.later hb).lt (HT.later hb).lt (Nat.lt_of_lt_of_le l1 hbu.size):Calls Tryz.prog 280 #[.int .i64 1,.int .i64 0,.pointer (some ⟨w.heap.size,0,none⟩),.pointer (some ⟨w.heap.size+1,0,none⟩),.pointer (some ⟨w4.heap.size,0,none⟩)] u (Ret (.int .i64 0) u)))
     have HS:=Zh (Zq2 wr w6.heap.size 2 _ _ _ (HQ.cell 0) (HQ.cell 1) HQ.lt HORD.out);go_wp2_with fail;refine HS.mono ?_;rintro e8 w8 ⟨⟨v8,rfl⟩,hb8⟩;have HB8:=Zh (HBE.Zg hb8);have HR8:=Zh (HR.later hb8);clear hb8 HS HORD HX HY HT HQ HR HBE;go_wp2_with fail
     go_loopw [78] (fun i wi=>wi=w8/\i= .int .i64 0) (fun _ _=>0)
     case atStart=>exact ⟨rfl,rfl⟩
     case round=>
       obtain ⟨rfl,rfl⟩:=hrel;go_wp2_with fail;refine bodyPost_ret (v:= .tuple #[.slice (some ⟨w4.heap.size+1,0,none⟩) 2 2,.int .i64 0]) (by simp [results,Tryz.results217,go_sem, *]) rfl ?_;exact ⟨_,rfl,by omega,HR8.out,HB8.out⟩
theorem Zmu (w:World) (z:Int) (h:z≠0):Calls Tryz.prog 219 #[.int .i64 z] w (Ret (.bool false) w):=by
  have d1:(z==0)=false:=beq_eq_false_iff_ne.2 h;go_enter Tryz.func219,Tryz.ntmps219;go_wp2_with fail;go_ret;exact ⟨rfl,Below.refl _ _⟩
theorem Zot (w:World) (v:Value) (ms:List Int) (h:Sl encI 1 w w.heap.size v ms) (hm: ∀z∈ms,z≠0):Calls Tryz.prog 246 #[v,.func (.func 219) #[] #[]] w (Ret (.int .i64 (-1)) w):=by
  obtain ⟨a,c,rfl,hl,p⟩:=h;have HP:=Zh p;have HZ:=Zh (fun (u:World) (k:Nat) (hk:k<ms.length)=>Zmu u ms[k] (hm _ (List.getElem_mem hk)));obtain ⟨n,hn⟩: ∃n,ms.length=n:=⟨_,rfl⟩;have HN:=Zh hn;rw [hn] at hl ⊢;clear hn p hm;go_enter Tryz.func246,Tryz.ntmps246;go_wp2_with fail
  go_loopw [8] (fun i wr=> ∃k:Nat,k<=n/\i= .int .i64 k/\Hid (Below w.heap.size w wr)) (fun i _=>n-(intOf i).toNat)
  case atStart=>exact ⟨0,by omega,rfl,Zh (Below.refl _ _)⟩
  case round=>
    obtain ⟨k,hk,rfl,HBE⟩:=hrel
    by_cases hlt:k<n
    ·have hk1:k<ms.length:=by rw [HN.out];exact hlt
     obtain ⟨b1,o1,rfl,l1,q1⟩:=HP.out (by omega);have d1:=((q1 k hk1).below HBE.out l1) 0 _ rfl;rw [Nat.mul_one,Nat.add_zero] at d1;have e1:b1<wr.heap.size:=Nat.lt_of_lt_of_le l1 HBE.size;have HS:=Zh (HZ.out wr k hk1);clear q1 HP HZ;generalize ms[k]=z at *;go_wp2_with fail;refine HS.mono ?_;rintro e5 w5 ⟨rfl,hb⟩;have HB5:=Zh (HBE.Zg hb);clear hb d1;go_wp2_with fail;go_roundw
     case rel=>exact ⟨k+1,by omega,by go_num,HB5⟩
     case measure=>simp [intOf];omega
    ·obtain rfl:n=k:=by omega
     clear HP HZ;go_wp2_with fail;go_ret;exact ⟨rfl,HBE.out⟩
theorem Zmv (w:World) (v:Value) (ms:List Int) (h:Sl encI 1 w w.heap.size v ms) (hm: ∀z∈ms,z≠0):Calls Tryz.prog 218 #[v,.func (.func 219) #[] #[]] w (Ret v w):=by
  have HS:=Zh (Zot w v ms h hm);obtain ⟨a,c,rfl,-⟩:=h;clear hm;generalize ms.length=n at *;go_enter Tryz.func218,Tryz.ntmps218;go_wp2_with fail;refine HS.mono ?_;rintro e5 w5 ⟨rfl,hb⟩;have HB:=Zh hb;clear hb HS;go_wp2_with fail;go_ret;exact ⟨rfl,HB.out⟩
theorem Zil (w:World):Calls Tryz.prog 155 #[.int .i64 2,.int .i64 1,.int .i64 32] w (Ret (.bool true) w):=by
  go_enter Tryz.func155,Tryz.ntmps155;go_wp2_with fail;go_ret;exact ⟨rfl,Below.refl _ _⟩
theorem infoS:(Tryz.prog.info? 27).map (fun i=>(i.zero,i.size,i.bytes))=some (some (.slice none 0 0),1,24):=by kernel_rfl
def encG (g:Nat):List Value:=[.slice (some ⟨g,0,none⟩) 2 2]
theorem Zjl (g:Nat): ∀u∈encG g,u.oneCell'=true:=by intro u hu;simp [encG] at hu;subst hu;rfl
theorem Zmw (w:World) (hw:TbR w) (x:ShV) (hs:ShR w x wShip) (vm:Value) (hm:Sl encI 1 w w.heap.size vm [40,40]):Calls Tryz.prog 147 #[x.v wShip.t,vm,.int .i64 2] w (fun e w'=> ∃G c g0 g1,e= .returned (.tuple #[.slice (some ⟨G,0,none⟩) 2 c,.int .i64 0])/\At w' G 0 (encG g0)/\At w' G 1 (encG g1)/\G<w'.heap.size/\Box w' g0 3 [.int .i64 20,.int .i64 20]/\Box w' g1 3 [.int .i64 20,.int .i64 20]/\Below w.heap.size w w'):=by
  have HCM:=Zh (fun (u:World) (hb:Below w.heap.size w u)=>(by exact Zbl u (hw.later hb) x wShip vm [40,40] (hs.later hb) (hm.later hb) Ze3 (Ze4 40 40 ⟨by decide,by decide⟩ ⟨by decide,by decide⟩):Calls Tryz.prog 75 #[.agg #[.slice x.ah x.nh x.ch,.slice x.aw x.nw x.cw,.slice x.ac x.nc x.cc,.slice x.az x.ns x.cs,.slice x.ab x.nb x.cb,.string (txq wShip.t)],vm] u (Ret (.int .i64 0) u)));clear hw hs;obtain ⟨ah,aw,ac,az,ab,nh,nw,nc,ns,nb,ch,cw,cc,cz,cb⟩:=x;dsimp only at HCM;obtain ⟨am,cm,rfl,-,p⟩:=hm;obtain ⟨b,o,rfl,l1,q⟩:=p (by simp);have d0:=q 0 (by simp) 0 _ rfl;have d1:=q 1 (by simp) 0 _ rfl;rw [Nat.mul_one,Nat.add_zero] at d0 d1;have HD:=Zh (And.intro (show w.cell? ⟨b,o,none⟩=some (.int .i64 40) from d0) (show w.cell? ⟨b,o+1,none⟩=some (.int .i64 40) from d1));clear d0 d1 p q;have HCM:=Zh (fun (u:World) (hb:Below w.heap.size w u)=>(by exact HCM.out u hb:Calls Tryz.prog 75 #[.agg #[.slice ah nh ch,.slice aw nw cw,.slice ac nc cc,.slice az ns cz,.slice ab nb cb,.string (txq wShip.t)],.slice (some ⟨b,o,none⟩) 2 cm] u (Ret (.int .i64 0) u)));show Calls Tryz.prog 147 #[.agg #[.slice ah nh ch,.slice aw nw cw,.slice ac nc cc,.slice az ns cz,.slice ab nb cb,.string (txq wShip.t)],.slice (some ⟨b,o,none⟩) 2 cm,.int .i64 2] w _;generalize txq wShip.t=T at HCM ⊢;have HB:=Zh ((Below.refl w.heap.size w).alloc (Nat.le_refl _) (.cells #[.slice ah nh ch,.slice aw nw cw,.slice ac nc cc,.slice az ns cz,.slice ab nb cb,.string T] 51));have HX:=Zh (Box.new w #[.slice ah nh ch,.slice aw nw cw,.slice ac nc cc,.slice az ns cz,.slice ab nb cb,.string T] 51);obtain ⟨x0,x1,x2,x3,x4,x5,xf,xz⟩:=HX.w6;have HS:=Zh (HCM.out _ HB.out);clear HCM;go_enter Tryz.func147,Tryz.ntmps147;go_wp2_with fail;refine HS.mono ?_;rintro e3 w3 ⟨rfl,hb⟩;replace HB:=Zh (HB.Zg hb);replace HX:=Zh (HX.later hb);clear hb x0 x1 x2 x3 x4 x5 xf xz;obtain ⟨x0,x1,x2,x3,x4,x5,xf,xz⟩:=HX.w6;clear x0 x1 x2 x3 x4 x5 xf xz HS;have HBT:=Zh (Zil w3);go_wp2_with fail;refine HBT.mono ?_;rintro e4 w4 ⟨rfl,hb⟩;have HB4:=Zh (HB.Zg hb);have HR:=Zh (Zmt (w4.alloc (.cells #[.int .i64 1] 3)) (.slice (some ⟨w4.heap.size,0,none⟩) 1 1) (Zeo (f:=encI) (sz:=1) (fun _=>rfl) w4 [1] #[.int .i64 1] rfl 3 1 1 rfl (by decide) w4.heap.size rfl));clear hb HB HX HBT;go_wp2_with fail;refine HR.mono ?_;rintro e5 w5 ⟨v5,rfl,h5,hb⟩;have HB5:=Zh ((HB4.alloc HB4.size (.cells #[.int .i64 1] 3)).trans (hb.mono (HB4.alloc HB4.size (.cells #[.int .i64 1] 3)).size));have H5:=Zh h5;obtain ⟨a5,c5,e5,-⟩:=h5;subst e5;have HAP:=Zh (fun (u:World) (hu:Below w5.heap.size w5 u)=>Zhy u _ (H5.later hu));have HDL:=Zh (fun (u:World) (g:Nat) (hB:Box u g 3 [.int .i64 20,.int .i64 20])=>Zmv u (.slice (some ⟨g,0,none⟩) 2 2) [20,20] (Zjj (f:=encI) (sz:=1) (fun _=>rfl) [20,20] hB 2 2 rfl (by decide)) (fun z hz=>by
    obtain rfl:z=20:=by simp at hz;exact hz
    decide))
  have hw5:w.heap.size<=w5.heap.size:=HB5.size;have HIN:=Zh infoS;clear hb HR HB4;go_wp2_with fail
  go_loopw [10,11,30] (fun v n i wr=>Hid (Below w.heap.size w wr)/\Hid (Below w5.heap.size w5 wr)/\((∃a c,v= .slice a 0 c/\Hid (Value.slice a 0 c= .slice none 0 0)/\n= .int .i64 0/\i= .int .i64 0)∨(∃a c g0,v= .slice a 1 c/\n= .int .i64 2/\i= .int .i64 1/\w5.heap.size<=g0/\Hid (Box wr g0 3 [.int .i64 20,.int .i64 20])/\Hid (Own encG 1 27 wr (g0+1) (.slice a 1 c) [g0]))∨(∃a c g0 g1,v= .slice a 2 c/\n= .int .i64 4/\i= .int .i64 2/\Hid (Box wr g0 3 [.int .i64 20,.int .i64 20])/\Hid (Box wr g1 3 [.int .i64 20,.int .i64 20])/\Hid (Own encG 1 27 wr (g0+1) (.slice a 2 c) [g0,g1])))) (fun _ _ i _=>2-(intOf i).toNat)
  case atStart=>exact ⟨HB5,Zh (Below.refl _ _),.inl ⟨none,0,rfl,Zh rfl,rfl,rfl⟩⟩
  case round=>
    obtain ⟨HBE,HB6,⟨a0,c0,rfl,HV,rfl,rfl⟩|⟨a0,c0,g0,rfl,rfl,rfl,hg0,HG0,HO⟩|⟨a0,c0,g0,g1,rfl,rfl,rfl,HG0,HG1,HO⟩⟩:=hrel
    ·have d0:=(HBE.cell (p:=⟨b,o,none⟩) l1).trans HD.out.1;have hbw:b<wr.heap.size:=Nat.lt_of_lt_of_le l1 HBE.size;have HS:=Zh (HAP.out _ HB6.out);go_wp2_with fail;refine HS.mono ?_;rintro e7 w7 ⟨g7,rfl,hg7,hx7,hb7⟩;have HX7:=Zh hx7;have HS7:=Zh (HDL.out w7 g7 hx7);have HB7:=Zh (HBE.Zg hb7);have HC7:=Zh (HB6.Zg hb7);have hz6:w5.heap.size<=wr.heap.size:=HB6.size;clear hx7 d0 HS hb7;go_wp2_with fail;refine HS7.mono ?_;rintro e8 w8 ⟨rfl,hb8⟩;have HX8:=Zh (HX7.later hb8);have HB8:=Zh (HB7.Zg hb8);have HC8:=Zh (HC7.Zg hb8);have hl8:=HX8.lt;have hz8:=HC8.size;clear HS7 hb8;go_wp2_with (at_builtin;refine Ze6 encG 1 24 215 27 (.slice none 0 0) Tryz.underlying215 HIN.out rfl (by decide) (by decide) (fun _=>rfl) Zjl [] g7 (g7+1) w8 _ rfl (.slice a0 0 c0) (by rw [HV.out];exact Own.nil _ _ _ _ _) hl8 (by decide) rfl _ _ rfl rfl rfl ?_;intro v' w' hown' hg');go_roundw
     case rel=>
       have hob:(Value.slice a0 0 c0).ownBlock=none:=by rw [HV.out];rfl
       obtain ⟨a',c',e'⟩:=hown'.shape;dsimp only [List.nil_append,List.length_cons,List.length_nil] at e';subst e';exact ⟨Zh (HB8.grown hg' HB8.size (fun k hk=>by rw [hob] at hk;cases hk)),Zh (HC8.grown hg' HC8.size (fun k hk=>by rw [hob] at hk;cases hk)),.inr (.inl ⟨a',c',g7,rfl,rfl,rfl,by omega,Zh (HX8.kept hg' (by rw [hob];simp)),Zh hown'⟩)⟩
     case measure=>simp [intOf]
    ·have d0:=(HBE.cell (p:=⟨b,o+1,none⟩) l1).trans HD.out.2;have hbw:b<wr.heap.size:=Nat.lt_of_lt_of_le l1 HBE.size;have HS:=Zh (HAP.out _ HB6.out);go_wp2_with fail;refine HS.mono ?_;rintro e7 w7 ⟨g7,rfl,hg7,hx7,hb7⟩;have HX7:=Zh hx7;have HS7:=Zh (HDL.out w7 g7 hx7);have HB7:=Zh (HBE.Zg hb7);have HC7:=Zh (HB6.Zg hb7);have HY7:=Zh (HG0.later hb7);have HO7:=Zh (HO.later hb7);have hob: ∀k,(Value.slice a0 1 c0).ownBlock=some k->g0+1<=k/\k<wr.heap.size:=fun k hk=>World.ownsRow.lt HO.out k hk;have HOB:=Zh hob;clear hx7 d0 HS hb7 hob;go_wp2_with fail;refine HS7.mono ?_;rintro e8 w8 ⟨rfl,hb8⟩;have HX8:=Zh (HX7.later hb8);have HB8:=Zh (HB7.Zg hb8);have HC8:=Zh (HC7.Zg hb8);have HY8:=Zh (HY7.later hb8);have HO8:=Zh (HO7.later hb8);have hl8:=HX8.lt;have hy8:=HY8.lt;have hz8:=HC8.size;clear HS7 hb8;go_wp2_with (at_builtin;refine Ze6 encG 1 24 215 27 (.slice none 0 0) Tryz.underlying215 HIN.out rfl (by decide) (by decide) (fun _=>rfl) Zjl [g0] g7 (g0+1) w8 _ rfl (.slice a0 1 c0) HO8.out hy8 (by simp) rfl _ _ rfl rfl rfl ?_;intro v' w' hown' hg');go_roundw
     case rel=>
       obtain ⟨a',c',e'⟩:=hown'.shape;dsimp only [List.cons_append,List.nil_append,List.length_cons,List.length_nil] at e';subst e';have hk1: ∀k,(Value.slice a0 1 c0).ownBlock=some k->w5.heap.size<=k:=fun k hk=>by have:=(HOB.out k hk).1;omega
       exact ⟨Zh (HB8.grown hg' HB8.size (fun k hk=>by have:=hk1 k hk;omega)),Zh (HC8.grown hg' HC8.size hk1),.inr (.inr ⟨a',c',g0,g7,rfl,rfl,rfl,Zh (HY8.kept hg' (fun e=>by have:=(HOB.out g0 e.symm).1;omega)),Zh (HX8.kept hg' (fun e=>by have:=(HOB.out g7 e.symm).2;omega)),Zh hown'⟩)⟩
     case measure=>simp [intOf]
    ·obtain ⟨G,c,e,hG1,hG2⟩:=HO.form (by simp);dsimp only [List.length_cons,List.length_nil] at e;injection e with e1 e2 e3
     subst e1 e3;clear e2;go_wp2_with fail;refine bodyPost_ret (v:= .tuple #[.slice (some ⟨G,0,none⟩) 2 c0,.int .i64 0]) (by simp [results,Tryz.results147,go_sem, *]) rfl ?_;exact ⟨G,c0,g0,g1,rfl,HO.at (fun _=>rfl) 0 (by simp),HO.at (fun _=>rfl) 1 (by simp),hG2,HG0.out,HG1.out,HBE.out⟩
end Go.Proofs.YtijajkfmlghgkaaGreatDoor.Nu
namespace Go.Proofs.YtijajkfmlghgkaaGreatDoor.Nu
open Go Go.Proofs Go.RowKit Go.Maps Go.Proofs.YtijajkfmlghgkaaGreatDoor
theorem Zmx:Keyed Tryz.prog 9:=string_keyed Tryz.underlying9
theorem Zpr {s:ByteArray} (hs:s.size<=maxLen):keyOf Tryz.prog 9 (.string s)=some (Zdo s.data.toList):=by
  simp [keyOf,Tryz.underlying9,mapKey,hs,Zdo]
theorem Zjm (i j:Nat) (hi:i<=2) (hj:j<=2):(tx (keyL [(i:Int),(j:Int)])).size<=maxLen:=by
  rw [Zan];have:=Zg3 [(i:Int),(j:Int)] (fun z hz=>by
   rcases List.mem_cons.1 hz with rfl|hz
   ·exact ⟨by omega,by omega⟩
   ·obtain rfl:=List.mem_singleton.1 hz;exact ⟨by omega,by omega⟩)
  simp only [List.length_cons,List.length_nil] at this;unfold maxLen;omega
def encP (p:Int×Int):List Value:=[.int .i64 p.1,.int .i64 p.2]
theorem Zjn (p:Int×Int):(encP p).length=2:=rfl
structure SqN where
  x:ShV
  p0:Nat
  p1:Nat
  p2:Nat
  p3:Nat
  p4:Nat
  p5:Nat
  p6:Nat
  d:Nat
  c:Nat
  m:Nat
  G:Nat
  r0:Nat
  r1:Nat
  gc:Nat
structure SqO (B:Nat) (s:SqN):Prop where
  o1:B<=s.p2
  o2:s.p2<s.p4
  o3:s.G<s.p4
  o4:s.r0<s.p4
  o5:s.r1<s.p4
  o6:s.p4<s.d
  o7:s.d<s.p0
  o8:s.p0<s.c
  o9:s.c<s.p3
  o10:s.p3<s.m
  o11:s.m<s.p1
  o12:s.p1<s.p5
  o13:s.p5<s.p6
def SqN.cap (s:SqN):Array Value:= #[.pointer (some ⟨s.p0,0,none⟩),.pointer (some ⟨s.p1,0,none⟩),.pointer (some ⟨s.p2,0,none⟩),.pointer (some ⟨s.p3,0,none⟩),.pointer (some ⟨s.p4,0,none⟩),.pointer (some ⟨s.p5,0,none⟩),.pointer (some ⟨s.p6,0,none⟩)]
structure SqR (W0:World) (s:SqN) (w:World) (i j a b:Int) (v:Value) (l:List (Int×Int)):Prop where
  be:Below W0.heap.size W0 w
  bd:Box w s.p0 27 [.slice (some ⟨s.d,0,none⟩) 2 2]
  bf:Box w s.p1 218 [.map (some s.m)]
  bs:Box w s.p2 51 (s.x.cells wShip.t)
  bc:Box w s.p3 27 [.slice (some ⟨s.c,0,none⟩) 2 2]
  bp:Box w s.p4 215 [.slice (some ⟨s.G,0,none⟩) 2 s.gc]
  bq:Box w s.p6 29 [.func (.func 148) #[] s.cap]
  bg0:At w s.G 0 (encG s.r0)
  bg1:At w s.G 1 (encG s.r1)
  bgl:s.G<w.heap.size
  b0:Box w s.r0 3 [.int .i64 20,.int .i64 20]
  b1:Box w s.r1 3 [.int .i64 20,.int .i64 20]
  mm:SetM Zdo Tryz.prog 9 4 w s.m []
  dd:Box w s.d 3 [.int .i64 i,.int .i64 j]
  cc:Box w s.c 3 [.int .i64 a,.int .i64 b]
  bo:Box w s.p5 124 [v]
  oo:Own encP 2 221 w (s.p6+1) v l
abbrev SqS (W0:World) (s:SqN) (w:World) (i j:Nat) (v:Value) (l:List (Int×Int)):Prop:=SqR W0 s w i j (20* i) (20* j) v l
theorem SqR.later {W0:World} {s:SqN} {w w':World} {i j a b:Int} {v:Value} {l:List (Int×Int)} (h:SqR W0 s w i j a b v l) (hb:Below w.heap.size w w'):SqR W0 s w' i j a b v l:=
  ⟨h.be.trans (hb.mono h.be.size),h.bd.later hb,h.bf.later hb,h.bs.later hb,h.bc.later hb,h.bp.later hb,h.bq.later hb,h.bg0.below hb h.bgl,h.bg1.below hb h.bgl,Nat.lt_of_lt_of_le h.bgl hb.size,h.b0.later hb,h.b1.later hb,h.mm.later hb,h.dd.later hb,h.cc.later hb,h.bo.later hb,h.oo.later hb⟩
section
variable {W0:World} {s:SqN} {w w':World} {i j:Nat} {v:Value} {l:List (Int×Int)}
def SqP (W0:World) (s:SqN) (w:World) (r:Bool) (e:Ending) (w':World):Prop:=
  e= .returned (.bool r)/\(r=true->(∃a c,Box w' s.p5 124 [.slice a 4 c])/\Below W0.heap.size W0 w')/\(r=false->Below w.heap.size w w')
theorem Zsk (i:Nat) (h:i<=2):MsP (20* i:Int):=⟨by omega,by omega⟩
theorem msPn (i:Nat) (h:i<=2):MsP (i:Int):=⟨by omega,by omega⟩
theorem Zsl (i j:Nat) (hi:i<=2) (hj:j<=2): ∀z∈ [(i:Int),(j:Int)],MsP z:=fun z hz=>by
  rcases List.mem_cons.1 hz with rfl|hz
  ·exact msPn i hi
  ·obtain rfl:=List.mem_singleton.1 hz;exact msPn j hj
theorem SqS.key (h:SqS W0 s w i j v l) (hw:TbR W0) (hi:i<=2) (hj:j<=2):Calls Tryz.prog 149 #[.slice (some ⟨s.d,0,none⟩) 2 2] w (Ret (.string (tx (keyL [(i:Int),(j:Int)]))) w):=
  Zsi w (hw.later h.be) _ [(i:Int),(j:Int)] (Zjj (f:=encI) (sz:=1) (fun _=>rfl) [(i:Int),(j:Int)] h.dd 2 2 rfl (by decide)) (Zsl i j hi hj) (by simp)
theorem SqS.safe (h:SqS W0 s w i j v l) (hw:TbR W0) (hx:ShR W0 s.x wShip) (hi:i<=2) (hj:j<=2):Calls Tryz.prog 76 #[s.x.v wShip.t,.slice (some ⟨s.c,0,none⟩) 2 2] w (fun e w'=> ∃t:Bool,e= .returned (.bool t)/\(t=true↔SafeS wShip [(20* i:Int),(20* j:Int)])/\Below w.heap.size w w'):=
  Zjh w (hw.later h.be) s.x wShip _ [(20* i:Int),(20* j:Int)] (hx.later h.be) (Zjj (f:=encI) (sz:=1) (fun _=>rfl) [(20* i:Int),(20* j:Int)] h.cc 2 2 rfl (by decide)) Ze3 (Ze4 _ _ (Zsk i hi) (Zsk j hj))
end
theorem Zfy (W0:World) (hw:TbR W0) (s:SqN) (hx:ShR W0 s.x wShip) (w:World) (i j:Nat) (v:Value) (l:List (Int×Int)) (h:SqS W0 s w i j v l) (hi:i<=2) (hj:j<=2) (hn: ¬SafeS wShip [(20* i:Int),(20* j:Int)]):
    Calls Tryz.prog 148 s.cap w (SqP W0 s w false):=by
 have HR:=Zh h;have HK:=Zh (fun (u:World) (hb:Below w.heap.size w u)=>SqS.key (h.later hb) hw hi hj);have HSF:=Zh (fun (u:World) (hb:Below w.heap.size w u)=>(by exact SqS.safe (h.later hb) hw hx hi hj:Calls Tryz.prog 76 #[.agg #[.slice s.x.ah s.x.nh s.x.ch,.slice s.x.aw s.x.nw s.x.cw,.slice s.x.ac s.x.nc s.x.cc,.slice s.x.az s.x.ns s.x.cs,.slice s.x.ab s.x.nb s.x.cb,.string (txq wShip.t)],.slice (some ⟨s.c,0,none⟩) 2 2] u (fun e w'=> ∃t:Bool,e= .returned (.bool t)/\(t=true↔SafeS wShip [(20* i:Int),(20* j:Int)])/\Below u.heap.size u w')));have HN:=Zh hn;clear hw hx h hn;obtain ⟨⟨ah,aw,ac,az,ab,nh,nw,nc,ns,nb,ch,cw,cc,cz,cb⟩,p0,p1,p2,p3,p4,p5,p6,d,c,m,G,r0,r1,gc⟩:=s;obtain ⟨T,hT⟩: ∃T,txq wShip.t=T:=⟨_,rfl⟩;dsimp only at HK HSF;simp only [hT] at HSF;show Calls Tryz.prog 148 #[.pointer (some ⟨p0,0,none⟩),.pointer (some ⟨p1,0,none⟩),.pointer (some ⟨p2,0,none⟩),.pointer (some ⟨p3,0,none⟩),.pointer (some ⟨p4,0,none⟩),.pointer (some ⟨p5,0,none⟩),.pointer (some ⟨p6,0,none⟩)] w _;have hbs:Box w p2 51 [.slice ah nh ch,.slice aw nw cw,.slice ac nc cc,.slice az ns cz,.slice ab nb cb,.string T]:=by have:=HR.bs;unfold ShV.cells at this;rw [hT] at this;exact this
 have HBS:=Zh hbs;have HT:=Zh hT;obtain ⟨y0,yf,yz⟩:=HR.bd.v1;obtain ⟨QQ,hQQ⟩: ∃Q,SqP W0 ⟨⟨ah,aw,ac,az,ab,nh,nw,nc,ns,nb,ch,cw,cc,cz,cb⟩,p0,p1,p2,p3,p4,p5,p6,d,c,m,G,r0,r1,gc⟩ w false=Q:=⟨_,rfl⟩;rw [hQQ];have HQQ:=Zh hQQ;clear hT hQQ hbs;have HKY:=Zh (Zpr (Zjm i j hi hj));generalize tx (keyL [(i:Int),(j:Int)])=K at *;dsimp only at y0 yf yz;have HKA:=Zh (HK.out w (Below.refl _ _));clear HK;go_enter Tryz.func148,Tryz.ntmps148;go_wp2_with fail;refine HKA.mono ?_;rintro e3 w3 ⟨rfl,hb⟩;have HB3:=Zh hb;have HR3:=Zh (HR.later hb);have HX3:=Zh (HBS.later hb);have HM:=Zh HR3.mm;clear hb y0 yf yz HKA HR HBS;obtain ⟨y0,yf,yz⟩:=HR3.bd.v1;obtain ⟨m0,mf,mz⟩:=HR3.bf.v1;obtain ⟨c0,cf,cz'⟩:=HR3.bc.v1;obtain ⟨x0,x1,x2,x3,x4,x5,xf,xz⟩:=HX3.w6;dsimp only at y0 yf yz m0 mf mz c0 cf cz';have HS:=Zh (HSF.out _ HB3.out);clear HSF;go_wp2_with (first|(at_lookup;refine Zdd (f:=Zdo) HM.out Zmx Tryz.underlying218 Tryz.underlying4 (Tryz.zeroValue4 _) HKY.out rfl _ _ rfl rfl rfl ?_));refine HS.mono ?_;rintro e4 w4 ⟨t,rfl,ht,hb⟩;have hb4:=HB3.Zg hb;cases t with
 | true=>exact absurd (ht.1 rfl) HN.out
 | false=>
   have HB4:=Zh hb4;clear hb hb4 ht y0 yf yz m0 mf mz c0 cf cz' x0 x1 x2 x3 x4 x5 xf xz HS;go_wp2_with fail;rw [<-HQQ.out];exact ⟨rfl,fun h=>(by cases h),fun _=>HB4.out⟩
end Go.Proofs.YtijajkfmlghgkaaGreatDoor.Nu
namespace Go.Proofs.YtijajkfmlghgkaaGreatDoor
open Go Go.Proofs Go.RowKit
structure S1J (W:World) (g o:Nat) (x:Value) (ks:List (Option Value)) (st im il:Nat) (D:Nat->Bool) (vs:Nat->Value) (u:World):Prop where
  val: ∀j v,ks[j]?=some (some v)->D j=true->vs j=v
  wor:u=if D st then W.setCell ⟨g,o,none⟩ x else W
  ord:D st=true->D im=true
  ord2:D im=true->D il=true
section
variable {W u:World} {g o:Nat} {x:Value} {ks:List (Option Value)} {st im il:Nat} {D:Nat->Bool} {vs:Nat->Value}
theorem S1J.start:S1J W g o x ks st im il (fun _=>false) (fun _=>undef) W:=⟨(fun _ _ _ h=>by cases h),rfl,(fun h=>by cases h),(fun h=>by cases h)⟩
theorem S1J.quiet (h:S1J W g o x ks st im il D vs u) (i:Nat) (h1:i≠st) (h2:i=im->D il=true) {v:Value} (hk: ∀v',ks[i]?=some (some v')->v=v'):S1J W g o x ks st im il (setF D i true) (setF vs i v) u:=
  ⟨J2.vals h.val i hk,by rw [Zaa _ _ (Ne.symm h1)];exact h.wor,Za5 h.ord (Ne.symm h1),fun hd=>by
    by_cases him:im=i
    ·by_cases hil:il=i
     ·rw [hil,Zad]
     ·rw [Zaa _ _ hil];exact h2 him.symm
    ·exact Za5 h.ord2 him hd⟩
theorem S1J.zq (h:S1J W g o x ks st im il D vs u) (i:Nat) {v:Value} (h1:i≠st:=by decide) (h2:i=im->D il=true:=by exact fun h=>absurd h (by decide)) (hk: ∀v',ks[i]?=some (some v')->v=v':=by exact fun v' e=>Option.some.inj (Option.some.inj e)):S1J W g o x ks st im il (setF D i true) (setF vs i v) u:=h.quiet i h1 h2 hk
theorem S1J.put (h:S1J W g o x ks st im il D vs u) (hk:ks[st]?=some none) (hD:D st=false) (hl:D im=true) (hne:im≠st) {v:Value}:S1J W g o x ks st im il (setF D st true) (setF vs st v) (u.setCell ⟨g,o,none⟩ x):=by
  refine ⟨J2.vals h.val st (fun v' e=>by rw [hk] at e;cases e),?_,fun _=>by rw [Zaa _ _ hne];exact hl,Za5 h.ord2 hne⟩;have:=h.wor;rw [hD] at this;rw [Zad,this];rfl
theorem S1J.box (h:S1J W g o x ks st im il D vs u) {b:Nat} {t:TypeId} {l:List Value} (hx:Box W b t l) (hb:g≠b):Box u b t l:=by
  rw [h.wor]
  split
  ·exact hx.other x hb
  ·exact hx
theorem S1J.same (h:S1J W g o x ks st im il D vs u) (hD:D il=false):u=W:=by
  have:=h.wor;have h2:D st=false:=by
    cases hs:D st with
    | false=>rfl
    | true=>rw [h.ord2 (h.ord hs)] at hD;cases hD
  rw [h2] at this;exact this
end
end Go.Proofs.YtijajkfmlghgkaaGreatDoor
namespace Go.Proofs.YtijajkfmlghgkaaGreatDoor.Nu
open Go Go.Proofs Go.RowKit Go.Maps Go.Proofs.YtijajkfmlghgkaaGreatDoor
section
variable {W0:World} {s:SqN} {w w':World} {i j a b:Int} {v:Value} {l:List (Int×Int)}
theorem At.kept {w w':World} {b off:Nat} {vs:List Value} (h:At w b off vs) {B:Nat} (hb:Below B w w') (hlt:b<B):At w' b off vs:=h.below hb hlt
theorem SqR.anew (h:SqR W0 s w i j a b v l) (so:SqO W0.heap.size s) {i' j' a' b':Int} {v':Value} {l':List (Int×Int)} (hb:Below W0.heap.size W0 w') (hk: ∀k t vs,Box w k t vs->k<=s.p6->k≠s.d->k≠s.c->k≠s.p5->Box w' k t vs)
    (ha: ∀k o vs,At w k o vs->k<s.p4->At w' k o vs) (hsz:w.heap.size<=w'.heap.size)
    (hm:SetM Zdo Tryz.prog 9 4 w' s.m []) (hd:Box w' s.d 3 [.int .i64 i',.int .i64 j']) (hc:Box w' s.c 3 [.int .i64 a',.int .i64 b']) (ho:Box w' s.p5 124 [v']) (hv:Own encP 2 221 w' (s.p6+1) v' l'):SqR W0 s w' i' j' a' b' v' l':=by
 obtain ⟨o1,o2,o3,o4,o5,o6,o7,o8,o9,o10,o11,o12,o13⟩:=so;exact ⟨hb,hk _ _ _ h.bd (by omega) (by omega) (by omega) (by omega),hk _ _ _ h.bf (by omega) (by omega) (by omega) (by omega),hk _ _ _ h.bs (by omega) (by omega) (by omega) (by omega),hk _ _ _ h.bc (by omega) (by omega) (by omega) (by omega),hk _ _ _ h.bp (by omega) (by omega) (by omega) (by omega),hk _ _ _ h.bq (by omega) (by omega) (by omega) (by omega),
   ha _ _ _ h.bg0 o3,ha _ _ _ h.bg1 o3,Nat.lt_of_lt_of_le h.bgl hsz,hk _ _ _ h.b0 (by omega) (by omega) (by omega) (by omega),hk _ _ _ h.b1 (by omega) (by omega) (by omega) (by omega),hm,hd,hc,ho,hv⟩
theorem Zfz (w:World) (g o:Nat) (u:Value):Below g w (w.setCell ⟨g,o,none⟩ u):=(Below.refl g w).setCell (p:=⟨g,o,none⟩) (Nat.le_refl _) u
theorem SetM.set (h:SetM Zdo Tryz.prog 9 4 w s.m []) {g:Nat} (hg:s.m≠g) (o:Nat) (u:Value):SetM Zdo Tryz.prog 9 4 (w.setCell ⟨g,o,none⟩ u) s.m []:=
  h.kept (Za4 w g o u) (fun e=>hg (Option.some.inj e))
theorem SqR.store (h:SqR W0 s w i j a b v l) (so:SqO W0.heap.size s) {i' j' a' b':Int} (g o:Nat) (u:Value) (hg:g=s.d∨g=s.c) (hd:Box (w.setCell ⟨g,o,none⟩ u) s.d 3 [.int .i64 i',.int .i64 j']) (hc:Box (w.setCell ⟨g,o,none⟩ u) s.c 3 [.int .i64 a',.int .i64 b']):SqR W0 s (w.setCell ⟨g,o,none⟩ u) i' j' a' b' v l:=by
  have hso:=so;obtain ⟨o1,o2,o3,o4,o5,o6,o7,o8,o9,o10,o11,o12,o13⟩:=so;refine h.anew hso (h.be.setCell (p:=⟨g,o,none⟩) (by dsimp only;omega) u) (fun k t vs hb h1 h2 h3 h4=>hb.other u (by dsimp only;omega)) (fun k o' vs hb hk=>At.kept hb (Zfz w g o u) (by omega)) (by simp) (SetM.set h.mm (by omega) o u) hd hc (h.bo.other u (by dsimp only;omega)) (h.oo.below u (by dsimp only;omega))
theorem SqR.d0 (h:SqR W0 s w i j a b v l) (so:SqO W0.heap.size s) (x:Int):SqR W0 s (w.setCell ⟨s.d,0,none⟩ (.int .i64 x)) x j a b v l:=
  h.store so s.d 0 _ (.inl rfl) (h.dd.set 0 (.int .i64 x)) (h.cc.other _ (by have:=so.o7;have:=so.o8;dsimp only;omega))
theorem SqR.d1 (h:SqR W0 s w i j a b v l) (so:SqO W0.heap.size s) (x:Int):SqR W0 s (w.setCell ⟨s.d,1,none⟩ (.int .i64 x)) i x a b v l:=
  h.store so s.d 1 _ (.inl rfl) (h.dd.set 1 (.int .i64 x)) (h.cc.other _ (by have:=so.o7;have:=so.o8;dsimp only;omega))
theorem SqR.c0 (h:SqR W0 s w i j a b v l) (so:SqO W0.heap.size s) (x:Int):SqR W0 s (w.setCell ⟨s.c,0,none⟩ (.int .i64 x)) i j x b v l:=
  h.store so s.c 0 _ (.inr rfl) (h.dd.other _ (by have:=so.o7;have:=so.o8;dsimp only;omega)) (h.cc.set 0 (.int .i64 x))
theorem SqR.c1 (h:SqR W0 s w i j a b v l) (so:SqO W0.heap.size s) (x:Int):SqR W0 s (w.setCell ⟨s.c,1,none⟩ (.int .i64 x)) i j a x v l:=
  h.store so s.c 1 _ (.inr rfl) (h.dd.other _ (by have:=so.o7;have:=so.o8;dsimp only;omega)) (h.cc.set 1 (.int .i64 x))
theorem SqR.out (h:SqR W0 s w i j a b v l) (so:SqO W0.heap.size s) (v':Value) {l':List (Int×Int)} (ho:Own encP 2 221 w (s.p6+1) v' l'):SqR W0 s (w.setCell ⟨s.p5,0,none⟩ v') i j a b v' l':=by
  have hso:=so;obtain ⟨o1,o2,o3,o4,o5,o6,o7,o8,o9,o10,o11,o12,o13⟩:=so;exact h.anew hso (h.be.setCell (p:=⟨s.p5,0,none⟩) (by dsimp only;omega) _) (fun k t vs hb h1 h2 h3 h4=>hb.other _ (by dsimp only;omega)) (fun k o' vs hb hk=>At.kept hb (Zfz w s.p5 0 _) (by omega)) (by simp) (SetM.set h.mm (by omega) 0 _) (h.dd.other _ (by dsimp only;omega)) (h.cc.other _ (by dsimp only;omega)) (h.bo.set 0 v') (ho.below _ (by dsimp only;omega))
theorem SqR.push (h:SqR W0 s w i j a b v l) (so:SqO W0.heap.size s) {v':Value} {l':List (Int×Int)} (ho:Own encP 2 221 w' (s.p6+1) v' l') (hg:w.grownBy w' v.ownBlock):SqR W0 s (w'.setCell ⟨s.p5,0,none⟩ v') i j a b v' l':=by
  have hso:=so;obtain ⟨o1,o2,o3,o4,o5,o6,o7,o8,o9,o10,o11,o12,o13⟩:=so;have hlt: ∀k,v.ownBlock=some k->s.p6+1<=k:=h.oo.lt';have hbox: ∀k t vs,Box w k t vs->k<=s.p6->Box w' k t vs:=fun k t vs hb hk=>hb.kept hg (fun e=>by have:=hlt k e.symm;omega);have hbb:Below (s.p6+1) w w':=(Below.refl _ _).grown hg (by have:=h.bq.lt;omega) hlt;refine h.anew hso ((h.be.grown hg h.be.size (fun k hk=>by have:=hlt k hk;omega)).setCell (p:=⟨s.p5,0,none⟩) (by dsimp only;omega) _) (fun k t vs hb h1 h2 h3 h4=>(hbox k t vs hb h1).other _ (by dsimp only;omega)) (fun k o' vs hb hk=>At.kept (At.kept hb hbb (by omega)) (Zfz w' s.p5 0 _) (by omega)) (by simp;exact hg.size) (SetM.set (h.mm.kept hg (fun e=>by have:=hlt s.m e.symm;omega)) (by omega) 0 _) ((hbox _ _ _ h.dd (by omega)).other _ (by dsimp only;omega)) ((hbox _ _ _ h.cc (by omega)).other _ (by dsimp only;omega)) ((hbox _ _ _ h.bo (by omega)).set 0 v') (ho.below _ (by dsimp only;omega))
theorem SqR.pop {g n cap:Nat} {x:Int×Int} (h:SqR W0 s w i j a b (.slice (some ⟨g,0,none⟩) (n+1) cap) (l++ [x])) (so:SqO W0.heap.size s) (hn:l.length=n):SqR W0 s (w.setCell ⟨s.p5,0,none⟩ (.slice (some ⟨g,0,none⟩) n cap)) i j a b (.slice (some ⟨g,0,none⟩) n cap) l:=by
  refine h.out so _ ?_;have ho:=h.oo;unfold Own at ho ⊢;subst hn;rw [List.length_append,List.length_singleton,List.flatMap_append,List.flatMap_singleton] at ho;exact ownsRow_pop (by rw [Zbq encP 2 Zjn]) ho
end
end Go.Proofs.YtijajkfmlghgkaaGreatDoor.Nu
