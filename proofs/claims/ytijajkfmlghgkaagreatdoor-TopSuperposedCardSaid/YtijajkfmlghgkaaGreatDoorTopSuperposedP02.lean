/- Lemmas on the way to the law TopSuperposed: Dc Df Ea Rc Eb Re Rf Rg Rk Ec -/
import Derived.Test.YtijajkfmlghgkaaGreatDoorTopSuperposedP01
import Derived.IntWalk
import Derived.RegionTactic
import Derived.BigRegion
set_option linter.unusedVariables false
set_option linter.unusedSimpArgs false
set_option maxRecDepth 100000
set_option maxHeartbeats 4000000
namespace Go.Proofs.YtijajkfmlghgkaaGreatDoor
theorem Zjx {P B un u1 u2 v1 v2 ru rv t r U V:Nat} (hU:U=P* (B* (B* un+u1)+u2)+ru) (hru:ru<P) (hV:V=P* (B* v1+v2)+rv) (top:t* v1+r=B* un+u1) (h:r* B+u2<t* v2):U<t* V:=by
  have e1:t* (B* v1+v2)=B* (t* v1)+t* v2:=by rw [Nat.mul_add,Nat.mul_left_comm]
  have e2:B* (t* v1)+r* B=B* (B* un+u1):=by rw [<-top,Nat.mul_add,Nat.mul_comm r B]
  have e3:B* (B* un+u1)+u2+1<=t* (B* v1+v2):=by omega
  have e4:P* (B* (B* un+u1)+u2+1)<=P* (t* (B* v1+v2)):=Nat.mul_le_mul_left P e3;have e5:t* V=P* (t* (B* v1+v2))+t* rv:=by rw [hV,Nat.mul_add,Nat.mul_left_comm]
  rw [Nat.mul_add P _ 1] at e4;omega
theorem Zks {P B un u1 u2 v1 v2 ru rv t r U V:Nat} (hU:U=P* (B* (B* un+u1)+u2)+ru) (hV:V=P* (B* v1+v2)+rv) (hrv:rv<P) (hv1:1<=v1) (top:t* v1+r=B* un+u1) (htB:t<=B) (h:t* v2<=r* B+u2):t* V<=U+V:=by
  have e1:t* (B* v1+v2)=B* (t* v1)+t* v2:=by rw [Nat.mul_add,Nat.mul_left_comm]
  have e2:B* (t* v1)+r* B=B* (B* un+u1):=by rw [<-top,Nat.mul_add,Nat.mul_comm r B]
  have e3:t* (B* v1+v2)<=B* (B* un+u1)+u2:=by omega
  have e4:P* (t* (B* v1+v2))<=P* (B* (B* un+u1)+u2):=Nat.mul_le_mul_left P e3;have e5:t* V=P* (t* (B* v1+v2))+t* rv:=by rw [hV,Nat.mul_add,Nat.mul_left_comm]
  have e6:t* rv<=B* P:=Nat.mul_le_mul htB (by omega);have e7:B* P* 1<=B* P* v1:=Nat.mul_le_mul_left _ hv1;have e8:P* (B* v1+v2)=B* P* v1+P* v2:=by rw [Nat.mul_add,<-Nat.mul_assoc,Nat.mul_comm P B]
  omega
structure Win (B:Nat) (w v:List Nat):Prop where
  dw:Dg B w
  dv:Dg B v
  tv:Tr v
  two:2<=v.length
  len:v.length<w.length
  zer: ∀x∈w.drop (v.length+1),x=0
  lt:val B w<B* val B v
theorem Win.val_w {B:Nat} {w v:List Nat} (h:Win B w v):val B w=val B (w.take v.length)+B^v.length* w[v.length]'h.len:=by
  rw [<-Zax h.len h.zer,Zak B w _ h.len]
theorem Win.parts {B:Nat} {w v:List Nat} (h:Win B w v): ∃P ru rv,ru<P/\rv<P/\
    val B w=P* (B* (B* w[v.length]'h.len+w[v.length-1]'(by have:=h.len;omega))+w[v.length-2]'(by have:=h.len;omega))+ru/\
    val B v=P* (B* v[v.length-1]'(by have:=h.two;omega)+v[v.length-2]'(by have:=h.two;omega))+rv:=by
 have h2:=h.two;have hl:=h.len;obtain ⟨n,hn⟩: ∃n,v.length=n+2:=⟨v.length-2,by omega⟩;have e1:v.length-1=n+1:=by omega
 have e2:v.length-2=n:=by omega
 have hv1:v[v.length-1]'(by omega)=v[n+1]'(by omega):=by congr 1
 have hv2:v[v.length-2]'(by omega)=v[n]'(by omega):=by congr 1
 have hw0:w[v.length]'hl=w[n+2]'(by omega):=by congr 1
 have hw1:w[v.length-1]'(by omega)=w[n+1]'(by omega):=by congr 1
 have hw2:w[v.length-2]'(by omega)=w[n]'(by omega):=by congr 1
 refine ⟨B^n,val B (w.take n),val B (v.take n),?_,?_,?_,?_⟩
 ·have:=Zbi (h.dw.take n);rwa [List.length_take,Nat.min_eq_left (by omega)] at this
 ·have:=Zbi (h.dv.take n);rwa [List.length_take,Nat.min_eq_left (by omega)] at this
 ·rw [hw0,hw1,hw2,<-Zax (n:=n+3) (by omega) (by have:=h.zer;rw [hn] at this;exact this),Zak B w (n+2) (by omega),Zak B w (n+1) (by omega),Zak B w n (by omega),Nat.pow_succ,Nat.pow_succ];grind
 ·have e:val B v=val B (v.take (n+2)):=by rw [<-hn,List.take_of_length_le (Nat.le_refl _)]
  rw [hv1,hv2,e,Zak B v (n+1) (by omega),Zak B v n (by omega),Nat.pow_succ];grind
structure Gue (B:Nat) (w v:List Nat) (un u1 v1 t r:Nat):Prop where
  top:t* v1+r=B* un+u1
  ge:val B w<(t+1) * val B v
theorem Win.un_le {B:Nat} {w v:List Nat} (h:Win B w v):w[v.length]'h.len<=v[v.length-1]'(by have:=h.two;omega):=by
  have h2:=h.two;have e1:=h.val_w;have e2:val B v=val B (v.take (v.length-1))+B^ (v.length-1) * v[v.length-1]'(by omega):=by
    rw [<-Zak B v _ (by omega),List.take_of_length_le (by omega)]
  have e3:=Zbi (h.dv.take (v.length-1));rw [List.length_take,Nat.min_eq_left (by omega)] at e3;have e4:=h.lt;have e5:B^v.length=B* B^ (v.length-1):=by rw [<-Nat.pow_succ',show (v.length-1).succ=v.length by omega]
  generalize w[v.length]'h.len=x at *;generalize v[v.length-1]'(by omega)=y at *;generalize B^ (v.length-1)=P at *;rw [e5] at e1;have e6:val B v<P* (y+1):=by rw [Nat.mul_add];omega
  have e7:B* val B v<=B* (P* (y+1)):=Nat.mul_le_mul_left _ (by omega);have e8:B* P* x<B* (P* (y+1)):=by omega
  rw [Nat.mul_assoc] at e8;have e9:P* x<P* (y+1):=Nat.lt_of_mul_lt_mul_left e8;have:=Nat.lt_of_mul_lt_mul_left e9;omega
theorem Gue.start {B:Nat} {w v:List Nat} (h:Win B w v) {t r:Nat} (top:t* v[v.length-1]'(by have:=h.two;omega)+r=B* w[v.length]'h.len+w[v.length-1]'(by have:=h.len;omega))
    (hr:r<v[v.length-1]'(by have:=h.two;omega)):Gue B w v (w[v.length]'h.len) (w[v.length-1]'(by have:=h.len;omega)) (v[v.length-1]'(by have:=h.two;omega)) t r:=by
 refine ⟨top,?_⟩;obtain ⟨P,ru,rv,h1,h2,h3,h4⟩:=h.parts;have h5:=h.dw.get (v.length-2) (by have:=h.len;omega);generalize w[v.length]'h.len=un at *;generalize w[v.length-1]'(by have:=h.len;omega)=u1 at *;generalize w[v.length-2]'(by have:=h.len;omega)=u2 at *;generalize v[v.length-1]'(by have:=h.two;omega)=v1 at *;generalize v[v.length-2]'(by have:=h.two;omega)=v2 at *;have e1:(t+1) * v1=t* v1+v1:=Nat.succ_mul _ _;have e2:B* un+u1+1<=(t+1) * v1:=by omega
 have e3:B* (B* un+u1+1)<=B* ((t+1) * v1):=Nat.mul_le_mul_left _ e2;rw [Nat.mul_add B _ 1] at e3;have e4:P* (B* (B* un+u1)+u2+1)<=P* (B* ((t+1) * v1)):=Nat.mul_le_mul_left _ (by omega);rw [Nat.mul_add P _ 1] at e4;have e5:(t+1) * val B v=P* (B* ((t+1) * v1))+((t+1) * (P* v2)+(t+1) * rv):=by rw [h4];grind
 omega
theorem Gue.startMax {B:Nat} {w v:List Nat} (h:Win B w v) {t r un u1 v1:Nat} (hB:t+1=B) (top:t* v1+r=B* un+u1):Gue B w v un u1 v1 t r:=
  ⟨top,by rw [hB];exact h.lt⟩
theorem Gue.step {B:Nat} {w v:List Nat} (h:Win B w v) {t r:Nat} (hg:Gue B w v (w[v.length]'h.len) (w[v.length-1]'(by have:=h.len;omega)) (v[v.length-1]'(by have:=h.two;omega)) t r)
    (hc:B<=t∨r* B+w[v.length-2]'(by have:=h.len;omega)<t* v[v.length-2]'(by have:=h.two;omega)):0<t/\Gue B w v (w[v.length]'h.len) (w[v.length-1]'(by have:=h.len;omega)) (v[v.length-1]'(by have:=h.two;omega)) (t-1) (r+v[v.length-1]'(by have:=h.two;omega)):=by
 obtain ⟨P,ru,rv,h1,h2,h3,h4⟩:=h.parts;have hB:0<B:=by have:=h.dw.get (v.length) h.len;omega
 have hlt:=h.lt;have hgt:=hg.top;have hn:0<t:=by
   rcases hc with hc|hc
   ·omega
   ·rcases Nat.eq_zero_or_pos t with rfl|h0
    ·omega
    ·exact h0
 refine ⟨hn,?_,?_⟩
 ·obtain ⟨t',rfl⟩: ∃t',t=t'+1:=⟨t-1,by omega⟩;rw [Nat.add_sub_cancel];rw [Nat.succ_mul] at hgt;omega
 ·rw [show t-1+1=t by omega]
  rcases hc with hc|hc
  ·exact Nat.lt_of_lt_of_le hlt (Nat.mul_le_mul_right _ hc)
  ·exact Zjx h3 h1 h4 (by omega) hc
theorem Gue.done {B:Nat} {w v:List Nat} (h:Win B w v) {t r:Nat} (hg:Gue B w v (w[v.length]'h.len) (w[v.length-1]'(by have:=h.len;omega)) (v[v.length-1]'(by have:=h.two;omega)) t r)
    (ht:t<=B) (hc:B<=r∨t* v[v.length-2]'(by have:=h.two;omega)<=r* B+w[v.length-2]'(by have:=h.len;omega)):t* val B v<=val B w+val B v:=by
 obtain ⟨P,ru,rv,h1,h2,h3,h4⟩:=h.parts;have hv2:=h.dv.get (v.length-2) (by have:=h.two;omega);have hv1:=h.tv.last (by have:=h.two;omega);have hgt:=hg.top;refine Zks h3 h4 h2 (by omega) (by omega) ht ?_
 rcases hc with hc|hc
 ·have e1:t* v[v.length-2]'(by have:=h.two;omega)<=B* B:=Nat.mul_le_mul ht (by omega);have e2:B* B<=r* B:=Nat.mul_le_mul_right _ hc;omega
 ·exact hc
structure SmI (B:Nat) (w0 v w:List Nat) (t c i:Nat):Prop where
  len:w.length=w0.length
  dg:Dg B w
  rest:w.drop i=w0.drop i
  eq:val B (w.take i)+t* val B (v.take i)=val B (w0.take i)+B^i* c
theorem SmI.start {B:Nat} {w0 v:List Nat} {t:Nat} (h:Dg B w0):SmI B w0 v w0 t 0 0:=⟨rfl,h,rfl,by simp [val]⟩
theorem SmI.step {B:Nat} {w0 v w:List Nat} {t c i:Nat} (h:SmI B w0 v w t c i) (hi:i<v.length) (hw:i<w.length) {y c':Nat} (hy:y<B) (e:y+t* v[i]+c=w[i]+B* c'):SmI B w0 v (w.set i y) t c' (i+1):=by
  have hw0:i<w0.length:=by rw [<-h.len];exact hw
  have hr:=h.rest;rw [List.drop_eq_getElem_cons hw,List.drop_eq_getElem_cons hw0] at hr;injection hr with hr1 hr2
  refine ⟨by simp [h.len],h.dg.set _ hy,by rw [List.drop_set_of_lt (by omega)];exact hr2,?_⟩;rw [Zak B (w.set i y) i (by simpa using hw),List.take_set_of_le (Nat.le_refl _),List.getElem_set_self,Zak B v i hi,Zak B w0 i hw0,<-hr1,Nat.mul_add,Nat.pow_succ];have e1:=h.eq;have e2:B^i* (y+t* v[i]+c)=B^i* (w[i]+B* c'):=by rw [e]
  rw [Nat.mul_add,Nat.mul_add,Nat.mul_add] at e2;have e3:t* (B^i* v[i])=B^i* (t* v[i]):=Nat.mul_left_comm _ _ _;rw [e3,Nat.mul_assoc];omega
theorem SmI.done {B:Nat} {w0 v w:List Nat} {t c:Nat} (hw:Win B w0 v) (h:SmI B w0 v w t c v.length) (h1:val B w0<(t+1) * val B v) (h2:t* val B v<=val B w0+val B v):
    (t* val B v<=val B w0/\c=w0[v.length]'hw.len/\val B (w.take v.length)+t* val B v=val B w0)∨
    (val B w0<t* val B v/\c=w0[v.length]'hw.len+1/\val B (w.take v.length)+t* val B v=val B w0+B^v.length):=by
 have e1:=hw.val_w;have e2:=h.eq;rw [List.take_of_length_le (Nat.le_refl _)] at e2;have e3:=Zbi (h.dg.take v.length);rw [List.length_take,Nat.min_eq_left (by rw [h.len];have:=hw.len;omega)] at e3;have e4:=Zbi hw.dv;rw [Nat.succ_mul] at h1;generalize w0[v.length]'hw.len=x at *;generalize B^v.length=P at *;generalize val B (w.take v.length)=a at *;generalize val B (w0.take v.length)=b at *;generalize t* val B v=T at *
 by_cases hT:T<=val B w0
 ·left
  have h3:P* c<P* (x+1):=by rw [Nat.mul_add];omega
  have h4:=Nat.lt_of_mul_lt_mul_left h3;have h5:P* x<P* (c+1):=by rw [Nat.mul_add];omega
  have h6:=Nat.lt_of_mul_lt_mul_left h5;obtain rfl:c=x:=by omega
  exact ⟨hT,rfl,by omega⟩
 ·right
  have h3:P* x<P* c:=by omega
  have h4:=Nat.lt_of_mul_lt_mul_left h3;have h5:P* c<P* (x+2):=by rw [Nat.mul_add];omega
  have h6:=Nat.lt_of_mul_lt_mul_left h5;obtain rfl:c=x+1:=by omega
  rw [Nat.mul_add] at e2;exact ⟨by omega,rfl,by omega⟩
structure AbI (B:Nat) (w v w':List Nat) (c i:Nat):Prop where
  len:w'.length=w.length
  dg:Dg B w'
  rest:w'.drop i=w.drop i
  carry:c<=1
  eq:val B (w'.take i)+B^i* c=val B (w.take i)+val B (v.take i)
theorem AbI.start {B:Nat} {w v:List Nat} (h:Dg B w):AbI B w v w 0 0:=⟨rfl,h,rfl,by omega,by simp [val]⟩
theorem AbI.step {B:Nat} {w v w':List Nat} {c i:Nat} (hv:Dg B v) (h:AbI B w v w' c i) (hi:i<v.length) (hw:i<w'.length) {s:Nat} (hs:s=w'[i]+v[i]+c):AbI B w v (w'.set i (s % B)) (s / B) (i+1):=by
  have hw0:i<w.length:=by rw [<-h.len];exact hw
  have hr:=h.rest;have h1:=hv.get i hi;have h2:=h.dg.get i hw;have h3:=h.carry;rw [List.drop_eq_getElem_cons hw,List.drop_eq_getElem_cons hw0] at hr;injection hr with hr1 hr2
  refine ⟨by simp [h.len],h.dg.set _ (Nat.mod_lt _ (by omega)),by rw [List.drop_set_of_lt (by omega)];exact hr2,?_,?_⟩
  ·have:s<B* 2:=by omega
   have:=Nat.div_lt_of_lt_mul this;omega
  ·rw [Zak B (w'.set i (s % B)) i (by simpa using hw),List.take_set_of_le (Nat.le_refl _),List.getElem_set_self,Zak B v i hi,Zak B w i hw0,<-hr1,Nat.pow_succ,Nat.mul_assoc,Nat.add_assoc,<-Nat.mul_add,Nat.mod_add_div,hs,Nat.mul_add,Nat.mul_add];have:=h.eq;omega
theorem AbI.done {B:Nat} {w0 v w w':List Nat} {t c:Nat} (hw:Win B w0 v) (hl:w.length=w0.length) (ht:0<t) (hlt:val B w0<t* val B v) (hge:t* val B v<=val B w0+val B v) (hval:val B (w.take v.length)+t* val B v=val B w0+B^v.length) (h:AbI B w v w' c v.length):
    c=1/\val B (w'.take v.length)+(t-1) * val B v=val B w0:=by
 have e2:=h.eq;rw [List.take_of_length_le (Nat.le_refl _)] at e2;have e3:=Zbi (h.dg.take v.length);rw [List.length_take,Nat.min_eq_left (by rw [h.len,hl];have:=hw.len;omega)] at e3;have e4:=Zbi hw.dv;obtain ⟨t',rfl⟩: ∃t',t=t'+1:=⟨t-1,by omega⟩;rw [Nat.succ_mul] at hlt hge hval;rw [Nat.add_sub_cancel];have:=h.carry
 rcases (show c=0∨c=1 by omega) with rfl|rfl
 ·omega
 ·exact ⟨rfl,by omega⟩
structure LdI (B A V:Nat) (u q:List Nat) (n j:Nat):Prop where
  lu:u.length=n+q.length
  du:Dg B u
  dq:Dg B (q.drop j)
  lt:val B u<V* B^j
  eq:A=val B (q.drop j) * B^j* V+val B u
theorem LdI.start {B A V n:Nat} {u q:List Nat} (hl:u.length=n+q.length) (hd:Dg B u) (ha:val B u=A) (hlt:A<V* B^q.length):LdI B A V u q n q.length:=by
  refine ⟨hl,hd,by rw [List.drop_length];exact Dg.nil B,by rw [ha];exact hlt,by rw [List.drop_length];simp [val,ha]⟩
theorem LdI.win {B A:Nat} {v u q:List Nat} {k:Nat} (hv:Dg B v) (tv:Tr v) (h2:2<=v.length) (hk:k<q.length) (h:LdI B A (val B v) u q v.length (k+1)):Win B (u.drop k) v:=by
  have hB:0<B:=by
    have:=hv.get 0 (by omega);omega
  have hP:0<B^k:=Nat.pow_pos hB;have hl:=h.lu;have h3:=h.lt;have h4:=Zbi hv;have hs:=Za7 B u k (by omega);refine ⟨h.du.drop k,hv,tv,h2,by rw [List.length_drop];omega,?_,?_⟩
  ·rw [List.drop_drop];have hs2:=Za7 B u (k+(v.length+1)) (by omega);have e:val B u<B^ (k+(v.length+1)):=by
    have e1:val B v* B^ (k+1)<=B^v.length* B^ (k+1):=Nat.mul_le_mul_right _ (by omega);rw [<-Nat.pow_add,show v.length+(k+1)=k+(v.length+1) by omega] at e1;omega
   have e2:val B (u.drop (k+(v.length+1)))=0:=by
     rcases Nat.eq_zero_or_pos (val B (u.drop (k+(v.length+1)))) with h0|h0
     ·exact h0
     ·have:B^ (k+(v.length+1)) * 1<=B^ (k+(v.length+1)) * val B (u.drop (k+(v.length+1))):=Nat.mul_le_mul_left _ h0;omega
   generalize u.drop (k+(v.length+1))=l at e2;clear e hs2 hs h hl h3
   induction l with
   | nil=>intro x hx;cases hx
   | cons y l ih=>
     have e3:y+B* val B l=0:=e2;intro x hx
     rcases List.mem_cons.1 hx with rfl|hx
     ·omega
     ·refine ih ?_ x hx
      rcases Nat.eq_zero_or_pos (val B l) with h0|h0
      ·exact h0
      ·have:=Nat.mul_pos hB h0;omega
  ·have e1:B^k* val B (u.drop k)<B^k* (B* val B v):=by
     rw [Nat.pow_succ,Nat.mul_comm (val B v),Nat.mul_assoc] at h3;omega
   exact Nat.lt_of_mul_lt_mul_left e1
theorem LdI.step {B A:Nat} {v u u' q:List Nat} {k t:Nat} (hv:Dg B v) (hv0:0<val B v) (hk:k<q.length) (h:LdI B A (val B v) u q v.length (k+1)) (hl:u'.length=u.length) (hd:Dg B u') (ht:u'.take k=u.take k)
    (hz: ∀x∈ (u'.drop k).drop v.length,x=0) (hval:val B ((u'.drop k).take v.length)+t* val B v=val B (u.drop k)) (hlt:val B (u.drop k)<(t+1) * val B v) (htB:t<B):LdI B A (val B v) u' (q.set k t) v.length k:=by
 have hB:0<B:=by omega
 have hP:0<B^k:=Nat.pow_pos hB;have hlu:=h.lu;have hs:=Za7 B u k (by omega);have hs':=Za7 B u' k (by omega);have e0:=Zax (B:=B) (l:=u'.drop k) (n:=v.length) (by rw [List.length_drop];omega) hz;have hdr:(q.set k t).drop k=t::q.drop (k+1):=by
   rw [List.drop_eq_getElem_cons (by simpa using hk),List.getElem_set_self,List.drop_set_of_lt (by omega)]
 have e2:=Zbi (hd.take k);rw [List.length_take,Nat.min_eq_left (by omega)] at e2;refine ⟨by simp [hl,hlu],hd,?_,?_,?_⟩
 ·rw [hdr];intro x hx
  rcases List.mem_cons.1 hx with rfl|hx
  ·exact htB
  ·exact h.dq x hx
 ·rw [Nat.succ_mul] at hlt;have e1:val B (u'.drop k)+1<=val B v:=by omega
  have e3:B^k* (val B (u'.drop k)+1)<=B^k* val B v:=Nat.mul_le_mul_left _ e1;rw [Nat.mul_add] at e3;rw [Nat.mul_comm (val B v)];omega
 ·rw [h.eq,hdr,hs,hs',ht,<-hval,e0,Nat.pow_succ];show _=(t+B* val B (q.drop (k+1))) * B^k* val B v+_;grind
theorem LdI.done {B A:Nat} {v u q:List Nat} (hv0:0<val B v) (h:LdI B A (val B v) u q v.length 0):val B q=A / val B v/\val B u=A % val B v/\Dg B q:=by
  have e:=h.eq;have hr:=h.lt;have hd:=h.dq;simp only [Z7,Nat.pow_zero,Nat.mul_one] at e hr hd;have e2:A=val B v* val B q+val B u:=by rw [e,Nat.mul_comm]
  refine ⟨?_,?_,hd⟩
  ·rw [e2,Nat.mul_add_div hv0,Nat.div_eq_of_lt hr];omega
  ·rw [e2,Nat.mul_add_mod,Nat.mod_eq_of_lt hr]
structure ShI (B S:Nat) (x d:List Nat) (c i:Nat):Prop where
  len:d.length=i
  dg:Dg B d
  carry:c<S
  eq:val B d+B^i* c=S* val B (x.take i)
theorem ShI.start {B S:Nat} (hS:0<S) (x:List Nat):ShI B S x [] 0 0:=⟨rfl,Dg.nil B,hS,by simp [val]⟩
theorem ShI.step {B S K:Nat} {x d:List Nat} {c i:Nat} (hK:B=S* K) (hx:Dg B x) (h:ShI B S x d c i) (hi:i<x.length):c+x[i] * S % B<B/\x[i] / K<S/\ShI B S x (d++ [c+x[i] * S % B]) (x[i] / K) (i+1):=by
  have h1:=hx.get i hi;have h2:=h.carry;have hS:0<S:=by omega
  have hK0:0<K:=by
    rcases Nat.eq_zero_or_pos K with h0|h0
    ·rw [h0] at hK;omega
    ·exact h0
  have e1:x[i] * S % B=S* (x[i] % K):=by rw [hK,Nat.mul_comm x[i] S,Nat.mul_mod_mul_left]
  have e2:x[i] % K<K:=Nat.mod_lt _ hK0;have e3:S* (x[i] % K+1)<=S* K:=Nat.mul_le_mul_left _ e2;rw [Nat.mul_add] at e3;have e4:x[i] / K<S:=Nat.div_lt_of_lt_mul (by rw [Nat.mul_comm,<-hK];exact h1);have e5:c+x[i] * S % B<B:=by rw [e1];omega
  refine ⟨e5,e4,by simp [h.len],h.dg.app (Dg.one e5),e4,?_⟩;have h3:=h.eq;have e6:S* x[i]=S* (x[i] % K)+B* (x[i] / K):=by
    rw [hK,Nat.mul_assoc,<-Nat.mul_add]
    congr 1
    have:=Nat.div_add_mod x[i] K;omega
  rw [Zcd,Zbo,h.len,Zak B x i hi,e1,Nat.pow_succ,Nat.mul_add S,Nat.mul_left_comm S,e6];rw [Nat.mul_add,Nat.mul_add,Nat.mul_assoc];omega
structure UsI (B S:Nat) (u d:List Nat) (i:Nat):Prop where
  len:d.length=i
  dg:Dg B d
  eq:val B d+B^i* (val B (u.drop i) / S)=val B u / S
theorem UsI.start (B S:Nat) (u:List Nat):UsI B S u [] 0:=⟨rfl,Dg.nil B,by simp [val]⟩
theorem UsI.step {B S K:Nat} {u d:List Nat} {i:Nat} (hS:0<S) (hK:B=S* K) (hu:Dg B u) (h:UsI B S u d i) (hi:i<u.length):u[i] / S+dig u (i+1) % S* K<B/\UsI B S u (d++ [u[i] / S+dig u (i+1) % S* K]) (i+1):=by
  have h1:=hu.get i hi;have e1:u[i] / S<K:=Nat.div_lt_of_lt_mul (by rw [<-hK];exact h1);have e2:(dig u (i+1) % S+1) * K<=S* K:=Nat.mul_le_mul_right _ (Nat.mod_lt _ hS);rw [Nat.add_mul] at e2;have e5:u[i] / S+dig u (i+1) % S* K<B:=by omega
  refine ⟨e5,by simp [h.len],h.dg.app (Dg.one e5),?_⟩;have hV:val B (u.drop (i+1)) % S=dig u (i+1) % S:=by
    by_cases hl:i+1<u.length
    ·rw [Zbv B u _ hl,Zbh hl,hK,Nat.mul_assoc,Nat.add_mul_mod_self_left]
    ·rw [Zey (by omega),List.drop_of_length_le (by omega)];rfl
  have e3:val B (u.drop i) / S=u[i] / S+K* val B (u.drop (i+1)):=by
    rw [Zbv B u i hi,hK,Nat.mul_assoc,Nat.add_mul_div_left _ _ hS]
  have e4:K* val B (u.drop (i+1))=B* (val B (u.drop (i+1)) / S)+dig u (i+1) % S* K:=by
    have:=Nat.div_add_mod (val B (u.drop (i+1))) S;rw [hV] at this;generalize val B (u.drop (i+1))=V at *;have e7:B* (V / S)=K* (S* (V / S)):=by rw [hK,<-Nat.mul_assoc,Nat.mul_comm K S]
    rw [e7,Nat.mul_comm _ K,<-Nat.mul_add,this]
  have h2:=h.eq;rw [e3,e4] at h2;rw [Zcd,Zbo,h.len,Nat.pow_succ];rw [Nat.mul_add,Nat.mul_add] at h2;rw [Nat.mul_add,Nat.mul_assoc];omega
theorem Zkt {B T u2 v1 v2 t r:Nat} (top:t* v1+r=T) (ge:T* B+u2<(t+1) * (v1* B+v2)) (hv2:v2<B) (he:(B<=r/\t<=B)∨t* v2<=r* B+u2):t=(T* B+u2) / (v1* B+v2)/\t* (v1* B+v2)<=T* B+u2:=by
  have e1:t* (v1* B+v2)<=T* B+u2:=by
    have e2:t* (v1* B+v2)=(t* v1) * B+t* v2:=by rw [Nat.mul_add,Nat.mul_assoc]
    have e3:T* B=(t* v1) * B+r* B:=by rw [<-top,Nat.add_mul]
    have e4:t* v2<=r* B+u2:=by
      rcases he with ⟨h1,h2⟩|h1
      ·have e5:t* v2<=B* B:=Nat.mul_le_mul h2 (by omega);have e6:B* B<=r* B:=Nat.mul_le_mul_right _ h1;omega
      ·exact h1
    omega
  refine ⟨?_,e1⟩;have hp:0<v1* B+v2:=by
    rcases Nat.eq_zero_or_pos (v1* B+v2) with h0|h0
    ·rw [h0] at ge;omega
    ·exact h0
  exact (Nat.div_eq_of_lt_le e1 ge).symm
theorem Zku {B T u2 v1 v2 t r:Nat} (top:t* v1+r=T) (hlt:T* B+u2<B* (v1* B+v2)) (hc:B<=t∨r* B+u2<t* v2):0<t/\(t-1) * v1+(r+v1)=T/\T* B+u2<(t-1+1) * (v1* B+v2):=by
  have ht:0<t:=by
    rcases hc with hc|hc
    ·rcases Nat.eq_zero_or_pos B with h0|h0
     ·rw [h0] at hlt;omega
     ·omega
    ·rcases Nat.eq_zero_or_pos t with rfl|h0
     ·omega
     ·exact h0
  refine ⟨ht,?_,?_⟩
  ·obtain ⟨t',rfl⟩: ∃t',t=t'+1:=⟨t-1,by omega⟩;rw [Nat.add_sub_cancel];rw [Nat.succ_mul] at top;omega
  ·rw [show t-1+1=t by omega]
   rcases hc with hc|hc
   ·exact Nat.lt_of_lt_of_le hlt (Nat.mul_le_mul_right _ hc)
   ·have e2:t* (v1* B+v2)=(t* v1) * B+t* v2:=by rw [Nat.mul_add,Nat.mul_assoc]
    have e3:T* B=(t* v1) * B+r* B:=by rw [<-top,Nat.add_mul]
    omega
end Go.Proofs.YtijajkfmlghgkaaGreatDoor
namespace Go.Proofs.YtijajkfmlghgkaaGreatDoor.Nu
open Go Go.Proofs Go.RowKit Go.Proofs.YtijajkfmlghgkaaGreatDoor
def encW (n:Nat):List Value:=[.int .u64 (n:Int)]
theorem Zae (n:Nat):(encW n).length=1:=rfl
def encD (n:Nat):List Value:=[.int .i64 (n:Int)]
theorem Zai (n:Nat):(encD n).length=1:=rfl
theorem Zbl (x:Nat): ∀u∈encD x,u.oneCell'=true:=by intro u hu;simp [encD] at hu;subst hu;rfl
def encS (s:ByteArray):List Value:=[.string s]
theorem Zcj (s:ByteArray):(encS s).length=1:=rfl
theorem Zgk (x:ByteArray): ∀u∈encS x,u.oneCell'=true:=by intro u hu;simp [encS] at hu;subst hu;rfl
def Sc {α:Type} (f:α->List Value) (sz:Nat) (w:World) (B:Nat) (v:Value) (l:List α):Prop:=
  ∃a c,v= .slice a l.length c/\l.length<=1000000000/\l.length<=c/\(0<l.length->∃b off,a=some ⟨b,off,none⟩/\b<B/\
   ∀i (h:i<l.length),At w b (off+i* sz) (f l[i]))
section
variable {α:Type} {f:α->List Value} {sz:Nat} {w w':World} {B B':Nat} {v:Value} {l:List α}
theorem Sc.below (h:Sc f sz w B v l) (hb:Below B w w'):Sc f sz w' B v l:=by
  obtain ⟨a,c,rfl,h1,h2,h⟩:=h;refine ⟨a,c,rfl,h1,h2,fun h0=> ?_⟩;obtain ⟨b,off,rfl,hB,hc⟩:=h h0;exact ⟨b,off,rfl,hB,fun i hi=>(hc i hi).below hb hB⟩
theorem Sc.mono (h:Sc f sz w B v l) (hB':B<=B'):Sc f sz w B' v l:=by
  obtain ⟨a,c,rfl,h1,h2,h⟩:=h;refine ⟨a,c,rfl,h1,h2,fun h0=> ?_⟩;obtain ⟨b,off,rfl,hB,hc⟩:=h h0;exact ⟨b,off,rfl,by omega,hc⟩
theorem Sc.later (h:Sc f sz w w.heap.size v l) (hb:Below w.heap.size w w'):Sc f sz w' w'.heap.size v l:=(h.below hb).mono hb.size
theorem Sc.nil (f:α->List Value) (sz:Nat) (w:World) (B c:Nat) (a:Option Addr):Sc f sz w B (.slice a 0 c) []:=⟨a,c,rfl,by simp,Nat.zero_le _,fun h=>absurd h (by simp)⟩
theorem Sc.of_own {base:Nat} {e:TypeId} (hf: ∀x,(f x).length=sz) (hlen:l.length<=1000000000) (h:Own f sz e w base v l):Sc f sz w w.heap.size v l:=by
  rcases h.2 with ⟨rfl,h0⟩|⟨g,cap,cur,rfl,_,hg,hcap,_⟩
  ·obtain rfl:l=[]:=List.eq_nil_of_length_eq_zero h0;exact Sc.nil f sz w _ 0 none
  ·refine ⟨_,cap,rfl,hlen,hcap,fun _=>⟨g,0,rfl,(Array.getElem?_eq_some_iff.1 hg).1,fun i hi j u hu=> ?_⟩⟩;have hj:j<sz:=by have:=(List.getElem?_eq_some_iff.1 hu).1;rwa [hf] at this
   rw [show 0+i* sz+j=i* sz+j by omega,World.ownsRow.cellAt h (i* sz+j) (by have:(i+1) * sz<=l.length* sz:=Nat.mul_le_mul_right _ hi;rw [Nat.succ_mul] at this;omega),Zci f sz hf l i hi j hj];exact hu
theorem Sc.take {a:Option Addr} {n c:Nat} (h:Sc f sz w B (.slice a n c) l) (k:Nat) (hk:k<=l.length):Sc f sz w B (.slice a k c) (l.take k):=by
  obtain ⟨a',c',e,h1,h2,hA⟩:=h;injection e with e1 e2 e3
  subst e1 e3;have hl:(l.take k).length=k:=by simp;omega
  refine ⟨a,c,by rw [hl],by rw [hl];omega,by rw [hl];omega,fun h0=> ?_⟩;obtain ⟨b,off,e,hb,hc⟩:=hA (by omega);refine ⟨b,off,e,hb,fun i hi=> ?_⟩;rw [List.getElem_take];exact hc i (by rw [hl] at hi;omega)
theorem Sc.drop {b off n c:Nat} (h:Sc f sz w B (.slice (some ⟨b,off,none⟩) n c) l) (k:Nat) (hk:k<=l.length) (h0:0<l.length):Sc f sz w B (.slice (some ⟨b,off+k* sz,none⟩) (n-k) (c-k)) (l.drop k):=by
  obtain ⟨a',c',e,h1,h2,hA⟩:=h;injection e with e1 e2 e3
  subst e1 e2 e3;obtain ⟨b',off',e,hb,hc⟩:=hA h0;cases e;refine ⟨_,_,by rw [List.length_drop],by rw [List.length_drop];omega,by rw [List.length_drop];omega,fun _=>⟨b,off+k* sz,rfl,hb,fun i hi=> ?_⟩⟩;rw [List.length_drop] at hi;rw [List.getElem_drop,show off+k* sz+i* sz=off+(k+i) * sz by rw [Nat.add_mul];omega];exact hc (k+i) (by omega)
theorem Sc.shape (h:Sc f sz w B v l): ∃a c,v= .slice a l.length c/\l.length<=1000000000/\l.length<=c:=by
  obtain ⟨a,c,h1,h2,h3,_⟩:=h;exact ⟨a,c,h1,h2,h3⟩
theorem Sc.at {b off n c:Nat} (h:Sc f sz w B (.slice (some ⟨b,off,none⟩) n c) l) (i:Nat) (hi:i<l.length):At w b (off+i* sz) (f l[i]):=by
  obtain ⟨a',c',e,h1,h2,hA⟩:=h;injection e with e1 e2 e3
  subst e1;obtain ⟨b',off',e,hb,hc⟩:=hA (by omega);cases e;exact hc i hi
theorem Sc.blk {b off n c:Nat} (h:Sc f sz w B (.slice (some ⟨b,off,none⟩) n c) l) (h0:0<l.length):b<B:=by
  obtain ⟨a',c',e,h1,h2,hA⟩:=h;injection e with e1 e2 e3
  subst e1;obtain ⟨b',off',e,hb,hc⟩:=hA h0;cases e;exact hb
theorem Own.atN {e:TypeId} {base g n cap:Nat} (h:Own f sz e w base (.slice (some ⟨g,0,none⟩) n cap) l) (hn:l.length=n) (hf: ∀x,(f x).length=sz) (i:Nat) (hi:i<l.length):At w g (i* sz) (f l[i]):=by subst hn;exact h.at hf i hi
theorem Own.frozenN {e:TypeId} {base g n cap:Nat} (h:Own f sz e w base (.slice (some ⟨g,0,none⟩) n cap) l) (hn:l.length=n) (o:Nat):w.frozen? ⟨g,o,none⟩=false:=by subst hn;exact h.frozen o
theorem Own.setN {e:TypeId} {base g n cap:Nat} (h:Own f sz e w base (.slice (some ⟨g,0,none⟩) n cap) l) (hn:l.length=n) (hf: ∀x,(f x).length=sz) (i:Nat) (hi:i<l.length) (j:Nat) (hj:j<sz) (u:Value) (y:α) (hy:f y=(f l[i]).set j u):
    Own f sz e (w.setCell ⟨g,i* sz+j,none⟩ u) base (.slice (some ⟨g,0,none⟩) n cap) (l.set i y):=by subst hn;exact h.set hf i hi j hj u y hy
end
theorem mk1 {α:Type} (f:α->List Value) (x0:α) (z:Value) (hz:f x0=[z]) (t e:TypeId) (bytes:Nat) {P:Program} (hT:P.underlying t=some (.slice e)) (hI:(P.info? e).map (fun i=>(i.zero,i.size,i.bytes))=some (some z,1,bytes)) (hzc:z.cells= #[z])
    (hby:bytes<=1000) (base:Nat) (w:World) (n:Nat) (hn:n<=1000000000) (hb:base<=w.heap.size)
    {ops:Array Oper} {rest:List Oper} {o:Oper} {a:Act} {Q:Exit->Act->World->Prop} (hg:o.guard=none) (l c:Operand) (hop:o.op=Op.makeSlice t l c) (kl kc:IntKind) (hl:a.eval l= .int kl n) (hc:a.eval c= .int kc n)
    (h: ∀w',Own f 1 e w' base (.slice (some ⟨w.heap.size,0,none⟩) n n) (List.replicate n x0)->w.grownBy w' none->wpList P ops Q rest (a.put o.dst (.slice (some ⟨w.heap.size,0,none⟩) n n)) w'):wpList P ops Q (o::rest) a w:=by
 obtain ⟨i,hi,h0,h1,h2⟩:=info_parts hI;have hmul:bytes* n<=1000* 1000000000:=Nat.mul_le_mul hby hn;refine wpList_make_full w hg l c t hop base e i z 1 hT hi h0 h1 kl kc _ _ n hl hc rfl rfl (by rw [h2];omega) (by unfold maxLen;omega) hb ?_;intro w' how hgr;refine h w' ?_ hgr;unfold Own;rw [hzc,Nat.mul_one,toList_madeCells_one] at how;have:(List.replicate n x0).flatMap f=List.replicate n z:=by
   clear how hmul h hl hc hn
   induction n with
   | zero=>rfl
   | succ n ih=>rw [List.replicate_succ,List.flatMap_cons,ih,hz,List.replicate_succ];rfl
 rw [this,List.length_replicate];exact how
theorem Zbm {w w':World} (h:w.grownBy w' none):Below w.heap.size w w':=(Below.refl _ _).grown h (Nat.le_refl _) (fun k hk=>by cases hk)
def IntR (w:World) (v:Value) (z:Int):Prop:=
  (v= .agg #[.int .i64 z,.slice none 0 0]/\ -9223372036854775808<=z/\z<=9223372036854775807)∨
  (∃ (s:Int) (b off n c:Nat) (l:List Nat),v= .agg #[.int .i64 s,.slice (some ⟨b,off,none⟩) n c]/\Sc encW 1 w w.heap.size (.slice (some ⟨b,off,none⟩) n c) l/\n=l.length/\0<n/\Dg (2^64) l/\Tr l/\9223372036854775807<val (2^64) l/\
   ((s=1/\z=(val (2^64) l:Int))∨(s= -1/\z= -(val (2^64) l:Int))))
theorem IntR.later {w w':World} {v:Value} {z:Int} (h:IntR w v z) (hb:Below w.heap.size w w'):IntR w' v z:=by
  rcases h with h|⟨s,b,off,n,c,l,h1,h2,h3⟩
  ·exact .inl h
  ·exact .inr ⟨s,b,off,n,c,l,h1,h2.later hb,h3⟩
theorem IntR.small (w:World) {z:Int} (h1: -9223372036854775808<=z) (h2:z<=9223372036854775807):IntR w (.agg #[.int .i64 z,.slice none 0 0]) z:= .inl ⟨rfl,h1,h2⟩
structure Wds (k:Nat) (z:Int):Prop where
  lt:z.natAbs<2^ (64* k)
theorem Wds.mono {k m:Nat} {z:Int} (h:Wds k z) (hkm:k<=m):Wds m z:=⟨Nat.lt_of_lt_of_le h.lt (Nat.pow_le_pow_right (by decide) (by omega))⟩
theorem Wds.neg {k:Nat} {z:Int} (h:Wds k z):Wds k (-z):=⟨by rw [Int.natAbs_neg];exact h.lt⟩
theorem Wds.abs {k:Nat} {z:Int} (h:Wds k z):Wds k (z.natAbs:Int):=⟨by rw [Int.natAbs_natCast];exact h.lt⟩
theorem Wds.small {z:Int} (h1: -9223372036854775808<=z) (h2:z<=9223372036854775807):Wds 1 z:=⟨by omega⟩
theorem Wds.mul {i j:Nat} {a b:Int} (ha:Wds i a) (hb:Wds j b):Wds (i+j) (a* b):=by
  refine ⟨?_⟩;rw [Int.natAbs_mul,Nat.mul_add,Nat.pow_add];exact Nat.mul_lt_mul'' ha.lt hb.lt
theorem Wds.add {i j k:Nat} {a b:Int} (ha:Wds i a) (hb:Wds j b) (h1:i<k) (h2:j<k):Wds k (a+b):=by
  obtain ⟨m,rfl⟩: ∃m,k=m+1:=⟨k-1,by omega⟩;have h1:=(ha.mono (show i<=m by omega)).lt;have h2:=(hb.mono (show j<=m by omega)).lt;refine ⟨?_⟩;have e:2^ (64* (m+1))=2^ (64* m) * 2^64:=by rw [<-Nat.pow_add,Nat.mul_add]
  have:(a+b).natAbs<=a.natAbs+b.natAbs:=Int.natAbs_add_le a b;have:2^ (64* m) * 2<=2^ (64* m) * 2^64:=Nat.mul_le_mul_left _ (by decide);omega
theorem Wds.le {k:Nat} {a b:Int} (h:Wds k b) (hab:a.natAbs<=b.natAbs):Wds k a:=⟨Nat.lt_of_le_of_lt hab h.lt⟩
theorem Wds.len {k:Nat} {l:List Nat} (h:Wds k (val (2^64) l:Int)) (ht:Tr l):l.length<=k:=by
  refine Zd7 (B:=2^64) (by decide) ht (n:=k) ?_;have h1:=h.lt;rw [Int.natAbs_natCast] at h1;rw [<-Nat.pow_mul];exact h1
end Go.Proofs.YtijajkfmlghgkaaGreatDoor.Nu
namespace Go
open Go.RowKit
section
structure CallFlow (ops:Array Oper) (n b:Nat) (ob:Oper) (W:World) (a0 A:Act) (D:Value->World->Prop) (listed:Array Bool) (a:Act) (w:World) (v:Value):Prop where
  inv:HeadInv .any ops n listed
  size:a.tmps.size=a0.tmps.size
  defers:a.defers=a0.defers
  slot: ∀j o t,j<n->ops[j]?=some o->o.dst=some t->j≠b->a.tmps[t]?=if listed.getD j false=true then A.tmps[t]? else a0.tmps[t]?
  slotb: ∀t,ob.dst=some t->a.tmps[t]?=if listed.getD b false=true then a0.tmps[t]?.map (fun _=>v) else a0.tmps[t]?
  other: ∀t,(∀j o,j<n->ops[j]?=some o->o.dst≠some t)->a.tmps[t]?=a0.tmps[t]?
  wld:(listed.getD b false=true->D v w)/\(listed.getD b false=false->w=W)
variable {P:Program} {l:List Oper} {n b:Nat} {ob:Oper} {W:World} {a0 A:Act} {D:Value->World->Prop} {fn:FuncId} {args:Array Value} {Q:Exit->Act->World->Prop}
structure Keep (W:World) (S:Nat->Nat->Prop) where
  w:World
  cells: ∀b o,S b o->w.cell? ⟨b,o,none⟩=W.cell? ⟨b,o,none⟩
structure Keep1 {W:World} {S:Nat->Nat->Prop} (X:Keep W S) where
  w:World
  h:w=X.w
instance {W:World} {S:Nat->Nat->Prop} (X:Keep W S):Nonempty (Keep1 X):=⟨⟨X.w,rfl⟩⟩
theorem Keep1.cell {W:World} {S:Nat->Nat->Prop} {X:Keep W S} (Y:Keep1 X) (b o:Nat) (h:S b o):Y.w.cell? ⟨b,o,none⟩=W.cell? ⟨b,o,none⟩:=by rw [Y.h];exact X.cells b o h
attribute [go_sem] Keep1.cell
theorem Zid {W:World} {S:Nat->Nat->Prop} (X:Keep W S):(fun w'=> ∃Y:Keep1 X,w'=Y.w)=(fun w'=>w'=X.w):=funext fun w'=>propext ⟨fun ⟨Y,h⟩=>h.trans Y.h,fun h=>⟨⟨X.w,rfl⟩,h⟩⟩
end
end Go
namespace Go.Proofs.YtijajkfmlghgkaaGreatDoor.Nu
open Go Go.Proofs Go.RowKit Go.Proofs.YtijajkfmlghgkaaGreatDoor
theorem Zie (n:Int) (h1: -9223372036854775808<=n) (h2:n<=9223372036854775807) (w:World):Calls Tryz.prog 298 #[.int .i64 n] w fun e w'=>e= .returned (.int .u64 (n.natAbs:Int))/\w=w':=by
  by_cases h0:n<0
  ·have d0:decide (n<0)=true:=Zt h0;have hv:IntKind.u64.wrap (IntKind.i64.wrap (-n))=(n.natAbs:Int):=by
     rcases (show n= -9223372036854775808∨ -9223372036854775808<n by omega) with rfl|h3
     ·rfl
     ·rw [IntWalk.i64_in _ (by omega),IntWalk.u64_in _ (by omega)];omega
   generalize (n.natAbs:Int)=N at *;obtain ⟨m,hm⟩: ∃m,IntKind.i64.wrap (-n)=m:=⟨_,rfl⟩;rw [hm] at hv;clear h0 h1 h2;go_enter Tryz.func298,Tryz.ntmps298;go_wp2_with fail;go_ret;exact ⟨rfl,rfl⟩
  ·have d0:decide (n<0)=false:=Zf h0;have hv:IntKind.u64.wrap n=(n.natAbs:Int):=by rw [IntWalk.u64_in _ (by omega)];omega
   generalize (n.natAbs:Int)=N at *;clear h0 h1 h2;go_enter Tryz.func298,Tryz.ntmps298;go_wp2_with fail;go_ret;exact ⟨rfl,rfl⟩
theorem of94 (n:Int) (w:World):Calls Tryz.prog 235 #[.int .i64 n] w (Ret (.agg #[.int .i64 n,.slice none 0 0]) w):=by
  have HB:=Zh ((Below.refl w.heap.size w).alloc (Nat.le_refl _) (.cells #[.int .i64 n,.slice none 0 0] 133));go_enter Tryz.func235,Tryz.ntmps235;go_wp2_with fail;refine bodyPost_ret (v:= .agg #[.int .i64 n,.slice none 0 0]) (by simp [results,Tryz.results235,go_sem, *]) rfl ?_;exact ⟨rfl,HB.out⟩
end Go.Proofs.YtijajkfmlghgkaaGreatDoor.Nu
namespace Go
open Go.RowKit
section
structure GrowFlow (ops:Array Oper) (n b:Nat) (ob:Oper) (W:World) (a0 A:Act) (D:Value->World->Prop) (listed:Array Bool) (a:Act) (w:World) (v:Value):Prop where
  inv:HeadInv .any ops n listed
  later:Below W.heap.size W w
  size:a.tmps.size=a0.tmps.size
  defers:a.defers=a0.defers
  slot: ∀j o t,j<n->ops[j]?=some o->o.dst=some t->j≠b->a.tmps[t]?=if listed.getD j false=true then A.tmps[t]? else a0.tmps[t]?
  slotb: ∀t,ob.dst=some t->a.tmps[t]?=if listed.getD b false=true then a0.tmps[t]?.map (fun _=>v) else a0.tmps[t]?
  other: ∀t,(∀j o,j<n->ops[j]?=some o->o.dst≠some t)->a.tmps[t]?=a0.tmps[t]?
  box:listed.getD b false=true->D v w
variable {P:Program} {l:List Oper} {n b:Nat} {ob:Oper} {W:World} {a0 A:Act} {D:Value->World->Prop} {Q:Exit->Act->World->Prop}
theorem Zhg (hB:Region.flowB l.toArray n b=true) (hob:l[b]?=some ob)
    (hq: ∀Y:Later W,wpQuiet P l.toArray (fun w'=> ∃X:Later2 Y,w'=X.w) (fun a'=>a'=A) (Zas l n b) a0)
    (hb: ∀w,Below W.heap.size W w->∃fn args,(execOp A.eval ob).run P w= .ok (.enter fn args) w/\Calls P fn args w fun e w'=> ∃v,e= .returned v/\D v w'/\Below w.heap.size w w')
    (hBp: ∀v w w',D v w->Below w.heap.size w w'->D v w')
    (ht: ∀v w,Below W.heap.size W w->D v w->wpList P l.toArray Q (l.drop n) (A.put ob.dst v) w):
    ∀ (f:Nat) (U:List Nat) (listed:Array Bool) (a:Act) (w:World) (vb:Value),U.length=f->U.Nodup->(∀i,i∈U↔i<n/\listed.getD i false=false)->
      GrowFlow l.toArray n b ob W a0 A D listed a w vb->wpAny P .any l.toArray Q (f+(l.toArray.size-n)) listed a w:=by
 simp only [Region.flowB,Bool.and_eq_true,decide_eq_true_eq,List.all_eq_true,List.mem_range] at hB;obtain ⟨⟨⟨⟨⟨⟨⟨⟨⟨hsel,hn⟩,hbn⟩,hsink⟩,hchain⟩,hseq⟩,hedge⟩,hpair⟩,hguard⟩,hblind⟩:=hB;have hn':n<=l.length:=by have h:=hn;rw [List.size_toArray] at h;omega
 have hsz:l.toArray.size=l.length:=by simp
 have hget: ∀i:Nat,l.toArray[i]?=l[i]?:=fun i=>by simp
 have hselect:=Region.noSelect_spec hsel;have hpw:(Zas l n b).Pairwise (fun o o'=> ∀t,o.dst=some t->o'.dst≠some t):=by
   rw [List.pairwise_iff_getElem];intro i j hi hj hij t ht;obtain ⟨i',h1,h2,h3,h4⟩:=Zaq hbn hn' (List.getElem?_eq_getElem hi);obtain ⟨j',k1,k2,k3,k4⟩:=Zaq hbn hn' (List.getElem?_eq_getElem hj);exact Region.flowPair_dst (hpair i' h1 j' k1) (by rw [hget];exact h3) (by rw [hget];exact k3) (fun e=>by subst e;omega) ht
 have hA:=Zbc _ _ (hq ⟨W,Below.refl _ _⟩) hpw;have hAo: ∀t,(∀j o,j<n->l.toArray[j]?=some o->j≠b->o.dst≠some t)->A.tmps[t]?=a0.tmps[t]?:=fun t h=>hA.1 t fun o ho=>by
   obtain ⟨q,hq'⟩:=List.mem_iff_getElem?.1 ho;obtain ⟨j,h1,h2,h3,_⟩:=Zaq hbn hn' hq';exact h j o h1 (by rw [hget];exact h3) h2
 have hAs:=hA.2.1;have hAd:=hA.2.2.1;have hobA:l.toArray[b]?=some ob:=by rw [hget];exact hob
 intro f
 induction f with
 | zero=>
   intro U listed a w vb hU _ hUm hF;obtain rfl:U=[]:=List.eq_nil_of_length_eq_zero hU;have hall: ∀i,i<n->listed.getD i false=true:=fun i hi=>by
     cases h:listed.getD i false with
     | true=>rfl
     | false=>have:=(hUm i).2 ⟨hi,h⟩;simp at this
   have hl:listed=Region.marked l.toArray.size n:=by
     apply Array.ext_getElem?;intro i
     by_cases hi:i<l.toArray.size
     ·have hil:i<listed.size:=by rw [hF.inv.size];exact hi
      have e2:(Region.marked l.toArray.size n)[i]?=some (decide (i<n)):=by
        rw [List.size_toArray] at hi;unfold Region.marked;simp [hi]
      rw [e2,Array.getElem?_eq_getElem hil]
      by_cases hin:i<n
      ·have:=hall i hin;simp [hil] at this;simp [this,hin]
      ·have:=hF.inv.tail i (by omega) hi;simp [hil] at this;simp [this,hin]
     ·rw [Array.getElem?_eq_none (by rw [hF.inv.size];omega),Array.getElem?_eq_none (by rw [List.size_toArray] at hi;unfold Region.marked;simp;omega)]
   have hbt:=hall b hbn;have ha:a=A.put ob.dst vb:=by
     have htm:a.tmps=(A.put ob.dst vb).tmps:=by
       apply Array.ext_getElem?;intro t;rw [Zad]
       by_cases hbd:ob.dst=some t
       ·rw [if_pos hbd,hF.slotb t hbd,if_pos hbt]
        by_cases h:t<a0.tmps.size
        ·rw [Array.getElem?_eq_getElem h,Array.getElem?_eq_getElem (by rw [hAs];exact h)];rfl
        ·rw [Array.getElem?_eq_none (by omega),Array.getElem?_eq_none (by rw [hAs];omega)] <;> rfl
       ·rw [if_neg hbd]
        by_cases h: ∃j o,j<n/\l.toArray[j]?=some o/\o.dst=some t
        ·obtain ⟨j,o,h1,h2,h3⟩:=h;have hjb:j≠b:=fun e=>by subst e;rw [hobA] at h2;cases h2;exact hbd h3
         rw [hF.slot j o t h1 h2 h3 hjb,if_pos (hall j h1)]
        ·have h': ∀j o,j<n->l.toArray[j]?=some o->o.dst≠some t:=fun j o h1 h2 h3=>h ⟨j,o,h1,h2,h3⟩;rw [hF.other t h',hAo t fun j o h1 h2 _=>h' j o h1 h2]
     have hd:a.defers=(A.put ob.dst vb).defers:=by rw [Zal,hAd,hF.defers]
     cases a;simp only at htm hd;cases hX:A.put ob.dst vb;rw [hX] at htm hd;simp only at htm hd;rw [htm,hd]
   rw [ha];have hdl:(l.drop n).length=l.toArray.size-n:=by simp
   have:=wpAny_of_seq (md:= .any) (Q':=Q) (ops:=l.toArray) (l.drop n) n listed (A.put ob.dst vb) w (fun j=>by simp [List.getElem?_drop]) (by rw [hdl,hl];exact hseq) (ht vb w hF.later (hF.box hbt));rw [hdl] at this
   rwa [Nat.zero_add]
 | succ f ih=>
   intro U listed a w vb hU hnd hUm hF;obtain ⟨i0,hi0,hleast⟩:=Za1 U (fun e=>by rw [e] at hU;simp at hU);obtain ⟨hi0n,hi0u⟩:=(hUm i0).1 hi0;have hin: ∀i,i<n->i<listed.size:=fun i hi=>by rw [hF.inv.size];omega
   have hready:i0∈Region.ready .any l.toArray listed:=by
     have hlt:i0<l.toArray.size:=by omega
     refine mem_ready.2 ⟨getD_in (hin _ hi0n) hi0u,l.toArray[i0],Array.getElem?_eq_getElem hlt,fun e he hbd=> ?_⟩;have h1:=hedge i0 hi0n;rw [Array.getElem?_eq_getElem hlt] at h1;simp only [Array.all_eq_true_iff_forall_mem] at h1;have h2:=h1 e he;simp only [hbd,Bool.not_true,Bool.false_or,decide_eq_true_eq] at h2;cases h:listed.getD e.on false with
     | true=>rfl
     | false=>
       have:=hleast e.on ((hUm e.on).2 ⟨by omega,h⟩);omega
   rw [show f+1+(l.toArray.size-n)=(f+(l.toArray.size-n))+1 by omega];refine ⟨fun h=>(by rw [h] at hready;cases hready),fun i hi=> ?_⟩;obtain ⟨hiu,o,ho,hdep⟩:=mem_ready.1 hi;have hilt:i<n:=Nat.lt_of_not_le fun h=>tail_waits hsink hchain hn hF.inv _ i0 rfl hi0n (getD_in (hin _ hi0n) hi0u) i h hi;have hiU:i∈U:=(hUm i).2 ⟨hilt,getD_both hiu⟩;have hinv:=hF.inv.set hi hilt;have hlist: ∀j,(listed.setIfInBounds i true).getD j false=if j=i then true else listed.getD j false:=fun j=>by
    by_cases h:j=i
    ·subst h;rw [if_pos rfl];simp [hin j hilt]
    ·rw [if_neg h,getD_set_ne false (Ne.symm h)]
   have hUm': ∀j,j∈U.erase i↔j<n/\(listed.setIfInBounds i true).getD j false=false:=fun j=>by
     rw [hnd.mem_erase_iff,hUm j,hlist j]
     by_cases h:j=i
     ·simp [h]
     ·simp [h]
   have hlen':(U.erase i).length=f:=by rw [List.length_erase_of_mem hiU];omega
   have hnd':=hnd.erase i;have hseen: ∀t∈o.looksAt l.toArray,∀j oj,j<n->l.toArray[j]?=some oj->oj.dst=some t->i≠j/\j<i/\listed.getD j false=true:=by
     intro t ht j oj hj hoj hd;have hne:i≠j:=fun e=>by
       subst e;rw [ho] at hoj;cases hoj;exact Region.flowPair_self (hpair i hilt i hilt) ho hd ht
     have h1:=Region.flowPair_looks (hpair i hilt j hj) ho hoj hne hd ht;obtain ⟨o',ho',e,he,hbd,hon⟩:=Region.waitsFor_spec h1.2;rw [ho] at ho';cases ho';have:=hdep e he hbd;rw [hon] at this;exact ⟨hne,h1.1,this⟩
   by_cases hib:i=b
   ·subst hib;rw [hobA] at ho;cases ho;have hg:ob.guard=none:=by rw [hobA] at hguard;simpa using hguard
    obtain ⟨fn,args,hrun,hcall⟩:=hb w hF.later;have hex:execOp a.eval ob=execOp A.eval ob:=(Za0 (ops:=l.toArray) (fun cs bb=>hselect i ob cs bb hobA) fun t htl=>by
      by_cases h: ∃j o,j<n/\l.toArray[j]?=some o/\o.dst=some t
      ·obtain ⟨j,oj,h1,h2,h3⟩:=h;obtain ⟨k1,k2,k3⟩:=hseen t htl j oj h1 h2 h3;rw [hF.slot j oj t h1 h2 h3 (Ne.symm k1),if_pos k3]
      ·have h': ∀j o,j<n->l.toArray[j]?=some o->o.dst≠some t:=fun j o h1 h2 h3=>h ⟨j,o,h1,h2,h3⟩;rw [hF.other t h',hAo t fun j o h1 h2 _=>h' j o h1 h2]).1
    unfold wpOp;simp only [hobA];rw [if_pos (by simp [Region.wanted,hg])];refine .inl ?_;unfold Oper.wp;rw [hex,hrun,Oper.upon_enter];refine hcall.mono ?_;rintro _ w' ⟨v',rfl,hbox,hbel⟩;refine ih (U.erase i) _ _ _ v' hlen' hnd' hUm' ⟨hinv,hF.later.trans (hbel.mono hF.later.size),by rw [Zbb,hF.size],by rw [Zal,hF.defers],?_,?_,?_,fun _=>hbox⟩
    ·intro j oj t hj hoj hd hjb;have hne:ob.dst≠some t:=fun h=>Region.flowPair_dst (hpair i hilt j hj) hobA hoj (Ne.symm hjb) h hd;rw [Zad,if_neg hne,hF.slot j oj t hj hoj hd hjb,hlist j,if_neg hjb]
    ·intro t hd;rw [Zad,if_pos hd,hlist i,if_pos rfl,if_pos rfl,hF.slotb t hd,if_neg (by rw [getD_both hiu];simp)]
    ·intro t h;rw [Zad,if_neg (h i ob hilt hobA),hF.other t h]
   ·have hpos:=Za9 hbn hn' hilt hib;have hol:l[i]?=some o:=by rw [<-hget];exact ho
    rw [hol] at hpos;have hsplit:Zas l n b=(Zas l n b).take (Zco b i)++o::(Zas l n b).drop (Zco b i+1):=by
     have hlt:=(List.getElem?_eq_some_iff.1 hpos).1;have e:=(List.getElem?_eq_some_iff.1 hpos).2;rw [<-e,<-List.drop_eq_getElem_cons hlt,List.take_append_drop]
    obtain ⟨_,_,_,htext⟩:=Zbc _ _ (hq ⟨w,hF.later⟩) hpw;obtain ⟨ai,v,hy,t1,t2,t3⟩:=htext _ o _ hsplit;have hal:=Za0 (ops:=l.toArray) (o:=o) (a:=a) (a':=ai) (fun cs bb=>hselect i o cs bb ho) fun t htl=>by
      by_cases h: ∃j o,j<n/\l.toArray[j]?=some o/\o.dst=some t
      ·obtain ⟨j,oj,h1,h2,h3⟩:=h;obtain ⟨k1,k2,k3⟩:=hseen t htl j oj h1 h2 h3
       by_cases hjb:j=b
       ·-- nobody else looks at b's yield
        subst hjb;have h4:=hblind i hilt;simp only [Bool.or_eq_true,beq_iff_eq,hib,false_or] at h4;exact absurd htl (Region.blindTo_spec h4 ho h2 h3)
       ·rw [hF.slot j oj t h1 h2 h3 hjb,if_pos k3];refine (t1 t ⟨oj,?_,h3⟩).symm;have hjp:=Za9 hbn hn' h1 hjb;rw [<-hget,h2] at hjp;refine List.mem_of_getElem? (i:=Zco b j) ?_;rw [List.getElem?_take,if_pos (by unfold Zco;split <;> split <;> omega)]
        exact hjp
      ·have h': ∀j o,j<n->l.toArray[j]?=some o->o.dst≠some t:=fun j o h1 h2 h3=>h ⟨j,o,h1,h2,h3⟩;rw [hF.other t h'];refine (t2 t fun p hp=> ?_).symm;obtain ⟨q,hq'⟩:=List.mem_iff_getElem?.1 (List.mem_of_mem_take hp);obtain ⟨j,h1,h2,h3,_⟩:=Zaq hbn hn' hq';exact h' j p h1 (by rw [hget];exact h3)
    have hy':=hy.of_same hal.1 hal.2;have hqo:=hy'.qOp (K:=fun a'=>a'=a.put o.dst v) ho rfl;refine wpOp_of_qOp ⟨⟨w,Below.refl _ _⟩,rfl⟩ ?_ hqo;rintro a' w' ⟨X,rfl⟩ rfl;have hX:=X.h;refine ih (U.erase i) _ _ _ vb hlen' hnd' hUm' ⟨hinv,hF.later.trans (hX.mono hF.later.size),by rw [Zbb,hF.size],by rw [Zal,hF.defers],?_,?_,?_,?_⟩
    ·intro j oj t hj hoj hd hjb;rw [Zad,hlist j]
     by_cases hji:j=i
     ·subst hji;rw [ho] at hoj;cases hoj;rw [if_pos hd,if_pos rfl,if_pos rfl,hF.slot j o t hj ho hd hjb,if_neg (by rw [getD_both hiu];simp),t3 t hd]
     ·have hne:o.dst≠some t:=fun h=>Region.flowPair_dst (hpair i hilt j hj) ho hoj (Ne.symm hji) h hd;rw [if_neg hne,if_neg hji,hF.slot j oj t hj hoj hd hjb]
    ·intro t hd;have hne:o.dst≠some t:=fun h=>Region.flowPair_dst (hpair i hilt b hbn) ho hobA hib h hd;rw [Zad,if_neg hne,hF.slotb t hd,hlist b,if_neg (Ne.symm hib)]
    ·intro t h;rw [Zad,if_neg (h i o hilt ho),hF.other t h]
    ·intro h;rw [hlist b,if_neg (Ne.symm hib)] at h;exact hBp vb w _ (hF.box h) hX
theorem Zd8 {id:Nat} (n b:Nat) (ob:Oper) (D:Value->World->Prop) (hm:P.follows .mixedOrders=true) (hB:Region.flowB l.toArray n b=true) (hob:l[b]?=some ob)
    (hBp: ∀v w w',D v w->Below w.heap.size w w'->D v w')
    (hh: ∃A,(∀Y:Later W,wpQuiet P l.toArray (fun w'=> ∃X:Later2 Y,w'=X.w) (fun a'=>a'=A) (Zas l n b) a0)/\
      (∀w,Below W.heap.size W w->∃fn args,(execOp A.eval ob).run P w= .ok (.enter fn args) w/\Calls P fn args w fun e w'=> ∃v,e= .returned v/\D v w'/\Below w.heap.size w w')/\
       ∀v w,Below W.heap.size W w->D v w->wpList P l.toArray Q (l.drop n) (A.put ob.dst v) w):
    (Code.region id l.toArray true).wp P Q a0 W:=by
 obtain ⟨A,hq,hb,ht⟩:=hh;refine wp_region_any hm ?_;have hB':=hB;simp only [Region.flowB,Bool.and_eq_true,decide_eq_true_eq] at hB';have hn:=hB'.1.1.1.1.1.1.1.1.2;have inv0:HeadInv .any l.toArray n (Array.replicate l.toArray.size false):=
   ⟨by simp,fun j oj _ hl=>(by rw [getD_replicate_false] at hl;cases hl),fun t _ ht=>getD_in (by simpa using ht) (getD_replicate_false _ _)⟩
 have h:=Zhg (W:=W) (a0:=a0) (A:=A) (D:=D) (Q:=Q) hB hob hq hb hBp ht n (List.range n) (Array.replicate l.toArray.size false) a0 { W with drawn:=W.drawn+1 } undef (by simp) List.nodup_range (fun i=>by rw [List.mem_range];exact ⟨fun h=>⟨h,getD_replicate_false _ _⟩,fun h=>h.1⟩)
   ⟨inv0,⟨rfl,rfl,rfl,Nat.le_refl _,fun _ _=>rfl⟩,rfl,rfl,fun j o t _ _ _ _=>by rw [getD_replicate_false];rfl,fun t _=>by rw [getD_replicate_false];rfl,fun _ _=>rfl,fun h=>by rw [getD_replicate_false] at h;cases h⟩
 rwa [show n+(l.toArray.size-n)=l.toArray.size by omega] at h
end
section
variable {P:Program} {ops:Array Oper} {C:World->Prop}
structure SameW (W:World) where
  w:World
  h:w=W
instance (W:World):Nonempty (SameW W):=⟨⟨W,rfl⟩⟩
theorem SameW.cell {W:World} (X:SameW W) (b o:Nat):X.w.cell? ⟨b,o,none⟩=W.cell? ⟨b,o,none⟩:=by rw [X.h]
attribute [go_sem] SameW.cell
end
section
def selF (f:Nat->Bool):Nat->List Oper->List Oper
  | _,[]=> []
  | k,o::r=>if f k then o::selF f (k+1) r else selF f (k+1) r
theorem Zfa (f:Nat->Bool): ∀ (l:List Oper) (k:Nat) (o:Oper),o∈selF f k l->∃j,l[j]?=some o/\f (k+j)=true
  | [],_,_,h=>by simp [selF] at h
  | x::r,k,o,h=>by
    unfold selF at h;have hr: ∀ (h:o∈selF f (k+1) r),∃j,(x::r)[j]?=some o/\f (k+j)=true:=fun h=>by
      obtain ⟨j,h1,h2⟩:=Zfa f r (k+1) o h;exact ⟨j+1,by simpa using h1,by rw [show k+(j+1)=k+1+j by omega];exact h2⟩
    split at h
    ·rename_i hf
     rcases List.mem_cons.1 h with rfl|h
     ·exact ⟨0,rfl,by simpa using hf⟩
     ·exact hr h
    ·exact hr h
theorem Zeq (f:Nat->Bool): ∀ (l:List Oper) (k i:Nat) (o:Oper),l[i]?=some o->f (k+i)=true->
    ∃pre post,selF f k l=pre++o::post/\(∀p∈pre,∃j,j<i/\l[j]?=some p/\f (k+j)=true)/\(∀j p,j<i->l[j]?=some p->f (k+j)=true->p∈pre)
 | [],_,i,o,h,_=>by simp at h
 | x::r,k,0,o,h,hf=>by
   obtain rfl:x=o:=by simpa using h
   unfold selF;rw [if_pos (by simpa using hf)];exact ⟨[],_,rfl,by simp,fun j p hj=>by omega⟩
 | x::r,k,i+1,o,h,hf=>by
   obtain ⟨pre,post,h1,h2,h3⟩:=Zeq f r (k+1) i o (by simpa using h) (by rw [show k+1+i=k+(i+1) by omega];exact hf);have h2': ∀p∈pre,∃j,j<i+1/\(x::r)[j]?=some p/\f (k+j)=true:=fun p hp=>by
     obtain ⟨j,a1,a2,a3⟩:=h2 p hp;exact ⟨j+1,by omega,by simpa using a2,by rw [show k+(j+1)=k+1+j by omega];exact a3⟩
   unfold selF
   by_cases hx:f k=true
   ·rw [if_pos hx,h1];refine ⟨x::pre,post,rfl,fun p hp=> ?_,fun j p hj hp hfj=> ?_⟩
    ·rcases List.mem_cons.1 hp with rfl|hp
     ·exact ⟨0,by omega,rfl,by simpa using hx⟩
     ·exact h2' p hp
    ·cases j with
     | zero=>obtain rfl:x=p:=by simpa using hp
             simp
     | succ j=>exact List.mem_cons_of_mem _ (h3 j p (by omega) (by simpa using hp) (by rw [show k+1+j=k+(j+1) by omega];exact hfj))
   ·rw [if_neg hx,h1];refine ⟨pre,post,rfl,h2',fun j p hj hp hfj=> ?_⟩;cases j with
    | zero=>exact absurd (by simpa using hfj) hx
    | succ j=>exact h3 j p (by omega) (by simpa using hp) (by rw [show k+1+j=k+(j+1) by omega];exact hfj)
theorem Zhh (f:Nat->Bool) {R:Oper->Oper->Prop}: ∀ (l:List Oper) (k:Nat),(∀ (i j:Nat) (x y:Oper),i<j->l[i]?=some x->l[j]?=some y->R x y)->(selF f k l).Pairwise R
  | [],_,_=>by simp [selF]
  | x::r,k,h=>by
    have ih:=Zhh f r (k+1) fun i j a b hij ha hb=>h (i+1) (j+1) a b (by omega) (by simpa using ha) (by simpa using hb);unfold selF
    split
    ·refine List.pairwise_cons.2 ⟨fun y hy=> ?_,ih⟩;obtain ⟨j,h1,_⟩:=Zfa f r (k+1) y hy;exact h 0 (j+1) x y (by omega) rfl (by simpa using h1)
    ·exact ih
def Region.partB (ops:Array Oper) (b:Nat) (T:Nat->Bool):Bool:=
  Region.noSelect ops && decide (b<ops.size) && !T b &&
  ((List.range ops.size).all fun i=>match ops[i]? with|some o=>o.after.all fun e=> !Region.binds .any e || decide (e.on<i)|none=>true) &&
  ((List.range ops.size).all fun i=>(List.range ops.size).all fun j=>Region.flowPair ops i j) &&
  (match ops[b]? with|some o=>o.guard.isNone|none=>false) &&
  ((List.range ops.size).all fun i=>T i || ((List.range ops.size).all fun j=> !(T j || j==b) || (i==b && j==b) || Region.blindTo ops i j)) &&
  ((List.range ops.size).all fun i=> !T i || (List.range ops.size).any fun k=>(k==b || T k) && Region.waitsFor .any ops i k)
variable {P:Program} {l:List Oper} {b:Nat} {T:Nat->Bool} {ob:Oper} {W:World} {a0 A1:Act} {A2:Value->Act} {D:Value->World->Prop} {Q:Exit->Act->World->Prop}
end
section
variable {P:Program} {l:List Oper} {b:Nat} {T:Nat->Bool} {ob:Oper} {W:World} {a0 A1:Act} {A2:Value->Act} {D:Value->World->Prop} {Q:Exit->Act->World->Prop}
structure PartFlowA (ops:Array Oper) (b:Nat) (T:Nat->Bool) (ob:Oper) (W:World) (a0 A1:Act) (A2:Value->Act) (D:Value->World->Prop) (listed:Array Bool) (a:Act) (w:World) (v:Value):Prop where
  lsize:listed.size=ops.size
  later:Below W.heap.size W w
  size:a.tmps.size=a0.tmps.size
  defers:a.defers=a0.defers
  slot: ∀ (j:Nat) (o:Oper) (t:Nat),ops[j]?=some o->o.dst=some t->j≠b->a.tmps[t]?=if listed.getD j false=true then (if T j then (A2 v).tmps[t]? else A1.tmps[t]?) else a0.tmps[t]?
  slotb: ∀t,ob.dst=some t->a.tmps[t]?=if listed.getD b false=true then a0.tmps[t]?.map (fun _=>v) else a0.tmps[t]?
  other: ∀t,(∀ (j:Nat) (o:Oper),ops[j]?=some o->o.dst≠some t)->a.tmps[t]?=a0.tmps[t]?
  tb: ∀k,T k=true->listed.getD k false=true->listed.getD b false=true
  box:listed.getD b false=true->D v w
variable {P:Program} {l:List Oper} {b:Nat} {T:Nat->Bool} {ob:Oper} {W:World} {a0 A1:Act} {A2:Value->Act} {D:Value->World->Prop} {Q:Exit->Act->World->Prop}
theorem Zkv (hB:Region.partB l.toArray b T=true) (hob:l[b]?=some ob)
    (hq: ∀Y:Later W,wpQuiet P l.toArray (fun w'=> ∃X:Later2 Y,w'=X.w) (fun a'=>a'=A1) (selF (fun i=> !T i && !(i==b)) 0 l) a0)
    (hb: ∀w,Below W.heap.size W w->∃v w',(execOp A1.eval ob).run P w= .ok (.value v) w'/\D v w'/\Below w.heap.size w w')
    (hBp: ∀v w w',D v w->Below w.heap.size w w'->D v w')
    (hqT: ∀v w,Below W.heap.size W w->D v w->wpQuiet P l.toArray (fun w'=> ∃X:Later w,w'=X.w) (fun a'=>a'=A2 v) (selF T 0 l) (A1.put ob.dst v))
    (ht: ∀v w,Below W.heap.size W w->D v w->Q .normal (A2 v) w):
    ∀ (f:Nat) (U:List Nat) (listed:Array Bool) (a:Act) (w:World) (vb:Value),U.length=f->U.Nodup->(∀i,i∈U↔i<l.toArray.size/\listed.getD i false=false)->
      PartFlowA l.toArray b T ob W a0 A1 A2 D listed a w vb->wpAny P .any l.toArray Q f listed a w:=by
 simp only [Region.partB,Bool.and_eq_true,decide_eq_true_eq,List.all_eq_true,List.mem_range,Bool.not_eq_true'] at hB;obtain ⟨⟨⟨⟨⟨⟨⟨hsel,hbn⟩,hTb⟩,hedge⟩,hpair⟩,hguard⟩,hblind⟩,hTw⟩:=hB;have hget: ∀i:Nat,l.toArray[i]?=l[i]?:=fun i=>by simp
 have hselect:=Region.noSelect_spec hsel;have hlt: ∀ {i:Nat} {o:Oper},l.toArray[i]?=some o->i<l.toArray.size:=fun h=>(Array.getElem?_eq_some_iff.1 h).1;have hobA:l.toArray[b]?=some ob:=by rw [hget];exact hob
 have hdist: ∀ {i j:Nat} {x y:Oper},l.toArray[i]?=some x->l.toArray[j]?=some y->i≠j->∀t,x.dst=some t->y.dst≠some t:=fun hi hj hne t hd=>
   Region.flowPair_dst (hpair _ (hlt hi) _ (hlt hj)) hi hj hne hd
 have hpw: ∀g:Nat->Bool,(selF g 0 l).Pairwise (fun o o'=> ∀t,o.dst=some t->o'.dst≠some t):=fun g=>
   Zhh g l 0 fun i j x y hij hx hy=>hdist (by rw [hget];exact hx) (by rw [hget];exact hy) (by omega)
 have hHm: ∀o,o∈selF (fun i=> !T i && !(i==b)) 0 l->∃j:Nat,l.toArray[j]?=some o/\T j=false/\j≠b:=fun o ho=>by
   obtain ⟨j,h1,h2⟩:=Zfa _ l 0 o ho;simp only [Nat.zero_add,Bool.and_eq_true,Bool.not_eq_true',beq_eq_false_iff_ne] at h2;exact ⟨j,by rw [hget];exact h1,h2.1,h2.2⟩
 have hTm: ∀o,o∈selF T 0 l->∃j:Nat,l.toArray[j]?=some o/\T j=true:=fun o ho=>by
   obtain ⟨j,h1,h2⟩:=Zfa _ l 0 o ho;rw [Nat.zero_add] at h2;exact ⟨j,by rw [hget];exact h1,h2⟩
 have hA:=Zbc _ _ (hq ⟨W,Below.refl _ _⟩) (hpw _);have hAo: ∀t,(∀ (j:Nat) (o:Oper),l.toArray[j]?=some o->T j=false->j≠b->o.dst≠some t)->A1.tmps[t]?=a0.tmps[t]?:=fun t h=>hA.1 t fun o ho=>by
   obtain ⟨j,h1,h2,h3⟩:=hHm o ho;exact h j o h1 h2 h3
 have hAs:=hA.2.1;have hAd:=hA.2.2.1;have hTT:=fun (v:Value) (w:World) (h1:Below W.heap.size W w) (h2:D v w)=>Zbc _ _ (hqT v w h1 h2) (hpw T);have hTo: ∀v w,Below W.heap.size W w->D v w->∀t,(∀ (j:Nat) (o:Oper),l.toArray[j]?=some o->T j=true->o.dst≠some t)->(A2 v).tmps[t]?=(A1.put ob.dst v).tmps[t]?:=fun v w h1 h2 t h=>(hTT v w h1 h2).1 t fun o ho=>by
   obtain ⟨j,h3,h4⟩:=hTm o ho;exact h j o h3 h4
 intro f
 induction f with
 | zero=>
   intro U listed a w vb hU _ hUm hF;obtain rfl:U=[]:=List.eq_nil_of_length_eq_zero hU;have hall: ∀i,i<l.toArray.size->listed.getD i false=true:=fun i hi=>by
     cases h:listed.getD i false with
     | true=>rfl
     | false=>have:=(hUm i).2 ⟨hi,h⟩;simp at this
   have hbt:=hall b hbn;have hD:=hF.box hbt;refine ⟨?_,?_⟩
   ·rw [List.eq_nil_iff_forall_not_mem];intro j hj;obtain ⟨h1,o,ho,_⟩:=mem_ready.1 hj;have h2:=hall j (hlt ho);rw [getD_both h1] at h2;cases h2
   have ha:a=A2 vb:=by
     have hTs:=hTT vb w hF.later hD;have htm:a.tmps=(A2 vb).tmps:=by
       apply Array.ext_getElem?;intro t
       by_cases hbd:ob.dst=some t
       ·have e1:=hTo vb w hF.later hD t fun j o h1 h2 h3=>hdist hobA h1 (fun e=>by subst e;rw [hTb] at h2;cases h2) t hbd h3;rw [e1,Zad,if_pos hbd,hF.slotb t hbd,if_pos hbt,hAo t fun j o h1 _ h3 h4=>hdist hobA h1 (Ne.symm h3) t hbd h4]
       ·by_cases h: ∃ (j:Nat) (o:Oper),l.toArray[j]?=some o/\o.dst=some t
        ·obtain ⟨j,o,h2,h3⟩:=h;have hjb:j≠b:=fun e=>by subst e;rw [hobA] at h2;cases h2;exact hbd h3
         rw [hF.slot j o t h2 h3 hjb,if_pos (hall j (hlt h2))];cases hTj:T j with
         | true=>rfl
         | false=>
           have e1:=hTo vb w hF.later hD t fun j' o' h1' h2' h3'=>hdist h2 h1' (fun e=>by subst e;rw [hTj] at h2';cases h2') t h3 h3';rw [e1,Zad,if_neg hbd];rfl
        ·have h': ∀ (j:Nat) (o:Oper),l.toArray[j]?=some o->o.dst≠some t:=fun j o h2 h3=>h ⟨j,o,h2,h3⟩;rw [hF.other t h',hTo vb w hF.later hD t fun j o h1 _=>h' j o h1,Zad,if_neg hbd,hAo t fun j o h1 _ _=>h' j o h1]
     have hd:a.defers=(A2 vb).defers:=by rw [hTs.2.2.1,Zal,hAd,hF.defers]
     cases a;simp only at htm hd;cases hX:A2 vb;rw [hX] at htm hd;simp only at htm hd;rw [htm,hd]
   rw [ha];exact ht vb w hF.later hD
 | succ f ih=>
   intro U listed a w vb hU hnd hUm hF;obtain ⟨i0,hi0,hleast⟩:=Za1 U (fun e=>by rw [e] at hU;simp at hU);obtain ⟨hi0n,hi0u⟩:=(hUm i0).1 hi0;have hin: ∀i,i<l.toArray.size->i<listed.size:=fun i hi=>by rw [hF.lsize];exact hi
   have hready:i0∈Region.ready .any l.toArray listed:=by
     refine mem_ready.2 ⟨getD_in (hin _ hi0n) hi0u,l.toArray[i0],Array.getElem?_eq_getElem hi0n,fun e he hbd=> ?_⟩;have h1:=hedge i0 hi0n;rw [Array.getElem?_eq_getElem hi0n] at h1;simp only [Array.all_eq_true_iff_forall_mem] at h1;have h2:=h1 e he;simp only [hbd,Bool.not_true,Bool.false_or,decide_eq_true_eq] at h2;cases h:listed.getD e.on false with
     | true=>rfl
     | false=>
       have:=hleast e.on ((hUm e.on).2 ⟨by omega,h⟩);omega
   refine ⟨fun h=>(by rw [h] at hready;cases hready),fun i hi=> ?_⟩;obtain ⟨hiu,o,ho,hdep⟩:=mem_ready.1 hi;have hilt:=hlt ho;have hiU:i∈U:=(hUm i).2 ⟨hilt,getD_both hiu⟩;have hlist: ∀j,(listed.setIfInBounds i true).getD j false=if j=i then true else listed.getD j false:=fun j=>by
     by_cases h:j=i
     ·subst h;rw [if_pos rfl];simp [hin j hilt]
     ·rw [if_neg h,getD_set_ne false (Ne.symm h)]
   have hUm': ∀j,j∈U.erase i↔j<l.toArray.size/\(listed.setIfInBounds i true).getD j false=false:=fun j=>by
     rw [hnd.mem_erase_iff,hUm j,hlist j]
     by_cases h:j=i
     ·simp [h]
     ·simp [h]
   have hlen':(U.erase i).length=f:=by rw [List.length_erase_of_mem hiU];omega
   have hnd':=hnd.erase i;have hls':(listed.setIfInBounds i true).size=l.toArray.size:=by simp [hF.lsize]
   have hseen: ∀t∈o.looksAt l.toArray,∀ (j:Nat) (oj:Oper),l.toArray[j]?=some oj->oj.dst=some t->i≠j/\j<i/\listed.getD j false=true:=by
     intro t ht j oj hoj hd;have hne:i≠j:=fun e=>by
       subst e;rw [ho] at hoj;cases hoj;exact Region.flowPair_self (hpair i hilt i hilt) ho hd ht
     have h1:=Region.flowPair_looks (hpair i hilt j (hlt hoj)) ho hoj hne hd ht;obtain ⟨o',ho',e,he,hbd,hon⟩:=Region.waitsFor_spec h1.2;rw [ho] at ho';cases ho';have:=hdep e he hbd;rw [hon] at this;exact ⟨hne,h1.1,this⟩
   have hblin:T i=false->∀t∈o.looksAt l.toArray,∀ (j:Nat) (oj:Oper),l.toArray[j]?=some oj->oj.dst=some t->T j=false/\(i=b∨j≠b):=fun hTi t ht j oj hoj hd=>by
     have h1:=hblind i hilt;rw [Bool.or_eq_true] at h1;have h2:=List.all_eq_true.1 (h1.resolve_left (by rw [hTi];simp)) j (List.mem_range.2 (hlt hoj));simp only [Bool.or_eq_true,Bool.not_eq_true',Bool.or_eq_false_iff,Bool.and_eq_true,beq_iff_eq,beq_eq_false_iff_ne] at h2
     rcases h2 with (h2|h2)|h2
     ·exact ⟨h2.1,.inr h2.2⟩
     ·exact ⟨by rw [h2.2];exact hTb,.inl h2.1⟩
     ·exact absurd ht (Region.blindTo_spec h2 ho hoj hd)
   by_cases hib:i=b
   ·subst hib;rw [hobA] at ho;cases ho;have hg:ob.guard=none:=by rw [hobA] at hguard;simpa using hguard
    obtain ⟨v',w',hrun,hbox,hbel⟩:=hb w hF.later;have hex:execOp a.eval ob=execOp A1.eval ob:=(Za0 (ops:=l.toArray) (fun cs bb=>hselect i ob cs bb hobA) fun t htl=>by
      by_cases h: ∃ (j:Nat) (o:Oper),l.toArray[j]?=some o/\o.dst=some t
      ·obtain ⟨j,oj,h2,h3⟩:=h;obtain ⟨k1,k2,k3⟩:=hseen t htl j oj h2 h3;rw [hF.slot j oj t h2 h3 (Ne.symm k1),if_pos k3,(hblin hTb t htl j oj h2 h3).1];rfl
      ·have h': ∀ (j:Nat) (o:Oper),l.toArray[j]?=some o->o.dst≠some t:=fun j o h2 h3=>h ⟨j,o,h2,h3⟩;rw [hF.other t h',hAo t fun j o h1 _ _=>h' j o h1]).1
    unfold wpOp;simp only [hobA];rw [if_pos (by simp [Region.wanted,hg])];refine .inl ?_;unfold Oper.wp;rw [hex,hrun];simp only [Oper.upon_value];refine ih (U.erase i) _ _ _ v' hlen' hnd' hUm' ⟨hls',hF.later.trans (hbel.mono hF.later.size),by rw [Zbb,hF.size],by rw [Zal,hF.defers],?_,?_,?_,?_,fun _=>hbox⟩
    ·intro j oj t hoj hd hjb;have hne:ob.dst≠some t:=fun h=>hdist hobA hoj (Ne.symm hjb) t h hd;rw [Zad,if_neg hne,hF.slot j oj t hoj hd hjb,hlist j,if_neg hjb]
     by_cases hTj:T j=true
     ·have hjn:listed.getD j false=false:=by
        cases h:listed.getD j false with
        | false=>rfl
        | true=>have:=hF.tb j hTj h;rw [getD_both hiu] at this;cases this
      rw [if_neg (by rw [hjn];simp),if_neg (by rw [hjn];simp)]
     ·rw [if_neg hTj,if_neg hTj]
    ·intro t hd;rw [Zad,if_pos hd,hlist i,if_pos rfl,if_pos rfl,hF.slotb t hd,if_neg (by rw [getD_both hiu];simp)]
    ·intro t h;rw [Zad,if_neg (h i ob hobA),hF.other t h]
    ·intro k _ _;rw [hlist i,if_pos rfl]
   ·have hol:l[i]?=some o:=by rw [<-hget];exact ho
    cases hTi:T i with
    | false=>
      obtain ⟨pre,post,hsplit,hpre1,hpre2⟩:=Zeq (fun i=> !T i && !(i==b)) l 0 i o hol (by rw [Nat.zero_add];simp [hTi,hib]);obtain ⟨_,_,_,htext⟩:=Zbc _ _ (hq ⟨w,hF.later⟩) (hpw _);obtain ⟨ai,v,hy,t1,t2,t3⟩:=htext _ o _ hsplit;have hal:=Za0 (ops:=l.toArray) (o:=o) (a:=a) (a':=ai) (fun cs bb=>hselect i o cs bb ho) fun t htl=>by
        by_cases h: ∃ (j:Nat) (o:Oper),l.toArray[j]?=some o/\o.dst=some t
        ·obtain ⟨j,oj,h2,h3⟩:=h;obtain ⟨k1,k2,k3⟩:=hseen t htl j oj h2 h3;obtain ⟨hTj,hjb⟩:=hblin hTi t htl j oj h2 h3;have hjb:=hjb.resolve_left hib;rw [hF.slot j oj t h2 h3 hjb,if_pos k3,hTj];refine (t1 t ⟨oj,hpre2 j oj k2 (by rw [<-hget];exact h2) (by rw [Nat.zero_add];simp [hTj,hjb]),h3⟩).symm
        ·have h': ∀ (j:Nat) (o:Oper),l.toArray[j]?=some o->o.dst≠some t:=fun j o h2 h3=>h ⟨j,o,h2,h3⟩;rw [hF.other t h'];refine (t2 t fun p hp=> ?_).symm;obtain ⟨j,_,h2,_⟩:=hpre1 p hp;exact h' j p (by rw [hget];exact h2)
      have hy':=hy.of_same hal.1 hal.2;have hqo:=hy'.qOp (K:=fun a'=>a'=a.put o.dst v) ho rfl;refine wpOp_of_qOp ⟨⟨w,Below.refl _ _⟩,rfl⟩ ?_ hqo;rintro a' w' ⟨X,rfl⟩ rfl;have hX:=X.h;refine ih (U.erase i) _ _ _ vb hlen' hnd' hUm' ⟨hls',hF.later.trans (hX.mono hF.later.size),by rw [Zbb,hF.size],by rw [Zal,hF.defers],?_,?_,?_,?_,?_⟩
      ·intro j oj t hoj hd hjb;rw [Zad,hlist j]
       by_cases hji:j=i
       ·subst hji;rw [ho] at hoj;cases hoj;rw [if_pos hd,if_pos rfl,if_pos rfl,hTi,hF.slot j o t ho hd hjb,if_neg (by rw [getD_both hiu];simp)];exact (t3 t hd).symm
       ·have hne:o.dst≠some t:=fun h=>hdist ho hoj (Ne.symm hji) t h hd;rw [if_neg hne,if_neg hji,hF.slot j oj t hoj hd hjb]
      ·intro t hd;have hne:o.dst≠some t:=fun h=>hdist ho hobA hib t h hd;rw [Zad,if_neg hne,hF.slotb t hd,hlist b,if_neg (Ne.symm hib)]
      ·intro t h;rw [Zad,if_neg (h i o ho),hF.other t h]
      ·intro k hk1 hk2;rw [hlist k] at hk2;have hki:k≠i:=fun e=>by subst e;rw [hTi] at hk1;cases hk1
       rw [if_neg hki] at hk2;rw [hlist b,if_neg (Ne.symm hib)];exact hF.tb k hk1 hk2
      ·intro h;rw [hlist b,if_neg (Ne.symm hib)] at h;exact hBp vb w _ (hF.box h) hX
    | true=>
      have hbt:listed.getD b false=true:=by
        have h1:=hTw i hilt;rw [Bool.or_eq_true] at h1;obtain ⟨k,_,h2⟩:=List.any_eq_true.1 (h1.resolve_left (by rw [hTi];simp));simp only [Bool.and_eq_true,Bool.or_eq_true,beq_iff_eq] at h2;obtain ⟨o',ho',e,he,hbd,hon⟩:=Region.waitsFor_spec h2.2;rw [ho] at ho';cases ho';have h3:=hdep e he hbd;rw [hon] at h3
        rcases h2.1 with rfl|h4
        ·exact h3
        ·exact hF.tb k h4 h3
      have hD:=hF.box hbt;obtain ⟨pre,post,hsplit,hpre1,hpre2⟩:=Zeq T l 0 i o hol (by rw [Nat.zero_add];exact hTi);obtain ⟨_,_,_,htext⟩:=hTT vb w hF.later hD;obtain ⟨ai,v,hy,t1,t2,t3⟩:=htext _ o _ hsplit;have hpo: ∀t,(∀ (j:Nat) (oj:Oper),l.toArray[j]?=some oj->T j=true->oj.dst≠some t)->ai.tmps[t]?=(A1.put ob.dst vb).tmps[t]?:=fun t h=>t2 t fun p hp=>by
        obtain ⟨j,_,h2,h3⟩:=hpre1 p hp;rw [Nat.zero_add] at h3;exact h j p (by rw [hget];exact h2) h3
      have hal:=Za0 (ops:=l.toArray) (o:=o) (a:=a) (a':=ai) (fun cs bb=>hselect i o cs bb ho) fun t htl=>by
        by_cases hbd:ob.dst=some t
        ·rw [hpo t fun j oj h1 h2 h3=>hdist hobA h1 (fun e=>by subst e;rw [hTb] at h2;cases h2) t hbd h3,Zad,if_pos hbd,hF.slotb t hbd,if_pos hbt,hAo t fun j o h1 _ h3 h4=>hdist hobA h1 (Ne.symm h3) t hbd h4]
        ·by_cases h: ∃ (j:Nat) (o:Oper),l.toArray[j]?=some o/\o.dst=some t
         ·obtain ⟨j,oj,h2,h3⟩:=h;obtain ⟨k1,k2,k3⟩:=hseen t htl j oj h2 h3;have hjb:j≠b:=fun e=>by subst e;rw [hobA] at h2;cases h2;exact hbd h3
          rw [hF.slot j oj t h2 h3 hjb,if_pos k3];cases hTj:T j with
          | true=>exact (t1 t ⟨oj,hpre2 j oj k2 (by rw [<-hget];exact h2) (by rw [Nat.zero_add];exact hTj),h3⟩).symm
          | false=>
            rw [hpo t fun j' o' h1' h2' h3'=>hdist h2 h1' (fun e=>by subst e;rw [hTj] at h2';cases h2') t h3 h3',Zad,if_neg hbd];rfl
         ·have h': ∀ (j:Nat) (o:Oper),l.toArray[j]?=some o->o.dst≠some t:=fun j o h2 h3=>h ⟨j,o,h2,h3⟩;rw [hF.other t h',hpo t fun j o h1 _=>h' j o h1,Zad,if_neg hbd,hAo t fun j o h1 _ _=>h' j o h1]
      have hy':=hy.of_same hal.1 hal.2;have hqo:=hy'.qOp (K:=fun a'=>a'=a.put o.dst v) ho rfl;refine wpOp_of_qOp ⟨⟨w,Below.refl _ _⟩,rfl⟩ ?_ hqo;rintro a' w' ⟨X,rfl⟩ rfl;have hX:=X.h;refine ih (U.erase i) _ _ _ vb hlen' hnd' hUm' ⟨hls',hF.later.trans (hX.mono hF.later.size),by rw [Zbb,hF.size],by rw [Zal,hF.defers],?_,?_,?_,?_,?_⟩
      ·intro j oj t hoj hd hjb;rw [Zad,hlist j]
       by_cases hji:j=i
       ·subst hji;rw [ho] at hoj;cases hoj;rw [if_pos hd,if_pos rfl,if_pos rfl,hTi,hF.slot j o t ho hd hjb,if_neg (by rw [getD_both hiu];simp)];have e1:=t3 t hd;have hbd:ob.dst≠some t:=fun h=>hdist hobA ho (Ne.symm hjb) t h hd;rw [Zad,if_neg hbd,hAo t fun j' o' h1 h2 h3 h4=>hdist ho h1 (fun e=>by subst e;rw [hTi] at h2;cases h2) t hd h4] at e1;exact e1.symm
       ·have hne:o.dst≠some t:=fun h=>hdist ho hoj (Ne.symm hji) t h hd;rw [if_neg hne,if_neg hji,hF.slot j oj t hoj hd hjb]
      ·intro t hd;have hne:o.dst≠some t:=fun h=>hdist ho hobA hib t h hd;rw [Zad,if_neg hne,hF.slotb t hd,hlist b,if_neg (Ne.symm hib)]
      ·intro t h;rw [Zad,if_neg (h i o ho),hF.other t h]
      ·intro k _ _;rw [hlist b,if_neg (Ne.symm hib)];exact hbt
      ·intro h;rw [hlist b,if_neg (Ne.symm hib)] at h;exact hBp vb w _ (hF.box h) hX
theorem Zfk {id:Nat} (b:Nat) (T:Nat->Bool) (ob:Oper) (D:Value->World->Prop) (hm:P.follows .mixedOrders=true) (hB:Region.partB l.toArray b T=true) (hob:l[b]?=some ob)
    (hBp: ∀v w w',D v w->Below w.heap.size w w'->D v w')
    (hh: ∃A1,(∀Y:Later W,wpQuiet P l.toArray (fun w'=> ∃X:Later2 Y,w'=X.w) (fun a'=>a'=A1) (selF (fun i=> !T i && !(i==b)) 0 l) a0)/\
      (∀w,Below W.heap.size W w->∃v w',(execOp A1.eval ob).run P w= .ok (.value v) w'/\D v w'/\Below w.heap.size w w')/\
       ∃A2:Value->Act,(∀v w,Below W.heap.size W w->D v w->wpQuiet P l.toArray (fun w'=> ∃X:Later w,w'=X.w) (fun a'=>a'=A2 v) (selF T 0 l) (A1.put ob.dst v))/\
        ∀v w,Below W.heap.size W w->D v w->Q .normal (A2 v) w):
    (Code.region id l.toArray true).wp P Q a0 W:=by
 obtain ⟨A1,hq,hb,A2,hqT,ht⟩:=hh;refine wp_region_any hm ?_;exact Zkv (W:=W) (a0:=a0) (A1:=A1) (A2:=A2) (D:=D) (Q:=Q) hB hob hq hb hBp hqT ht l.toArray.size (List.range l.toArray.size) (Array.replicate l.toArray.size false) a0 { W with drawn:=W.drawn+1 } undef (by simp) List.nodup_range (fun i=>by rw [List.mem_range];exact ⟨fun h=>⟨h,getD_replicate_false _ _⟩,fun h=>h.1⟩)
   ⟨by simp,⟨rfl,rfl,rfl,Nat.le_refl _,fun _ _=>rfl⟩,rfl,rfl,fun j o t _ _ _=>by rw [getD_replicate_false];rfl,fun t _=>by rw [getD_replicate_false];rfl,fun _ _=>rfl,fun k _ h=>(by rw [getD_replicate_false] at h;cases h),fun h=>by rw [getD_replicate_false] at h;cases h⟩
theorem Ze6 {id:Nat} (b:Nat) (T:Nat->Bool) (ob:Oper) (D:Value->World->Prop) (G:Act->Value->Act) (hm:P.follows .mixedOrders=true) (hB:Region.partB l.toArray b T=true) (hob:l[b]?=some ob)
    (hBp: ∀v w w',D v w->Below w.heap.size w w'->D v w')
    (hh: ∃A1,(∀Y:Later W,wpQuiet P l.toArray (fun w'=> ∃X:Later2 Y,w'=X.w) (fun a'=>a'=A1) (selF (fun i=> !T i && !(i==b)) 0 l) a0)/\
      (∀w,Below W.heap.size W w->∃v w',(execOp A1.eval ob).run P w= .ok (.value v) w'/\D v w'/\Below w.heap.size w w')/\
       (∀v w,Below W.heap.size W w->D v w->wpQuiet P l.toArray (fun w'=> ∃X:Later w,w'=X.w) (fun a'=>a'=G A1 v) (selF T 0 l) (A1.put ob.dst v))/\
        ∀v w,Below W.heap.size W w->D v w->Q .normal (G A1 v) w):
    (Code.region id l.toArray true).wp P Q a0 W:=by
 obtain ⟨A1,hq,hb,hqT,ht⟩:=hh;exact Zfk b T ob D hm hB hob hBp ⟨A1,hq,hb,G A1,hqT,ht⟩
end
end Go
namespace Go.Proofs.YtijajkfmlghgkaaGreatDoor.Nu
open Go Go.Proofs Go.RowKit Go.Proofs.YtijajkfmlghgkaaGreatDoor
theorem Zif {P:Program} (w:World) (t e:TypeId) (a:Option Addr) (n c n' c':Nat) (h:P.underlying t=some (.slice e)):
    (binOp .neq t (.slice a n c) (.slice none n' c')).run P w= .ok (.bool (!a.isNone)) w:=by
 simp only [binOp];simp [Op.equal,Op.maxDepth,Lib.run_equalIn_slice_nil w 9999 t e a n c n' c' h]
structure WlR (w:World) (v:Value) (l:List Nat) (m:Nat):Prop where
  sc:Sc encW 1 w w.heap.size v l
  dg:Dg (2^64) l
  tr:Tr l
  eq:val (2^64) l=m
theorem WlR.later {w w':World} {v:Value} {l:List Nat} {m:Nat} (h:WlR w v l m) (hb:Below w.heap.size w w'):WlR w' v l m:=⟨h.sc.later hb,h.dg,h.tr,h.eq⟩
theorem WlR.len {w:World} {v:Value} {l:List Nat} {m k:Nat} (h:WlR w v l m) (hm:Wds k (m:Int)):l.length<=k:=by
  refine Wds.len (k:=k) ?_ h.tr;rw [h.eq];exact hm
def Zd9 (w:World) (z:Int) (e:Ending) (w':World):Prop:=
  ∃a n c l,e= .returned (.tuple #[.bool (decide (z<0)),.slice a n c])/\WlR w' (.slice a n c) l z.natAbs/\n=l.length/\Below w.heap.size w w'
theorem Zc2 (w:World) (v:Value) (z:Int) (h:IntR w v z):Calls Tryz.prog 266 #[v] w (Zd9 w z):=by
  have hq:=fun (w:World) (a:Option Addr) (n c:Nat)=>Lib.run_eql_slice_nil w 131 345 a n c 0 0 Tryz.underlying131;have hq2:=fun (w:World) (a:Option Addr) (n c:Nat)=>Zif w 131 345 a n c 0 0 Tryz.underlying131;have HPOST:Hid (∀e w',Zd9 w z e w'↔∃a n c l,e= .returned (.tuple #[.bool (decide (z<0)),.slice a n c])/\WlR w' (.slice a n c) l z.natAbs/\n=l.length/\Below w.heap.size w w'):=Zh (fun _ _=>Iff.rfl);obtain ⟨Q,hQ⟩: ∃Q,Zd9 w z=Q:=⟨_,rfl⟩;rw [hQ] at HPOST ⊢;clear hQ
  rcases h with ⟨rfl,h1,h2⟩|⟨s,b,off,n,c,l,rfl,hsc,hn,hn0,hdg,htr,hbig,hs⟩
  ·have HB:=Zh ((Below.refl w.heap.size w).alloc (Nat.le_refl _) (.cells #[.int .i64 z,.slice none 0 0] 133));have HX:=Zh (Box.new w #[.int .i64 z,.slice none 0 0] 133);obtain ⟨x0,x1,xf,xz⟩:=HX.v2
   by_cases h0:z=0
   ·subst h0;clear h1 h2;go_enter Tryz.func266,Tryz.ntmps266;go_wp2_with fail;exact (HPOST.out _ _).2 ⟨none,0,0,[],rfl,⟨Sc.nil _ _ _ _ _ _,Dg.nil _,Tr.nil,rfl⟩,rfl,HB.out⟩
   ·have d0:(z==0)=false:=beq_eq_false_iff_ne.2 h0;have HS:=Zh (Zie z h1 h2);have HZ:=Zh (show z.natAbs<2^64/\z.natAbs≠0 by omega);obtain ⟨q,hq1⟩: ∃q,decide (z<0)=q:=⟨_,rfl⟩;rw [hq1] at HPOST;obtain ⟨m,hm⟩: ∃m,z.natAbs=m:=⟨_,rfl⟩;rw [hm] at HPOST HS HZ;clear h0 h1 h2 hm;go_enter Tryz.func266,Tryz.ntmps266;go_wp2_with fail;refine Ze6 6 (fun i=>i==8) _ (fun v u=> ∃g,v= .slice (some ⟨g,0,none⟩) 1 1/\Sc encW 1 u u.heap.size v [m]) (fun A v=>(A.put (some 23) v).put (some 3) v) (by kernel_rfl) (by kernel_rfl) rfl (fun v u u' h hb=>by obtain ⟨g,h1,h2⟩:=h;exact ⟨g,h1,h2.later hb⟩) ?_;apply Exists.intro;refine ⟨fun Y=> ?_,fun wa hwa=>⟨.slice (some ⟨wa.heap.size,0,none⟩) 1 1,wa.alloc (.cells #[.int .u64 (m:Int)] 345),?_,⟨_,rfl,Sc.of_own Zae (by simp) (Own.lit (f:=encW) (sz:=1) (l:=[m]) Zae 345 wa #[.int .u64 (m:Int)] 1 wa.heap.size rfl rfl (by simp) (Nat.le_refl _))⟩,(Below.refl _ _).alloc (Nat.le_refl _) _⟩,fun vl w2 hb hD=> ?_,fun vl w2 hb hD=> ?_⟩
    ·simp only [selF,Nat.reduceAdd,Nat.reduceBEq,Bool.not_true,Bool.not_false,Bool.and_true,Bool.and_false,Bool.and_self,if_true,if_false,Bool.false_eq_true,reduceIte]
     repeat go_big_quiet_step ((go_at_call 298;exact Calls.later2_same (HS.out _)))
     exact wpQuiet_nil rfl
    ·go_simp
     first|done|rfl|(go_ints;rfl)
    ·obtain ⟨g,rfl,hsc⟩:=hD;simp only [selF,Nat.reduceAdd,Nat.reduceBEq,Bool.not_true,Bool.not_false,Bool.and_true,Bool.and_false,Bool.and_self,if_true,if_false,Bool.false_eq_true,reduceIte];simp only [Act.put,Z1,Z4,Z5]
     repeat go_big_quiet_step (fail)
     exact wpQuiet_nil rfl
    obtain ⟨g,rfl,hsc⟩:=hD;simp only [Act.put,Z1,Z4,Z5];have HD:=Zh hsc;have HB2:=Zh (HB.Zg hb);clear hb hsc x0 x1 xf xz;go_wp2_with fail;refine (HPOST.out _ _).2 ⟨_,1,1,[m],rfl,⟨HD.out,Dg.one HZ.out.1,Tr.of_last (fun _=>by simpa using HZ.out.2),by simp [val]⟩,rfl,HB2.out⟩
  ·have HB:=Zh ((Below.refl w.heap.size w).alloc (Nat.le_refl _) (.cells #[.int .i64 s,.slice (some ⟨b,off,none⟩) n c] 133));have HX:=Zh (Box.new w #[.int .i64 s,.slice (some ⟨b,off,none⟩) n c] 133);obtain ⟨x0,x1,xf,xz⟩:=HX.v2;have HW:=Zh (show WlR w (.slice (some ⟨b,off,none⟩) n c) l z.natAbs from ⟨hsc,hdg,htr,by rcases hs with ⟨_,h⟩|⟨_,h⟩ <;> omega⟩)
   have d0:decide (s<0)=decide (z<0):=by
     rcases hs with ⟨h1,h2⟩|⟨h1,h2⟩
     ·rw [Zf (show¬s<0 by omega),Zf (show¬z<0 by omega)]
     ·rw [Zt (show s<0 by omega),Zt (show z<0 by omega)]
   generalize decide (z<0)=q at *;have HN:=Zh hn;clear hs hsc hn;go_enter Tryz.func266,Tryz.ntmps266;go_wp2_with fail
   go_quiet (fail)
   go_wp2_with fail;exact (HPOST.out _ _).2 ⟨_,n,c,l,rfl,HW.later (below_drewN HB.out _),HN.out,below_drewN HB.out _⟩
end Go.Proofs.YtijajkfmlghgkaaGreatDoor.Nu
