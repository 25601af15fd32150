/- Lemmas on the way to the law TopMirrored: Ef Eg Eh ShA Ei -/
import Derived.Test.YtijajkfmlghgkaaGreatDoorTopMirroredP02
import Derived.Shelf.Spec.BitsCarry
import Derived.Shelf.Strings.Builder1
import Derived.Shelf.Strings.Builder2
import Derived.Shelf.Strings.Trim
import Derived.Shelf.Small.Utf8
import Derived.Shelf.Small.Bits
import Derived.Shelf.Small.Strs
import Derived.Shelf.Strings.BuilderF
import Derived.Shelf.Strings.BuilderK
import Derived.Shelf.Strconv.Atoi
import Derived.Shelf.Strconv.Itoa0
import Derived.Shelf.Strconv.Itoa1
import Derived.Shelf.LaysM
import Derived.Shelf.Strconv.Itoa2
import Derived.Shelf.Strconv.Itoa3
import Derived.Shelf.Strings.Search1
import Derived.Shelf.Strings.Search2
import Derived.Shelf.Strings.Cut
import Derived.Shelf.Strings.Shaped
import Derived.Shelf.Strings.Prefix
import Derived.Shelf.Unicode.Decode
import Derived.Shelf.Strings.Runes
import Derived.Shelf.Strings.AsciiSet
import Derived.Shelf.Bits.Mul64
import Derived.Shelf.Strings.Repeat
import Derived.Shelf.Unicode.DecodeSlow
import Derived.Shelf.Unicode.DecodeAny
import Derived.Shelf.Unicode.DecodeLast
import Derived.Test.YtijajkfmlghgkaaGreatDoorProg
set_option linter.unusedVariables false
set_option linter.unusedSimpArgs false
set_option maxRecDepth 100000
set_option maxHeartbeats 4000000
namespace Go.Proofs.YtijajkfmlghgkaaGreatDoor.Nu
open Go Go.Proofs Go.RowKit Go.Proofs.YtijajkfmlghgkaaGreatDoor
theorem Zf9 (w:World) (a:Option Addr) (n c:Nat) (l:List Nat) (h:Sc encW 1 w w.heap.size (.slice a n c) l):Calls Tryz.prog 323 #[.slice a n c] w fun e w'=> ∃k,e= .returned (.slice a k c)/\k<=l.length/\Tr (l.take k)/\(∀x∈l.drop k,x=0)/\w=w':=by
  have hsl:=Zh h;obtain ⟨a',c',e,hl1,hl2,hA⟩:=h;injection e with e1 e2 e3
  subst e1 e2 e3;have HA:=Zh hA;obtain ⟨N,hN⟩: ∃N,l.length=N:=⟨_,rfl⟩;have HN:=Zh hN;rw [hN] at hl1 hl2 ⊢;clear hA hN;go_enter Tryz.func323,Tryz.ntmps323;go_wp2_with fail
  go_loop [3] (fun i=> ∃k:Nat,k<=N/\i= .int .i64 k/\∀x∈l.drop k,x=0) (fun i=>(intOf i).toNat)
  case atStart=>exact ⟨N,Nat.le_refl _,rfl,by rw [<-HN.out,List.drop_length];simp⟩
  case round=>
    obtain ⟨k,hk,rfl,hz⟩:=hrel;have HZ:=Zh hz;clear hz
    by_cases h0:k=0
    ·subst h0;have hc0:(0:Int)<=(c:Int):=by omega
     go_wp2_with fail;go_ret;exact ⟨0,rfl,by omega,by simp [Tr],HZ.out,rfl⟩
    ·obtain ⟨j,rfl⟩: ∃j,k=j+1:=⟨k-1,by omega⟩;have hj:j<l.length:=by rw [HN.out];omega
     obtain ⟨b,off,rfl,hbb,hcells⟩:=HA.out (by omega);have c0:=(hcells j hj).c1;rw [Nat.mul_one] at c0;have HD:=Zh (List.drop_eq_getElem_cons hj);have HT:=Zh (show∀hx:l[j]≠0,Tr (l.take (j+1)) from fun hx=>Tr.of_last (fun hn=>by
       rw [List.getElem_take];have e:(l.take (j+1)).length-1=j:=by rw [List.length_take];omega
       have e2:l[(l.take (j+1)).length-1]'(by omega)=l[j]:=by congr 1
       rw [e2];exact hx))
     clear hcells;generalize l[j]=x at *;have k1:IntKind.i64.wrap (((j+1:Nat):Int)-1)=(j:Int):=by rw [IntWalk.i64_in _ (by omega)];omega
     have k2:decide ((0:Int)<((j+1:Nat):Int))=true:=Zt (by omega);have k3:decide (((N:Nat):Int)<=(j:Int))=false:=Zf (by omega);have hc0:((j+1:Nat):Int)<=(c:Int):=by omega
     by_cases hx:x=0
     ·subst hx;have HZ2:=Zh (show∀x∈l.drop j,x=0 by rw [HD.out];intro x hx;rcases List.mem_cons.1 hx with h|h;exact h;exact HZ.out x h);clear h0;go_wp2_with fail
      go_round
      case rel=>exact ⟨j,by omega,by go_num,HZ2.out⟩
      case measure=>simp [intOf];try omega
     ·have k4:((x:Int)==0)=false:=beq_eq_false_iff_ne.2 (by omega);have HX:=Zh hx;clear hx h0;go_wp2_with fail;go_ret;exact ⟨j+1,rfl,by omega,HT.out HX.out,HZ.out,rfl⟩
def icmp (a b:Int):Int:=if a<b then -1 else if b<a then 1 else 0
theorem Zd0 (w:World) (a1 a2:Option Addr) (n1 n2 c1 c2:Nat) (l1 l2:List Nat) (m1 m2:Nat) (h1:WlR w (.slice a1 n1 c1) l1 m1) (h2:WlR w (.slice a2 n2 c2) l2 m2):Calls Tryz.prog 302 #[.slice a1 n1 c1,.slice a2 n2 c2] w (Ret (.int .i64 (icmp m1 m2)) w):=by
  obtain ⟨⟨a1',c1',e,hl1,hl1',hA1⟩,hd1,ht1,hv1⟩:=h1;injection e with e1 e2 e3
  subst e1 e2 e3;obtain ⟨⟨a2',c2',e,hl2,hl2',hA2⟩,hd2,ht2,hv2⟩:=h2;injection e with e1 e2 e3
  subst e1 e2 e3;have HA1:=Zh hA1;have HA2:=Zh hA2;obtain ⟨R,hR⟩: ∃R,icmp m1 m2=R:=⟨_,rfl⟩;rw [hR];have HLT:=Zh (show val (2^64) l1<val (2^64) l2->R= -1 from fun h=>by rw [<-hR];unfold icmp;rw [if_pos (by omega)]);have HGT:=Zh (show val (2^64) l2<val (2^64) l1->R=1 from fun h=>by rw [<-hR];unfold icmp;rw [if_neg (by omega),if_pos (by omega)]);have HEQ:=Zh (show val (2^64) l1=val (2^64) l2->R=0 from fun h=>by rw [<-hR];unfold icmp;rw [if_neg (by omega),if_neg (by omega)]);have HD1:=Zh hd1;have HD2:=Zh hd2;have HLA:=Zh (fun (h:l1.length<l2.length)=>Zbz (B:=2^64) (by decide) hd1 ht2 h);have HLB:=Zh (fun (h:l2.length<l1.length)=>Zbz (B:=2^64) (by decide) hd2 ht1 h);obtain ⟨N,hN⟩: ∃N,l1.length=N:=⟨_,rfl⟩;obtain ⟨M,hM⟩: ∃M,l2.length=M:=⟨_,rfl⟩;have HN:=Zh hN;have HM:=Zh hM;rw [hN] at hl1 hl1' HLA HLB ⊢;rw [hM] at hl2 hl2' HLA HLB ⊢;clear hA1 hA2 hN hM hR hv1 hv2 hd1 hd2 ht1 ht2
  by_cases h0:N=M
  rotate_left
  ·have k0:((N:Int) !=(M:Int))=true:=bne_iff_ne.2 (by omega)
   by_cases h1:N<M
   ·have k1:decide ((N:Int)<(M:Int))=true:=Zt (by omega);have k1':decide (N<M)=true:=Zt (by omega);have HV:=Zh (HLT.out (HLA.out h1));clear h0 h1;go_enter Tryz.func302,Tryz.ntmps302;go_wp2_with fail;go_ret;exact ⟨by rw [HV.out];rfl,Below.refl _ _⟩
   ·have k1:decide ((N:Int)<(M:Int))=false:=Zf (by omega);have k1':decide (N<M)=false:=Zf (by omega);have HV:=Zh (HGT.out (HLB.out (by omega)));clear h0 h1;go_enter Tryz.func302,Tryz.ntmps302;go_wp2_with fail;go_ret;exact ⟨by rw [HV.out];rfl,Below.refl _ _⟩
  subst h0;have k0:IntKind.i64.wrap ((N:Int)-1)=(N:Int)-1:=IntWalk.i64_in _ (by omega);have k00:((N:Int) !=(N:Int))=false:=by simp
  go_enter Tryz.func302,Tryz.ntmps302;go_wp2_with fail
  go_loopw [5] (fun i wr=> ∃k:Nat,k<=N/\i= .int .i64 ((k:Int)-1)/\l1.drop k=l2.drop k/\Below w.heap.size w wr) (fun i _=>(intOf i+1).toNat)
  case atStart=>exact ⟨N,Nat.le_refl _,rfl,by rw [List.drop_of_length_le (by rw [HN.out];omega),List.drop_of_length_le (by rw [HM.out];omega)],Below.refl _ _⟩
  case round=>
    obtain ⟨k,hk,rfl,hz,hbe⟩:=hrel;have HZ:=Zh hz;have HB:=Zh hbe;clear hz hbe k0 k00
    by_cases h0:k=0
    ·subst h0;have HV:=Zh (HEQ.out (by have:=HZ.out;simp only [Z7] at this;rw [this]));go_wp2_with fail;go_ret;exact ⟨by rw [HV.out];rfl,HB.out⟩
    ·obtain ⟨j,rfl⟩: ∃j,k=j+1:=⟨k-1,by omega⟩;have hj1:j<l1.length:=by rw [HN.out];omega
     have hj2:j<l2.length:=by rw [HM.out];omega
     obtain ⟨b1,off1,rfl,hbb1,hcells1⟩:=HA1.out (by omega);obtain ⟨b2,off2,rfl,hbb2,hcells2⟩:=HA2.out (by omega);have g1:=((hcells1 j hj1).below HB.out hbb1).c1;have g2:=((hcells2 j hj2).below HB.out hbb2).c1;rw [Nat.mul_one] at g1 g2;have hz1:b1<wr.heap.size:=by have:=HB.size;omega
     have hz2:b2<wr.heap.size:=by have:=HB.size;omega
     have HC1:=Zh (fun h=>Zdx (B:=2^64) HD1.out (by rw [HN.out,HM.out]) j hj1 HZ.out h);have HC2:=Zh (fun h=>Zdx (B:=2^64) HD2.out (by rw [HN.out,HM.out]) j hj2 HZ.symm h);have HDR:=Zh (show l1[j]=l2[j]->l1.drop j=l2.drop j from fun h=>by rw [List.drop_eq_getElem_cons hj1,List.drop_eq_getElem_cons hj2,h,HZ.out]);clear hcells1 hcells2;generalize l1[j]=x at *;generalize l2[j]=y at *;have k1:IntKind.i64.wrap ((j:Int)-1)=(j:Int)-1:=IntWalk.i64_in _ (by omega);have k5:(((j+1:Nat):Int)-1)=(j:Int):=by omega
     rw [k5];have k2:decide ((0:Int)<=(j:Int))=true:=Zt (by omega);have k2':decide (0<=j)=true:=Zt (by omega);have k3:decide (((N:Nat):Int)<=(j:Int))=false:=Zf (by omega)
     rcases Nat.lt_trichotomy x y with hx|hx|hx
     ·have k4:((x:Int) !=(y:Int))=true:=bne_iff_ne.2 (by omega);have k6:decide ((x:Int)<(y:Int))=true:=Zt (by omega);have k6':decide (x<y)=true:=Zt (by omega);have HV:=Zh (HLT.out (HC1.out hx));clear hx h0;go_wp2_with fail
      go_quiet (fail)
      go_wp2_with fail
      go_quiet (fail)
      go_wp2_with fail;go_ret;exact ⟨by rw [HV.out];rfl,below_drewN (below_drewN HB.out _) _⟩
     ·subst hx;have k4:((x:Int) !=(x:Int))=false:=by simp
      have HV:=Zh (HDR.out rfl);clear h0;go_wp2_with fail
      go_quiet (fail)
      go_wp2_with fail;go_roundw
      case rel=>exact ⟨j,by omega,by go_num,HV.out,below_drewN HB.out _⟩
      case measure=>simp [intOf];try omega
     ·have k4:((x:Int) !=(y:Int))=true:=bne_iff_ne.2 (by omega);have k6:decide ((x:Int)<(y:Int))=false:=Zf (by omega);have k6':decide (x<y)=false:=Zf (by omega);have HV:=Zh (HGT.out (HC2.out hx));clear hx h0;go_wp2_with fail
      go_quiet (fail)
      go_wp2_with fail
      go_quiet (fail)
      go_wp2_with fail;go_ret;exact ⟨by rw [HV.out];rfl,below_drewN (below_drewN HB.out _) _⟩
def Zq7:Go.Shelf.Ren:=⟨fun|25=>342|26=>343|n=>n,fun|22=>345|n=>n,fun|n=>n⟩
theorem Zm3:Lays7.n25 Tryz.prog Zq7:= { mixed:=by kernel_rfl,f25:=Zc Tryz.func342,t22:=Tryz.underlying345,a22:=Tryz.isAgg345,z22:=Tryz.sizeOf345,v22:=Tryz.zeroValue345,i22:=by kernel_rfl }
theorem Zm4:Lays7.n26 Tryz.prog Zq7:= { mixed:=by kernel_rfl,f26:=Zc Tryz.func343,t22:=Tryz.underlying345,a22:=Tryz.isAgg345,z22:=Tryz.sizeOf345,v22:=Tryz.zeroValue345,i22:=by kernel_rfl }
theorem Zf6 (x y c:Nat) (hc:c<=1) (w:World):(callFunc 342 #[.int .u64 x,.int .u64 y,.int .u64 c]).run Tryz.prog w=
      .ok (.value (.tuple #[.int .u64 (((x+y+c) % 18446744073709551616:Nat):Int),.int .u64 (((x+y+c) / 18446744073709551616:Nat):Int)])) w:=Any7.bits_Add64 Zm3 x y c hc w
theorem Zq8 (x y b:Nat) (hb:b<=1) (w:World):(callFunc 343 #[.int .u64 x,.int .u64 y,.int .u64 b]).run Tryz.prog w=
      .ok (.value (.tuple #[.int .u64 (((x+18446744073709551616-y-b) % 18446744073709551616:Nat):Int),.int .u64 ((if x<y+b then 1 else 0:Nat):Int)])) w:=Any7.bits_Sub64 Zm4 x y b hb w
theorem Zea:(Tryz.prog.info? 345).map (fun i=>(i.zero,i.size,i.bytes))=some (some (.int .u64 0),1,8):=by kernel_rfl
theorem Ze9 (d:List Nat) (n k y:Nat) (hd:d.length=k) (hn:k<n):(d++List.replicate (n-k) 0).set k y=(d++ [y])++List.replicate (n-(k+1)) 0:=by
  subst hd;obtain ⟨m,hm⟩: ∃m,n-d.length=m+1:=⟨n-d.length-1,by omega⟩;rw [hm,Zki,show n-(d.length+1)=m by omega]
theorem Zaz {α:Type} {f:α->List Value} {sz:Nat} {e:TypeId} {w:World} {base g n c:Nat} {l:List α} (h:Own f sz e w base (.slice (some ⟨g,0,none⟩) n c) l):g<w.heap.size:=by
  rcases h.2 with ⟨hv,_⟩|⟨g',cap,cur,hv,hb,hg,_⟩
  ·cases hv
  ·injection hv with e1 e2 e3
   injection e1 with e1
   injection e1 with e1
   rw [e1];exact (Array.getElem?_eq_some_iff.1 hg).1
theorem Zaq {α:Type} {f:α->List Value} {e:TypeId} {w:World} {base g n c:Nat} {l:List α} (h:Own f 1 e w base (.slice (some ⟨g,0,none⟩) n c) l) (hn:l.length=n) (hf: ∀x,(f x).length=1) (i:Nat) (hi:i<n) (y:α) (v:Value) (hv:f y=[v]):
    Own f 1 e (w.setCell ⟨g,i,none⟩ v) base (.slice (some ⟨g,0,none⟩) n c) (l.set i y):=by
 have h1:=Own.setN h hn hf i (by omega) 0 (by omega) v y (by
   have h2:=hf (l[i]'(by omega));obtain ⟨a,ha⟩:=List.length_eq_one_iff.1 h2;rw [ha,hv];rfl)
 simpa using h1
theorem Zam {α:Type} {f:α->List Value} {e:TypeId} {w:World} {base g n c:Nat} {l:List α} (h:Own f 1 e w base (.slice (some ⟨g,0,none⟩) n c) l) (hn:l.length=n) (hf: ∀x,(f x).length=1) (i:Nat) (hi:i<l.length) (v:Value) (hv:f l[i]=[v]):w.cell? ⟨g,i,none⟩=some v:=by
  have h1:=Own.atN h hn hf i hi;rw [hv] at h1;have:=h1.c1
  rwa [Nat.mul_one] at this
def RetW (w:World) (m:Nat) (e:Ending) (w':World):Prop:=∃a n c l,e= .returned (.slice a n c)/\WlR w' (.slice a n c) l m/\Below w.heap.size w w'
theorem Zfa (w:World) (m:Nat) (w':World) (g n c base:Nat) (l:List Nat) (k:Nat) (ho:Own encW 1 345 w' base (.slice (some ⟨g,0,none⟩) n c) l) (hn:l.length=n) (hl:l.length<=1000000000) (hd:Dg (2^64) l) (hm:val (2^64) l=m) (hb:Below w.heap.size w w') (hk:k<=l.length) (ht:Tr (l.take k)) (hz: ∀x∈l.drop k,x=0):RetW w m (.returned (.slice (some ⟨g,0,none⟩) k c)) w':=
  ⟨_,k,c,l.take k,rfl,⟨(Sc.of_own Zae hl ho).take k hk,hd.take k,ht,by rw [Zar hk hz];exact hm⟩,hb⟩
theorem add97 (w:World) (a1 a2:Option Addr) (n1 n2 c1 c2:Nat) (l1 l2:List Nat) (m1 m2:Nat) (h1:WlR w (.slice a1 n1 c1) l1 m1) (h2:WlR w (.slice a2 n2 c2) l2 m2) (hb1:l1.length<=10000000) (hb2:l2.length<=10000000):
    Calls Tryz.prog 301 #[.slice a1 n1 c1,.slice a2 n2 c2] w (RetW w (m1+m2)):=by
 obtain ⟨⟨a1',c1',e,hl1,hl1',hA1⟩,hd1,ht1,hv1⟩:=h1;injection e with e1 e2 e3
 subst e1 e2 e3;obtain ⟨⟨a2',c2',e,hl2,hl2',hA2⟩,hd2,ht2,hv2⟩:=h2;injection e with e1 e2 e3
 subst e1 e2 e3;have HA1:=Zh hA1;have HA2:=Zh hA2;have HD1:=Zh hd1;have HD2:=Zh hd2;obtain ⟨S,hS⟩: ∃S,m1+m2=S:=⟨_,rfl⟩;rw [hS];have HS:=Zh (show val (2^64) l1+val (2^64) l2=S by omega);have HTP:=Zh (Zfa w S);obtain ⟨Q,hQ⟩: ∃Q,RetW w S=Q:=⟨_,rfl⟩;rw [hQ] at HTP ⊢;obtain ⟨N,hN⟩: ∃N,l1.length=N:=⟨_,rfl⟩;obtain ⟨M,hM⟩: ∃M,l2.length=M:=⟨_,rfl⟩;have HN:=Zh hN;have HM:=Zh hM;rw [hN] at hb1 hl1' ⊢;rw [hM] at hb2 hl2' ⊢;clear hA1 hA2 hN hM hQ hS hv1 hv2 hd1 hd2 ht1 ht2 hl1 hl2;have HINFO:=Zh Zea
 rcases Nat.lt_or_ge N M with hNM|hNM
 all_goals
   first
   | (have hh:N<M:=hNM
      have d0:decide ((N:Int)<(M:Int))=true:=Zt (by omega);have d0':decide (N<M)=true:=Zt (by omega);have HAX:=Zh HA2.out;have HAY:=Zh HA1.out;have HDX:=Zh HD2.out;have HDY:=Zh HD1.out;have HSX:=Zh (show val (2^64) l2+val (2^64) l1=S by have:=HS.out;omega);have HNX:=Zh HM.out;have HNY:=Zh HN.out;have hcx:=hl2';have hcy:=hl1';have hbx:=hb2;clear hl1' hl2' hb2 hb1 HA1 HA2 HD1 HD2 HS HM HN;obtain ⟨lx,rfl⟩: ∃q,q=l2:=⟨_,rfl⟩;obtain ⟨ly,rfl⟩: ∃q,q=l1:=⟨_,rfl⟩;obtain ⟨ax,rfl⟩: ∃q,q=a2:=⟨_,rfl⟩;obtain ⟨ay,rfl⟩: ∃q,q=a1:=⟨_,rfl⟩;obtain ⟨X,rfl⟩: ∃q,q=M:=⟨_,rfl⟩;obtain ⟨Y,rfl⟩: ∃q,q=N:=⟨_,rfl⟩;obtain ⟨cx,rfl⟩: ∃q,q=c2:=⟨_,rfl⟩;obtain ⟨cy,rfl⟩: ∃q,q=c1:=⟨_,rfl⟩)
   | (have hh:M<=N:=hNM
      have d0:decide ((N:Int)<(M:Int))=false:=Zf (by omega);have d0':decide (N<M)=false:=Zf (by omega);have HAX:=Zh HA1.out;have HAY:=Zh HA2.out;have HDX:=Zh HD1.out;have HDY:=Zh HD2.out;have HSX:=Zh HS.out;have HNX:=Zh HN.out;have HNY:=Zh HM.out;have hcx:=hl1';have hcy:=hl2';have hbx:=hb1;clear hl1' hl2' hb2 hb1 HA1 HA2 HD1 HD2 HS HM HN;obtain ⟨lx,rfl⟩: ∃q,q=l1:=⟨_,rfl⟩;obtain ⟨ly,rfl⟩: ∃q,q=l2:=⟨_,rfl⟩;obtain ⟨ax,rfl⟩: ∃q,q=a1:=⟨_,rfl⟩;obtain ⟨ay,rfl⟩: ∃q,q=a2:=⟨_,rfl⟩;obtain ⟨X,rfl⟩: ∃q,q=N:=⟨_,rfl⟩;obtain ⟨Y,rfl⟩: ∃q,q=M:=⟨_,rfl⟩;obtain ⟨cx,rfl⟩: ∃q,q=c1:=⟨_,rfl⟩;obtain ⟨cy,rfl⟩: ∃q,q=c2:=⟨_,rfl⟩)
   have hle:Y<=X:=by omega
   have k1:IntKind.i64.wrap ((X:Int)+1)=((X+1:Nat):Int):=by rw [IntWalk.i64_in _ (by omega)];omega
   clear hNM;go_enter Tryz.func301,Tryz.ntmps301;go_wp2_with (at_make;refine mk1 encW 0 (.int .u64 0) rfl 131 345 8 Tryz.underlying131 HINFO.out rfl (by decide) w.heap.size w (X+1) (by omega) (Nat.le_refl _) rfl _ _ rfl .i64 .i64 rfl rfl ?_;intro w3 ho3 hg3);have HB3:=Zh (Zbk hg3);have HO3:=Zh ho3;clear ho3 hg3
   go_loopw [22,6] (fun i cr wr=> ∃ (k c:Nat) (d:List Nat),k<=X/\i= .int .i64 k/\cr= .int .u64 (c:Int)/\AddI (2^64) lx ly d c k/\Below w.heap.size w wr/\Own encW 1 345 wr w.heap.size (.slice (some ⟨w.heap.size,0,none⟩) (X+1) (X+1)) (d++List.replicate (X+1-k) 0)) (fun i _ _=>X-(intOf i).toNat)
   case atStart=>exact ⟨0,0,[],Nat.zero_le _,rfl,rfl,AddI.start _ _ _,HB3.out,by simpa using HO3.out⟩
   case round=>
     obtain ⟨k,c,d,hk,rfl,rfl,hai,hbe,hown⟩:=hrel;have HAI:=Zh hai;have HB:=Zh hbe;have HO:=Zh hown;have hc1:=hai.carry;have hdl:=hai.len;have HLL:=Zh (show (d++List.replicate (X+1-k) 0).length=X+1 by simp;omega);clear hai hown hbe
     by_cases hkX:k<X
     ·have k2:decide ((k:Int)<(X:Int))=true:=Zt (by omega);have k2':decide (k<X)=true:=Zt (by omega);have hkx:k<lx.length:=by rw [HNX.out];exact hkX
      obtain ⟨b1,o1,rfl,hbb1,hcells1⟩:=HAX.out (by omega);have g1:=((hcells1 k hkx).below HB.out hbb1).c1;rw [Nat.mul_one] at g1;have hz1:b1<wr.heap.size:=by have:=HB.size;omega
      have hz2:w.heap.size<wr.heap.size:=Zaz HO.out;have hfz:=Own.frozenN HO.out HLL.out k;obtain ⟨q0,hq0⟩: ∃q,(d++List.replicate (X+1-k) 0)[k]?=some q:=⟨_,List.getElem?_eq_getElem (by rw [HLL.out];omega)⟩;obtain ⟨hq1,hq2⟩:=List.getElem?_eq_some_iff.1 hq0;have g0:=Zam HO.out HLL.out Zae k hq1 (.int .u64 (q0:Int)) (by rw [hq2];rfl);clear hq0 hq1 hq2;have HSET:=Zh (fun (y:Nat)=>Zaq HO.out HLL.out Zae k (by omega) y (.int .u64 (y:Int)) rfl);have HST:=Zh (fun s hs=>HAI.step (by decide) HDX.out HDY.out (s:=s) hs);have HDX1:=Zh (Zbu hkx);have hadd:=fun (x y:Nat) (w:World)=>Zf6 x y c hc1 w;have k3:IntKind.i64.wrap ((k:Int)+1)=((k+1:Nat):Int):=by rw [IntWalk.i64_in _ (by omega)];omega
      have k4:decide ((X:Int)<=(k:Int))=false:=Zf (by omega);have k5:decide (((X+1:Nat):Int)<=(k:Int))=false:=Zf (by omega);clear hcells1;generalize lx[k]=x at *;have hkX1:k<X+1:=by omega
      by_cases hky:k<Y
      ·have k6:decide ((k:Int)<(Y:Int))=true:=Zt (by omega);have k6':decide (k<Y)=true:=Zt (by omega);have hkyl:k<ly.length:=by rw [HNY.out];exact hky
       obtain ⟨b2,o2,rfl,hbb2,hcells2⟩:=HAY.out (by omega);have g2:=((hcells2 k hkyl).below HB.out hbb2).c1;rw [Nat.mul_one] at g2;have hz3:b2<wr.heap.size:=by have:=HB.size;omega
       have HDY1:=Zh (Zbu hkyl);clear hcells2;generalize ly[k]=y at *;go_wp2_with fail;go_roundw
       case rel=>
         refine ⟨k+1,(x+y+c) / 18446744073709551616,d++ [(x+y+c) % 18446744073709551616],by omega,by go_num,congrArg _ (by omega),HST.out _ (by rw [HDX1.out,HDY1.out]),?_,?_⟩
         ·exact HB.setCell (Nat.le_refl _) _
         ·have h:=HSET.out ((x+y+c) % 18446744073709551616);rw [Ze9 d (X+1) k _ hdl (by omega)] at h;rw [show ((x:Int)+y+c) % 18446744073709551616=(((x+y+c) % 18446744073709551616:Nat):Int) by omega];exact h
       case measure=>simp [intOf];omega
      ·have k6:decide ((k:Int)<(Y:Int))=false:=Zf (by omega);have k6':decide (k<Y)=false:=Zf (by omega);have HDY1:=Zh (show dig ly k=0 from Zg6 (by rw [HNY.out];omega));have hadd0: ∀ (x:Nat) (w:World),(callFunc 342 #[.int .u64 (x:Int),.int .u64 0,.int .u64 (c:Int)]).run Tryz.prog w= .ok (.value (.tuple #[.int .u64 (((x+c) % 18446744073709551616:Nat):Int),.int .u64 (((x+c) / 18446744073709551616:Nat):Int)])) w:=fun x w=>Zf6 x 0 c hc1 w;go_wp2_with fail;go_roundw
       case rel=>
         refine ⟨k+1,(x+c) / 18446744073709551616,d++ [(x+c) % 18446744073709551616],by omega,by go_num,congrArg _ (by omega),HST.out _ (by rw [HDX1.out,HDY1.out];rfl),?_,?_⟩
         ·exact HB.setCell (Nat.le_refl _) _
         ·have h:=HSET.out ((x+c) % 18446744073709551616);rw [Ze9 d (X+1) k _ hdl (by omega)] at h;rw [show ((x:Int)+c) % 18446744073709551616=(((x+c) % 18446744073709551616:Nat):Int) by omega];exact h
       case measure=>simp [intOf];omega
     ·obtain rfl:X=k:=by omega
      have hz2:w.heap.size<wr.heap.size:=Zaz HO.out;have hfz:=Own.frozenN HO.out HLL.out X;obtain ⟨q0,hq0⟩: ∃q,(d++List.replicate (X+1-X) 0)[X]?=some q:=⟨_,List.getElem?_eq_getElem (by rw [HLL.out];omega)⟩;obtain ⟨hq1,hq2⟩:=List.getElem?_eq_some_iff.1 hq0;have g0:=Zam HO.out HLL.out Zae X hq1 (.int .u64 (q0:Int)) (by rw [hq2];rfl);have h:=Zaq HO.out HLL.out Zae X (by omega) c (.int .u64 (c:Int)) rfl;rw [Ze9 d (X+1) X _ hdl (by omega),Nat.sub_self,List.replicate_zero,List.append_nil] at h;have HO2:=Zh h;have HB2:=Zh (HB.setCell (Nat.le_refl _) (.int .u64 (c:Int)):Below w.heap.size w (wr.setCell ⟨w.heap.size,X,none⟩ (.int .u64 (c:Int))));have HL2:=Zh (show (d++ [c]).length=X+1 by simp [hdl]);have HDG:=Zh (HAI.dg.app (Dg.one (show c<2^64 by omega)));have HVL:=Zh (show val (2^64) (d++ [c])=S by
        rw [Zcj,Zbr,hdl];have h1:=HAI.eq;rw [List.take_of_length_le (by rw [HNX.out];exact Nat.le_refl _),List.take_of_length_le (by rw [HNY.out];exact hle),HSX.out] at h1;exact h1)
      have HTR:=Zh (Zf9 _ _ _ _ _ (Sc.of_own Zae (by rw [HL2.out];omega) HO2.out));have hX1:X<X+1:=by omega
      clear h hq0 hq1 hq2;go_wp2_with fail;refine HTR.mono ?_;rintro e5 w5 ⟨kk,rfl,hk5,ht5,hz5,rfl⟩;have HFIN:=Zh (HTP.out _ _ _ _ _ _ _ HO2.out HL2.out (by rw [HL2.out];omega) HDG.out HVL.out HB2.out hk5 ht5 hz5);clear hk5 ht5 hz5;go_wp2_with fail;exact HFIN.out
theorem Zd1 (x y c:Nat) (hx:x<2^64) (hy:y<2^64) (hc:c<=1): ∃s c':Nat,(∀w:World,(callFunc 343 #[.int .u64 x,.int .u64 y,.int .u64 c]).run Tryz.prog w= .ok (.value (.tuple #[.int .u64 (s:Int),.int .u64 (c':Int)])) w)/\s+y+c=x+2^64* c'/\s<2^64/\c'<=1:=by
  refine ⟨_,_,fun w=>Zq8 x y c hc w,?_,?_,?_⟩
  ·split <;> omega
  ·omega
  ·split <;> omega
theorem Zq9 (w:World) (a1 a2:Option Addr) (n1 n2 c1 c2:Nat) (lx ly:List Nat) (m1 m2:Nat) (h1:WlR w (.slice a1 n1 c1) lx m1) (h2:WlR w (.slice a2 n2 c2) ly m2) (hb1:lx.length<=10000000) (hle:m2<=m1):
    Calls Tryz.prog 303 #[.slice a1 n1 c1,.slice a2 n2 c2] w (RetW w (m1-m2)):=by
 obtain ⟨⟨a1',c1',e,hl1,hl1',hA1⟩,hd1,ht1,hv1⟩:=h1;injection e with e1 e2 e3
 subst e1 e2 e3;obtain ⟨⟨a2',c2',e,hl2,hl2',hA2⟩,hd2,ht2,hv2⟩:=h2;injection e with e1 e2 e3
 subst e1 e2 e3;have HAX:=Zh hA1;have HAY:=Zh hA2;have HDX:=Zh hd1;have HDY:=Zh hd2;have hYX:ly.length<=lx.length:=by
   rcases Nat.lt_or_ge lx.length ly.length with h|h
   ·have:=Zbz (B:=2^64) (by decide) hd1 ht2 h;omega
   ·exact h
 have HVV:=Zh (show val (2^64) ly<=val (2^64) lx by omega);obtain ⟨S,hS⟩: ∃S,m1-m2=S:=⟨_,rfl⟩;rw [hS];have HS:=Zh (show val (2^64) lx-val (2^64) ly=S by omega);have HTP:=Zh (Zfa w S);obtain ⟨Q,hQ⟩: ∃Q,RetW w S=Q:=⟨_,rfl⟩;rw [hQ] at HTP ⊢;obtain ⟨X,hN⟩: ∃N,lx.length=N:=⟨_,rfl⟩;obtain ⟨Y,hM⟩: ∃M,ly.length=M:=⟨_,rfl⟩;have HNX:=Zh hN;have HNY:=Zh hM;rw [hN] at hb1 hl1' hYX ⊢;rw [hM] at hl2' hYX ⊢;have HINFO:=Zh Zea;clear hA1 hA2 hN hM hQ hS hv1 hv2 hd1 hd2 ht1 ht2 hl1 hl2 hle;go_enter Tryz.func303,Tryz.ntmps303;go_wp2_with (at_make;refine mk1 encW 0 (.int .u64 0) rfl 131 345 8 Tryz.underlying131 HINFO.out rfl (by decide) w.heap.size w X (by omega) (Nat.le_refl _) rfl _ _ rfl .i64 .i64 rfl rfl ?_;intro w3 ho3 hg3);have HB3:=Zh (Zbk hg3);have HO3:=Zh ho3;clear ho3 hg3
 go_loopw [14,6] (fun i cr wr=> ∃ (k c:Nat) (d:List Nat),k<=X/\i= .int .i64 k/\cr= .int .u64 (c:Int)/\SubI (2^64) lx ly d c k/\Below w.heap.size w wr/\Own encW 1 345 wr w.heap.size (.slice (some ⟨w.heap.size,0,none⟩) X X) (d++List.replicate (X-k) 0)) (fun i _ _=>X-(intOf i).toNat)
 case atStart=>exact ⟨0,0,[],Nat.zero_le _,rfl,rfl,SubI.start _ _ _,HB3.out,by simpa using HO3.out⟩
 case round=>
   obtain ⟨k,c,d,hk,rfl,rfl,hai,hbe,hown⟩:=hrel;have HAI:=Zh hai;have HB:=Zh hbe;have HO:=Zh hown;have hc1:=hai.carry;have hdl:=hai.len;have HLL:=Zh (show (d++List.replicate (X-k) 0).length=X by simp;omega);clear hai hown hbe
   by_cases hkX:k<X
   ·have k2:decide ((k:Int)<(X:Int))=true:=Zt (by omega);have k2':decide (k<X)=true:=Zt (by omega);have hkx:k<lx.length:=by rw [HNX.out];exact hkX
    obtain ⟨b1,o1,rfl,hbb1,hcells1⟩:=HAX.out (by omega);have g1:=((hcells1 k hkx).below HB.out hbb1).c1;rw [Nat.mul_one] at g1;have hz1:b1<wr.heap.size:=by have:=HB.size;omega
    have hz2:w.heap.size<wr.heap.size:=Zaz HO.out;have hfz:=Own.frozenN HO.out HLL.out k;obtain ⟨q0,hq0⟩: ∃q,(d++List.replicate (X-k) 0)[k]?=some q:=⟨_,List.getElem?_eq_getElem (by rw [HLL.out];omega)⟩;obtain ⟨hq1,hq2⟩:=List.getElem?_eq_some_iff.1 hq0;have g0:=Zam HO.out HLL.out Zae k hq1 (.int .u64 (q0:Int)) (by rw [hq2];rfl);clear hq0 hq1 hq2;have HSET:=Zh (fun (y:Nat)=>Zaq HO.out HLL.out Zae k (by omega) y (.int .u64 (y:Int)) rfl);have HST:=Zh (fun s c' h1 h2 h3=>HAI.step (by decide) HDX.out HDY.out (s:=s) (c':=c') h1 h2 h3);have HDX1:=Zh (Zbu hkx);have hxB:=HDX.get k hkx;have k3:IntKind.i64.wrap ((k:Int)+1)=((k+1:Nat):Int):=by rw [IntWalk.i64_in _ (by omega)];omega
    clear hcells1;generalize lx[k]=x at *
    by_cases hky:k<Y
    ·have k6:decide ((k:Int)<(Y:Int))=true:=Zt (by omega);have k6':decide (k<Y)=true:=Zt (by omega);have hkyl:k<ly.length:=by rw [HNY.out];exact hky
     obtain ⟨b2,o2,rfl,hbb2,hcells2⟩:=HAY.out (by omega);have g2:=((hcells2 k hkyl).below HB.out hbb2).c1;rw [Nat.mul_one] at g2;have hz3:b2<wr.heap.size:=by have:=HB.size;omega
     have HDY1:=Zh (Zbu hkyl);have hyB:=HDY.get k hkyl;clear hcells2;generalize ly[k]=y at *;obtain ⟨s,c',hsub,hs1,hs2,hs3⟩:=Zd1 x y c hxB hyB hc1;have HS1:=Zh (show s+dig ly k+c=dig lx k+2^64* c' by rw [HDX1.out,HDY1.out];exact hs1);have HS2:=Zh hs2;have HS3:=Zh hs3;clear hs1 hs2 hs3 hxB hyB;go_wp2_with fail;go_roundw
     case rel=>
       refine ⟨k+1,c',d++ [s],by omega,by go_num,rfl,HST.out _ _ HS1.out HS2.out HS3.out,?_,?_⟩
       ·exact HB.setCell (Nat.le_refl _) _
       ·have h:=HSET.out s;rw [Ze9 d X k _ hdl (by omega)] at h;exact h
     case measure=>simp [intOf];omega
    ·have k6:decide ((k:Int)<(Y:Int))=false:=Zf (by omega);have k6':decide (k<Y)=false:=Zf (by omega);have HDY1:=Zh (show dig ly k=0 from Zg6 (by rw [HNY.out];omega));obtain ⟨s,c',hsub,hs1,hs2,hs3⟩:=Zd1 x 0 c hxB (by decide) hc1;have hsub': ∀w:World,(callFunc 343 #[.int .u64 (x:Int),.int .u64 0,.int .u64 (c:Int)]).run Tryz.prog w= .ok (.value (.tuple #[.int .u64 (s:Int),.int .u64 (c':Int)])) w:=hsub;have HS1:=Zh (show s+dig ly k+c=dig lx k+2^64* c' by rw [HDX1.out,HDY1.out];exact hs1);have HS2:=Zh hs2;have HS3:=Zh hs3;clear hs1 hs2 hs3 hxB hsub;go_wp2_with fail;go_roundw
     case rel=>
       refine ⟨k+1,c',d++ [s],by omega,by go_num,rfl,HST.out _ _ HS1.out HS2.out HS3.out,?_,?_⟩
       ·exact HB.setCell (Nat.le_refl _) _
       ·have h:=HSET.out s;rw [Ze9 d X k _ hdl (by omega)] at h;exact h
     case measure=>simp [intOf];omega
   ·obtain rfl:X=k:=by omega
    have hd0:d++List.replicate (X-X) 0=d:=by simp
    have HO2:=Zh (show Own encW 1 345 wr w.heap.size (.slice (some ⟨w.heap.size,0,none⟩) X X) d by have h:=HO.out;rwa [hd0] at h);have HVL:=Zh (show val (2^64) d=S by
      have h:=HAI.out;rw [<-HNX.out] at h;have h1:=(h.done (by rw [HNX.out,HNY.out];exact hYX) HVV.out).2;rw [h1,HS.out])
    have HDL:=Zh hdl;have HTR:=Zh (Zf9 _ _ _ _ _ (Sc.of_own Zae (by omega) HO2.out));clear hd0 hdl;go_wp2_with fail;refine HTR.mono ?_;rintro e5 w5 ⟨kk,rfl,hk5,ht5,hz5,rfl⟩;have HFIN:=Zh (HTP.out _ _ _ _ _ _ _ HO2.out HDL.out (by rw [HDL.out];omega) HAI.dg HVL.out HB.out hk5 ht5 hz5);clear hk5 ht5 hz5;go_wp2_with fail;exact HFIN.out
end Go.Proofs.YtijajkfmlghgkaaGreatDoor.Nu
namespace Go.Proofs
open Go.Shelf
def Tryz.lays169_ren:Go.Shelf.Ren:=⟨fun|169=>271|n=>n,fun|70=>350|9=>9|0=>0|72=>353|37=>351|127=>388|3=>3|5=>5|n=>n,fun|n=>n⟩
theorem Tryz.lays169:Go.Proofs.Lays.n169 Tryz.prog Tryz.lays169_ren:= {
  mixed:=by kernel_rfl
  f169:=Zc Tryz.func271
  t0:=Tryz.underlying0
  a0:=Tryz.isAgg0
  z0:=Tryz.sizeOf0
  v0:=Tryz.zeroValue0
  t3:=Tryz.underlying3
  a3:=Tryz.isAgg3
  z3:=Tryz.sizeOf3
  v3:=Tryz.zeroValue3
  t9:=Tryz.underlying9
  a9:=Tryz.isAgg9
  z9:=Tryz.sizeOf9
  v9:=Tryz.zeroValue9
  t37:=Tryz.underlying351
  a37:=Tryz.isAgg351
  z37:=Tryz.sizeOf351
  v37:=Tryz.zeroValue351
  t70:=Tryz.underlying350
  a70:=Tryz.isAgg350
  z70:=Tryz.sizeOf350
  v70:=Tryz.zeroValue350
  t72:=Tryz.underlying353
  a72:=Tryz.isAgg353
  z72:=Tryz.sizeOf353
  v72:=Tryz.zeroValue353
  t127:=Tryz.underlying388
  a127:=Tryz.isAgg388
  z127:=Tryz.sizeOf388
  v127:=Tryz.zeroValue388 }
theorem Tryz.Builder_Extra_169:Builder.Extra Tryz.prog Tryz.lays169_ren:= {
  sizeBuilder:=by kernel_rfl
  liesBuilder:=by kernel_rfl
  t5:=Tryz.underlying5
  a5:=Tryz.isAgg5
  z5:=Tryz.sizeOf5
  v5:=Tryz.zeroValue5
  infoByte:=by kernel_rfl
  cellsByte:=by kernel_rfl
  sizeByte:=by kernel_rfl
  neB5:=by decide }
open Go.RowKit in
theorem Tryz.Builder_String_any (B b:Nat) (l:List UInt8) (w:World) (h:Lib.IsBuilder 353 5 B b (Lib.byteCells l) w) (hBw:B<=w.heap.size):
    Calls Tryz.prog 271 #[.pointer (some ⟨b,0,none⟩)] w fun e w'=>e= .returned (.string ⟨l.toArray⟩)/\Below B w w':=Any.Builder_String_any Tryz.lays169 Tryz.Builder_Extra_169 B b l w h hBw
def Tryz.lays160_ren:Go.Shelf.Ren:=⟨fun|160=>316|232=>360|231=>359|227=>361|234=>363|233=>362|236=>365|235=>364|228=>399|271=>402|151=>401|197=>400|120=>419|152=>418|260=>417|137=>426|119=>427|224=>357|225=>356|217=>355|266=>397|n=>n,fun|9=>9|4=>4|3=>3|5=>5|117=>413|116=>412|0=>0|124=>416|21=>21|105=>449|46=>320|119=>474|139=>477|138=>476|n=>n,fun|3=>6|4=>7|n=>n⟩
theorem Tryz.lays160:Go.Proofs.Lays.n160 Tryz.prog Tryz.lays160_ren:= {
  mixed:=by kernel_rfl
  f119:=Zc Tryz.func427
  f120:=Zc Tryz.func419
  f137:=Zc Tryz.func426
  f151:=Zc Tryz.func401
  f152:=Zc Tryz.func418
  f160:=Zc Tryz.func316
  f197:=Zc Tryz.func400
  f217:=Zc Tryz.func355
  f224:=Zc Tryz.func357
  f225:=Zc Tryz.func356
  f227:=Zc Tryz.func361
  f228:=Zc Tryz.func399
  f231:=Zc Tryz.func359
  f232:=Zc Tryz.func360
  f233:=Zc Tryz.func362
  f234:=Zc Tryz.func363
  f235:=Zc Tryz.func364
  f236:=Zc Tryz.func365
  f260:=Zc Tryz.func417
  f266:=Zc Tryz.func397
  f271:=Zc Tryz.func402
  t0:=Tryz.underlying0
  a0:=Tryz.isAgg0
  z0:=Tryz.sizeOf0
  v0:=Tryz.zeroValue0
  t3:=Tryz.underlying3
  a3:=Tryz.isAgg3
  z3:=Tryz.sizeOf3
  v3:=Tryz.zeroValue3
  t4:=Tryz.underlying4
  a4:=Tryz.isAgg4
  z4:=Tryz.sizeOf4
  v4:=Tryz.zeroValue4
  t5:=Tryz.underlying5
  a5:=Tryz.isAgg5
  z5:=Tryz.sizeOf5
  v5:=Tryz.zeroValue5
  t9:=Tryz.underlying9
  a9:=Tryz.isAgg9
  z9:=Tryz.sizeOf9
  v9:=Tryz.zeroValue9
  t21:=Tryz.underlying21
  a21:=Tryz.isAgg21
  z21:=Tryz.sizeOf21
  v21:=Tryz.zeroValue21
  t46:=Tryz.underlying320
  a46:=Tryz.isAgg320
  z46:=Tryz.sizeOf320
  v46:=Tryz.zeroValue320
  t105:=Tryz.underlying449
  a105:=Tryz.isAgg449
  z105:=Tryz.sizeOf449
  v105:=Tryz.zeroValue449
  t116:=Tryz.underlying412
  a116:=Tryz.isAgg412
  z116:=Tryz.sizeOf412
  t117:=Tryz.underlying413
  a117:=Tryz.isAgg413
  z117:=Tryz.sizeOf413
  v117:=Tryz.zeroValue413
  t119:=Tryz.underlying474
  a119:=Tryz.isAgg474
  z119:=Tryz.sizeOf474
  t124:=Tryz.underlying416
  a124:=Tryz.isAgg416
  z124:=Tryz.sizeOf416
  v124:=Tryz.zeroValue416
  t138:=Tryz.underlying476
  a138:=Tryz.isAgg476
  z138:=Tryz.sizeOf476
  v138:=Tryz.zeroValue476
  t139:=Tryz.underlying477
  a139:=Tryz.isAgg477
  z139:=Tryz.sizeOf477
  v139:=Tryz.zeroValue477
  g3:=by kernel_rfl
  g4:=by kernel_rfl }
def Tryz.lays134_ren:Go.Shelf.Ren:=⟨fun|134=>324|129=>340|n=>n,fun|53=>345|3=>3|4=>4|46=>320|5=>5|9=>9|n=>n,fun|n=>n⟩
theorem Tryz.lays134:Go.Proofs.Lays.n134 Tryz.prog Tryz.lays134_ren:= {
  mixed:=by kernel_rfl
  f129:=Zc Tryz.func340
  f134:=Zc Tryz.func324
  t3:=Tryz.underlying3
  a3:=Tryz.isAgg3
  z3:=Tryz.sizeOf3
  v3:=Tryz.zeroValue3
  t4:=Tryz.underlying4
  a4:=Tryz.isAgg4
  z4:=Tryz.sizeOf4
  v4:=Tryz.zeroValue4
  t5:=Tryz.underlying5
  a5:=Tryz.isAgg5
  z5:=Tryz.sizeOf5
  v5:=Tryz.zeroValue5
  t9:=Tryz.underlying9
  a9:=Tryz.isAgg9
  z9:=Tryz.sizeOf9
  v9:=Tryz.zeroValue9
  t46:=Tryz.underlying320
  a46:=Tryz.isAgg320
  z46:=Tryz.sizeOf320
  v46:=Tryz.zeroValue320
  t53:=Tryz.underlying345
  a53:=Tryz.isAgg345
  z53:=Tryz.sizeOf345
  v53:=Tryz.zeroValue345 }
theorem Tryz.bits_LeadingZeros64 (x:Int) (w:World) (h0:0<=x) (h1:x<=18446744073709551615):
    Calls Tryz.prog 324 #[.int .u64 x] w fun e w'=>e= .returned (.int .i64 (64-(Lib.bitLen x.toNat:Int)))/\w'=w:=Any.bits_LeadingZeros64 Tryz.lays134 x w h0 h1
def Tryz.lays172_ren:Go.Shelf.Ren:=⟨fun|172=>258|244=>318|245=>319|247=>366|279=>367|280=>368|281=>369|282=>370|287=>403|316=>404|171=>220|205=>405|321=>420|322=>421|243=>282|246=>339|283=>379|284=>380|285=>381|286=>382|129=>340|317=>409|318=>410|319=>411|320=>412|337=>423|338=>424|n=>n,fun|9=>9|3=>3|75=>337|76=>338|4=>4|5=>5|167=>417|37=>351|0=>0|85=>418|2=>2|168=>420|53=>345|175=>452|46=>320|210=>456|127=>388|145=>472|143=>470|21=>21|171=>428|173=>430|212=>461|51=>394|20=>20|213=>462|232=>479|233=>480|80=>270|n=>n,fun|15=>3|16=>4|17=>5|18=>8|19=>9|n=>n⟩
theorem Tryz.lays172:Go.Proofs.Lays.n172 Tryz.prog Tryz.lays172_ren:= {
  mixed:=by kernel_rfl
  f129:=Zc Tryz.func340
  f171:=Zc Tryz.func220
  f172:=Zc Tryz.func258
  f205:=Zc Tryz.func405
  f243:=Zc Tryz.func282
  f244:=Zc Tryz.func318
  f245:=Zc Tryz.func319
  f246:=Zc Tryz.func339
  f247:=Zc Tryz.func366
  f279:=Zc Tryz.func367
  f280:=Zc Tryz.func368
  f281:=Zc Tryz.func369
  f282:=Zc Tryz.func370
  f283:=Zc Tryz.func379
  f284:=Zc Tryz.func380
  f285:=Zc Tryz.func381
  f286:=Zc Tryz.func382
  f287:=Zc Tryz.func403
  f316:=Zc Tryz.func404
  f317:=Zc Tryz.func409
  f318:=Zc Tryz.func410
  f319:=Zc Tryz.func411
  f320:=Zc Tryz.func412
  f321:=Zc Tryz.func420
  f322:=Zc Tryz.func421
  f337:=Zc Tryz.func423
  f338:=Zc Tryz.func424
  t0:=Tryz.underlying0
  a0:=Tryz.isAgg0
  z0:=Tryz.sizeOf0
  v0:=Tryz.zeroValue0
  t2:=Tryz.underlying2
  a2:=Tryz.isAgg2
  z2:=Tryz.sizeOf2
  v2:=Tryz.zeroValue2
  t3:=Tryz.underlying3
  a3:=Tryz.isAgg3
  z3:=Tryz.sizeOf3
  v3:=Tryz.zeroValue3
  t4:=Tryz.underlying4
  a4:=Tryz.isAgg4
  z4:=Tryz.sizeOf4
  v4:=Tryz.zeroValue4
  t5:=Tryz.underlying5
  a5:=Tryz.isAgg5
  z5:=Tryz.sizeOf5
  v5:=Tryz.zeroValue5
  t9:=Tryz.underlying9
  a9:=Tryz.isAgg9
  z9:=Tryz.sizeOf9
  v9:=Tryz.zeroValue9
  t20:=Tryz.underlying20
  a20:=Tryz.isAgg20
  z20:=Tryz.sizeOf20
  v20:=Tryz.zeroValue20
  t21:=Tryz.underlying21
  a21:=Tryz.isAgg21
  z21:=Tryz.sizeOf21
  v21:=Tryz.zeroValue21
  t37:=Tryz.underlying351
  a37:=Tryz.isAgg351
  z37:=Tryz.sizeOf351
  v37:=Tryz.zeroValue351
  t46:=Tryz.underlying320
  a46:=Tryz.isAgg320
  z46:=Tryz.sizeOf320
  v46:=Tryz.zeroValue320
  t51:=Tryz.underlying394
  a51:=Tryz.isAgg394
  z51:=Tryz.sizeOf394
  v51:=Tryz.zeroValue394
  t53:=Tryz.underlying345
  a53:=Tryz.isAgg345
  z53:=Tryz.sizeOf345
  v53:=Tryz.zeroValue345
  t75:=Tryz.underlying337
  a75:=Tryz.isAgg337
  z75:=Tryz.sizeOf337
  v75:=Tryz.zeroValue337
  t76:=Tryz.underlying338
  a76:=Tryz.isAgg338
  z76:=Tryz.sizeOf338
  v76:=Tryz.zeroValue338
  t85:=Tryz.underlying418
  a85:=Tryz.isAgg418
  z85:=Tryz.sizeOf418
  v85:=Tryz.zeroValue418
  t127:=Tryz.underlying388
  a127:=Tryz.isAgg388
  z127:=Tryz.sizeOf388
  v127:=Tryz.zeroValue388
  t143:=Tryz.underlying470
  a143:=Tryz.isAgg470
  z143:=Tryz.sizeOf470
  v143:=Tryz.zeroValue470
  t145:=Tryz.underlying472
  a145:=Tryz.isAgg472
  z145:=Tryz.sizeOf472
  v145:=Tryz.zeroValue472
  t167:=Tryz.underlying417
  a167:=Tryz.isAgg417
  z167:=Tryz.sizeOf417
  v167:=Tryz.zeroValue417
  t168:=Tryz.underlying420
  a168:=Tryz.isAgg420
  z168:=Tryz.sizeOf420
  v168:=Tryz.zeroValue420
  t171:=Tryz.underlying428
  a171:=Tryz.isAgg428
  z171:=Tryz.sizeOf428
  v171:=Tryz.zeroValue428
  t173:=Tryz.underlying430
  a173:=Tryz.isAgg430
  z173:=Tryz.sizeOf430
  v173:=Tryz.zeroValue430
  t175:=Tryz.underlying452
  a175:=Tryz.isAgg452
  z175:=Tryz.sizeOf452
  v175:=Tryz.zeroValue452
  t210:=Tryz.underlying456
  a210:=Tryz.isAgg456
  z210:=Tryz.sizeOf456
  v210:=Tryz.zeroValue456
  t212:=Tryz.underlying461
  a212:=Tryz.isAgg461
  z212:=Tryz.sizeOf461
  v212:=Tryz.zeroValue461
  t213:=Tryz.underlying462
  a213:=Tryz.isAgg462
  z213:=Tryz.sizeOf462
  t232:=Tryz.underlying479
  a232:=Tryz.isAgg479
  z232:=Tryz.sizeOf479
  v232:=Tryz.zeroValue479
  t233:=Tryz.underlying480
  a233:=Tryz.isAgg480
  z233:=Tryz.sizeOf480
  v233:=Tryz.zeroValue480
  g15:=by kernel_rfl
  g16:=by kernel_rfl
  g17:=by kernel_rfl
  g18:=by kernel_rfl
  g19:=by kernel_rfl }
open Go.RowKit in
theorem Tryz.strconv_Atoi (s:ByteArray) (n:Int) (hl:s.size<=18) (h:Lib.atoi s.data.toList=some n) (w:World):
    Calls Tryz.prog 258 #[.string s] w fun e w'=>e= .returned (.tuple #[.int .i64 n,.nilIface])/\∃t,w'=Lib.bytesWorld w 5 t:=Any.strconv_Atoi Tryz.lays172 s n hl h w
def Tryz.lays129_ren:Go.Shelf.Ren:=⟨fun|129=>340|n=>n,fun|53=>345|3=>3|4=>4|46=>320|5=>5|9=>9|n=>n,fun|n=>n⟩
theorem Tryz.lays129:Go.Proofs.Lays.n129 Tryz.prog Tryz.lays129_ren:= {
  mixed:=by kernel_rfl
  f129:=Zc Tryz.func340
  t3:=Tryz.underlying3
  a3:=Tryz.isAgg3
  z3:=Tryz.sizeOf3
  v3:=Tryz.zeroValue3
  t4:=Tryz.underlying4
  a4:=Tryz.isAgg4
  z4:=Tryz.sizeOf4
  v4:=Tryz.zeroValue4
  t5:=Tryz.underlying5
  a5:=Tryz.isAgg5
  z5:=Tryz.sizeOf5
  v5:=Tryz.zeroValue5
  t9:=Tryz.underlying9
  a9:=Tryz.isAgg9
  z9:=Tryz.sizeOf9
  v9:=Tryz.zeroValue9
  t46:=Tryz.underlying320
  a46:=Tryz.isAgg320
  z46:=Tryz.sizeOf320
  v46:=Tryz.zeroValue320
  t53:=Tryz.underlying345
  a53:=Tryz.isAgg345
  z53:=Tryz.sizeOf345
  v53:=Tryz.zeroValue345 }
theorem Tryz.bits_Len64 (x:Int) (w:World) (h0:0<=x) (h1:x<=18446744073709551615):
    Calls Tryz.prog 340 #[.int .u64 x] w fun e w'=>e= .returned (.int .i64 (Lib.bitLen x.toNat))/\w'=w:=Any.bits_Len64 Tryz.lays129 x w h0 h1
def Tryz.lays283_ren:Go.Shelf.Ren:=⟨fun|283=>379|n=>n,fun|3=>3|9=>9|4=>4|n=>n,fun|n=>n⟩
theorem Tryz.lays283:Go.Proofs.Lays.n283 Tryz.prog Tryz.lays283_ren:= {
  mixed:=by kernel_rfl
  f283:=Zc Tryz.func379
  t3:=Tryz.underlying3
  a3:=Tryz.isAgg3
  z3:=Tryz.sizeOf3
  v3:=Tryz.zeroValue3
  t4:=Tryz.underlying4
  a4:=Tryz.isAgg4
  z4:=Tryz.sizeOf4
  v4:=Tryz.zeroValue4
  t9:=Tryz.underlying9
  a9:=Tryz.isAgg9
  z9:=Tryz.sizeOf9
  v9:=Tryz.zeroValue9 }
open Go.Lib in
theorem Tryz.internal_strconv_small (i:Nat) (h:i<100) (w:World):
    Calls Tryz.prog 379 #[.int .i64 i] w fun e w'=>e= .returned (.string ⟨(Lib.decDigits i).toArray⟩)/\w'=w:=Any.internal_strconv_small Tryz.lays283 i h w
def Tryz.laysM284_ren:Go.Shelf.Ren:=⟨fun|284=>380|129=>340|317=>409|318=>410|n=>n,fun|53=>345|3=>3|212=>461|0=>0|4=>4|46=>320|5=>5|9=>9|n=>n,fun|17=>5|n=>n⟩
theorem Tryz.laysM284:Go.Proofs.LaysM.n284 Tryz.prog Tryz.laysM284_ren:= {
  mixed:=by kernel_rfl
  f129:=Zc Tryz.func340
  f284:=Zc Tryz.func380
  f317:=Zc Tryz.func409
  f318:=Zc Tryz.func410
  t0:=Tryz.underlying0
  a0:=Tryz.isAgg0
  z0:=Tryz.sizeOf0
  v0:=Tryz.zeroValue0
  t3:=Tryz.underlying3
  a3:=Tryz.isAgg3
  z3:=Tryz.sizeOf3
  v3:=Tryz.zeroValue3
  t4:=Tryz.underlying4
  a4:=Tryz.isAgg4
  z4:=Tryz.sizeOf4
  v4:=Tryz.zeroValue4
  t5:=Tryz.underlying5
  a5:=Tryz.isAgg5
  z5:=Tryz.sizeOf5
  v5:=Tryz.zeroValue5
  t9:=Tryz.underlying9
  a9:=Tryz.isAgg9
  z9:=Tryz.sizeOf9
  v9:=Tryz.zeroValue9
  t46:=Tryz.underlying320
  a46:=Tryz.isAgg320
  z46:=Tryz.sizeOf320
  v46:=Tryz.zeroValue320
  t53:=Tryz.underlying345
  a53:=Tryz.isAgg345
  z53:=Tryz.sizeOf345
  v53:=Tryz.zeroValue345
  t212:=Tryz.underlying461
  a212:=Tryz.isAgg461
  z212:=Tryz.sizeOf461
  v212:=Tryz.zeroValue461
  g17:=by kernel_rfl
  i0:=by kernel_rfl
  i3:=by kernel_rfl
  i4:=by kernel_rfl
  i5:=by kernel_rfl
  i9:=by kernel_rfl
  i46:=by kernel_rfl
  i53:=by kernel_rfl
  i212:=by kernel_rfl
  m17:=by kernel_rfl }
open Go.Lib in
theorem Tryz.internal_strconv_numDigits (u:Nat) (h1:1<=u) (h2:u<18446744073709551616) (w:World) (htab:Lib.TabIs Tryz.prog w "internal/strconv.uint64pow10" .u64 Lib.pow10Tab):
    Calls Tryz.prog 380 #[.int .u64 u] w fun e w'=>e= .returned (.int .i64 (Lib.nDigits u))/\w'=w:=Any.internal_strconv_numDigits Tryz.laysM284 u h1 h2 w htab
def Tryz.lays285_ren:Go.Shelf.Ren:=⟨fun|285=>381|n=>n,fun|37=>351|53=>345|3=>3|4=>4|51=>394|9=>9|5=>5|0=>0|n=>n,fun|n=>n⟩
theorem Tryz.lays285:Go.Proofs.Lays.n285 Tryz.prog Tryz.lays285_ren:= {
  mixed:=by kernel_rfl
  f285:=Zc Tryz.func381
  t0:=Tryz.underlying0
  a0:=Tryz.isAgg0
  z0:=Tryz.sizeOf0
  v0:=Tryz.zeroValue0
  t3:=Tryz.underlying3
  a3:=Tryz.isAgg3
  z3:=Tryz.sizeOf3
  v3:=Tryz.zeroValue3
  t4:=Tryz.underlying4
  a4:=Tryz.isAgg4
  z4:=Tryz.sizeOf4
  v4:=Tryz.zeroValue4
  t5:=Tryz.underlying5
  a5:=Tryz.isAgg5
  z5:=Tryz.sizeOf5
  v5:=Tryz.zeroValue5
  t9:=Tryz.underlying9
  a9:=Tryz.isAgg9
  z9:=Tryz.sizeOf9
  v9:=Tryz.zeroValue9
  t37:=Tryz.underlying351
  a37:=Tryz.isAgg351
  z37:=Tryz.sizeOf351
  v37:=Tryz.zeroValue351
  t51:=Tryz.underlying394
  a51:=Tryz.isAgg394
  z51:=Tryz.sizeOf394
  v51:=Tryz.zeroValue394
  t53:=Tryz.underlying345
  a53:=Tryz.isAgg345
  z53:=Tryz.sizeOf345
  v53:=Tryz.zeroValue345 }
open Go.RowKit Go.Sort Go.Lib in
theorem Tryz.internal_strconv_formatBase10 (blk off cap:Nat) (u:Nat) (d:Array UInt8) (w:World) (hH:Holds (fun (b:UInt8)=>Value.int .u8 (b.toNat:Int)) w blk off d) (hu:u<10^d.size) (hu64:u<18446744073709551616) (hsz:d.size<4611686018427387904):
    Calls Tryz.prog 381 #[.slice (some ⟨blk,off,none⟩) d.size cap,.int .u64 u] w fun e w'=>
      e= .returned (.tuple #[])/\∃ (n v':Nat) (dk:Array UInt8),w'=(putRow (fun (b:UInt8)=>Value.int .u8 (b.toNat:Int)) w blk off dk).drewN n/\FmtInv d.size u 0 v' dk:=Any.internal_strconv_formatBase10 Tryz.lays285 blk off cap u d w hH hu hu64 hsz
def Tryz.laysM171_ren:Go.Shelf.Ren:=⟨fun|171=>220|243=>282|246=>339|283=>379|284=>380|285=>381|286=>382|129=>340|317=>409|318=>410|319=>411|320=>412|337=>423|338=>424|n=>n,fun|3=>3|9=>9|2=>2|4=>4|171=>428|0=>0|53=>345|37=>351|5=>5|173=>430|212=>461|51=>394|20=>20|213=>462|46=>320|232=>479|233=>480|n=>n,fun|17=>5|18=>8|19=>9|n=>n⟩
theorem Tryz.laysM171:Go.Proofs.LaysM.n171 Tryz.prog Tryz.laysM171_ren:= {
  mixed:=by kernel_rfl
  f129:=Zc Tryz.func340
  f171:=Zc Tryz.func220
  f243:=Zc Tryz.func282
  f246:=Zc Tryz.func339
  f283:=Zc Tryz.func379
  f284:=Zc Tryz.func380
  f285:=Zc Tryz.func381
  f286:=Zc Tryz.func382
  f317:=Zc Tryz.func409
  f318:=Zc Tryz.func410
  f319:=Zc Tryz.func411
  f320:=Zc Tryz.func412
  f337:=Zc Tryz.func423
  f338:=Zc Tryz.func424
  t0:=Tryz.underlying0
  a0:=Tryz.isAgg0
  z0:=Tryz.sizeOf0
  v0:=Tryz.zeroValue0
  t2:=Tryz.underlying2
  a2:=Tryz.isAgg2
  z2:=Tryz.sizeOf2
  v2:=Tryz.zeroValue2
  t3:=Tryz.underlying3
  a3:=Tryz.isAgg3
  z3:=Tryz.sizeOf3
  v3:=Tryz.zeroValue3
  t4:=Tryz.underlying4
  a4:=Tryz.isAgg4
  z4:=Tryz.sizeOf4
  v4:=Tryz.zeroValue4
  t5:=Tryz.underlying5
  a5:=Tryz.isAgg5
  z5:=Tryz.sizeOf5
  v5:=Tryz.zeroValue5
  t9:=Tryz.underlying9
  a9:=Tryz.isAgg9
  z9:=Tryz.sizeOf9
  v9:=Tryz.zeroValue9
  t20:=Tryz.underlying20
  a20:=Tryz.isAgg20
  z20:=Tryz.sizeOf20
  v20:=Tryz.zeroValue20
  t37:=Tryz.underlying351
  a37:=Tryz.isAgg351
  z37:=Tryz.sizeOf351
  v37:=Tryz.zeroValue351
  t46:=Tryz.underlying320
  a46:=Tryz.isAgg320
  z46:=Tryz.sizeOf320
  v46:=Tryz.zeroValue320
  t51:=Tryz.underlying394
  a51:=Tryz.isAgg394
  z51:=Tryz.sizeOf394
  v51:=Tryz.zeroValue394
  t53:=Tryz.underlying345
  a53:=Tryz.isAgg345
  z53:=Tryz.sizeOf345
  v53:=Tryz.zeroValue345
  t171:=Tryz.underlying428
  a171:=Tryz.isAgg428
  z171:=Tryz.sizeOf428
  v171:=Tryz.zeroValue428
  t173:=Tryz.underlying430
  a173:=Tryz.isAgg430
  z173:=Tryz.sizeOf430
  v173:=Tryz.zeroValue430
  t212:=Tryz.underlying461
  a212:=Tryz.isAgg461
  z212:=Tryz.sizeOf461
  v212:=Tryz.zeroValue461
  t213:=Tryz.underlying462
  a213:=Tryz.isAgg462
  z213:=Tryz.sizeOf462
  t232:=Tryz.underlying479
  a232:=Tryz.isAgg479
  z232:=Tryz.sizeOf479
  v232:=Tryz.zeroValue479
  t233:=Tryz.underlying480
  a233:=Tryz.isAgg480
  z233:=Tryz.sizeOf480
  v233:=Tryz.zeroValue480
  g17:=by kernel_rfl
  g18:=by kernel_rfl
  g19:=by kernel_rfl
  i0:=by kernel_rfl
  i2:=by kernel_rfl
  i3:=by kernel_rfl
  i4:=by kernel_rfl
  i5:=by kernel_rfl
  i9:=by kernel_rfl
  i20:=by kernel_rfl
  i37:=by kernel_rfl
  i46:=by kernel_rfl
  i51:=by kernel_rfl
  i53:=by kernel_rfl
  i171:=by kernel_rfl
  i173:=by kernel_rfl
  i212:=by kernel_rfl
  i232:=by kernel_rfl
  i233:=by kernel_rfl
  m17:=by kernel_rfl
  m18:=by kernel_rfl
  m19:=by kernel_rfl }
open Go.RowKit Go.Sort Go.Lib in
theorem Tryz.strconv_Itoa (n:Int) (h0: -9223372036854775808<=n) (h1:n<=9223372036854775807) (w:World) (htab:Lib.TabIs Tryz.prog w "internal/strconv.uint64pow10" .u64 Lib.pow10Tab):
    Calls Tryz.prog 220 #[.int .i64 n] w fun e w'=>e= .returned (.string ⟨(Lib.itoa n).toArray⟩)/\∃k os,w'=grow (w.drewN k) os:=Any.strconv_Itoa Tryz.laysM171 n h0 h1 w htab
def Tryz.lays145_ren:Go.Shelf.Ren:=⟨fun|145=>187|220=>252|219=>314|217=>355|225=>356|224=>357|267=>358|266=>397|314=>398|n=>n,fun|9=>9|4=>4|59=>254|3=>3|5=>5|46=>320|146=>395|51=>394|n=>n,fun|1=>0|n=>n⟩
theorem Tryz.lays145:Go.Proofs.Lays.n145 Tryz.prog Tryz.lays145_ren:= {
  mixed:=by kernel_rfl
  f145:=Zc Tryz.func187
  f217:=Zc Tryz.func355
  f219:=Zc Tryz.func314
  f220:=Zc Tryz.func252
  f224:=Zc Tryz.func357
  f225:=Zc Tryz.func356
  f266:=Zc Tryz.func397
  f267:=Zc Tryz.func358
  f314:=Zc Tryz.func398
  t3:=Tryz.underlying3
  a3:=Tryz.isAgg3
  z3:=Tryz.sizeOf3
  v3:=Tryz.zeroValue3
  t4:=Tryz.underlying4
  a4:=Tryz.isAgg4
  z4:=Tryz.sizeOf4
  v4:=Tryz.zeroValue4
  t5:=Tryz.underlying5
  a5:=Tryz.isAgg5
  z5:=Tryz.sizeOf5
  v5:=Tryz.zeroValue5
  t9:=Tryz.underlying9
  a9:=Tryz.isAgg9
  z9:=Tryz.sizeOf9
  v9:=Tryz.zeroValue9
  t46:=Tryz.underlying320
  a46:=Tryz.isAgg320
  z46:=Tryz.sizeOf320
  v46:=Tryz.zeroValue320
  t51:=Tryz.underlying394
  a51:=Tryz.isAgg394
  z51:=Tryz.sizeOf394
  v51:=Tryz.zeroValue394
  t59:=Tryz.underlying254
  a59:=Tryz.isAgg254
  z59:=Tryz.sizeOf254
  v59:=Tryz.zeroValue254
  t146:=Tryz.underlying395
  a146:=Tryz.isAgg395
  z146:=Tryz.sizeOf395
  v146:=Tryz.zeroValue395
  g1:=by kernel_rfl }
open Go.RowKit Go.Lib in
theorem Tryz.strings_Cut (s sep:ByteArray) (m:Int) (w:World) (hs:s.size<4294967281) (hm:w.cell? ⟨0,0,none⟩=some (.int .i64 m)):
    Calls Tryz.prog 187 #[.string s,.string sep] w fun e w'=>e= .returned (.tuple #[.string ⟨(Lib.cut s.data.toList sep.data.toList).1.toArray⟩,.string ⟨(Lib.cut s.data.toList sep.data.toList).2.1.toArray⟩,.bool (Lib.cut s.data.toList sep.data.toList).2.2])/\∃n,w'=w.drewN n:=Any.strings_Cut Tryz.lays145 s sep m w hs hm
def Tryz.laysM145_ren:Go.Shelf.Ren:=⟨fun|145=>187|220=>252|219=>314|217=>355|225=>356|224=>357|267=>358|266=>397|314=>398|n=>n,fun|9=>9|4=>4|59=>254|3=>3|5=>5|46=>320|146=>395|51=>394|n=>n,fun|1=>0|n=>n⟩
theorem Tryz.laysM145:Go.Proofs.LaysM.n145 Tryz.prog Tryz.laysM145_ren:= {
  mixed:=by kernel_rfl
  f145:=Zc Tryz.func187
  f217:=Zc Tryz.func355
  f219:=Zc Tryz.func314
  f220:=Zc Tryz.func252
  f224:=Zc Tryz.func357
  f225:=Zc Tryz.func356
  f266:=Zc Tryz.func397
  f267:=Zc Tryz.func358
  f314:=Zc Tryz.func398
  t3:=Tryz.underlying3
  a3:=Tryz.isAgg3
  z3:=Tryz.sizeOf3
  v3:=Tryz.zeroValue3
  t4:=Tryz.underlying4
  a4:=Tryz.isAgg4
  z4:=Tryz.sizeOf4
  v4:=Tryz.zeroValue4
  t5:=Tryz.underlying5
  a5:=Tryz.isAgg5
  z5:=Tryz.sizeOf5
  v5:=Tryz.zeroValue5
  t9:=Tryz.underlying9
  a9:=Tryz.isAgg9
  z9:=Tryz.sizeOf9
  v9:=Tryz.zeroValue9
  t46:=Tryz.underlying320
  a46:=Tryz.isAgg320
  z46:=Tryz.sizeOf320
  v46:=Tryz.zeroValue320
  t51:=Tryz.underlying394
  a51:=Tryz.isAgg394
  z51:=Tryz.sizeOf394
  v51:=Tryz.zeroValue394
  t59:=Tryz.underlying254
  a59:=Tryz.isAgg254
  z59:=Tryz.sizeOf254
  v59:=Tryz.zeroValue254
  t146:=Tryz.underlying395
  a146:=Tryz.isAgg395
  z146:=Tryz.sizeOf395
  v146:=Tryz.zeroValue395
  g1:=by kernel_rfl
  i3:=by kernel_rfl
  i4:=by kernel_rfl
  i5:=by kernel_rfl
  i9:=by kernel_rfl
  i46:=by kernel_rfl
  i51:=by kernel_rfl
  i59:=by kernel_rfl
  i146:=by kernel_rfl
  m1:=by kernel_rfl
  s1_3:=fun w h=>Go.Proofs.cell_of_shapedOpen_int (zero:= #[.int .i64 0]) (t:=3) h (of_decide_eq_true (by kernel_rfl)) (by kernel_rfl) rfl (by kernel_rfl) (by kernel_rfl) Tryz.underlying3 }
def Tryz.lays99_ren:Go.Shelf.Ren:=⟨fun|99=>257|206=>315|n=>n,fun|9=>9|4=>4|3=>3|n=>n,fun|n=>n⟩
theorem Tryz.lays99:Go.Proofs.Lays.n99 Tryz.prog Tryz.lays99_ren:= {
  mixed:=by kernel_rfl
  f99:=Zc Tryz.func257
  f206:=Zc Tryz.func315
  t3:=Tryz.underlying3
  a3:=Tryz.isAgg3
  z3:=Tryz.sizeOf3
  v3:=Tryz.zeroValue3
  t4:=Tryz.underlying4
  a4:=Tryz.isAgg4
  z4:=Tryz.sizeOf4
  v4:=Tryz.zeroValue4
  t9:=Tryz.underlying9
  a9:=Tryz.isAgg9
  z9:=Tryz.sizeOf9
  v9:=Tryz.zeroValue9 }
open Go.RowKit Go.Lib in
theorem Tryz.strings_HasPrefix (s p:ByteArray) (w:World):
    Calls Tryz.prog 257 #[.string s,.string p] w fun e w'=>e= .returned (.bool (Lib.hasPrefix s.data.toList p.data.toList))/\w'=w:=Any.strings_HasPrefix Tryz.lays99 s p w
def Tryz.lays101_ren:Go.Shelf.Ren:=⟨fun|101=>188|208=>253|206=>315|n=>n,fun|9=>9|4=>4|3=>3|n=>n,fun|n=>n⟩
theorem Tryz.lays101:Go.Proofs.Lays.n101 Tryz.prog Tryz.lays101_ren:= {
  mixed:=by kernel_rfl
  f101:=Zc Tryz.func188
  f206:=Zc Tryz.func315
  f208:=Zc Tryz.func253
  t3:=Tryz.underlying3
  a3:=Tryz.isAgg3
  z3:=Tryz.sizeOf3
  v3:=Tryz.zeroValue3
  t4:=Tryz.underlying4
  a4:=Tryz.isAgg4
  z4:=Tryz.sizeOf4
  v4:=Tryz.zeroValue4
  t9:=Tryz.underlying9
  a9:=Tryz.isAgg9
  z9:=Tryz.sizeOf9
  v9:=Tryz.zeroValue9 }
open Go.RowKit Go.Lib in
theorem Tryz.strings_TrimPrefix (s p:ByteArray) (w:World):
    Calls Tryz.prog 188 #[.string s,.string p] w fun e w'=>e= .returned (.string ⟨(Lib.trimPrefix s.data.toList p.data.toList).toArray⟩)/\w'=w:=Any.strings_TrimPrefix Tryz.lays101 s p w
def Tryz.lays264_ren:Go.Shelf.Ren:=⟨fun|264=>297|n=>n,fun|53=>345|46=>320|n=>n,fun|n=>n⟩
theorem Tryz.lays264:Go.Proofs.Lays.n264 Tryz.prog Tryz.lays264_ren:= {
  mixed:=by kernel_rfl
  f264:=Zc Tryz.func297
  t46:=Tryz.underlying320
  a46:=Tryz.isAgg320
  z46:=Tryz.sizeOf320
  v46:=Tryz.zeroValue320
  t53:=Tryz.underlying345
  a53:=Tryz.isAgg345
  z53:=Tryz.sizeOf345
  v53:=Tryz.zeroValue345 }
open Go.RowKit Go.Lib in
theorem Tryz.bits_Mul64 (x y:Nat) (hx:x<18446744073709551616) (hy:y<18446744073709551616) (w:World):
    Calls Tryz.prog 297 #[.int .u64 x,.int .u64 y] w fun e w'=>e= .returned (.tuple #[.int .u64 ((x* y / 18446744073709551616:Nat):Int),.int .u64 ((x* y % 18446744073709551616:Nat):Int)])/\w'=w:=Any.bits_Mul64 Tryz.lays264 x y hx hy w
def Tryz.lays105_ren:Go.Shelf.Ren:=⟨fun|105=>269|212=>278|99=>257|165=>328|166=>270|170=>329|169=>271|263=>336|264=>297|206=>315|240=>330|241=>383|276=>384|277=>413|n=>n,fun|9=>9|3=>3|4=>4|20=>20|0=>0|46=>320|109=>361|5=>5|72=>353|76=>338|51=>394|146=>395|53=>345|148=>367|70=>350|37=>351|75=>337|127=>388|164=>432|80=>270|n=>n,fun|n=>n⟩
theorem Tryz.lays105:Go.Proofs.Lays.n105 Tryz.prog Tryz.lays105_ren:= {
  mixed:=by kernel_rfl
  f99:=Zc Tryz.func257
  f105:=Zc Tryz.func269
  f165:=Zc Tryz.func328
  f166:=Zc Tryz.func270
  f169:=Zc Tryz.func271
  f170:=Zc Tryz.func329
  f206:=Zc Tryz.func315
  f212:=Zc Tryz.func278
  f240:=Zc Tryz.func330
  f241:=Zc Tryz.func383
  f263:=Zc Tryz.func336
  f264:=Zc Tryz.func297
  f276:=Zc Tryz.func384
  f277:=Zc Tryz.func413
  t0:=Tryz.underlying0
  a0:=Tryz.isAgg0
  z0:=Tryz.sizeOf0
  v0:=Tryz.zeroValue0
  t3:=Tryz.underlying3
  a3:=Tryz.isAgg3
  z3:=Tryz.sizeOf3
  v3:=Tryz.zeroValue3
  t4:=Tryz.underlying4
  a4:=Tryz.isAgg4
  z4:=Tryz.sizeOf4
  v4:=Tryz.zeroValue4
  t5:=Tryz.underlying5
  a5:=Tryz.isAgg5
  z5:=Tryz.sizeOf5
  v5:=Tryz.zeroValue5
  t9:=Tryz.underlying9
  a9:=Tryz.isAgg9
  z9:=Tryz.sizeOf9
  v9:=Tryz.zeroValue9
  t20:=Tryz.underlying20
  a20:=Tryz.isAgg20
  z20:=Tryz.sizeOf20
  v20:=Tryz.zeroValue20
  t37:=Tryz.underlying351
  a37:=Tryz.isAgg351
  z37:=Tryz.sizeOf351
  v37:=Tryz.zeroValue351
  t46:=Tryz.underlying320
  a46:=Tryz.isAgg320
  z46:=Tryz.sizeOf320
  v46:=Tryz.zeroValue320
  t51:=Tryz.underlying394
  a51:=Tryz.isAgg394
  z51:=Tryz.sizeOf394
  v51:=Tryz.zeroValue394
  t53:=Tryz.underlying345
  a53:=Tryz.isAgg345
  z53:=Tryz.sizeOf345
  v53:=Tryz.zeroValue345
  t70:=Tryz.underlying350
  a70:=Tryz.isAgg350
  z70:=Tryz.sizeOf350
  v70:=Tryz.zeroValue350
  t72:=Tryz.underlying353
  a72:=Tryz.isAgg353
  z72:=Tryz.sizeOf353
  v72:=Tryz.zeroValue353
  t75:=Tryz.underlying337
  a75:=Tryz.isAgg337
  z75:=Tryz.sizeOf337
  v75:=Tryz.zeroValue337
  t76:=Tryz.underlying338
  a76:=Tryz.isAgg338
  z76:=Tryz.sizeOf338
  v76:=Tryz.zeroValue338
  t109:=Tryz.underlying361
  a109:=Tryz.isAgg361
  z109:=Tryz.sizeOf361
  v109:=Tryz.zeroValue361
  t127:=Tryz.underlying388
  a127:=Tryz.isAgg388
  z127:=Tryz.sizeOf388
  v127:=Tryz.zeroValue388
  t146:=Tryz.underlying395
  a146:=Tryz.isAgg395
  z146:=Tryz.sizeOf395
  v146:=Tryz.zeroValue395
  t148:=Tryz.underlying367
  a148:=Tryz.isAgg367
  z148:=Tryz.sizeOf367
  v148:=Tryz.zeroValue367
  t164:=Tryz.underlying432
  a164:=Tryz.isAgg432
  z164:=Tryz.sizeOf432
  v164:=Tryz.zeroValue432 }
theorem Tryz.Builder_Extra_105:Builder.Extra Tryz.prog Tryz.lays105_ren:= {
  sizeBuilder:=by kernel_rfl
  liesBuilder:=by kernel_rfl
  t5:=Tryz.underlying5
  a5:=Tryz.isAgg5
  z5:=Tryz.sizeOf5
  v5:=Tryz.zeroValue5
  infoByte:=by kernel_rfl
  cellsByte:=by kernel_rfl
  sizeByte:=by kernel_rfl
  neB5:=by decide }
open Go.RowKit Go.Lib in
theorem Tryz.strings_Repeat (s:ByteArray) (c:Nat) (w:World) (hc:c<=9223372036854775807) (hlen:s.size* c<=140737488355328):
    Calls Tryz.prog 269 #[.string s,.int .i64 c] w fun e w'=>e= .returned (.string ⟨(Lib.repeatL s.data.toList c).toArray⟩)/\Below w.heap.size w w':=Any.strings_Repeat Tryz.lays105 Tryz.Builder_Extra_105 s c w hc hlen
def Tryz.lays166_ren:Go.Shelf.Ren:=⟨fun|166=>270|240=>330|276=>384|n=>n,fun|70=>350|72=>353|37=>351|127=>388|75=>337|164=>432|80=>270|n=>n,fun|n=>n⟩
theorem Tryz.lays166:Go.Proofs.Lays.n166 Tryz.prog Tryz.lays166_ren:= {
  mixed:=by kernel_rfl
  f166:=Zc Tryz.func270
  f240:=Zc Tryz.func330
  f276:=Zc Tryz.func384
  t0:=Tryz.underlying0
  a0:=Tryz.isAgg0
  z0:=Tryz.sizeOf0
  v0:=Tryz.zeroValue0
  t3:=Tryz.underlying3
  a3:=Tryz.isAgg3
  z3:=Tryz.sizeOf3
  v3:=Tryz.zeroValue3
  t4:=Tryz.underlying4
  a4:=Tryz.isAgg4
  z4:=Tryz.sizeOf4
  v4:=Tryz.zeroValue4
  t9:=Tryz.underlying9
  a9:=Tryz.isAgg9
  z9:=Tryz.sizeOf9
  v9:=Tryz.zeroValue9
  t20:=Tryz.underlying20
  a20:=Tryz.isAgg20
  z20:=Tryz.sizeOf20
  v20:=Tryz.zeroValue20
  t37:=Tryz.underlying351
  a37:=Tryz.isAgg351
  z37:=Tryz.sizeOf351
  v37:=Tryz.zeroValue351
  t70:=Tryz.underlying350
  a70:=Tryz.isAgg350
  z70:=Tryz.sizeOf350
  v70:=Tryz.zeroValue350
  t72:=Tryz.underlying353
  a72:=Tryz.isAgg353
  z72:=Tryz.sizeOf353
  v72:=Tryz.zeroValue353
  t75:=Tryz.underlying337
  a75:=Tryz.isAgg337
  z75:=Tryz.sizeOf337
  v75:=Tryz.zeroValue337
  t164:=Tryz.underlying432
  a164:=Tryz.isAgg432
  z164:=Tryz.sizeOf432
  v164:=Tryz.zeroValue432 }
theorem Tryz.Builder_Extra_166:Builder.Extra Tryz.prog Tryz.lays166_ren:= {
  sizeBuilder:=by kernel_rfl
  liesBuilder:=by kernel_rfl
  t5:=Tryz.underlying5
  a5:=Tryz.isAgg5
  z5:=Tryz.sizeOf5
  v5:=Tryz.zeroValue5
  infoByte:=by kernel_rfl
  cellsByte:=by kernel_rfl
  sizeByte:=by kernel_rfl
  neB5:=by decide }
open Go.RowKit in
theorem Tryz.Builder_WriteString (B b:Nat) (bs:List Value) (s:ByteArray) (w:World) (h:Lib.IsBuilder 353 5 B b bs w) (hlen:bs.length+s.size<=140737488355328) (hBw:B<=w.heap.size):
    Calls Tryz.prog 270 #[.pointer (some ⟨b,0,none⟩),.string s] w fun e w'=>e= .returned (.tuple #[.int .i64 s.size,.nilIface])/\(Lib.BuilderAt 353 5 B b (.pointer (some ⟨b,0,none⟩)) (bs++Lib.strCells s) w'/\Below B w w'):=Any.Builder_WriteString Tryz.lays166 Tryz.Builder_Extra_166 B b bs s w h hlen hBw
end Go.Proofs
namespace Go.Proofs.YtijajkfmlghgkaaGreatDoor.Nu
open Go Go.Proofs Go.RowKit Go.Proofs.YtijajkfmlghgkaaGreatDoor
theorem Zg9 {x y:Nat} (hx:x<2^64) (hy:y<2^64):x* y<=(2^64-1) * (2^64-1):=Nat.mul_le_mul (by omega) (by omega)
theorem Zkn (x y o c:Nat) (hx:x<2^64) (hy:y<2^64) (ho:o<2^64) (hc:c<2^64): ∃hi lo l1 c1 h1 l2 c2 h2:Nat,
    (∀w:World,Calls Tryz.prog 297 #[.int .u64 x,.int .u64 y] w fun e w'=>e= .returned (.tuple #[.int .u64 (hi:Int),.int .u64 (lo:Int)])/\w'=w)/\
    (∀w:World,(callFunc 342 #[.int .u64 (lo:Int),.int .u64 (o:Int),.int .u64 0]).run Tryz.prog w= .ok (.value (.tuple #[.int .u64 (l1:Int),.int .u64 (c1:Int)])) w)/\
    IntKind.u64.wrap ((hi:Int)+(c1:Int))=(h1:Int)/\
    (∀w:World,(callFunc 342 #[.int .u64 (l1:Int),.int .u64 (c:Int),.int .u64 0]).run Tryz.prog w= .ok (.value (.tuple #[.int .u64 (l2:Int),.int .u64 (c2:Int)])) w)/\
    IntKind.u64.wrap ((h1:Int)+(c2:Int))=(h2:Int)/\l2=(o+x* y+c) % 2^64/\h2=(o+x* y+c) / 2^64:=by
 have hp:=Zg9 hx hy;have hM:=fun w=>Tryz.bits_Mul64 x y hx hy w;generalize x* y=p at *;have hp2:p<=340282366920938463426481119284349108225:=hp;clear hp;refine ⟨_,_,_,_,p / 18446744073709551616+(p % 18446744073709551616+o) / 18446744073709551616,_,_,(o+p+c) / 18446744073709551616,fun w=>hM w,fun w=>Zf6 _ _ 0 (by omega) w,?_,fun w=>Zf6 _ _ 0 (by omega) w,?_,?_,rfl⟩
 ·rw [IntWalk.u64_in _ (by omega)];omega
 ·rw [IntWalk.u64_in _ (by omega)];omega
 ·omega
theorem Zo0 (w:World) (a1 a2:Option Addr) (n1 n2 c1 c2:Nat) (lx ly:List Nat) (m1 m2:Nat) (h1:WlR w (.slice a1 n1 c1) lx m1) (h2:WlR w (.slice a2 n2 c2) ly m2) (hb1:lx.length<=10000000) (hb2:ly.length<=10000000):
    Calls Tryz.prog 300 #[.slice a1 n1 c1,.slice a2 n2 c2] w (RetW w (m1* m2)):=by
 obtain ⟨⟨a1',c1',e,hl1,hl1',hA1⟩,hd1,ht1,hv1⟩:=h1;injection e with e1 e2 e3
 subst e1 e2 e3;obtain ⟨⟨a2',c2',e,hl2,hl2',hA2⟩,hd2,ht2,hv2⟩:=h2;injection e with e1 e2 e3
 subst e1 e2 e3;have HAX:=Zh hA1;have HAY:=Zh hA2;have HDX:=Zh hd1;have HDY:=Zh hd2;obtain ⟨S,hS⟩: ∃S,m1* m2=S:=⟨_,rfl⟩;rw [hS];have HS:=Zh (show val (2^64) lx* val (2^64) ly=S by rw [hv1,hv2,hS]);have HTP:=Zh (Zfa w S);obtain ⟨Q,hQ⟩: ∃Q,RetW w S=Q:=⟨_,rfl⟩;rw [hQ] at HTP ⊢;obtain ⟨X,hN⟩: ∃N,lx.length=N:=⟨_,rfl⟩;obtain ⟨Y,hM⟩: ∃M,ly.length=M:=⟨_,rfl⟩;have HNX:=Zh hN;have HNY:=Zh hM;rw [hN] at hb1 hl1' ⊢;rw [hM] at hb2 hl2' ⊢;have HINFO:=Zh Zea;have k1:IntKind.i64.wrap ((X:Int)+(Y:Int))=((X+Y:Nat):Int):=by rw [IntWalk.i64_in _ (by omega)];omega
 clear hA1 hA2 hN hM hQ hS hv1 hv2 hd1 hd2 ht1 ht2 hl1 hl2;go_enter Tryz.func300,Tryz.ntmps300;go_wp2_with (at_make;refine mk1 encW 0 (.int .u64 0) rfl 131 345 8 Tryz.underlying131 HINFO.out rfl (by decide) w.heap.size w (X+Y) (by omega) (Nat.le_refl _) rfl _ _ rfl .i64 .i64 rfl rfl ?_;intro w3 ho3 hg3);have HB3:=Zh (Zbk hg3);have HO3:=Zh ho3;have HST0:=Zh (MulO.start (B:=2^64) (by decide) lx ly);rw [HNX.out,HNY.out] at HST0;clear ho3 hg3 k1
 go_loopw [22] (fun i wr=> ∃ (k:Nat) (o:List Nat),k<=X/\i= .int .i64 k/\MulO (2^64) o lx ly k/\Below w.heap.size w wr/\Own encW 1 345 wr w.heap.size (.slice (some ⟨w.heap.size,0,none⟩) (X+Y) (X+Y)) o) (fun i _=>X-(intOf i).toNat)
 case atStart=>exact ⟨0,List.replicate (X+Y) 0,Nat.zero_le _,rfl,HST0.out,HB3.out,HO3.out⟩
 case round=>
   obtain ⟨k,o,hk,rfl,hmo,hbe,hown⟩:=hrel;have HMO:=Zh hmo;have HB:=Zh hbe;have HO:=Zh hown;have HLL:=Zh (show o.length=X+Y by rw [hmo.len,HNX.out,HNY.out]);clear hmo hown hbe HST0 HB3 HO3
   by_cases hkX:k<X
   ·have k2:decide ((k:Int)<(X:Int))=true:=Zt (by omega);have k2':decide (k<X)=true:=Zt (by omega);have hkx:k<lx.length:=by rw [HNX.out];exact hkX
    obtain ⟨b1,o1,rfl,hbb1,hcells1⟩:=HAX.out (by omega);have g1:=((hcells1 k hkx).below HB.out hbb1).c1;rw [Nat.mul_one] at g1;have hz1:b1<wr.heap.size:=by have:=HB.size;omega
    have HROW:=Zh (HMO.row hkx (by decide));have HSTEP:=Zh (fun o' c hl hz h=>MulO.step (B:=2^64) (a:=lx) (b:=ly) (i:=k) (o':=o') (c:=c) hkx hl hz h);have HXB:=Zh (HDX.get k hkx);have HZER:=Zh (show∀q (h:q<o.length),k+ly.length<=q->o[q]=0 from HMO.zer);have k3:IntKind.i64.wrap ((k:Int)+1)=((k+1:Nat):Int):=by rw [IntWalk.i64_in _ (by omega)];omega
    have k9:IntKind.i64.wrap ((k:Int)+(Y:Int))=((k+Y:Nat):Int):=by rw [IntWalk.i64_in _ (by omega)];omega
    clear hcells1 HMO;generalize lx[k]=x at *;go_wp2_with fail;obtain ⟨U,hU⟩: ∃U:World,U=wr:=⟨_,rfl⟩;subst hU
    go_loopw [29,8] (fun i cr wr=> ∃ (j c:Nat) (o:List Nat),j<=Y/\i= .int .i64 j/\cr= .int .u64 (c:Int)/\o.length=X+Y/\(∀q (h:q<o.length),k+ly.length<=q->o[q]=0)/\MulI (2^64) o ly (val (2^64) (lx.take k) * val (2^64) ly) x k j c/\Below w.heap.size w wr/\Own encW 1 345 wr w.heap.size (.slice (some ⟨w.heap.size,0,none⟩) (X+Y) (X+Y)) o) (fun i _ _=>Y-(intOf i).toNat)
    case atStart=>exact ⟨0,0,o,Nat.zero_le _,rfl,rfl,HLL.out,HZER.out,HROW.out,HB.out,HO.out⟩
    case round=>
      clear HB HO HLL HROW HZER g1 hz1;obtain ⟨j,c,o,hj,rfl,rfl,hlo,hze,hmi,hbe,hown⟩:=hrel;have HMI:=Zh hmi;have HB:=Zh hbe;have HO:=Zh hown;have HLL:=Zh hlo;have HZE:=Zh hze;have HCB:=Zh hmi.carry;have hz2:w.heap.size<wr.heap.size:=Zaz HO.out;clear hmi hown hbe hlo hze
      by_cases hjY:j<Y
      ·have k4:decide ((j:Int)<(Y:Int))=true:=Zt (by omega);have k4':decide (j<Y)=true:=Zt (by omega);have hjy:j<ly.length:=by rw [HNY.out];exact hjY
       obtain ⟨b2,o2,rfl,hbb2,hcells2⟩:=HAY.out (by omega);have g2:=((hcells2 j hjy).below HB.out hbb2).c1;rw [Nat.mul_one] at g2;have hz3:b2<wr.heap.size:=by have:=HB.size;omega
       have hkj:k+j<o.length:=by rw [HLL.out];omega
       have hkj2:k+j<X+Y:=by omega
       have hfz:=Own.frozenN HO.out HLL.out (k+j);have g0:=Zam HO.out HLL.out Zae (k+j) hkj (.int .u64 (o[k+j]:Int)) rfl;have HSET:=Zh (fun (y:Nat)=>Zaq HO.out HLL.out Zae (k+j) hkj2 y (.int .u64 (y:Int)) rfl);have HST:=Zh (fun s hs=>HMI.step (by decide) HDY.out HXB.out hjy hkj (s:=s) hs);have hyB:=HDY.get j hjy;have hoB:=HMI.dg.get _ hkj;have k5:IntKind.i64.wrap ((j:Int)+1)=((j+1:Nat):Int):=by rw [IntWalk.i64_in _ (by omega)];omega
       have k6:IntKind.i64.wrap ((k:Int)+(j:Int))=((k+j:Nat):Int):=by rw [IntWalk.i64_in _ (by omega)];omega
       clear hcells2;generalize ly[j]=y at *;generalize hoq:o[k+j]=oq at *;obtain ⟨hi,lo,l1,c1,h1,l2,c2,h2,hM,q1,q2,q3,q4,q5,q6⟩:=Zkn x y oq c HXB.out hyB hoB HCB.out;have HM:=Zh hM;have HQ5:=Zh q5;have HQ6:=Zh q6;clear hM q5 q6 hyB hoB hoq;go_wp2_with (go_at_call 297;refine (HM.out _).mono ?_;rintro e6 w6 ⟨rfl,rfl⟩);go_roundw
       case rel=>
         refine ⟨j+1,h2,o.set (k+j) l2,by omega,by go_num,rfl,by rw [List.length_set];exact HLL.out,fun q h hq=> ?_,?_,HB.setCell (Nat.le_refl _) _,HSET.out l2⟩
         ·rw [List.getElem_set_ne (by rw [HNY.out] at hq;omega)];exact HZE.out q (by rwa [List.length_set] at h) hq
         ·rw [HQ5.out,HQ6.out];exact HST.out _ rfl
       case measure=>simp [intOf];omega
      ·obtain rfl:Y=j:=by omega
       have hkY:k+Y<X+Y:=by omega
       have hkYl:k+Y<o.length:=by rw [HLL.out];exact hkY
       have hfz:=Own.frozenN HO.out HLL.out (k+Y);have g0:=Zam HO.out HLL.out Zae (k+Y) hkYl (.int .u64 (o[k+Y]:Int)) rfl;have HNEW:=Zh (HSTEP.out o c (by rw [HLL.out,HNX.out,HNY.out]) HZE.out (by rw [HNY.out];exact HMI.out));rw [HNY.out] at HNEW;have HO2:=Zh (Zaq HO.out HLL.out Zae (k+Y) hkY c (.int .u64 (c:Int)) rfl);generalize o[k+Y]=oq at *;go_wp2_with fail;go_roundw
       case rel=>exact ⟨k+1,_,by omega,by go_num,HNEW.out,HB.setCell (Nat.le_refl _) _,HO2.out⟩
       case measure=>simp [intOf];omega
   ·obtain rfl:X=k:=by omega
    have HVL:=Zh (show val (2^64) o=S by
      have h:=HMO.out;rw [<-HNX.out] at h;rw [h.done,HS.out])
    have HTR:=Zh (Zf9 _ _ _ _ _ (Sc.of_own Zae (by rw [HLL.out];omega) HO.out));go_wp2_with fail;refine HTR.mono ?_;rintro e5 w5 ⟨kk,rfl,hk5,ht5,hz5,rfl⟩;have HFIN:=Zh (HTP.out _ _ _ _ _ _ _ HO.out HLL.out (by rw [HLL.out];omega) HMO.dg HVL.out HB.out hk5 ht5 hz5);clear hk5 ht5 hz5;go_wp2_with fail;exact HFIN.out
end Go.Proofs.YtijajkfmlghgkaaGreatDoor.Nu
