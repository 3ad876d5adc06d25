/-
  A part of the proof: contracts and plain forms of functions beneath the statement, made small by a program (names shortened, what is not needed left out).
-/
import Derived.Test.YtepkkkphfmckdaaGreatDoorRows
import Derived.Test.YtepkkkphfmckdaaGreatDoorTie
import Derived.Test.YtepkkkphfmckdaaGreatDoorCards
import Derived.Test.YtepkkkphfmckdaaGreatDoorM5
import Derived.Handy
import Derived.Deep.Cut
import Derived.StillTactics
import Derived.StillTailTactics
import Derived.Maps.AppendAt
import Derived.Lib.Builder
import Derived.BigCall
import Derived.Deep.RegionHeld3
import Derived.Deep.DrawnRows
import Derived.Deep.AppendLies
import Derived.Deep.RegionHeld
open List renaming setIfInBounds_toArray → Hg, set_cons_zero → Hi, set_cons_succ → Hj, getElem?_eq_getElem → Hk, getD_eq_getElem?_getD → Hq, mem_range → Hs, getElem_mem → Hy, range → Hz, length_map → HE, mem_cons → HI, pairwise_iff_getElem → HJ, getElem_of_mem → HL, map_append → HU, size_toArray → HV, getElem?_toArray → HY, length_singleton → HZ, all_eq_true → Ic, foldl_cons → Ig, mem_cons_self → Ii, length_cons → Iq, take_succ_eq_append_getElem → Ir, mem_filter → Iu, eq_nil_of_length_eq_zero → Iw, pairwise_cons → IA, length_append → IB, map_cons → IE, foldl_append → IG, getElem?_eq_some_iff → IJ, getElem?_append_left → IK, length_take → IM, mem_map → IV, getElem?_take_of_lt → IW, mem_append → IX, range_succ → IY, mem_cons_of_mem → Jd, getElem_take → Ji, getElem?_map → Jj, any_eq_true → Jo, filter_cons → Jp, nil_append → Js
open Array renaming getElem?_eq_some_iff → Hh, getD_eq_getD_getElem? → Hn, getElem?_setIfInBounds_ne → HD, getD → HO, mem_toList_iff → Ib, replicate → Iv, all_eq_true' → IC, getElem?_eq_getElem → II, getElem_toList → Je
open Nat renaming le_refl → Hl, lt_or_ge → HB, mod_eq_of_lt → HC, lt_of_lt_of_le → HH, le_trans → Ia, zero_le → Ij, add_sub_cancel → Iz, lt_trans → IL, zero_add → Jg, mod_lt → Jq
open Go.Value renaming int → Hm, ownBlock → HA, slice → Im
open Go.Region renaming ready → Ho, binds → HK, wanted → Io, Mode → Jm
open Option.some renaming inj → Hp, injEq → Jk
open Go.Region.linearise renaming go → Hr
open Bool renaming and_eq_true → Ht, and_eq_false_iff → It, not_eq_true' → IH, or_eq_true → IZ, not_false → Jc
open Classical renaming byContradiction → Hu
open Option renaming getD_some → Hv, map_some → HS, bind_some → IU, map_eq_some_iff → Jb
open Go.Act renaming put → Hw
open Go.AllReadyH renaming cons → Hx, nil → HF
open And renaming intro → HN
open Go.Proofs renaming enters_of → Ie
open Go.Sort renaming insertionSort → Ih, putCells → IQ
open Go.IntKind renaming i64 → Ik
open Or renaming inl → Il
open Go.Proofs.SW renaming start → Ip
open Int renaming mul_nonneg → Ix, mul_le_mul → Iy, tmod_eq_emod_of_nonneg → ID, mul_add → Jl, ediv_le_self → Jn, ediv_nonneg → Jr
open Go.World renaming setCell → IF
open Go.Lib renaming cell_of_heap → IP
open Go.Builtin renaming append_ → Ja, firstCells → Jh, lenOf → Jt
open Go.RowKit.Below renaming refl → Jf
set_option maxRecDepth 100000
set_option linter.unusedSimpArgs false
set_option linter.unusedVariables false
noncomputable section
namespace Go.Proofs.YtepkkkphfmckdaaGreatDoor
open Go Go.Proofs Go.Shelf Go.RowKit Go.Lib Go.Sort
set_option maxRecDepth 100000
theorem rM {α:Type} [Inhabited α] (d:Array α) (a b:Nat):∀n,a+n≤b→b+n≤d.size→∀k,(swR d a b n)[k]! = if a≤k∧k<a+n then d[k - a+b]! else if b≤k∧k<b+n then d[k - b+a]! else d[k]!
 | 0,_,_,k=>by
  rw [swR,if_neg (by omega),if_neg (by omega)]
 | n+1,h1,h2,k=>by
  have ih:=rM d a b n (by omega) (by omega);have hz:=cd d a b n;rw [swR,swp_get _ (by omega) (by omega),ih (a+n),ih (b+n),ih k]
  (repeat' split)<;>first | rfl | (exfalso;omega) | (congr 1;omega)
theorem qk {α:Type} [Inhabited α] (m:Nat):∀(k i j:Nat) (d:Array α),(lY m k i j d).size=d.size
 | 0,_,_,_=>rfl
 | k+1,i,j,d=>by
  rw [lY];split
  ·rw [cd]
  ·split
   ·rw [qk m k,cd]
   ·rw [qk m k,cd]
theorem sv {α:Type} [Inhabited α] (m:Nat):∀(k i j:Nat) (d:Array α),0<i→0<j→i≤m→m+j≤d.size→i+j≤k→∀x,
  (lY m k i j d)[x]! = if m - i≤x∧x<m - i+j then d[x+i]! else if m - i+j≤x∧x<m+j then d[x - j]! else d[x]!
 | 0,i,j,_,hi,hj,_,_,hk,_=>by omega
 | k+1,i,j,d,hi,hj,him,hjd,hk,x=>by
  rw [lY];split
  ·next e =>
   subst e;rw [rM _ _ _ _ (by omega) (by omega)]
   (repeat' split)<;>first | rfl | (exfalso;omega) | (congr 1;omega)
  ·split
   ·next e1 e2 =>
    have hz:=cd d (m - i) m j;have hg:=rM d (m - i) m j (by omega) (by omega);rw [sv m k (i - j) j _ (by omega) hj (by omega) (by omega) (by omega),hg,hg,hg]
    (repeat' split)<;>first | rfl | (exfalso;omega) | (congr 1;omega)
   ·next e1 e2 =>
    have hz:=cd d (m - i) (m+j - i) i;have hg:=rM d (m - i) (m+j - i) i (by omega) (by omega);rw [sv m k i (j - i) _ hi (by omega) (by omega) (by omega) (by omega),hg,hg,hg]
    (repeat' split)<;>first | rfl | (exfalso;omega) | (congr 1;omega)
def Ris (f:Nat→Int) (a b:Nat):Prop:=∀i j,a≤i→i<j→j<b→f i<f j
theorem Ris.le {f:Nat→Int} {a b i j:Nat} (h:Ris f a b) (h1:a≤i) (h2:i≤j) (h3:j<b):f i≤f j:=by
 rcases HB i j with h4 | h4
 ·have:=h i j h1 h4 h3
  omega
 ·have:i=j:=by omega
  subst this;omega
theorem Ris.sub {f:Nat→Int} {a b c d:Nat} (h:Ris f a b) (h1:a≤c) (h2:d≤b):Ris f c d:=fun i j k1 k2 k3=>h i j (by omega) k2 (by omega)
theorem vK {f:Nat→Int} {a m b s lo hi:Nat} (h1:Ris f a m) (h2:Ris f m b) (ha:a<m) (hb:m<b)
  (hlo:lo=if (a+b) / 2<m then(a+b) / 2+m - b else a) (hhi:hi=if (a+b) / 2<m then(a+b) / 2 else m) (k1:lo≤s) (k2:s≤hi)
  (q1:s=lo∨f (s - 1)<f ((a+b) / 2+m - s)) (q2:s=hi∨f ((a+b) / 2+m - 1 - s)<f s) :
  a≤s∧s≤m∧m≤(a+b) / 2+m - s∧(a+b) / 2+m - s≤b∧s≤(a+b) / 2∧(a+b) / 2≤(a+b) / 2+m - s ∧
  (∀i j,a≤i→i<s→(a+b) / 2+m - s≤j→j<b→f i<f j)∧(∀i j,s≤i→i<m→m≤j→j<(a+b) / 2+m - s→f j<f i):=by
 generalize hmid:(a+b) / 2=mid at *;have hm1:a≤mid:=by omega
 have hm2:mid<b:=by omega
 have hb2:(mid:Int)+mid≤a+b∧(a:Int)+b≤mid+mid+1:=by omega
 by_cases hc:mid<m
 ·rw [if_pos hc] at hlo hhi
  refine⟨by omega,by omega,by omega,by omega,by omega,by omega,fun i j g1 g2 g3 g4=>?_,fun i j g1 g2 g3 g4=>?_⟩
  ·rcases q1 with q1 | q1
   ·omega
   ·have e1:=h1.le g1 (show i≤s - 1 by omega) (by omega)
    have e2:=h2.le (show m≤mid+m - s by omega) g3 g4;omega
  ·rcases q2 with q2 | q2
   ·omega
   ·have e1:=h1.le (show a≤s by omega) g1 g2
    have e2:=h2.le g3 (show j≤mid+m - 1 - s by omega) (by omega);omega
 ·rw [if_neg hc] at hlo hhi
  refine⟨by omega,by omega,by omega,by omega,by omega,by omega,fun i j g1 g2 g3 g4=>?_,fun i j g1 g2 g3 g4=>?_⟩
  ·rcases q1 with q1 | q1
   ·omega
   ·have e1:=h1.le g1 (show i≤s - 1 by omega) (by omega)
    have e2:=h2.le (show m≤mid+m - s by omega) g3 g4;omega
  ·rcases q2 with q2 | q2
   ·omega
   ·have e1:=h1.le (show a≤s by omega) g1 g2
    have e2:=h2.le g3 (show j≤mid+m - 1 - s by omega) (by omega);omega
def Rot (f g:Nat→Int) (s m e:Nat):Prop:=(∀i,i<s∨e≤i→g i=f i)∧(∀i,s≤i→i<s+(e - m)→g i=f (i+(m - s)))∧(∀i,s+(e - m)≤i→i<e→g i=f (i - (e - m)))
theorem Ev {f g:Nat→Int} {a m b s e:Nat} (h1:Ris f a m) (h2:Ris f m b) (ha:a≤s) (hs:s≤m) (he:m≤e) (heb:e≤b) (hr:Rot f g s m e)
  (c1:∀i j,a≤i→i<s→e≤j→j<b→f i<f j) (c2:∀i j,s≤i→i<m→m≤j→j<e→f j<f i) :
  Ris g a s∧Ris g s (s+(e - m))∧Ris g (s+(e - m)) e∧Ris g e b∧(∀i j,a≤i→i<s+(e - m)→s+(e - m)≤j→j<b→g i<g j):=by
 obtain⟨r1,r2,r3⟩:=hr;refine⟨fun i j k1 k2 k3=>?_,fun i j k1 k2 k3=>?_,fun i j k1 k2 k3=>?_,fun i j k1 k2 k3=>?_,fun i j k1 k2 k3 k4=>?_⟩
 ·rw [r1 i (by omega),r1 j (by omega)]
  exact h1 i j k1 k2 (by omega)
 ·rw [r2 i (by omega) (by omega),r2 j (by omega) k3]
  exact h2 _ _ (by omega) (by omega) (by omega)
 ·rw [r3 i (by omega) (by omega),r3 j (by omega) k3]
  exact h1 _ _ (by omega) (by omega) (by omega)
 ·rw [r1 i (by omega),r1 j (by omega)]
  exact h2 i j (by omega) k2 k3
 ·rcases HB i s with q1 | q1
  ·rw [r1 i (by omega)]
   rcases HB j e with q2 | q2
   ·rw [r3 j k3 q2]
    exact h1 _ _ k1 (by omega) (by omega)
   ·rw [r1 j (by omega)]
    exact c1 i j k1 q1 q2 k4
  ·rw [r2 i q1 k2]
   rcases HB j e with q2 | q2
   ·rw [r3 j k3 q2]
    exact c2 _ _ (by omega) (by omega) (by omega) (by omega)
   ·rw [r1 j (by omega)]
    exact h2 _ _ (by omega) (by omega) k4
theorem Da {g:Nat→Int} {a c b:Nat} (h1:Ris g a c) (h2:Ris g c b) (h3:∀i j,a≤i→i<c→c≤j→j<b→g i<g j):Ris g a b:=fun i j k1 k2 k3=>by
 rcases HB j c with q | q
 ·exact h1 i j k1 k2 q
 ·rcases HB i c with q2 | q2
  ·exact h3 i j k1 q2 q k3
  ·exact h2 i j q2 k2 k3
theorem EP {f g:Nat→Int} {a b i:Nat} (h2:Ris f (a+1) b) (ha:a+1≤i) (hi:i≤b) (q1:i=a+1∨f (i - 1)<f a) (q2:i=b∨f a<f i)
  (g1:∀k,a≤k→k+1<i→g k=f (k+1)) (g2:g (i - 1)=f a) (g3:∀k,i≤k→k<b→g k=f k):Ris g a b:=fun x y k1 k2 k3=>by
 rcases HB (x+1) i with p1 | p1
 ·rw [g1 x k1 p1]
  rcases HB (y+1) i with p2 | p2
  ·rw [g1 y (by omega) p2]
   exact h2 _ _ (by omega) (by omega) (by omega)
  ·rcases HB y i with p3 | p3
   ·have:y=i - 1:=by omega
    subst this;rw [g2];rcases q1 with q1 | q1
    ·omega
    ·have:=h2.le (show a+1≤x+1 by omega) (show x+1≤i - 1 by omega) (by omega)
     omega
   ·rw [g3 y p3 k3]
    exact h2 _ _ (by omega) (by omega) k3
 ·have hxi:x=i - 1∨i≤x:=by omega
  rcases hxi with rfl | hxi
  ·rw [g2,g3 y (by omega) k3]
   rcases q2 with q2 | q2
   ·omega
   ·have:=h2.le (show a+1≤i by omega) (show i≤y by omega) k3
    omega
  ·rw [g3 x hxi (by omega),g3 y (by omega) k3]
   exact h2 _ _ (by omega) k2 k3
theorem yF {f g:Nat→Int} {a m i:Nat} (h1:Ris f a m) (ha:a≤i) (hi:i≤m) (q1:i=a∨f (i - 1)<f m) (q2:i=m∨f m<f i)
  (g1:∀k,a≤k→k<i→g k=f k) (g2:g i=f m) (g3:∀k,i<k→k≤m→g k=f (k - 1)):Ris g a (m+1):=fun x y k1 k2 k3=>by
 rcases HB x i with p1 | p1
 ·rw [g1 x k1 p1]
  rcases HB y i with p2 | p2
  ·rw [g1 y (by omega) p2]
   exact h1 _ _ k1 k2 (by omega)
  ·have hy:y=i∨i<y:=by omega
   rcases hy with rfl | hy
   ·rw [g2]
    rcases q1 with q1 | q1
    ·omega
    ·have:=h1.le k1 (show x≤y - 1 by omega) (by omega)
     omega
   ·rw [g3 y hy (by omega)]
    exact h1 _ _ k1 (by omega) (by omega)
 ·have hx:x=i∨i<x:=by omega
  rcases hx with rfl | hx
  ·rw [g2,g3 y k2 (by omega)]
   rcases q2 with q2 | q2
   ·omega
   ·have:=h1.le k1 (show x≤y - 1 by omega) (by omega)
    omega
  ·rw [g3 x hx (by omega),g3 y (by omega) (by omega)]
   exact h1 _ _ (by omega) (by omega) (by omega)
structure Mix {α:Type} [Inhabited α] (a b:Nat) (d d':Array α):Prop where
 size:d'.size=d.size
 out:∀i,i<a∨b≤i→d'[i]! = d[i]!
 from':∀i,a≤i→i<b→∃j,a≤j∧j<b∧d'[i]! = d[j]!
 perm:d'.Perm d
theorem Mix.refl {α:Type} [Inhabited α] (a b:Nat) (d:Array α):Mix a b d d:=⟨rfl,fun _ _=>rfl,fun i h1 h2=>⟨i,h1,h2,rfl⟩,.refl _⟩
theorem Mix.trans {α:Type} [Inhabited α] {a b:Nat} {d e f:Array α} (h:Mix a b d e) (k:Mix a b e f):Mix a b d f :=
 ⟨k.size.trans h.size,fun i hi=>(k.out i hi).trans (h.out i hi),fun i h1 h2=>by
  obtain⟨j,j1,j2,e1⟩:=k.from' i h1 h2
  obtain⟨q,q1,q2,e2⟩:=h.from' j j1 j2
  exact⟨q,q1,q2,e1.trans e2⟩,k.perm.trans h.perm⟩
theorem Mix.mono {α:Type} [Inhabited α] {a b c e:Nat} {d d':Array α} (h:Mix a b d d') (h1:c≤a) (h2:b≤e):Mix c e d d' :=
 ⟨h.size,fun i hi=>h.out i (by omega),fun i k1 k2=>by
  by_cases q:a≤i∧i<b
  ·obtain⟨j,j1,j2,e1⟩:=h.from' i q.1 q.2
   exact⟨j,by omega,by omega,e1⟩
  ·exact⟨i,k1,k2,h.out i (by omega)⟩,h.perm⟩
theorem Mix.swap {α:Type} [Inhabited α] {a b i j:Nat} (d:Array α) (h1:a≤i) (h2:i<b) (h3:a≤j) (h4:j<b) (hb:b≤d.size):Mix a b d (swp d i j) :=
 ⟨size_swp _ _ _,fun k hk=>by rw [swp_get d (by omega) (by omega),if_neg (by omega),if_neg (by omega)],fun k k1 k2=>by
  rw [swp_get d (by omega) (by omega)];split
  ·exact⟨i,h1,h2,rfl⟩
  ·split
   ·exact⟨j,h3,h4,rfl⟩
   ·exact⟨k,k1,k2,rfl⟩,by
  have e:swp d i j=d.swap i j (by omega) (by omega):=by
   unfold swp;rw [getElem!_pos d j (by omega),getElem!_pos d i (by omega)];have hi:i<d.size:=by omega
   have hj:j<d.size:=by omega
   simp [Array.setIfInBounds,Array.swap,hi,hj]
  rw [e];exact Array.swap_perm _ _⟩
theorem Mix.runs {α:Type} [Inhabited α] {a b:Nat} (d:Array α) {p q:Nat}:∀n,a≤p→p+n≤b→a≤q→q+n≤b→b≤d.size→Mix a b d (swR d p q n)
 | 0,_,_,_,_,_=>Mix.refl _ _ _
 | n+1,h1,h2,h3,h4,h5=>(Mix.runs d n h1 (by omega) h3 (by omega) h5).trans (by
   rw [swR];exact Mix.swap _ (by omega) (by omega) (by omega) (by omega) (by rw [cd];exact h5))
theorem Mix.rot {α:Type} [Inhabited α] {a b:Nat} (m:Nat):∀(k i j:Nat) (d:Array α),i≤m→a≤m - i→m+j≤b→b≤d.size→Mix a b d (lY m k i j d)
 | 0,_,_,_,_,_,_,_=>Mix.refl _ _ _
 | k+1,i,j,d,h1,h2,h3,h4=>by
  rw [lY];split
  ·exact Mix.runs d _ (by omega) (by omega) (by omega) (by omega) h4
  ·split
   ·exact(Mix.runs d j (by omega) (by omega) (by omega) (by omega) h4).trans (Mix.rot m k _ _ _ (by omega) (by omega) (by omega) (by rw [cd];exact h4))
   ·exact(Mix.runs d i (by omega) (by omega) (by omega) (by omega) h4).trans (Mix.rot m k _ _ _ (by omega) (by omega) (by omega) (by rw [cd];exact h4))
def Cmp {α:Type} [Inhabited α] (lt:α→α→Bool) (rk:α→Int) (d:Array α) (a m b:Nat):Prop :=
 ∀i j,a≤i→i<m→m≤j→j<b→(lt d[j]! d[i]! = true∧rk d[j]! < rk d[i]!)∨(lt d[j]! d[i]! = false∧rk d[i]! < rk d[j]!)
def dj {α:Type} [Inhabited α] (rk:α→Int) (d:Array α) (a b:Nat):Prop:=Ris (fun i=>rk d[i]!) a b
def Cr {α:Type} [Inhabited α] (d g:Array α) (s m e:Nat):Prop:=(∀i,i<s∨e≤i→g[i]! = d[i]!)∧(∀i,s≤i→i<s+(e - m)→g[i]! = d[i+(m - s)]!)∧(∀i,s+(e - m)≤i→i<e→g[i]! = d[i - (e - m)]!)
theorem Bx {α:Type} [Inhabited α] (d:Array α) {s m e k:Nat} (h1:s<m) (h2:m<e) (h3:e≤d.size) (hk:e - s≤k):Cr d (lY m k (m - s) (e - m) d) s m e:=by
 have g:=sv m k (m - s) (e - m) d (by omega) (by omega) (by omega) (by omega) (by omega);refine⟨fun i hi=>?_,fun i k1 k2=>?_,fun i k1 k2=>?_⟩
 ·rw [g,if_neg (by omega),if_neg (by omega)]
 ·rw [g,if_pos (by omega)]
 ·rw [g,if_neg (by omega),if_pos (by omega)]
theorem EY {α:Type} [Inhabited α] (d:Array α) {s m e:Nat} (h1:s≤m) (h2:m≤e) (h:s=m∨m=e):Cr d d s m e:=by
 refine⟨fun i hi=>rfl,fun i k1 k2=>?_,fun i k1 k2=>?_⟩
 ·rcases h with h | h
  ·subst h;simp
  ·omega
 ·rcases h with h | h
  ·omega
  ·subst h;simp
theorem Bq {α:Type} [Inhabited α] (lt:α→α→Bool) (rk:α→Int) (d d1:Array α) {a m b s mid e:Nat} (h1:dj rk d a m) (h2:dj rk d m b) (hc:Cmp lt rk d a m b) (ha:a<m) (hb:m<b) (hmid:mid=(a+b) / 2)
  {lo hi:Nat} (hlo:lo=if mid<m then mid+m - b else a) (hhi:hi=if mid<m then mid else m) (k1:lo≤s) (k2:s≤hi) (he:e=mid+m - s)
  (q1:s=lo∨rk d[s - 1]! < rk d[mid+m - s]!) (q2:s=hi∨rk d[mid+m - 1 - s]! < rk d[s]!) (hr:Cr d d1 s m e) :
  dj rk d1 a s∧dj rk d1 s mid∧dj rk d1 mid e∧dj rk d1 e b∧(∀i j,a≤i→i<mid→mid≤j→j<b→rk d1[i]! < rk d1[j]!)∧Cmp lt rk d1 a s mid∧Cmp lt rk d1 mid e b:=by
 subst hmid;obtain⟨p1,p2,p3,p4,p5,p6,p7,p8⟩:=vK (f:=fun i=>rk d[i]!) h1 h2 ha hb hlo hhi k1 k2 q1 q2;rw [←he] at p3 p4 p6 p7 p8;obtain⟨r1,r2,r3⟩:=hr;have hse:s+(e - m)=(a+b) / 2:=by omega
 obtain⟨o1,o2,o3,o4,o5⟩:=Ev (f:=fun i=>rk d[i]!) (g:=fun i=>rk d1[i]!) h1 h2 p1 p2 p3 p4 ⟨fun i hi=>by show rk _=rk _;rw [r1 i hi],fun i x y=>by show rk _=rk _;rw [r2 i x y],fun i x y=>by show rk _=rk _;rw [r3 i x y]⟩ p7 p8;rw [hse] at o2 o3 o5;refine⟨o1,o2,o3,o4,o5,fun i j x1 x2 x3 x4=>?_,fun i j x1 x2 x3 x4=>?_⟩
 ·rw [r1 i (by omega),r2 j x3 (by omega)]
  exact hc _ _ x1 (by omega) (by omega) (by omega)
 ·rw [r3 i (by omega) x2,r1 j (by omega)]
  exact hc _ _ (by omega) (by omega) (by omega) (by omega)
theorem BT {α:Type} [Inhabited α] (rk:α→Int) {d d1 d2 d3:Array α} {a mid b:Nat} (h1:Mix a b d d1) (hm:a≤mid) (hb:mid≤b) (h2:Mix a mid d1 d2) (k2:dj rk d2 a mid) (h3:Mix mid b d2 d3) (k3:dj rk d3 mid b)
  (hc:∀i j,a≤i→i<mid→mid≤j→j<b→rk d1[i]! < rk d1[j]!):Mix a b d d3∧dj rk d3 a b:=by
 refine⟨h1.trans ((h2.mono (Hl _) hb).trans (h3.mono hm (Hl _))),Da (c:=mid) (fun i j x1 x2 x3=>?_) k3 (fun i j x1 x2 x3 x4=>?_)⟩
 ·show rk d3[i]! < rk d3[j]!
  rw [h3.out i (by omega),h3.out j (by omega)];exact k2 i j x1 x2 x3
 ·show rk d3[i]! < rk d3[j]!
  rw [h3.out i (by omega)];obtain⟨j1,y1,y2,e1⟩:=h3.from' j x3 x4
  rw [e1,h2.out j1 (by omega)];obtain⟨i1,z1,z2,e2⟩:=h2.from' i x1 x2
  rw [e2];exact hc _ _ z1 z2 y1 y2
theorem CD {α:Type} [Inhabited α] {lt:α→α→Bool} {rk:α→Int} {d d':Array α} {a m b c e:Nat} (h:Cmp lt rk d a m b) (hm:Mix c e d d') (ho:e≤a∨b≤c):Cmp lt rk d' a m b:=fun i j x1 x2 x3 x4=>by
 rw [hm.out i (by omega),hm.out j (by omega)];exact h i j x1 x2 x3 x4
theorem sA {α:Type} [Inhabited α] {rk:α→Int} {d d':Array α} {a b c e:Nat} (h:dj rk d a b) (hm:Mix c e d d') (ho:e≤a∨b≤c):dj rk d' a b:=fun i j x1 x2 x3=>by
 show rk d'[i]! < rk d'[j]!
 rw [hm.out i (by omega),hm.out j (by omega)];exact h i j x1 x2 x3
theorem xc {α:Type} [Inhabited α] (lt:α→α→Bool) (a:Nat):∀(j:Nat) (d:Array α),a≤j→j<d.size →
  ∃p,a≤p∧p≤j∧(p=a∨lt d[j]! d[p - 1]! = false)∧(∀q,p≤q→q<j→lt d[j]! d[q]! = true)∧(∀k,k<p∨j<k→(insInner lt a j d)[k]! = d[k]!)∧(insInner lt a j d)[p]! = d[j]! ∧ (∀k,p<k→k≤j→(insInner lt a j d)[k]! = d[k - 1]!)∧Mix a (j+1) d (insInner lt a j d)
 | 0,d,h1,h2=>⟨0,by omega,by omega,.inl (by omega),fun q _ _=>by omega,fun k _=>by rw [insInner],by rw [insInner],fun k _ _=>by omega,by rw [insInner];exact Mix.refl _ _ _⟩
 | j+1,d,h1,h2=>by
  rw [insInner];split
  ·next hc =>
   obtain⟨hj,hl⟩:j+1>a∧lt d[j+1]! d[j]! = true:=by simpa using hc
   have g:=swp_get d h2 (show j<d.size by omega);obtain⟨p,p1,p2,p3,p4,p5,p6,p7,p8⟩:=xc lt a j (swp d (j+1) j) (by omega) (by rw [size_swp];omega);have gj:(swp d (j+1) j)[j]! = d[j+1]!:=by rw [g,if_pos rfl]
   have gk:∀k,k<j∨j+1<k→(swp d (j+1) j)[k]! = d[k]!:=fun k hk=>by rw [g,if_neg (by omega),if_neg (by omega)]
   refine⟨p,p1,by omega,?_,fun q q1 q2=>?_,fun k hk=>?_,p6.trans gj,fun k k1 k2=>?_,?_⟩
   ·rcases p3 with p3 | p3
    ·exact .inl p3
    ·by_cases h:p=a
     ·exact .inl h
     ·rw [gj,gk _ (by omega)] at p3
      exact .inr p3
   ·by_cases h:q=j
    ·subst h;exact hl
    ·have:=p4 q q1 (by omega)
     rw [gj,gk _ (by omega)] at this;exact this
   ·rw [p5 k (by omega),gk k (by omega)]
   ·by_cases h:k=j+1
    ·subst h
     rw [p5 _ (by omega),g,if_neg (by omega),if_pos rfl];rfl
    ·rw [p7 k k1 (by omega),gk _ (by omega)]
   ·exact(Mix.swap d (by omega) (by omega) (by omega) (by omega) (by omega)).trans (p8.mono (Hl _) (by omega))
  ·next hc =>
   refine⟨j+1,h1,Hl _,?_,fun q _ _=>by omega,fun _ _=>rfl,rfl,fun k _ _=>by omega,Mix.refl _ _ _⟩
   by_cases h:j+1=a
   ·exact .inl h
   ·right
    have:j+1>a:=by omega
    simpa [this] using hc
theorem AO {α:Type} [Inhabited α] (lt:α→α→Bool) (rk:α→Int) (a b:Nat):∀(n i:Nat) (d:Array α),b - i=n→a≤i→b≤d.size→dj rk d a i →
  (∀x j,a≤x→x<j→i≤j→j<b→(lt d[j]! d[x]! = true∧rk d[j]! < rk d[x]!)∨(lt d[j]! d[x]! = false∧rk d[x]! < rk d[j]!)) →
  Mix a b d (insOuter lt a b i d)∧dj rk (insOuter lt a b i d) a b
 | 0,i,d,h,h1,h2,h3,h4=>by
  rw [insOuter,if_neg (by omega)];exact⟨Mix.refl _ _ _,fun x y k1 k2 k3=>h3 x y k1 k2 (by omega)⟩
 | n+1,i,d,h,h1,h2,h3,h4=>by
  rw [insOuter,if_pos (by omega)];obtain⟨p,p1,p2,p3,p4,p5,p6,p7,p8⟩:=xc lt a i d h1 (by omega);have hr:dj rk (insInner lt a i d) a (i+1):=by
   refine yF (f:=fun k=>rk d[k]!) (m:=i) (i:=p) h3 p1 p2 ?_ ?_ (fun k k1 k2=>congrArg rk (p5 k (.inl k2))) (congrArg rk p6) (fun k k1 k2=>congrArg rk (p7 k k1 k2))
   ·by_cases hp:p=a
    ·exact .inl hp
    ·right
     rcases p3 with p3 | p3
     ·exact absurd p3 hp
     ·rcases h4 (p - 1) i (by omega) (by omega) (Hl _) (by omega) with ⟨e,_⟩ | ⟨_,e⟩
      ·rw [p3] at e;cases e
      ·exact e
   ·by_cases hp:p=i
    ·exact .inl hp
    ·right
     rcases h4 p i (by omega) (by omega) (Hl _) (by omega) with ⟨_,e⟩ | ⟨e,_⟩
     ·exact e
     ·rw [p4 p (Hl _) (by omega)] at e;cases e
  obtain⟨o1,o2⟩:=AO lt rk a b n (i+1) (insInner lt a i d) (by omega) (by omega) (by rw [p8.size];exact h2) hr (fun x j x1 x2 x3 x4=>by
   rw [p5 j (.inr (by omega))];by_cases hx:x≤i
   ·obtain⟨y,y1,y2,e⟩:=p8.from' x x1 (by omega)
    rw [e];exact h4 y j y1 (by omega) (by omega) x4
   ·rw [p5 x (.inr (by omega))]
    exact h4 x j x1 x2 (by omega) x4)
  exact⟨(p8.mono (Hl _) (by omega)).trans o1,o2⟩
theorem wC {α:Type} [Inhabited α] (lt:α→α→Bool) (rk:α→Int) (a b:Nat) (d:Array α) (hb:b≤d.size)
  (h:∀x j,a≤x→x<j→j<b→(lt d[j]! d[x]! = true∧rk d[j]! < rk d[x]!)∨(lt d[j]! d[x]! = false∧rk d[x]! < rk d[j]!)) :
  Mix a b d (insertionSort lt d a b)∧dj rk (insertionSort lt d a b) a b :=
 AO lt rk a b _ (a+1) d rfl (by omega) hb (fun x y k1 k2 k3=>by omega) (fun x j x1 x2 _ x4=>h x j x1 x2 x4)
set_option maxRecDepth 100000
set_option maxHeartbeats 2000000 in
theorem wO {α:Type} [Inhabited α] (enc:α→Value) (lt:α→α→Bool) (rk:α→Int) (g:Nat) (lb:Array Value) (sf:Nat) (sb:Array Value) (blk off a m b:Nat) (d:Array α) (w00 w:World) (h00:SW enc w00 blk off d w) (hblk0:blk<w00.heap.size)
  (eg:∀args w,(callFunc g args).run Tryz.prog w = .ok (.enter g args) w) (hless:LessReads Tryz.prog g lb enc lt blk off d.size w00) (hswap:SwapSwaps Tryz.prog sf sb enc blk off d.size)
  {d0:Array α} (hH:Holds enc w00 blk off d0) (hd0:d0.size=d.size) (hsz:d.size<1000) (hb:m<b) (hbd:b≤d.size) (h2:dj rk d m b) (hc:Cmp lt rk d a m b) (hm:m=a+1) :
  Calls Tryz.prog 126 #[.agg #[.func (.func g) #[] lb,.func (.func sf) #[] sb],.int .i64 (a:Int),.int .i64 (m:Int),.int .i64 (b:Int)] w fun e w' =>
   e = .returned (.tuple #[])∧∃d',Mix a b d d'∧dj rk d' a b∧SW enc w blk off d' w':=by
 have hm1:(m:Int) - (a:Int)=1:=by omega
 have ham:m≤a+1∧a+1≤m:=by omega
 have HH2:dj rk d (a+1) b:=hm ▸ h2;clear hm h2;have hblk:blk<w.heap.size:=h00.lt hblk0;have hHw:Holds enc w blk off d:=h00.holds hblk0 hH hd0.symm;have hw1:SW enc w blk off d (w.alloc (.cells #[.func (.func g) #[] lb,.func (.func sf) #[] sb] 112)):=(Ip hHw).alloc _;have hw0:=h00.alloc (.cells #[.func (.func g) #[] lb,.func (.func sf) #[] sb] 112);have k0:(w.alloc (.cells #[.func (.func g) #[] lb,.func (.func sf) #[] sb] 112)).cell? ⟨w.heap.size,0,none⟩=some (.func (.func g) #[] lb):=by simp
 have k1:(w.alloc (.cells #[.func (.func g) #[] lb,.func (.func sf) #[] sb] 112)).cell? ⟨w.heap.size,1,none⟩=some (.func (.func sf) #[] sb):=by simp
 have hl1:w.heap.size<(w.alloc (.cells #[.func (.func g) #[] lb,.func (.func sf) #[] sb] 112)).heap.size:=by rw [alloc_eq_grow,size_grow];simp
 have hH1:=hw1.holds hblk hHw rfl
 go_enter Tryz.func126,Tryz.ntmps126
 go_wp2
 clear hm1;generalize w.alloc (.cells #[.func (.func g) #[] lb,.func (.func sf) #[] sb] 112)=W1 at *;have hb1:blk<W1.heap.size:=IL hblk hl1;have start1:SW enc W1 blk off d W1:=Ip hH1;have kk0:∀dk wr,SW enc W1 blk off dk wr→wr.cell? ⟨w.heap.size,0,none⟩=some (.func (.func g) #[] lb):=fun dk wr h=>(dy h (show w.heap.size≠blk by omega) hl1).trans k0
 have kk1:∀dk wr,SW enc W1 blk off dk wr→wr.cell? ⟨w.heap.size,1,none⟩=some (.func (.func sf) #[] sb):=fun dk wr h=>(dy h (show w.heap.size≠blk by omega) hl1).trans k1
 have hold:∀dk wr,dk.size=d.size→SW enc W1 blk off dk wr→Holds enc wr blk off dk:=fun dk wr hs h=>h.holds hb1 hH1 hs
 have toW:∀dk wr,dk.size=d.size→SW enc W1 blk off dk wr→SW enc w00 blk off dk wr:=fun dk wr hs h=>cy hw0 hblk0 h hs
 have toB:∀dk wr,dk.size=d.size→SW enc W1 blk off dk wr→SW enc w blk off dk wr:=fun dk wr hs h=>cy hw1 hblk h hs
 clear k0 k1 hH hH1 hw0 hw1 hHw h00
 go_loopw [8,9] (fun vi vj wr=>∃(i j:Nat),vi = .int .i64 i∧vj = .int .i64 j∧a+1≤i∧i≤j∧j≤b∧(i=a+1∨rk d[i - 1]! < rk d[a]!)∧(j=b∨rk d[a]! < rk d[j]!)∧SW enc W1 blk off d wr) (fun vi vj _=>(intOf vj).toNat - (intOf vi).toNat)
 case atStart=>exact⟨m,b,rfl,rfl,by omega,by omega,by omega,.inl (by omega),.inl rfl,start1⟩
 case round =>
  obtain⟨i,j,rfl,rfl,hai,hij,hjb,q1,q2,hwr⟩:=hrel;by_cases hp:i<j
  ·have hpi:(i:Int)<(j:Int):=by omega
   have c0:=kk0 _ _ hwr;have hl:=(toW _ _ rfl hwr).less hless rfl ((i+j) / 2) a (by omega) (by omega);rw [show(((i+j) / 2:Nat):Int)=((i:Int)+j) / 2 by omega] at hl;have HQ:Hid ((i=a+1∨rk d[i - 1]! < rk d[a]!)∧(j=b∨rk d[a]! < rk d[j]!)):=⟨q1,q2⟩
   have hcc:=hc a ((i+j) / 2) (Hl _) (by omega) (by omega) (by omega);clear q1 q2;rcases hcc with ⟨hv,hrk⟩ | ⟨hv,hrk⟩
   ·rw [hv] at hl
    go_wp2_with (go_at_fn g;refine hl.mono ?_;rintro e w' ⟨rfl,q,rfl⟩)
    refine⟨⟨(i+j) / 2+1,j,congrArg (Hm .i64) (by omega),rfl,by omega,by omega,by omega,.inr ?_,HQ.out.2,hwr.drewN q⟩,?_⟩
    ·rw [Iz]
     exact hrk
    ·show(j:Int).toNat - (((i:Int)+j) / 2+1).toNat<(j:Int).toNat - (i:Int).toNat
     omega
   ·rw [hv] at hl
    go_wp2_with (go_at_fn g;refine hl.mono ?_;rintro e w' ⟨rfl,q,rfl⟩)
    refine⟨⟨i,(i+j) / 2,rfl,congrArg (Hm .i64) (by omega),by omega,by omega,by omega,HQ.out.1,.inr hrk,hwr.drewN q⟩,?_⟩
    show(((i:Int)+j) / 2).toNat - (i:Int).toNat<(j:Int).toNat - (i:Int).toNat
    omega
  ·have hpi:¬(i:Int)<(j:Int):=by omega
   have hij2:i=j:=by omega
   subst hij2;have HQ:Hid ((i=a+1∨rk d[i - 1]! < rk d[a]!)∧(i=b∨rk d[a]! < rk d[i]!)):=⟨q1,q2⟩
   clear q1 q2
   go_wp2
   go_loopw [11] (fun vk wx=>∃(k:Nat) (dk:Array α),vk = .int .i64 k∧a≤k∧k+1≤i∧Mix a b d dk∧(∀x,a≤x→x<k→dk[x]! = d[x+1]!)∧dk[k]! = d[a]! ∧ (∀x,k<x→dk[x]! = d[x]!)∧SW enc W1 blk off dk wx) (fun vk _=>i - (intOf vk).toNat)
   case atStart=>exact⟨a,d,rfl,Hl _,by omega,Mix.refl _ _ _,fun x _ _=>by omega,rfl,fun _ _=>rfl,hwr⟩
   case round =>
    obtain⟨k,dk,rfl,hak,hki,hmx,g1,g2,g3,hw2⟩:=hrel;have hs:=hmx.size;have c1:=kk1 _ _ hw2;by_cases hq:k+1<i
    ·have hqi:(k:Int)<(i:Int) - 1:=by omega
     have hsw:=hswap wr dk (hold _ _ hs hw2) hs k (k+1) (by omega) (by omega);rw [show((k+1:Nat):Int)=(k:Int)+1 by omega] at hsw;have hsw2:=hw2.swap hb1 k (k+1) (by omega) (by omega);have G:=swp_get dk (i:=k) (j:=k+1) (by omega) (by omega);have HG:Hid _:=HN g1 (HN g2 (HN g3 G));clear g1 g2 g3 G hs
     go_wp2
     refine⟨⟨k+1,swp dk k (k+1),congrArg (Hm .i64) (by omega),by omega,by omega,hmx.trans (Mix.swap dk (by omega) (by omega) (by omega) (by omega) (by rw [hmx.size];exact hbd)),fun x x1 x2=>?_,?_,fun x x1=>?_,hsw2⟩,?_⟩
     ·obtain⟨g1,g2,g3,G⟩:=HG.out
      rw [G,if_neg (by omega)];split
      ·rename_i e
       rw [e];exact g3 _ (by omega)
      ·exact g1 x x1 (by omega)
     ·obtain⟨g1,g2,g3,G⟩:=HG.out
      rw [G,if_pos rfl];exact g2
     ·obtain⟨g1,g2,g3,G⟩:=HG.out
      rw [G,if_neg (by omega),if_neg (by omega)];exact g3 x (by omega)
     ·show i - ((k:Int)+1).toNat<i - (k:Int).toNat
      omega
    ·have hqi:¬(k:Int)<(i:Int) - 1:=by omega
     have hk:k=i - 1:=by omega
     subst hk;have HG:Hid _:=HN g1 (HN g2 g3);clear g1 g2 g3
     go_wp2
     go_returns
     obtain⟨g1,g2,g3⟩:=HG.out;obtain⟨q1,q2⟩:=HQ.out;exact⟨rfl,dk,hmx,EP (f:=fun t=>rk d[t]!) (g:=fun t=>rk dk[t]!) (i:=i) HH2 hai (by omega) q1 q2 (fun x x1 x2=>congrArg rk (g1 x x1 (by omega))) (congrArg rk g2) (fun x x1 x2=>congrArg rk (g3 x (by omega))),toB _ _ hs hw2⟩
set_option maxHeartbeats 2000000 in
theorem uq {α:Type} [Inhabited α] (enc:α→Value) (lt:α→α→Bool) (rk:α→Int) (g:Nat) (lb:Array Value) (sf:Nat) (sb:Array Value) (blk off a m b:Nat) (d:Array α) (w00 w:World) (h00:SW enc w00 blk off d w) (hblk0:blk<w00.heap.size)
  (eg:∀args w,(callFunc g args).run Tryz.prog w = .ok (.enter g args) w) (hless:LessReads Tryz.prog g lb enc lt blk off d.size w00) (hswap:SwapSwaps Tryz.prog sf sb enc blk off d.size)
  {d0:Array α} (hH:Holds enc w00 blk off d0) (hd0:d0.size=d.size) (hsz:d.size<1000) (ha:a<m) (hbd:b≤d.size) (h1:dj rk d a m) (hc:Cmp lt rk d a m b) (hne:m≠a+1) (hm:b=m+1) :
  Calls Tryz.prog 126 #[.agg #[.func (.func g) #[] lb,.func (.func sf) #[] sb],.int .i64 (a:Int),.int .i64 (m:Int),.int .i64 (b:Int)] w fun e w' =>
   e = .returned (.tuple #[])∧∃d',Mix a b d d'∧dj rk d' a b∧SW enc w blk off d' w':=by
 have hm0:((m:Int) - (a:Int)==1)=false:=by simp;omega
 have hm1:(b:Int) - (m:Int)=1:=by omega
 have hbm:b≤m+1∧m+1≤b:=by omega
 clear hm;have hblk:blk<w.heap.size:=h00.lt hblk0;have hHw:Holds enc w blk off d:=h00.holds hblk0 hH hd0.symm;have hw1:SW enc w blk off d (w.alloc (.cells #[.func (.func g) #[] lb,.func (.func sf) #[] sb] 112)):=(Ip hHw).alloc _;have hw0:=h00.alloc (.cells #[.func (.func g) #[] lb,.func (.func sf) #[] sb] 112);have k0:(w.alloc (.cells #[.func (.func g) #[] lb,.func (.func sf) #[] sb] 112)).cell? ⟨w.heap.size,0,none⟩=some (.func (.func g) #[] lb):=by simp
 have k1:(w.alloc (.cells #[.func (.func g) #[] lb,.func (.func sf) #[] sb] 112)).cell? ⟨w.heap.size,1,none⟩=some (.func (.func sf) #[] sb):=by simp
 have hl1:w.heap.size<(w.alloc (.cells #[.func (.func g) #[] lb,.func (.func sf) #[] sb] 112)).heap.size:=by rw [alloc_eq_grow,size_grow];simp
 have hH1:=hw1.holds hblk hHw rfl
 go_enter Tryz.func126,Tryz.ntmps126
 go_wp2
 clear hm1 hm0;generalize w.alloc (.cells #[.func (.func g) #[] lb,.func (.func sf) #[] sb] 112)=W1 at *;have hb1:blk<W1.heap.size:=IL hblk hl1;have start1:SW enc W1 blk off d W1:=Ip hH1;have kk0:∀dk wr,SW enc W1 blk off dk wr→wr.cell? ⟨w.heap.size,0,none⟩=some (.func (.func g) #[] lb):=fun dk wr h=>(dy h (show w.heap.size≠blk by omega) hl1).trans k0
 have kk1:∀dk wr,SW enc W1 blk off dk wr→wr.cell? ⟨w.heap.size,1,none⟩=some (.func (.func sf) #[] sb):=fun dk wr h=>(dy h (show w.heap.size≠blk by omega) hl1).trans k1
 have hold:∀dk wr,dk.size=d.size→SW enc W1 blk off dk wr→Holds enc wr blk off dk:=fun dk wr hs h=>h.holds hb1 hH1 hs
 have toW:∀dk wr,dk.size=d.size→SW enc W1 blk off dk wr→SW enc w00 blk off dk wr:=fun dk wr hs h=>cy hw0 hblk0 h hs
 have toB:∀dk wr,dk.size=d.size→SW enc W1 blk off dk wr→SW enc w blk off dk wr:=fun dk wr hs h=>cy hw1 hblk h hs
 clear k0 k1 hH hH1 hw0 hw1 hHw h00
 go_loopw [12,13] (fun vi vj wr=>∃(i j:Nat),vi = .int .i64 i∧vj = .int .i64 j∧a≤i∧i≤j∧j≤m∧(i=a∨rk d[i - 1]! < rk d[m]!)∧(j=m∨rk d[m]! < rk d[j]!)∧SW enc W1 blk off d wr) (fun vi vj _=>(intOf vj).toNat - (intOf vi).toNat)
 case atStart=>exact⟨a,m,rfl,rfl,by omega,by omega,by omega,.inl rfl,.inl rfl,start1⟩
 case round =>
  obtain⟨i,j,rfl,rfl,hai,hij,hjb,q1,q2,hwr⟩:=hrel;by_cases hp:i<j
  ·have hpi:(i:Int)<(j:Int):=by omega
   have c0:=kk0 _ _ hwr;have hl:=(toW _ _ rfl hwr).less hless rfl m ((i+j) / 2) (by omega) (by omega);rw [show(((i+j) / 2:Nat):Int)=((i:Int)+j) / 2 by omega] at hl;have HQ:Hid ((i=a∨rk d[i - 1]! < rk d[m]!)∧(j=m∨rk d[m]! < rk d[j]!)):=⟨q1,q2⟩
   have hcc:=hc ((i+j) / 2) m (by omega) (by omega) (Hl _) (by omega);clear q1 q2;rcases hcc with ⟨hv,hrk⟩ | ⟨hv,hrk⟩
   ·rw [hv] at hl
    go_wp2_with (go_at_fn g;refine hl.mono ?_;rintro e w' ⟨rfl,q,rfl⟩)
    refine⟨⟨i,(i+j) / 2,rfl,congrArg (Hm .i64) (by omega),by omega,by omega,by omega,HQ.out.1,.inr hrk,hwr.drewN q⟩,?_⟩
    show(((i:Int)+j) / 2).toNat - (i:Int).toNat<(j:Int).toNat - (i:Int).toNat
    omega
   ·rw [hv] at hl
    go_wp2_with (go_at_fn g;refine hl.mono ?_;rintro e w' ⟨rfl,q,rfl⟩)
    refine⟨⟨(i+j) / 2+1,j,congrArg (Hm .i64) (by omega),rfl,by omega,by omega,by omega,.inr ?_,HQ.out.2,hwr.drewN q⟩,?_⟩
    ·rw [Iz]
     exact hrk
    ·show(j:Int).toNat - (((i:Int)+j) / 2+1).toNat<(j:Int).toNat - (i:Int).toNat
     omega
  ·have hpi:¬(i:Int)<(j:Int):=by omega
   have hij2:i=j:=by omega
   subst hij2;have HQ:Hid ((i=a∨rk d[i - 1]! < rk d[m]!)∧(i=m∨rk d[m]! < rk d[i]!)):=⟨q1,q2⟩
   clear q1 q2
   go_wp2
   go_loopw [15] (fun vk wx=>∃(k:Nat) (dk:Array α),vk = .int .i64 k∧i≤k∧k≤m∧Mix a b d dk∧(∀x,k<x→x≤m→dk[x]! = d[x - 1]!)∧dk[k]! = d[m]! ∧ (∀x,x<k→dk[x]! = d[x]!)∧SW enc W1 blk off dk wx) (fun vk _=>(intOf vk).toNat)
   case atStart=>exact⟨m,d,rfl,by omega,Hl _,Mix.refl _ _ _,fun x _ _=>by omega,rfl,fun _ _=>rfl,hwr⟩
   case round =>
    obtain⟨k,dk,rfl,hik,hkm,hmx,g1,g2,g3,hw2⟩:=hrel;have hs:=hmx.size;have c1:=kk1 _ _ hw2;by_cases hq:i<k
    ·have hqi:(i:Int)<(k:Int):=by omega
     have hsw:=hswap wr dk (hold _ _ hs hw2) hs k (k - 1) (by omega) (by omega);rw [show((k - 1:Nat):Int)=(k:Int) - 1 by omega] at hsw;have hsw2:=hw2.swap hb1 k (k - 1) (by omega) (by omega);have G:=swp_get dk (i:=k) (j:=k - 1) (by omega) (by omega);have HG:Hid _:=HN g1 (HN g2 (HN g3 G));clear g1 g2 g3 G hs
     go_wp2
     refine⟨⟨k - 1,swp dk k (k - 1),congrArg (Hm .i64) (by omega),by omega,by omega,hmx.trans (Mix.swap dk (by omega) (by omega) (by omega) (by omega) (by rw [hmx.size];exact hbd)),fun x x1 x2=>?_,?_,fun x x1=>?_,hsw2⟩,?_⟩
     ·obtain⟨g1,g2,g3,G⟩:=HG.out
      rw [G,if_neg (by omega)];split
      ·rename_i e
       rw [e];exact g3 _ (by omega)
      ·exact g1 x (by omega) x2
     ·obtain⟨g1,g2,g3,G⟩:=HG.out
      rw [G,if_pos rfl];exact g2
     ·obtain⟨g1,g2,g3,G⟩:=HG.out
      rw [G,if_neg (by omega),if_neg (by omega)];exact g3 x (by omega)
     ·show((k:Int) - 1).toNat<(k:Int).toNat
      omega
    ·have hqi:¬(i:Int)<(k:Int):=by omega
     have hk:k=i:=by omega
     subst hk;have HG:Hid _:=HN g1 (HN g2 g3);clear g1 g2 g3
     go_wp2
     go_returns
     obtain⟨g1,g2,g3⟩:=HG.out;obtain⟨q1,q2⟩:=HQ.out;have hb':b=m+1:=by omega
     exact⟨rfl,dk,hmx,hb' ▸ yF (f:=fun t=>rk d[t]!) (g:=fun t=>rk dk[t]!) (i:=k) h1 hai hkm q1 q2 (fun x x1 x2=>congrArg rk (g3 x x2)) (congrArg rk g2) (fun x x1 x2=>congrArg rk (g1 x x1 x2)),toB _ _ hs hw2⟩
set_option maxRecDepth 100000
set_option maxHeartbeats 2000000 in
theorem vW {α:Type} [Inhabited α] (enc:α→Value) (lt:α→α→Bool) (rk:α→Int) (g:Nat) (lb:Array Value) (sf:Nat) (sb:Array Value) (blk off a m b:Nat) (d:Array α) (w00 w:World) (h00:SW enc w00 blk off d w) (hblk0:blk<w00.heap.size)
  (eg:∀args w,(callFunc g args).run Tryz.prog w = .ok (.enter g args) w) (hless:LessReads Tryz.prog g lb enc lt blk off d.size w00) (hswap:SwapSwaps Tryz.prog sf sb enc blk off d.size)
  {d0:Array α} (hH:Holds enc w00 blk off d0) (hd0:d0.size=d.size) (hsz:d.size<1000) (ha:a<m) (hb:m<b) (hbd:b≤d.size) (h1:dj rk d a m) (h2:dj rk d m b) (hc:Cmp lt rk d a m b) (hne:m≠a+1) (hne2:b≠m+1)
  (ih:∀(a' m' b':Nat) (d':Array α) (w':World),b' - a'<b - a→SW enc w00 blk off d' w'→d'.size=d.size→a'<m'→m'<b'→b'≤d.size→dj rk d' a' m'→dj rk d' m' b'→Cmp lt rk d' a' m' b' →
   Calls Tryz.prog 126 #[.agg #[.func (.func g) #[] lb,.func (.func sf) #[] sb],.int .i64 (a':Int),.int .i64 (m':Int),.int .i64 (b':Int)] w' fun e w'' =>
    e = .returned (.tuple #[])∧∃d'',Mix a' b' d' d''∧dj rk d'' a' b'∧SW enc w' blk off d'' w'') :
  Calls Tryz.prog 126 #[.agg #[.func (.func g) #[] lb,.func (.func sf) #[] sb],.int .i64 (a:Int),.int .i64 (m:Int),.int .i64 (b:Int)] w fun e w' =>
   e = .returned (.tuple #[])∧∃d',Mix a b d d'∧dj rk d' a b∧SW enc w blk off d' w':=by
 have hm0:((m:Int) - (a:Int)==1)=false:=by simp;omega
 have hm1:((b:Int) - (m:Int)==1)=false:=by simp;omega
 obtain⟨mid,hmid⟩:∃mid,mid=(a+b) / 2:=⟨_,rfl⟩
 obtain⟨nn,hn1,hn2⟩:∃n,n≤mid+m∧mid+m≤n:=⟨mid+m,Hl _,Hl _⟩
 obtain⟨lo,hlo⟩:∃lo,lo=if mid<m then mid+m - b else a:=⟨_,rfl⟩
 obtain⟨hi,hhi⟩:∃hi,hi=if mid<m then mid else m:=⟨_,rfl⟩
 have hblk:blk<w.heap.size:=h00.lt hblk0;have hHw:Holds enc w blk off d:=h00.holds hblk0 hH hd0.symm;have hw1:SW enc w blk off d (w.alloc (.cells #[.func (.func g) #[] lb,.func (.func sf) #[] sb] 112)):=(Ip hHw).alloc _;have hw0:=h00.alloc (.cells #[.func (.func g) #[] lb,.func (.func sf) #[] sb] 112);have k0:(w.alloc (.cells #[.func (.func g) #[] lb,.func (.func sf) #[] sb] 112)).cell? ⟨w.heap.size,0,none⟩=some (.func (.func g) #[] lb):=by simp
 have k1:(w.alloc (.cells #[.func (.func g) #[] lb,.func (.func sf) #[] sb] 112)).cell? ⟨w.heap.size,1,none⟩=some (.func (.func sf) #[] sb):=by simp
 have hl1:w.heap.size<(w.alloc (.cells #[.func (.func g) #[] lb,.func (.func sf) #[] sb] 112)).heap.size:=by rw [alloc_eq_grow,size_grow];simp
 have hH1:=hw1.holds hblk hHw rfl
 go_enter Tryz.func126,Tryz.ntmps126
 go_upto_if 106 with fail
 generalize w.alloc (.cells #[.func (.func g) #[] lb,.func (.func sf) #[] sb] 112)=W1 at *;have hb1:blk<W1.heap.size:=IL hblk hl1;have start1:SW enc W1 blk off d W1:=Ip hH1;have kk0:∀dk wr,SW enc W1 blk off dk wr→wr.cell? ⟨w.heap.size,0,none⟩=some (.func (.func g) #[] lb):=fun dk wr h=>(dy h (show w.heap.size≠blk by omega) hl1).trans k0
 have kk1:∀dk wr,SW enc W1 blk off dk wr→wr.cell? ⟨w.heap.size,1,none⟩=some (.func (.func sf) #[] sb):=fun dk wr h=>(dy h (show w.heap.size≠blk by omega) hl1).trans k1
 have hold:∀dk wr,dk.size=d.size→SW enc W1 blk off dk wr→Holds enc wr blk off dk:=fun dk wr hs h=>h.holds hb1 hH1 hs
 have toW:∀dk wr,dk.size=d.size→SW enc W1 blk off dk wr→SW enc w00 blk off dk wr:=fun dk wr hs h=>cy hw0 hblk0 h hs
 have toB:∀dk wr,dk.size=d.size→SW enc W1 blk off dk wr→SW enc w blk off dk wr:=fun dk wr hs h=>cy hw1 hblk h hs
 clear k0 k1 hH hH1 hw0 hw1 hHw h00
 go_cut [16,17,18,19] from 23 (fun t16 t17 t18 t19 wc=>t16 = .int .i64 (mid:Int)∧t17 = .int .i64 (nn:Int)∧t18 = .int .i64 (lo:Int)∧t19 = .int .i64 (hi:Int)∧W1=wc)
 case first =>
  by_cases hmm:mid<m
  ·have hmmi:((a:Int)+b) / 2<(m:Int):=by omega
   rw [if_pos hmm] at hlo hhi
   go_wp2
   go_meet
   case rel=>exact⟨congrArg (Hm .i64) (by omega),congrArg (Hm .i64) (by omega),congrArg (Hm .i64) (by omega),congrArg (Hm .i64) (by omega),rfl⟩
  ·have hmmi:¬((a:Int)+b) / 2<(m:Int):=by omega
   rw [if_neg hmm] at hlo hhi
   go_wp2
   go_meet
   case rel=>exact⟨congrArg (Hm .i64) (by omega),congrArg (Hm .i64) (by omega),congrArg (Hm .i64) (by omega),congrArg (Hm .i64) (by omega),rfl⟩
 case rest =>
  obtain⟨rfl,rfl,rfl,rfl,rfl⟩:=hcut;clear hm0 hm1;have hlh:lo≤hi:=by rw [hlo,hhi];split<;>omega
  have hrng:∀c,lo≤c→c<hi→a≤c∧c<m∧m≤mid+m - 1 - c∧mid+m - 1 - c<b∧c+1≤mid+m:=by
   intro c c1 c2;by_cases hmm:mid<m
   ·rw [if_pos hmm] at hlo hhi
    omega
   ·rw [if_neg hmm] at hlo hhi
    omega
  have HLO:Hid (lo=(if mid<m then mid+m - b else a)∧hi=(if mid<m then mid else m)∧mid=(a+b) / 2):=⟨hlo,hhi,hmid⟩
  have hmidle:a<mid∧mid<b∧mid+m<2000:=by omega
  clear hlo hhi hmid
  go_wp2
  go_loopw [18,19] (fun vs vr wr=>∃(s r:Nat),vs = .int .i64 s∧vr = .int .i64 r∧lo≤s∧s≤r∧r≤hi∧(s=lo∨rk d[s - 1]! < rk d[mid+m - s]!)∧(r=hi∨rk d[mid+m - 1 - r]! < rk d[r]!)∧SW enc W1 blk off d wr) (fun vs vr _=>(intOf vr).toNat - (intOf vs).toNat)
  case atStart=>exact⟨lo,hi,rfl,rfl,Hl _,hlh,Hl _,.inl rfl,.inl rfl,start1⟩
  case round =>
   obtain⟨s,r,rfl,rfl,hls,hsr,hrh,q1,q2,hwr⟩:=hrel;by_cases hp:s<r
   ·have hpi:(s:Int)<(r:Int):=by omega
    have c0:=kk0 _ _ hwr;obtain⟨z1,z2,z3,z4,z5⟩:=hrng ((s+r) / 2) (by omega) (by omega);have hl:=(toW _ _ rfl hwr).less hless rfl (mid+m - 1 - (s+r) / 2) ((s+r) / 2) (by omega) (by omega);rw [show(((s+r) / 2:Nat):Int)=((s:Int)+r) / 2 by omega,show((mid+m - 1 - (s+r) / 2:Nat):Int)=(nn:Int) - 1 - ((s:Int)+r) / 2 by omega] at hl;have HQ:Hid ((s=lo∨rk d[s - 1]! < rk d[mid+m - s]!)∧(r=hi∨rk d[mid+m - 1 - r]! < rk d[r]!)):=⟨q1,q2⟩
    have hcc:=hc ((s+r) / 2) (mid+m - 1 - (s+r) / 2) z1 z2 z3 z4;clear q1 q2;rcases hcc with ⟨hv,hrk⟩ | ⟨hv,hrk⟩
    ·rw [hv] at hl
     go_wp2_with (go_at_fn g;refine hl.mono ?_;rintro e w' ⟨rfl,q,rfl⟩)
     refine⟨⟨s,(s+r) / 2,rfl,congrArg (Hm .i64) (by omega),by omega,by omega,by omega,HQ.out.1,.inr hrk,hwr.drewN q⟩,?_⟩
     show(((s:Int)+r) / 2).toNat - (s:Int).toNat<(r:Int).toNat - (s:Int).toNat
     omega
    ·rw [hv] at hl
     go_wp2_with (go_at_fn g;refine hl.mono ?_;rintro e w' ⟨rfl,q,rfl⟩)
     refine⟨⟨(s+r) / 2+1,r,congrArg (Hm .i64) (by omega),rfl,by omega,by omega,by omega,.inr ?_,HQ.out.2,hwr.drewN q⟩,?_⟩
     ·rw [Iz,show mid+m - ((s+r) / 2+1)=mid+m - 1 - (s+r) / 2 by omega]
      exact hrk
     ·show(r:Int).toNat - (((s:Int)+r) / 2+1).toNat<(r:Int).toNat - (s:Int).toNat
      omega
   ·have hpi:¬(s:Int)<(r:Int):=by omega
    have hsr2:s=r:=by omega
    subst hsr2;clear hrng;obtain⟨e,he⟩:∃e,e=mid+m - s:=⟨_,rfl⟩
    obtain⟨HL1,HL2,HL3⟩:=HLO.out;obtain⟨p1,p2,p3,p4,p5,p6,_,_⟩:=vK (f:=fun i=>rk d[i]!) (lo:=lo) (hi:=hi) (s:=s) h1 h2 ha hb (by rw [←HL3];exact HL1) (by rw [←HL3];exact HL2) hls hrh (by rw [←HL3];exact q1) (by rw [←HL3];exact q2);rw [←HL3] at p3 p4 p5 p6;rw [←he] at p3 p4 p6;have HP:Hid (∀d1,Cr d d1 s m e→dj rk d1 a s∧dj rk d1 s mid∧dj rk d1 mid e∧dj rk d1 e b∧(∀i j,a≤i→i<mid→mid≤j→j<b→rk d1[i]! < rk d1[j]!)∧Cmp lt rk d1 a s mid∧Cmp lt rk d1 mid e b):=fun d1 hr =>
     Bq lt rk d d1 h1 h2 hc ha hb HL3 HL1 HL2 hls hrh he q1 q2 hr
    have hsz2:s≤mid+m∧e+s≤mid+m∧mid+m≤e+s:=by omega
    clear he;clear HL1 HL2 HL3 HLO q1 q2 hls hrh hlh hc h1 h2
    go_upto_region 40 with fail
    go_cut [22,145] from 23 (fun t22 t145 wx=>t22 = .int .i64 (e:Int)∧t145 = .bool (decide (s<m)&&decide (m<e))∧SW enc W1 blk off d wx)
    case first =>
     by_cases x1:s<m
     ·have x1':(s:Int)<(m:Int):=by omega
      by_cases x2:m<e
      ·have x2':(m:Int)<(nn:Int) - (s:Int):=by omega
       go_wp2
       go_meet
       case rel=>exact⟨congrArg (Hm .i64) (by omega),by simp [x1,x2],hwr⟩
      ·have x2':¬(m:Int)<(nn:Int) - (s:Int):=by omega
       go_wp2
       go_meet
       case rel=>exact⟨congrArg (Hm .i64) (by omega),by simp [x1,x2],hwr⟩
     ·have x1':¬(s:Int)<(m:Int):=by omega
      go_wp2
      go_meet
      case rel=>exact⟨congrArg (Hm .i64) (by omega),by simp [x1],hwr⟩
    case rest =>
     obtain⟨rfl,rfl,hwr⟩:=hcut
     go_upto_if 145 with fail
     go_cut [] from 23 (fun wx=>∃d1:Array α,Cr d d1 s m e∧Mix a b d d1∧SW enc W1 blk off d1 wx)
     case first =>
      have c0:=kk0 _ _ hwr;have c1:=kk1 _ _ hwr;by_cases x:s<m∧m<e
      ·have hdb:(decide (s<m)&&decide (m<e))=true:=by simp [x.1,x.2]
       have hr:=xB enc (.func (.func g) #[] lb) sf sb blk off s m e d wc (hwr.lt hb1) hswap (hold _ _ rfl hwr) hsz x.1 x.2 (by omega)
       go_wp2_with (go_at_call 145;refine hr.mono ?_;rintro e' w' ⟨rfl,k,hk,hx⟩)
       go_meet
       case rel=>exact⟨_,Bx d x.1 x.2 (by omega) hk,Mix.rot m k _ _ d (by omega) (by omega) (by omega) hbd,cy hwr hb1 hx (qk _ _ _ _ _)⟩
      ·have hdb:(decide (s<m)&&decide (m<e))=false:=by
        rw [It];simp only [decide_eq_false_iff_not];omega
       go_wp2
       go_meet
       case rel=>exact⟨d,EY d p2 p3 (by omega),Mix.refl _ _ _,hwr⟩
     case rest =>
      obtain⟨d1,hrot,hmx1,hwr1⟩:=hcut;obtain⟨o1,o2,o3,o4,o5,o6,o7⟩:=HP.out d1 hrot;have hs1:=hmx1.size;clear hrot HP hwr
      go_upto_region 42 with fail
      go_cut [158] from 23 (fun t158 wx=>t158 = .bool (decide (a<s)&&decide (s<mid))∧SW enc W1 blk off d1 wx)
      case first =>
       by_cases x1:a<s
       ·have x1':(a:Int)<(s:Int):=by omega
        by_cases x2:s<mid
        ·have x2':(s:Int)<(mid:Int):=by omega
         go_wp2
         go_meet
         case rel=>exact⟨by simp [x1,x2],hwr1⟩
        ·have x2':¬(s:Int)<(mid:Int):=by omega
         go_wp2
         go_meet
         case rel=>exact⟨by simp [x1,x2],hwr1⟩
       ·have x1':¬(a:Int)<(s:Int):=by omega
        go_wp2
        go_meet
        case rel=>exact⟨by simp [x1],hwr1⟩
      case rest =>
       obtain⟨rfl,hwr1⟩:=hcut
       go_upto_if 158 with fail
       go_cut [] from 23 (fun wx=>∃d2:Array α,Mix a mid d1 d2∧dj rk d2 a mid∧SW enc W1 blk off d2 wx)
       case first =>
        have c0:=kk0 _ _ hwr1;have c1:=kk1 _ _ hwr1;by_cases x:a<s∧s<mid
        ·have hdb:(decide (a<s)&&decide (s<mid))=true:=by simp [x.1,x.2]
         have hr:=ih a s mid d1 wc (by omega) (toW _ _ hs1 hwr1) hs1 x.1 x.2 (by omega) o1 o2 o6
         go_wp2_with (go_at_call 126;refine hr.mono ?_;rintro e' w' ⟨rfl,d2,g1,g2,g3⟩)
         go_meet
         case rel=>exact⟨d2,g1,g2,cy hwr1 hb1 g3 (by rw [g1.size])⟩
        ·have hdb:(decide (a<s)&&decide (s<mid))=false:=by
          rw [It];simp only [decide_eq_false_iff_not];omega
         go_wp2
         go_meet
         case rel =>
          refine⟨d1,Mix.refl _ _ _,?_,hwr1⟩
          have hh:s=a∨s=mid:=by omega
          rcases hh with hh | hh
          ·rw [←hh];exact o2
          ·rw [←hh];exact o1
       case rest =>
        obtain⟨d2,g1,g2,hwr2⟩:=hcut;have hs2:d2.size=d.size:=g1.size.trans hs1;have o3':dj rk d2 mid e:=sA o3 g1 (.inl (Hl _));have o4':dj rk d2 e b:=sA o4 g1 (.inl p6);have o7':Cmp lt rk d2 mid e b:=CD o7 g1 (.inl (Hl _));have HW:Hid (∀d3,Mix mid b d2 d3→dj rk d3 mid b→Mix a b d d3∧dj rk d3 a b):=fun d3 m3 r3=>BT rk hmx1 (by omega) (by omega) g1 g2 m3 r3 o5
        clear o1 o2 o3 o4 o5 o6 o7 g1 g2 hwr1 hmx1
        go_upto_region 44 with fail
        go_cut [171] from 23 (fun t171 wx=>t171 = .bool (decide (mid<e)&&decide (e<b))∧SW enc W1 blk off d2 wx)
        case first =>
         by_cases x1:mid<e
         ·have x1':(mid:Int)<(e:Int):=by omega
          by_cases x2:e<b
          ·have x2':(e:Int)<(b:Int):=by omega
           go_wp2
           go_meet
           case rel=>exact⟨by simp [x1,x2],hwr2⟩
          ·have x2':¬(e:Int)<(b:Int):=by omega
           go_wp2
           go_meet
           case rel=>exact⟨by simp [x1,x2],hwr2⟩
         ·have x1':¬(mid:Int)<(e:Int):=by omega
          go_wp2
          go_meet
          case rel=>exact⟨by simp [x1],hwr2⟩
        case rest =>
         obtain⟨rfl,hwr2⟩:=hcut;have c0:=kk0 _ _ hwr2;have c1:=kk1 _ _ hwr2;by_cases x:mid<e∧e<b
         ·have hdb:(decide (mid<e)&&decide (e<b))=true:=by simp [x.1,x.2]
          have hr:=ih mid e b d2 wc (by omega) (toW _ _ hs2 hwr2) hs2 x.1 x.2 (by omega) o3' o4' o7'
          go_wp2_with (go_at_call 126;refine hr.mono ?_;rintro e' w' ⟨rfl,d3,g1,g2,g3⟩)
          go_end0
          obtain⟨z1,z2⟩:=HW.out d3 g1 g2;exact⟨rfl,d3,z1,z2,toB _ _ (g1.size.trans hs2) (cy hwr2 hb1 g3 g1.size)⟩
         ·have hdb:(decide (mid<e)&&decide (e<b))=false:=by
           rw [It];simp only [decide_eq_false_iff_not];omega
          have hr:dj rk d2 mid b:=by
           have hh:e=mid∨e=b:=by omega
           rcases hh with hh | hh
           ·rw [←hh];exact o4'
           ·rw [←hh];exact o3'
          go_wp2
          go_end0
          obtain⟨z1,z2⟩:=HW.out d2 (Mix.refl _ _ _) hr;exact⟨rfl,d2,z1,z2,toB _ _ hs2 hwr2⟩
theorem uL {α:Type} [Inhabited α] (enc:α→Value) (lt:α→α→Bool) (rk:α→Int) (g:Nat) (lb:Array Value) (sf:Nat) (sb:Array Value) (blk off n:Nat) (w00:World) (hblk0:blk<w00.heap.size)
  (eg:∀args w,(callFunc g args).run Tryz.prog w = .ok (.enter g args) w) (hless:LessReads Tryz.prog g lb enc lt blk off n w00) (hswap:SwapSwaps Tryz.prog sf sb enc blk off n) (hsz:n<1000) (d0:Array α) (hH:Holds enc w00 blk off d0) (hd0:d0.size=n) :
  ∀(k a m b:Nat) (d:Array α) (w:World),b - a≤k→SW enc w00 blk off d w→d.size=n→a<m→m<b→b≤d.size→dj rk d a m→dj rk d m b→Cmp lt rk d a m b →
  Calls Tryz.prog 126 #[.agg #[.func (.func g) #[] lb,.func (.func sf) #[] sb],.int .i64 (a:Int),.int .i64 (m:Int),.int .i64 (b:Int)] w fun e w' =>
   e = .returned (.tuple #[])∧∃d',Mix a b d d'∧dj rk d' a b∧SW enc w blk off d' w':=by
 intro k;induction k with
 | zero=>intro a m b d w h;omega
 | succ k ih =>
  intro a m b d w hk h00 hd ha hb hbd h1 h2 hc;subst hd;by_cases e1:m=a+1
  ·exact wO enc lt rk g lb sf sb blk off a m b d w00 w h00 hblk0 eg hless hswap hH (hd0:=hd0) hsz hb hbd h2 hc e1
  ·by_cases e2:b=m+1
   ·exact uq enc lt rk g lb sf sb blk off a m b d w00 w h00 hblk0 eg hless hswap hH (hd0:=hd0) hsz ha hbd h1 hc e1 e2
   ·exact vW enc lt rk g lb sf sb blk off a m b d w00 w h00 hblk0 eg hless hswap hH (hd0:=hd0) hsz ha hb hbd h1 h2 hc e1 e2 (fun a' m' b' d' w' q1 q2 q3 q4 q5 q6 q7 q8 q9=>ih a' m' b' d' w' (by omega) q2 q3 q4 q5 (by omega) q7 q8 q9)
set_option maxRecDepth 100000
def Fit {α:Type} [Inhabited α] (lt:α→α→Bool) (rk:α→Int) (d:Array α):Prop :=
 ∀x j,x<j→j<d.size→(lt d[j]! d[x]! = true∧rk d[j]! < rk d[x]!)∨(lt d[j]! d[x]! = false∧rk d[x]! < rk d[j]!)
set_option maxHeartbeats 2000000 in
set_option maxRecDepth 1000000 in
theorem zZ {α:Type} [Inhabited α] (enc:α→Value) (lt:α→α→Bool) (rk:α→Int) (g:Nat) (lb:Array Value) (sf:Nat) (sb:Array Value) (blk off n:Nat) (d:Array α) (w:World) (hblk:blk<w.heap.size)
  (eg:∀args w,(callFunc g args).run Tryz.prog w = .ok (.enter g args) w) (hless:LessReads Tryz.prog g lb enc lt blk off n w) (hswap:SwapSwaps Tryz.prog sf sb enc blk off n)
  (hH:Holds enc w blk off d) (hd:d.size=n) (h20:20<n) (h40:n<40) (hf:Fit lt rk d) :
  Calls Tryz.prog 86 #[.agg #[.func (.func g) #[] lb,.func (.func sf) #[] sb],.int .i64 (n:Int)] w fun e w' =>
   e = .returned (.tuple #[])∧∃d',Mix 0 n d d'∧dj rk d' 0 n∧SW enc w blk off d' w':=by
 have LI:LaysGg.n26 Tryz.prog Tryz.laysGt8_ren.viaGt:=({Tryz.laysGt8 with}:LaysGt.n29 Tryz.prog Tryz.laysGt8_ren).elder;have hw1:SW enc w blk off d (w.alloc (.cells #[.func (.func g) #[] lb,.func (.func sf) #[] sb] 112)):=(Ip hH).alloc _;have k0:(w.alloc (.cells #[.func (.func g) #[] lb,.func (.func sf) #[] sb] 112)).cell? ⟨w.heap.size,0,none⟩=some (.func (.func g) #[] lb):=by simp
 have k1:(w.alloc (.cells #[.func (.func g) #[] lb,.func (.func sf) #[] sb] 112)).cell? ⟨w.heap.size,1,none⟩=some (.func (.func sf) #[] sb):=by simp
 have hl1:w.heap.size<(w.alloc (.cells #[.func (.func g) #[] lb,.func (.func sf) #[] sb] 112)).heap.size:=by rw [alloc_eq_grow,size_grow];simp
 have hH1:=hw1.holds hblk hH rfl;have hless1:=hw1.lessReads hless hblk hd;have hn1:(20:Int)≤(n:Int):=by omega
 have hn2:¬(40:Int)≤(n:Int):=by omega
 have hn3:(20:Int)<(n:Int):=by omega
 have hn4:¬(40:Int)<(n:Int):=by omega
 go_enter Tryz.func86,Tryz.ntmps86
 go_wp2
 generalize w.alloc (.cells #[.func (.func g) #[] lb,.func (.func sf) #[] sb] 112)=W1 at *;have hb1:blk<W1.heap.size:=IL hblk hl1;have kk0:∀dk wr,SW enc W1 blk off dk wr→wr.cell? ⟨w.heap.size,0,none⟩=some (.func (.func g) #[] lb):=fun dk wr h=>(dy h (show w.heap.size≠blk by omega) hl1).trans k0
 have kk1:∀dk wr,SW enc W1 blk off dk wr→wr.cell? ⟨w.heap.size,1,none⟩=some (.func (.func sf) #[] sb):=fun dk wr h=>(dy h (show w.heap.size≠blk by omega) hl1).trans k1
 have hold:∀dk wr,dk.size=d.size→SW enc W1 blk off dk wr→Holds enc wr blk off dk:=fun dk wr hs h=>h.holds hb1 hH1 hs
 have toB:∀dk wr,dk.size=d.size→SW enc W1 blk off dk wr→SW enc w blk off dk wr:=fun dk wr hs h=>cy hw1 hblk h hs
 obtain⟨m1,r1⟩:=wC lt rk 0 20 d (by omega) (fun x j _ hx hj=>hf x j hx (by omega));have hc1:Calls Tryz.prog 125 #[.agg #[.func (.func g) #[] lb,.func (.func sf) #[] sb],.int .i64 0,.int .i64 20] W1 fun e w'=>e = .returned (.tuple #[])∧SW enc W1 blk off (Ih lt d 0 20) w' :=
  Any.insertionSort_func_w LI enc lt g lb sf sb blk off 0 20 d W1 eg (hd ▸ hless1) (hd ▸ hswap) hH1 hb1 (by omega) (by omega) (by omega)
 generalize Ih lt d 0 20=d1 at *;have hs1:d1.size=n:=m1.size.trans hd;obtain⟨m2,r2⟩:=wC lt rk 20 n d1 (by omega) (fun x j hx0 hx hj=>by
  rw [m1.out x (by omega),m1.out j (by omega)];exact hf x j hx (by omega))
 have hc2:∀w1,SW enc W1 blk off d1 w1→Calls Tryz.prog 125 #[.agg #[.func (.func g) #[] lb,.func (.func sf) #[] sb],.int .i64 20,.int .i64 (n:Int)] w1 fun e w'=>e = .returned (.tuple #[])∧SW enc W1 blk off (Ih lt d1 20 n) w':=fun w1 h1 =>
  (Any.insertionSort_func_w LI enc lt g lb sf sb blk off 20 n d1 w1 eg (hs1.symm ▸ h1.lessReads hless1 hb1 hs1) (hs1.symm ▸ hswap) (hold _ _ m1.size h1) (h1.lt hb1) (by omega) (by omega) (by omega)).mono fun e w' h=>⟨h.1,cy h1 hb1 h.2 m2.size⟩
 generalize Ih lt d1 20 n=d2 at *;have hs2:d2.size=n:=m2.size.trans hs1;have hcmp:Cmp lt rk d2 0 20 n:=fun i j _ hi hj0 hj=>by
  rw [m2.out i (by omega)];obtain⟨j1,q1,q2,e1⟩:=m2.from' j hj0 hj
  obtain⟨i1,p1,p2,e2⟩:=m1.from' i (by omega) hi
  rw [e1,e2,m1.out j1 (by omega)];exact hf i1 j1 (by omega) (by omega)
 have r1':dj rk d2 0 20:=sA r1 m2 (.inr (Hl _));have hc3:∀w1,SW enc W1 blk off d2 w1→Calls Tryz.prog 126 #[.agg #[.func (.func g) #[] lb,.func (.func sf) #[] sb],.int .i64 0,.int .i64 20,.int .i64 (n:Int)] w1 fun e w'=>e = .returned (.tuple #[])∧∃d',Mix 0 n d2 d'∧dj rk d' 0 n∧SW enc w1 blk off d' w':=fun w1 h1 =>
  uL enc lt rk g lb sf sb blk off n W1 hb1 eg hless1 hswap (by omega) d hH1 hd n 0 20 n d2 w1 (by omega) h1 hs2 (by omega) h20 (by omega) r1' r2 hcmp
 have HR:Hid (∀d' w1 w2,SW enc W1 blk off d2 w1→Mix 0 n d2 d'→SW enc w1 blk off d' w2→Mix 0 n d d'∧SW enc w blk off d' w2):=fun d' w1 w2 h1 hm h2 =>
  ⟨((m1.mono (Hl _) (by omega)).trans (m2.mono (by omega) (Hl _))).trans hm,toB _ _ (by rw [hm.size,hs2,hd]) (cy h1 hb1 h2 hm.size)⟩
 clear hless hless1 hswap hH hH1 hf m1 m2 r1 r2 r1' hcmp toB hold hw1 hs1 hs2 hd LI eg;refine wp_loop_rounds 2 ?_
 rw [rounds_succ]
 go_wp2_with (go_at_call 125;refine hc1.mono ?_;rintro e w1 ⟨rfl,h1⟩;have b0:=kk0 _ _ h1;have b1:=kk1 _ _ h1)
 rw [rounds_succ]
 go_wp2_with (go_at_call 125;refine(hc2 _ h1).mono ?_;rintro e w2 ⟨rfl,h2⟩;have b2:=kk0 _ _ h2;have b3:=kk1 _ _ h2)
 refine wp_loop_rounds 2 ?_
 rw [rounds_succ]
 go_wp2
 refine wp_loop_rounds 1 ?_
 rw [rounds_succ]
 go_wp2_with (go_at_call 126;refine(hc3 _ h2).mono ?_;rintro e w3 ⟨rfl,d',g1,g2,g3⟩)
 rw [rounds_succ]
 go_wp2
 go_end0
 obtain⟨z1,z2⟩:=HR.out d' _ _ h2 g1 g3;exact⟨rfl,d',z1,g2,z2⟩
set_option maxRecDepth 100000
def siT:TypeInfo:=(Tryz.prog.info? 23).get (by kernel_rfl)
def siE:TypeInfo:=(Tryz.prog.info? 3).get (by kernel_rfl)
theorem siK (n:Nat) (h2:2≤n):Lib.swapperK n siE 2=5:=by
 have a:siE.hasPointers=false:=by kernel_rfl
 have b:siE.bytes=8:=by kernel_rfl
 have c:(n==0)=false:=by simp;omega
 have d:(n==1)=false:=by simp;omega
 simp [Lib.swapperK,a,b,c,d]
set_option maxRecDepth 1000000 in
theorem Bv {α:Type} [Inhabited α] (enc:α→Value) (h1:∀x,(enc x).oneCell'=true) (lt:α→α→Bool) (rk:α→Int) (g:Nat) (lb:Array Value) (blk off c:Nat) (d:Array α) (w:World) (hblk:blk<w.heap.size)
  (eg:∀args w,(callFunc g args).run Tryz.prog w = .ok (.enter g args) w) (hless:LessReads Tryz.prog g lb enc lt blk off d.size w)
  (hH:Holds enc w blk off d) (h2:2≤d.size) (hsz:d.size<40) (hf:Fit lt rk d) :
  Calls Tryz.prog 44 #[.iface 23 (.slice (some ⟨blk,off,none⟩) d.size c),.func (.func g) #[] lb] w fun e w' =>
   e = .returned (.tuple #[])∧∃d',Mix 0 d.size d d'∧dj rk d' 0 d.size∧SW enc w blk off d' w':=by
 refine Any.sort_SliceStable_of_stable Tryz.laysGt8 23 3 siT siE (by kernel_rfl) (by kernel_rfl) (by kernel_rfl) (by kernel_rfl) 2 (fun _=>by kernel_rfl) (some ⟨blk,off,none⟩) d.size c (by omega) 120 (by rw [siK _ h2];kernel_rfl) (.func g) #[] lb w _ ?_
 have hB:sliceBound Tryz.prog 3 siE 2 (some ⟨blk,off,none⟩) d.size c=#[.slice (some ⟨blk,off,none⟩) d.size c,typeHandle Tryz.prog 3]:=by
  unfold sliceBound;rw [if_neg (swapperK_gt _ _ _ h2)]
 rw [hB];have h00:SW enc w blk off d (stableWorld Tryz.prog Tryz.laysGt8_ren 23 (some ⟨blk,off,none⟩) d.size c w):=((Ip hH).alloc _).alloc _;have hsw:=swapSwaps_of_literal true 120 (fun args W=>run_callFunc_extern Tryz.func120 (by kernel_rfl) (by kernel_rfl) (by kernel_rfl) (e:=Extern.ReflectliteSwapper.swap true) (by kernel_rfl) args W) 3 siE (by kernel_rfl) (by kernel_rfl) (fun _=>by kernel_rfl) enc h1 blk off d.size c;by_cases h20:20<d.size
 ·refine(zZ enc lt rk g lb 120 _ blk off d.size d _ (h00.lt hblk) eg (h00.lessReads hless hblk rfl) hsw (h00.holds hblk hH rfl) rfl h20 hsz hf).mono ?_
  rintro e w' ⟨rfl,d',g1,g2,g3⟩;exact⟨rfl,d',g1,g2,cy h00 hblk g3 g1.size⟩
 ·obtain⟨m1,r1⟩:=wC lt rk 0 d.size d (Hl _) (fun x j _ hx hj=>hf x j hx hj)
  refine(Any.stable_func_small (P:=Tryz.prog) (ρ:=Tryz.laysGt8_ren) {Tryz.laysGt8 with} enc lt g lb 120 _ blk off d _ eg (h00.lessReads hless hblk rfl) hsw (h00.holds hblk hH rfl) (h00.lt hblk) (by omega)).mono ?_
  rintro e w' ⟨rfl,h⟩;exact⟨rfl,_,m1,r1,cy h00 hblk h m1.size⟩
set_option maxRecDepth 1000000 in
theorem yT (g:Nat) (lb:Array Value) (p:Option Addr) (n c:Nat) (hn:n≤1) (w:World) :
  Calls Tryz.prog 44 #[.iface 23 (.slice p n c),.func (.func g) #[] lb] w fun e w'=>e = .returned (.tuple #[])∧∃os,w'=grow w os:=by
 have hn2:n=0∨n=1:=by omega
 rcases hn2 with rfl | rfl
 ·exact Any.sort_SliceStable_tiny Tryz.laysGt8 23 3 siT siE (by kernel_rfl) (by kernel_rfl) (by kernel_rfl) (by kernel_rfl) 2 (fun _=>by kernel_rfl) p 0 c hn 116 (by kernel_rfl) (.func g) #[] lb w
 ·exact Any.sort_SliceStable_tiny Tryz.laysGt8 23 3 siT siE (by kernel_rfl) (by kernel_rfl) (by kernel_rfl) (by kernel_rfl) 2 (fun _=>by kernel_rfl) p 1 c hn 117 (by kernel_rfl) (.func g) #[] lb w
set_option maxHeartbeats 1000000 in
set_option maxRecDepth 1000000 in
theorem Aa (i j x y bt bw bo ba wb wo wc n g og cg ng:Nat) (t a u v:Int) (W:World)
  (h1:W.cell? ⟨bt,0,none⟩=some (.int .i64 t)) (h2:W.cell? ⟨bw,0,none⟩=some (.slice (some ⟨wb,wo,none⟩) n wc)) (h3:W.cell? ⟨bo,0,none⟩=some (.slice (some ⟨g,og,none⟩) ng cg)) (h4:W.cell? ⟨ba,0,none⟩=some (.int .i64 a))
  (hi:i<ng) (hj:j<ng) (hx:x<n) (hy:y<n)
  (c1:W.cell? ⟨g,og+i,none⟩=some (.int .i64 x)) (c2:W.cell? ⟨g,og+j,none⟩=some (.int .i64 y))
  (d1:W.cell? ⟨wb,wo+x,none⟩=some (.int .i64 u)) (d2:W.cell? ⟨wb,wo+y,none⟩=some (.int .i64 v))
  (ht:0≤t∧t≤100000) (ha:0<a∧a≤1000000000) (hu:0≤u∧u≤1000000) (hv:0≤v∧v≤1000000) :
  Calls Tryz.prog 45 (#[.int .i64 i,.int .i64 j]++#[.pointer (some ⟨bt,0,none⟩),.pointer (some ⟨bw,0,none⟩),.pointer (some ⟨bo,0,none⟩),.pointer (some ⟨ba,0,none⟩)]) W
   fun e w'=>e = .returned (.bool (decide (t*v % a<t*u % a)))∧∃q,w'=W.drewN q:=by
 have ha0:¬a=0:=by omega
 have m1:0≤t*u:=Ix ht.1 hu.1;have m2:t*u≤100000*1000000:=Iy ht.2 hu.2 hu.1 (by omega);have m3:0≤t*v:=Ix ht.1 hv.1;have m4:t*v≤100000*1000000:=Iy ht.2 hv.2 hv.1 (by omega)
 go_enter Tryz.func45,Tryz.ntmps45
 go_wp2
 go_still (by kernel_rfl)
 change Exit.then _ _ _ _ W.drew
 go_wp2
 go_ret
 refine⟨congrArg (fun b=>Ending.returned (.bool b)) ?_,1,rfl⟩
 rw [Go.V.wrap_id (by omega) (by omega),Go.V.wrap_id (by omega) (by omega),ID m1,ID m3]
end Go.Proofs.YtepkkkphfmckdaaGreatDoor

namespace Go.Proofs.YtepkkkphfmckdaaGreatDoor
open Go Go.V
set_option maxRecDepth 100000
def ue (lt:Nat→Nat→Bool) (x:Nat) (A:List Nat):Nat→Nat
 | 0=>0
 | k+1=>if lt x (A.getD k 0)=true then ue lt x A k else k+1
def yI (lt:Nat→Nat→Bool) (x:Nat) (A:List Nat):List Nat:=A.take (ue lt x A A.length)++x::A.drop (ue lt x A A.length)
def Gp (lt:Nat→Nat→Bool) (l a:List Nat):List Nat:=l.foldl (fun o x=>yI lt x o) a
theorem wB (lt:Nat→Nat→Bool) (x:Nat) (A:List Nat):∀k,ue lt x A k≤k
 | 0=>Hl _
 | k+1=>by
  unfold ue;split
  ·exact Nat.le_succ_of_le (wB lt x A k)
  ·exact Hl _
def Bf (r:Nat→Int) (a b:Nat):Prop:=r b<r a∨(r a=r b∧a<b)
def gtR (r:Nat→Int) (a b:Nat):Bool:=decide (r b<r a)
theorem vC (lt:Nat→Nat→Bool) (x:Nat) (A:List Nat):∀k,(∀j,ue lt x A k≤j→j<k→lt x (A.getD j 0)=true)∧(∀j,ue lt x A k=j+1→lt x (A.getD j 0)=false)
 | 0=>⟨fun j _ h=>by omega,fun j h=>by simp [ue] at h⟩
 | k+1=>by
  obtain⟨h1,h2⟩:=vC lt x A k;unfold ue;by_cases h:lt x (A.getD k 0)=true
  ·rw [if_pos h]
   refine⟨fun j hj hk=>?_,h2⟩
   by_cases e:j=k
   ·subst e;exact h
   ·exact h1 j hj (by omega)
  ·rw [if_neg h]
   refine⟨fun j hj hk=>by omega,fun j hj=>?_⟩
   have:j=k:=by omega
   subst this;simpa using h
theorem Bf.trans {r:Nat→Int} {a b c:Nat} (h:Bf r a b) (k:Bf r b c):Bf r a c:=by
 unfold Bf at *;omega
theorem xf (r:Nat→Int) (x:Nat) (A:List Nat) (hA:A.Pairwise (Bf r)) (hx:∀y∈A,y<x):(yI (gtR r) x A).Pairwise (Bf r):=by
 obtain⟨h1,h2⟩:=vC (gtR r) x A A.length;have hp:=wB (gtR r) x A A.length;unfold yI;generalize ue (gtR r) x A A.length=p at *;have hdrop:∀y∈A.drop p,Bf r x y:=fun y hy=>by
  obtain⟨j,hj,rfl⟩:=HL hy;rw [List.length_drop] at hj;have:=h1 (p+j) (by omega) (by omega);unfold gtR at this;rw [Hq,Hk (by omega)] at this;simp only [Hv,decide_eq_true_eq] at this;rw [List.getElem_drop];exact .inl this
 have htake:∀y∈A.take p,Bf r y x:=fun y hy=>by
  obtain⟨j,hj,rfl⟩:=HL hy;rw [IM] at hj;have hlast:=h2 (p - 1) (by omega);unfold gtR at hlast;rw [Hq,Hk (by omega)] at hlast;simp only [Hv,decide_eq_false_iff_not] at hlast;rw [Ji];have hlt:=hx A[j] (Hy _);have hge:r A[p - 1]≤r A[j]:=by
   by_cases e:j=p - 1
   ·subst e;exact Int.le_refl _
   ·have:=HJ.1 hA j (p - 1) (by omega) (by omega) (by omega)
    unfold Bf at this;omega
  unfold Bf;omega
 rw [List.pairwise_append];refine⟨hA.sublist (List.take_sublist _ _),IA.2 ⟨hdrop,hA.sublist (List.drop_sublist _ _)⟩,fun a ha b hb=>?_⟩
 rcases HI.1 hb with rfl | hb
 ·exact htake a ha
 ·exact(htake a ha).trans (hdrop b hb)
theorem Dt (lt:Nat→Nat→Bool) (x:Nat) (A:List Nat) (y:Nat):y∈yI lt x A↔y=x∨y∈A:=by
 unfold yI;rw [IX,HI];have:=List.take_append_drop (ue lt x A A.length) A;constructor
 ·rintro(h | h | h)
  ·exact .inr (List.mem_of_mem_take h)
  ·exact .inl h
  ·exact .inr (List.mem_of_mem_drop h)
 ·rintro(h | h)
  ·exact .inr (.inl h)
  ·rw [←this,IX] at h
   exact h.imp id .inr
theorem Dg (lt:Nat→Nat→Bool) (x:Nat) (A:List Nat):(yI lt x A).length=A.length+1:=by
 have hp:=wB lt x A A.length;unfold yI;simp;omega
def bD (r:Nat→Int) (n:Nat):List Nat:=Gp (gtR r) (Hz n) []
theorem Ba (r:Nat→Int) (n:Nat):bD r (n+1)=yI (gtR r) n (bD r n):=by
 unfold bD Gp;rw [IY,IG];rfl
theorem iz (r:Nat→Int):∀n,(bD r n).Pairwise (Bf r)∧(∀y,y∈bD r n↔y<n)∧(bD r n).length=n
 | 0=>⟨List.Pairwise.nil,fun y=>by simp [bD,Gp],rfl⟩
 | n+1=>by
  obtain⟨h1,h2,h3⟩:=iz r n;rw [Ba];refine⟨xf r n _ h1 fun y hy=>(h2 y).1 hy,fun y=>?_,by rw [Dg,h3]⟩
  rw [Dt,h2];omega
theorem AY (r:Nat→Int) (n k:Nat) (hk:k<n) (b:Nat) (hb:b<n) (hnb:b∉(bD r n).take k) (hbest:∀y,y<n→y∉(bD r n).take k→y≠b→Bf r b y):(bD r n)[k]?=some b:=by
 obtain⟨h1,h2,h3⟩:=iz r n;have hk':k<(bD r n).length:=by omega
 rw [Hk hk'];congr 1
 refine Hu fun hne=>?_
 have hnd:∀i j (hi:i<(bD r n).length) (hj:j<(bD r n).length),i<j→(bD r n)[i]≠(bD r n)[j]:=fun i j hi hj hij e=>by
  have:=HJ.1 h1 i j hi hj hij;rw [e] at this;unfold Bf at this;omega
 have hy:(bD r n)[k]∉(bD r n).take k:=fun h=>by
  obtain⟨j,hj,e⟩:=HL h;rw [IM] at hj;rw [Ji] at e;exact hnd j k (by omega) hk' (by omega) e
 have hB:=hbest _ ((h2 _).1 (Hy hk')) hy (fun e=>hne e);obtain⟨j,hj,e⟩:=HL ((h2 b).2 hb);have hjk:k<j:=by
  refine Hu fun h=>?_
  by_cases e2:j=k
  ·subst e2;exact hne e
  ·exact hnb (List.mem_take_iff_getElem.2 ⟨j,by omega,e⟩)
 have hP:=HJ.1 h1 k j hk' hj hjk;rw [e] at hP;unfold Bf at hB hP;omega
theorem vf {α:Type} {R:α→α→Prop} (hi:∀a,¬R a a) (ha:∀a b,R a b→R b a→False):∀(l m:List α),l.Pairwise R→m.Pairwise R→(∀x,x∈l↔x∈m)→l=m
 | [],[],_,_,_=>rfl
 | [],b::m,_,_,h=>absurd ((h b).2 Ii) (by simp)
 | a::l,[],_,_,h=>absurd ((h a).1 Ii) (by simp)
 | a::l,b::m,hl,hm,h=>by
  obtain⟨l1,l2⟩:=IA.1 hl;obtain⟨m1,m2⟩:=IA.1 hm;have e:a=b:=Hu fun hne=>by
   have h1:a∈m:=((HI.1 ((h a).1 Ii)).resolve_left hne)
   have h2:b∈l:=((HI.1 ((h b).2 Ii)).resolve_left fun e=>hne e.symm)
   exact ha a b (l1 b h2) (m1 a h1)
  subst e;rw [vf hi ha l m l2 m2 fun x=>?_];constructor
  ·intro hx
   refine(HI.1 ((h x).1 (Jd _ hx))).resolve_left ?_
   rintro rfl;exact hi _ (l1 _ hx)
  ·intro hx
   refine(HI.1 ((h x).2 (Jd _ hx))).resolve_left ?_
   rintro rfl;exact hi _ (m1 _ hx)
theorem AB (r:Nat→Int) (n:Nat) (o:List Nat) (h1:o.Pairwise (Bf r)) (h2:∀y,y∈o↔y<n):o=bD r n:=by
 obtain⟨g1,g2,_⟩:=iz r n;exact vf (R:=Bf r) (fun a h=>by unfold Bf at h;omega) (fun a b h k=>by unfold Bf at h k;omega) _ _ h1 g1 fun x=>(h2 x).trans (g2 x).symm
open Go Go.Proofs Go.V Go.RowKit Go.Lib Go.Sort
set_option maxRecDepth 100000
def bG (l:List Int) (t a:Int) (x:Nat):Int:=t*l.getD x 0 % a
def xy (n:Nat) (x:Nat):Value:=.int .i64 ((x % n:Nat):Int)
def ltW (l:List Int) (t a:Int) (x y:Nat):Bool:=decide (bG l t a (y % l.length)<bG l t a (x % l.length))
theorem bN {w:World} {b t:Nat} {x:Value} (q:w.heap[b]?=some (.cells #[x] t (0,0))):w.cell? ⟨b,0,none⟩=some x∧w.frozen? ⟨b,0,none⟩=false :=
 ⟨by rw [IP q];rfl,Lib.frozen_of_heap q 0⟩
section
variable {α:Type} [Inhabited α] {enc:α→Value} {w0 W:World} {g off:Nat} {dk:Array α}
theorem Cw (h:SW enc w0 g 0 dk W) {cur:Array Value} {t:Nat} (hg:w0.heap[g]?=some (.cells cur t (0,0))) (hs:dk.size≤cur.size) :
  ∃cur',W.heap[g]?=some (.cells cur' t (0,0))∧cur'.size=cur.size∧∀(i:Nat) (u:Value),(dk.toList.map enc)[i]?=some u→cur'[i]?=some u:=by
 obtain⟨n,os,rfl⟩:=h;have hb:g<w0.heap.size:=(Hh.1 hg).1;refine⟨IQ enc 0 dk cur,?_,by simp [IQ],fun i u hu=>?_⟩
 ·unfold sortWorld
  rw [heap_grow_old _ _ (by rw [size_putRow];exact hb)];unfold putRow mapBlock;show(w0.heap.modify g _)[g]?=_
  rw [Array.getElem?_modify,if_pos rfl,hg];rfl
 ·simp only [Jj,Jb] at hu
  obtain⟨x,hx,rfl⟩:=hu;rw [Array.getElem?_toList] at hx;obtain⟨hi,hx⟩:=Hh.1 hx;have hic:i<cur.size:=by omega
  unfold IQ;rw [Array.getElem?_mapIdx,II hic];simp [hi,hx]
theorem CQ (h:SW enc w0 g off dk W):w0.grownBy W (some g):=by
 have hle:=h.le;obtain⟨n,os,rfl⟩:=h;refine⟨rfl,rfl,rfl,hle,fun k hk hne=>?_⟩
 unfold sortWorld;rw [heap_grow_old _ _ (by rw [size_putRow];exact hk)];unfold putRow mapBlock;show(w0.heap.modify g _)[k]?=_
 rw [Array.getElem?_modify,if_neg (fun e=>hne (by rw [e]))]
end
theorem zB (w:World) (os:Array Obj) (b:Option Nat):w.grownBy (grow w os) b:=⟨rfl,rfl,rfl,by rw [size_grow];omega,fun k hk _=>heap_grow_old w os hk⟩
set_option maxHeartbeats 1000000 in
theorem CK (l:List Int) (t a:Int) (hn1:1≤l.length) (hn2:l.length≤32) (ht:0≤t∧t≤100000) (ha:0<a∧a≤1000000000) (hl:∀x∈l,0≤x∧x≤1000000) (A:Option Addr) (c Nt Nw No Na g cap:Nat) (w:World) (cur:Array Value)
  (hA:∃b o,A=some ⟨b,o,none⟩∧b<w.heap.size∧b≠g∧∀i,i<l.length→w.cell? ⟨b,o+i,none⟩=some (.int .i64 (l.getD i 0)))
  (qt:w.heap[Nt]?=some (.cells #[.int .i64 t] 3 (0,0))) (qw:w.heap[Nw]?=some (.cells #[.slice A l.length c] 23 (0,0))) (qo:w.heap[No]?=some (.cells #[.slice (some ⟨g,0,none⟩) l.length cap] 23 (0,0))) (qa:w.heap[Na]?=some (.cells #[.int .i64 a] 3 (0,0)))
  (hg:w.heap[g]?=some (.cells cur 3 (0,0))) (hNt:Nt≠g) (hNa:Na≠g) (hcur:l.length≤cur.size) (hrow:∀(i:Nat),i<l.length→cur[i]?=some (.int .i64 i)) :
  Calls Tryz.prog 44 #[.iface 23 (.slice (some ⟨g,0,none⟩) l.length cap),.func (.func 45) #[] #[.pointer (some ⟨Nt,0,none⟩),.pointer (some ⟨Nw,0,none⟩),.pointer (some ⟨No,0,none⟩),.pointer (some ⟨Na,0,none⟩)]] w fun e w' =>
   e = .returned (.tuple #[])∧w.grownBy w' (some g)∧∃cur',w'.heap[g]?=some (.cells cur' 3 (0,0))∧cur'.size=cur.size∧∀(i:Nat),i<l.length→cur'[i]?=some (.int .i64 ((bD (bG l t a) l.length).getD i 0:Nat)):=by
 have hgl:g<w.heap.size:=(Hh.1 hg).1;have hNw:Nw≠g:=fun e=>by rw [e,hg] at qw;simp at qw
 have hNo:No≠g:=fun e=>by rw [e,hg] at qo;simp at qo
 obtain⟨b,o,rfl,hb,hbg,hcells⟩:=hA;by_cases h2:2≤l.length
 ·have hsz:(Hz l.length).toArray.size=l.length:=by simp
  have hget:∀j,j<l.length→(Hz l.length).toArray[j]! = j:=fun j hj=>by
   rw [getElem!_pos _ j (by rw [hsz];exact hj)];simp
  have hH:Holds (xy l.length) w g 0 (Hz l.length).toArray:=fun j hj=>by
   rw [hsz] at hj;refine⟨?_,Lib.frozen_of_heap hg _⟩
   rw [IP hg,Jg,hrow j hj,hget j hj];simp [xy,HC hj]
  have hless:LessReads Tryz.prog 45 #[.pointer (some ⟨Nt,0,none⟩),.pointer (some ⟨Nw,0,none⟩),.pointer (some ⟨No,0,none⟩),.pointer (some ⟨Na,0,none⟩)] (xy l.length) (ltW l t a) g 0 (Hz l.length).toArray.size w:=by
   intro m os dk hs i j hi hj;rw [hsz] at hs hi hj;have hsw:SW (xy l.length) w g 0 dk (sortWorld (xy l.length) w g 0 m dk os):=⟨m,os,rfl⟩
   generalize sortWorld (xy l.length) w g 0 m dk os=W at *;have hx:dk[i]! % l.length<l.length:=Jq _ (by omega);have hy:dk[j]! % l.length<l.length:=Jq _ (by omega);have kt:=(dy hsw hNt (Hh.1 qt).1).trans (bN qt).1;have kw:=(dy hsw hNw (Hh.1 qw).1).trans (bN qw).1;have ko:=(dy hsw hNo (Hh.1 qo).1).trans (bN qo).1;have ka:=(dy hsw hNa (Hh.1 qa).1).trans (bN qa).1;have hold:=hsw.holds hgl hH (by rw [hsz,hs]);have hat:∀y,y<l.length→W.cell? ⟨b,o+y,none⟩=some (.int .i64 (l.getD y 0)):=fun y hy=>(dy hsw hbg hb).trans (hcells y hy)
   have hwt:∀y,y<l.length→0≤l.getD y 0∧l.getD y 0≤1000000:=fun y hy=>by
    rw [Hq,Hk hy];exact hl _ (Hy _)
   exact Aa i j _ _ Nt Nw No Na b o c l.length g 0 cap l.length t a _ _ W kt kw ko ka hi hj hx hy (hold i (by omega)).1 (hold j (by omega)).1 (hat _ hx) (hat _ hy) ht ha (hwt _ hx) (hwt _ hy)
  have hfit:Fit (ltW l t a) (fun x=>(x:Int) - 64*bG l t a (x % l.length)) (Hz l.length).toArray:=fun x j hx hj=>by
   rw [hsz] at hj;rw [hget j hj,hget x (by omega)];unfold ltW;rw [HC hj,HC (show x<l.length by omega)];have ej:j % l.length=j:=HC hj;have ex:x % l.length=x:=HC (show x<l.length by omega);show(decide _=true∧(j:Int) - 64*bG l t a (j % l.length)<(x:Int) - 64*bG l t a (x % l.length))∨(decide _=false∧(x:Int) - 64*bG l t a (x % l.length)<(j:Int) - 64*bG l t a (j % l.length))
   rw [ej,ex];by_cases hr:bG l t a x<bG l t a j
   ·left
    exact⟨decide_eq_true hr,by omega⟩
   ·right
    exact⟨decide_eq_false hr,by omega⟩
  have hc:=Bv (xy l.length) (fun _=>rfl) (ltW l t a) (fun x=>(x:Int) - 64*bG l t a (x % l.length)) 45 #[.pointer (some ⟨Nt,0,none⟩),.pointer (some ⟨Nw,0,none⟩),.pointer (some ⟨No,0,none⟩),.pointer (some ⟨Na,0,none⟩)] g 0 cap (Hz l.length).toArray w hgl
   (Ie Tryz.func45 (by kernel_rfl) rfl) hless hH (by rw [hsz];exact h2) (by rw [hsz];omega) hfit
  rw [hsz] at hc;refine hc.mono ?_
  rintro e w' ⟨rfl,d',hm,hr,hsw⟩;have hds:d'.size=l.length:=hm.size.trans hsz;obtain⟨cur',g1,g2,g3⟩:=Cw hsw hg (by omega);have hperm:d'.toList.Perm (Hz l.length):=hm.perm.toList;have hord:d'.toList=bD (bG l t a) l.length:=by
   refine AB _ _ _ (HJ.2 fun i j hi hj hij=>?_) fun y=>by rw [hperm.mem_iff,Hs]
   rw [Array.length_toList] at hi hj;have h:=hr i j (Ij _) hij (by omega);simp only [getElem!_pos d' i hi,getElem!_pos d' j hj] at h;have hi2:d'[i]<l.length:=by
    have:=hperm.mem_iff.1 (show d'[i]∈d'.toList by simp);exact Hs.1 this
   have hj2:d'[j]<l.length:=by
    have:=hperm.mem_iff.1 (show d'[j]∈d'.toList by simp);exact Hs.1 this
   rw [HC hi2,HC hj2] at h;rw [Je,Je];unfold Bf;have hne:d'[i]≠d'[j]∨d'[i]=d'[j]:=by omega
   omega
  refine⟨rfl,CQ hsw,cur',g1,g2,fun i hi=>g3 i _ ?_⟩
  rw [←hord];have hi2:i<d'.size:=by omega
  have hi3:d'[i]<l.length:=by
   have:=hperm.mem_iff.1 (show d'[i]∈d'.toList by simp);exact Hs.1 this
  simp [hi2,xy,HC hi3]
 ·have h1:l.length=1:=by omega
  refine(yT 45 _ (some ⟨g,0,none⟩) l.length cap (by omega) w).mono ?_
  rintro e w' ⟨rfl,os,rfl⟩;refine⟨rfl,zB w os _,cur,(heap_grow_old _ _ hgl).trans hg,rfl,fun i hi=>?_⟩
  rw [hrow i hi,←AB (bG l t a) l.length [0] (by simp) (fun y=>by simp;omega)];have:i=0:=by omega
  subst this;rfl
end Go.Proofs.YtepkkkphfmckdaaGreatDoor

namespace Go.Proofs.YtepkkkphfmckdaaGreatDoor
open Go Go.Proofs Go.V Go.RowKit
set_option maxRecDepth 100000
def aB (l:List Int):Int:=l.foldl (·+·) 0
def bsW (l:List Int) (t a:Int):List Int:=l.map fun w=>t*w / a
def dE (s:List Int) (o:List Nat):List Int:=o.foldl (fun s i=>s.set i (s.getD i 0+1)) s
def cK (l:List Int) (t:Int):Bool:=l.all (fun w=>decide (0≤w∧w≤1000000))&&decide (1≤l.length∧l.length≤32)&&decide (aB l≠0)&&decide (0≤t∧t≤100000)
def lk (l:List Int) (t:Int):Nat:=(t - aB (bsW l t (aB l))).toNat
def cA (l:List Int) (t:Int):List Int:=if cK l t=true then dE (bsW l t (aB l)) ((bD (bG l t (aB l)) l.length).take (lk l t)) else []
theorem tc:∀(l:List Int) (a:Int),l.foldl (·+·) a=a+aB l
 | [],a=>by simp [aB]
 | x::l,a=>by
  unfold aB;rw [Ig,Ig,tc l,tc l (0+x)];omega
theorem eN (x:Int) (l:List Int):aB (x::l)=x+aB l:=by
 unfold aB;rw [Ig,tc];unfold aB;omega
theorem AX (l:List Int) (x:Int):aB (l++[x])=aB l+x:=by
 unfold aB;rw [IG];rfl
theorem eH (B:Int):∀(l:List Int),(∀x∈l,0≤x∧x≤B)→0≤aB l∧aB l≤B*l.length
 | [],_=>by simp [aB]
 | x::l,h=>by
  have h1:=h x (by simp);have h2:=eH B l fun y hy=>h y (by simp [hy])
  rw [eN,Iq,Int.natCast_add,Jl];omega
theorem xW (l:List Int) (hl:l.length≤1048577) (hx:∀x∈l,0≤x∧x≤1000000000000) (i:Nat) (a:Int) (hi:i<l.length) (ha:0≤a∧a≤1000000000000*(i:Int)):Ik.wrap (a+l[i])=a+l[i]∧(0≤a+l[i]∧a+l[i]≤1000000000000*((i+1:Nat):Int)):=by
 have:=hx l[i] (Hy hi);exact⟨wrap_id (by omega) (by omega),by omega,by omega⟩
theorem qj (l:List Int):∀(i:Nat) (a:Int),qQ (fun _ a x=>a+x) i l a=l.foldl (·+·) a:=by
 induction l with
 | nil=>intro i a;rfl
 | cons x l ih=>intro i a;exact ih (i+1) (a+x)
theorem zO (l:List Int) (hl:l.length≤1048577) (hx:∀x∈l,0≤x∧x≤1000000000000):kR [aq l]=some (.ret [I (aB l)] []):=by
 rw [yQ];simp only [jo,HE,IU];refine aG _ (jd l (fun i a=>[I a,aq l,I l.length,I i]) (fun i a=>0≤a∧a≤1000000000000*(i:Int)) (fun _ a x=>a+x) (fun a=>.ext 0 [I a]) 0 (fun i a hi ha=>?_) (fun a _=>?_) (fun _=>rfl) (by simp) rfl) ?_
 ·have hw:Ik.wrap ((i:Int)+1)=(i:Int)+1:=wrap_id (by omega) (by omega)
  obtain⟨h1,h2⟩:=xW l hl hx i a hi ha;exact⟨by simp -implicitDefEqProofs [hi,hw,h1],h2⟩
 ·simp
 ·simp [qj,aB]
theorem qH (l:List Int) (hl:l.length≤1048577) (hx:∀x∈l,0≤x∧x≤1000000000000):gY [aq l]=some (.ret [I (aB l)] []):=by
 rw [xo];simp only [jo,HE,IU];refine aG _ (jd l (fun i a=>[I a,aq l,I l.length,I i]) (fun i a=>0≤a∧a≤1000000000000*(i:Int)) (fun _ a x=>a+x) (fun a=>.ext 0 [I a]) 0 (fun i a hi ha=>?_) (fun a _=>?_) (fun _=>rfl) (by simp) rfl) ?_
 ·have hw:Ik.wrap ((i:Int)+1)=(i:Int)+1:=wrap_id (by omega) (by omega)
  obtain⟨h1,h2⟩:=xW l hl hx i a hi ha;exact⟨by simp -implicitDefEqProofs [hi,hw,h1],h2⟩
 ·simp
 ·simp [qj,aB]
theorem wX (t a:Int):∀(l:List Int),a*aB (bsW l t a)+aB (l.map fun w=>t*w % a)=t*aB l
 | []=>by simp [bsW,aB]
 | x::l=>by
  have h:=wX t a l;unfold bsW at h ⊢;rw [IE,IE,eN,eN,eN,Jl,Jl];have:=Int.mul_ediv_add_emod (t*x) a;omega
theorem wq (l:List Int) (t:Int) (h1:1≤l.length) (ha:0<aB l):0≤t - aB (bsW l t (aB l))∧t - aB (bsW l t (aB l))<l.length:=by
 have h:=wX t (aB l) l;obtain⟨R,hR⟩:∃R,R=aB (l.map fun w=>t*w % aB l):=⟨_,rfl⟩
 have hb:=eH (aB l - 1) (l.map fun w=>t*w % aB l) (fun x hx=>by
  obtain⟨w,_,rfl⟩:=IV.1 hx;have g1:=Int.emod_nonneg (t*w) (show aB l≠0 by omega);have g2:=Int.emod_lt_of_pos (t*w) ha;omega)
 rw [←hR] at h hb;rw [HE] at hb;generalize aB (bsW l t (aB l))=S at *;generalize aB l=a at *;have e:a*(t - S)=R:=by rw [Int.mul_sub,Int.mul_comm a t];omega
 constructor
 ·refine Hu fun hc=>?_
  have:a*(t - S)<0:=Int.mul_neg_of_pos_of_neg ha (by omega);omega
 ·refine Int.lt_of_mul_lt_mul_left (a:=a) ?_ (by omega)
  rw [e];have:(a - 1)*(l.length:Int)=a*l.length - l.length:=by rw [Int.sub_mul];omega
  omega
theorem rN (l:List Int) (t a:Int) (ht:0≤t∧t≤100000) (ha:0<a) (hl:∀x∈l,0≤x∧x≤1000000):∀x∈bsW l t a,0≤x∧x≤100000000000:=fun x hx=>by
 obtain⟨w,hw,rfl⟩:=IV.1 hx;have hw:=hl w hw;have m1:0≤t*w:=Ix ht.1 hw.1;have m2:t*w≤100000*1000000:=Iy ht.2 hw.2 hw.1 (by omega);have d1:0≤t*w / a:=Jr m1 (by omega);have d2:t*w / a≤t*w:=Jn _ m1;omega
theorem cL (l:List Int) (t a:Int):(bsW l t a).length=l.length:=by simp [bsW]
theorem eF:∀(o:List Nat) (s:List Int),(dE s o).length=s.length
 | [],s=>rfl
 | x::o,s=>by
  unfold dE;rw [Ig];exact(eF o _).trans (by simp)
theorem pJ (s:List Int) (o:List Nat) (x:Nat):dE s (o++[x])=(dE s o).set x ((dE s o).getD x 0+1):=by
 unfold dE;rw [IG];rfl
theorem CY (s:List Int) (x y:Nat) (v:Int) (hx:x<s.length):(s.set x v).getD y 0=if x=y then v else s.getD y 0:=by
 rw [Hq,List.getElem?_set];by_cases h:x=y
 ·subst h;simp [hx]
 ·simp [h]
theorem jg (B:Int):∀(o:List Nat) (s:List Int),(∀x∈s,0≤x∧x≤B)→∀x∈dE s o,0≤x∧x≤B+o.length
 | [],s,h,x,hx=>by simpa using h x hx
 | y::o,s,h,x,hx=>by
  unfold dE at hx;rw [Ig] at hx;have:=jg (B+1) o _ (fun z hz=>by
   by_cases hy:y<s.length
   ·rcases List.mem_or_eq_of_mem_set hz with hz | hz
    ·have:=h z hz
     omega
    ·subst hz
     rw [Hq,Hk hy];have:=h _ (Hy hy);simp only [Hv];omega
   ·rw [List.set_eq_of_length_le (by omega)] at hz
    have:=h z hz;omega) x hx
  rw [Iq];omega
theorem qs {w:World} {F:Nat→Prop}:∀(l:List Int),aZ w F (l.map I) (l.map (Hm .i64))
 | []=>aE.2 rfl
 | x::l=>aw.2 ⟨[.int .i64 x],l.map (Hm .i64),rfl,by simp only [RepC];exact⟨trivial,rfl⟩,qs l⟩
theorem Ey {w:World} {base g cap n:Nat} {e:TypeId} {s:List Int} (h:w.ownsRow base e 1 (.slice (some ⟨g,0,none⟩) n cap) n (s.map (Hm .i64))) (hn:s.length=n):bj w (fun b=>b<w.heap.size) (aq s) (.slice (some ⟨g,0,none⟩) n cap):=by
 have hc:=h.cellAt;obtain⟨_,⟨hv,_⟩ | ⟨g2,cap2,cur,hv,hge,hg,hcap,_,hcs,htake⟩⟩:=h
 ·cases hv
 cases hv;simp only [bj,RepC];refine⟨some ⟨g,0,none⟩,cap,s.map (Hm .i64),by simp [hn],by simpa [hn] using hcap,qs s,fun d hd=>?_,fun _=>⟨g,0,rfl,(Hh.1 hg).1,fun i u hu=>?_⟩⟩
 ·obtain⟨z,_,rfl⟩:=IV.1 hd
  rfl
 ·rw [Jg,hc i (by
   have:=(IJ.1 hu).1;rw [HE] at this;omega)]
  exact hu
set_option maxRecDepth 100000
theorem Hb {α:Type} {a:Array α} {p:α→Bool} (h:a.toList.any p=true):∃e,e∈a∧p e=true:=by
 obtain⟨e,he,hp⟩:=Jo.1 h;exact⟨e,Ib.1 he,hp⟩
theorem GZ {α:Type} {a:Array α} {p:α→Bool} (h:a.toList.all p=true) (e:α) (he:e∈a):p e=true:=Ic.1 h e (Ib.2 he)
def pf (l:List Oper) (o:Oper):Bool :=
 (Hz l.length).all (fun i=>(o.after.toList.any fun e=>HK .any e&&e.on==i)||(Hz l.length).any fun j=>decide (i<j)&&(l[j]?.map fun oj=>oj.after.toList.any fun e=>HK .any e&&e.on==i).getD false)&&o.after.toList.all (fun e=>decide (e.on<l.length))&&o.guard.isNone &&
 (Hz l.length).all (fun i=>(l[i]?.map fun oi=>oi.guard.isNone&&oi.after.toList.all fun e=>!HK .any e||decide (e.on<i)).getD true)
def xk (P:Program) (o:Oper) (Q:Exit→Act→World→Prop):Exit→Act→World→Prop
 | .normal,a,w=>o.wp P a w (fun a w=>Q .normal a w) Q
 | e,a,w=>Q e a w
theorem Bb {P:Program} {o o':Oper} {Q:Exit→Act→World→Prop} {a:Act} {K:Act→World→Prop} {r:Result Next} (h:Oper.upon P o a K (xk P o' Q) r):Oper.upon P o a K Q r:=by
 cases r with
 | ok n w=>cases n<;>exact h
 | halt x w=>cases x<;>exact h
theorem yJ (md:Jm) (ops:Array Oper) (fuel t:Nat) (listed:Array Bool) (acc:List Nat) :
  Hr md ops (fuel+1) t listed acc=match (Ho md ops listed)[t % (Ho md ops listed).length]? with
   | some i=>Hr md ops fuel (t / (Ho md ops listed).length) (listed.setIfInBounds i true) (i::acc)
   | none=>acc.reverse:=by
 simp only [Hr];rfl
theorem vh {listed:Array Bool} {i:Nat} {d:Bool} (hi:i<listed.size):(listed.push false).getD i d=listed.getD i d:=by
 simp [HO,hi,Nat.lt_succ_of_lt hi,Array.getElem_push]
theorem ua (listed:Array Bool) (i:Nat):(listed.push false).getD i false=listed.getD i false:=by
 by_cases hi:i<listed.size
 ·exact vh hi
 ·by_cases he:i=listed.size
  ·subst he
   simp [HO]
  ·simp [HO,hi,show ¬i<listed.size+1 by omega]
theorem Bc {l:List Oper} {o:Oper} {listed:Array Bool} (hs:listed.size=l.length) (i:Nat) (hi:i<l.length) :
  (!(listed.push false).getD i true&&(((l++[o]).toArray[i]?).map (·.after.all fun e=>!HK .any e||(listed.push false).getD e.on false)).getD false)=(!listed.getD i true&&((l.toArray[i]?).map (·.after.all fun e=>!HK .any e||listed.getD e.on false)).getD false):=by
 rw [vh (by omega)];congr 2
 simp only [HY,IK hi];congr 1
 funext x
 simp only [ua]
def pg (l:List Oper) (listed:Array Bool):Prop:=∀(j:Nat) (oj:Oper),l[j]?=some oj→listed.getD j false=true→∀e∈oj.after,HK .any e=true→listed.getD e.on false=true
theorem sI {l:List Oper} {o:Oper} {listed:Array Bool} (hB:pf l o=true) (hs:listed.size=l.length) (hc:pg l listed) :
  Ho .any (l++[o]).toArray (listed.push false)=Ho .any l.toArray listed++(if (∀i,i<l.length→listed.getD i false=true) then [l.length] else []):=by
 simp only [pf,Ht,Ic,Hs] at hB;obtain⟨⟨⟨h1,h2⟩,_⟩,_⟩:=hB;unfold Ho;simp only [HV,IB,HZ,IY,List.filter_append];congr 1
 ·refine List.filter_congr fun i hi=>?_
  exact Bc hs i (Hs.1 hi)
 ·have e1:(l++[o]).toArray[l.length]?=some o:=by simp
  simp only [Jp,List.filter_nil];have e2:(listed.push false).getD l.length true=false:=by
   rw [Hn,←hs,Array.getElem?_push_size];rfl
  have e3:(o.after.all fun e=>!HK .any e||(listed.push false).getD e.on false)=decide (∀i,i<l.length→listed.getD i false=true):=by
   rw [Bool.eq_iff_iff];simp only [ua,decide_eq_true_eq,IC,IZ,IH];constructor
   ·intro h
    have key:∀n i,i<l.length→l.length≤i+n→listed.getD i false=true:=by
     intro n;induction n with
     | zero=>intro i hi hn;omega
     | succ n ih =>
      intro i hi hn;have h3:=h1 i hi;simp only [IZ,Jo,Hs,Ht,decide_eq_true_eq] at h3;rcases h3 with h3 | ⟨j,hj,hij,h3⟩
      ·obtain⟨e,he,hb1,hb2⟩:=h3
       have hb:HK .any e=true∧e.on=i:=⟨hb1,by simpa using hb2⟩
       rcases h e (Ib.1 he) with h | h
       ·rw [h] at hb
        cases hb.1
       ·rw [←hb.2]
        exact h
      ·rw [Hk hj] at h3
       simp only [HS,Hv] at h3;obtain⟨e,he,hb⟩:=Hb h3;simp only [Ht,beq_iff_eq] at hb;rw [←hb.2];exact hc j l[j] (Hk hj) (ih j hj (by omega)) e he hb.1
    exact fun i hi=>key l.length i hi (by omega)
   ·intro h e he
    have:=h2 e (Ib.2 he);exact .inr (h e.on (of_decide_eq_true this))
  rw [e2,e1];simp only [HS,Hv,e3,Jc,Bool.true_and,decide_eq_true_eq]
theorem zG {l:List Oper} {o:Oper} {listed:Array Bool} (hB:pf l o=true) (hs:listed.size=l.length) (hu:¬∀i,i<l.length→listed.getD i false=true):Ho .any l.toArray listed≠[]:=by
 simp only [pf,Ht,Ic,Hs] at hB;obtain⟨_,h4⟩:=hB;have:∃i,i<l.length∧listed.getD i false=false:=by
  refine Hu fun h=>hu fun i hi=>?_
  cases hb:listed.getD i false
  ·exact absurd ⟨i,hi,hb⟩ h
  ·rfl
 have least:∀n,(∃i,i<n∧i<l.length∧listed.getD i false=false)→∃i,i<l.length∧listed.getD i false=false∧∀j,j<i→listed.getD j false=true:=by
  intro n;induction n with
  | zero=>rintro⟨i,hi,_⟩;omega
  | succ n ih =>
   rintro⟨i,hi,hl,hb⟩;by_cases hx:∃i,i<n∧i<l.length∧listed.getD i false=false
   ·exact ih hx
   ·have:i=n:=by
     refine Hu fun h=>hx ⟨i,by omega,hl,hb⟩
    subst this;refine⟨i,hl,hb,fun j hj=>?_⟩
    cases hjb:listed.getD j false
    ·exact absurd ⟨j,hj,by omega,hjb⟩ hx
    ·rfl
 obtain⟨i0,hi0,hb0⟩:=this;obtain⟨i,hi,hb,hj⟩:=least (i0+1) ⟨i0,by omega,hi0,hb0⟩;intro hnil;have hmem:i∈Ho .any l.toArray listed:=by
  unfold Ho;refine Iu.2 ⟨by simpa using hi,?_⟩
  have h5:=h4 i hi;rw [Hk hi] at h5;simp only [HS,Hv,Ht] at h5;have e1:l.toArray[i]?=some l[i]:=by simp [hi]
  have e2:listed.getD i true=false:=by
   simp only [HO,show i<listed.size by omega,dite_true] at hb ⊢;exact hb
  rw [e1,e2];simp only [HS,Hv,Jc,Bool.true_and];refine IC.2 fun e he=>?_
  have h6:=GZ h5.2 e he;simp only [IZ,IH,decide_eq_true_eq] at h6 ⊢;exact h6.imp id (hj e.on)
 rw [hnil] at hmem;cases hmem
theorem zU {l:List Oper} {listed:Array Bool} {i:Nat} (hs:listed.size=l.length) (hc:pg l listed) (hi:i∈Ho .any l.toArray listed):pg l (listed.setIfInBounds i true):=by
 unfold Ho at hi;obtain⟨h1,h2⟩:=Iu.1 hi;simp only [HV,Hs] at h1;simp only [Ht,HY,Hk h1,HS,Hv] at h2;have hg:∀j,listed.getD j false=true→(listed.setIfInBounds i true).getD j false=true:=fun j hj=>by
  by_cases e:i=j
  ·subst e
   simp [HO,hs,h1]
  ·rw [Hn,HD e,←Hn]
   exact hj
 intro j oj hj hjl e he hb;by_cases e1:i=j
 ·subst e1
  rw [Hk h1] at hj;obtain rfl:=Hp hj;have:=IC.1 h2.2 e he;rw [hb] at this;exact hg _ (by simpa using this)
 ·rw [Hn,HD e1,←Hn] at hjl
  exact hg _ (hc j oj hj hjl e he hb)
theorem tu {md:Jm} {ops:Array Oper} {listed:Array Bool} {i:Nat} (h:i∈Ho md ops listed):i<ops.size∧listed.getD i true=false:=by
 unfold Ho at h;obtain⟨h1,h2⟩:=Iu.1 h;simp only [Ht,IH] at h2;exact⟨Hs.1 h1,h2.1⟩
theorem tv {l:List Oper} {listed:Array Bool} (hs:listed.size=l.length) (hall:∀i,i<l.length→listed.getD i false=true):Ho .any l.toArray listed=[]:=by
 refine List.eq_nil_iff_forall_not_mem.2 fun i hi=>?_
 obtain⟨h1,h2⟩:=tu hi;have h3:=hall i (by simpa using h1);have:i<listed.size:=by rw [hs];simpa using h1
 simp only [HO,this,dite_true] at h2 h3;rw [h2] at h3;cases h3
def unl (n:Nat) (listed:Array Bool):Nat:=((Hz n).filter fun i=>!listed.getD i false).length
theorem Eg {n:Nat} {listed:Array Bool} {i:Nat} (hs:listed.size=n) (hi:i<n) (hb:listed.getD i true=false):unl n (listed.setIfInBounds i true)<unl n listed:=by
 unfold unl;have hg:∀j,(listed.setIfInBounds i true).getD j false=if j=i then true else listed.getD j false:=fun j=>by
  by_cases e:j=i
  ·subst e
   simp [HO,hs,hi]
  ·rw [Hn,Hn,HD (fun h=>e h.symm),if_neg e]
 have hb':listed.getD i false=false:=by
  simp only [HO,show i<listed.size by omega,dite_true] at hb ⊢;exact hb
 have key:∀l:List Nat,(l.filter fun j=>!(listed.setIfInBounds i true).getD j false).length≤(l.filter fun j=>!listed.getD j false).length∧(i∈l→(l.filter fun j=>!(listed.setIfInBounds i true).getD j false).length<(l.filter fun j=>!listed.getD j false).length):=by
  intro l;induction l with
  | nil=>exact⟨Hl _,fun h=>by cases h⟩
  | cons x l ih =>
   simp only [Jp,hg x];by_cases e:x=i
   ·subst e
    simp only [if_true,Bool.not_true,Bool.false_eq_true,if_false,hb',Jc,Iq];exact⟨by omega,fun _=>by omega⟩
   ·simp only [if_neg e]
    split
    ·simp only [Iq]
     refine⟨by omega,fun h=>?_⟩
     have:=ih.2 ((HI.1 h).resolve_left fun h=>e h.symm);omega
    ·refine⟨ih.1,fun h=>ih.2 ((HI.1 h).resolve_left fun h=>e h.symm)⟩
 exact(key _).2 (Hs.2 hi)
theorem EK {l:List Oper} {o:Oper} (hB:pf l o=true):∀(fuel t:Nat) (listed:Array Bool),listed.size=l.length→pg l listed→unl l.length listed≤fuel →
  Hr .any (l++[o]).toArray (fuel+1) t (listed.push false) []=Hr .any l.toArray fuel t listed []++[l.length]∧∀i∈Hr .any l.toArray fuel t listed [],i<l.length:=by
 have full:∀(fuel t:Nat) (listed:Array Bool),listed.size=l.length→pg l listed→(∀i,i<l.length→listed.getD i false=true) →
   Hr .any (l++[o]).toArray (fuel+1) t (listed.push false) []=[l.length]:=by
  intro fuel t listed hs hc hall;rw [yJ,sI hB hs hc,if_pos hall,tv hs hall];simp only [Js,HZ,Nat.mod_one,List.getElem?_cons_zero];cases fuel with
  | zero=>rfl
  | succ fuel =>
   rw [yJ];have:Ho .any (l++[o]).toArray ((listed.push false).setIfInBounds l.length true)=[]:=by
    refine List.eq_nil_iff_forall_not_mem.2 fun i hi=>?_
    obtain⟨h1,h2⟩:=tu hi;simp only [HV,IB,HZ] at h1;by_cases e:i=l.length
    ·subst e
     simp [HO,hs] at h2
    ·have h3:=hall i (by omega)
     have hil:i<listed.size:=by omega
     rw [Hn,HD (by omega),Array.getElem?_push_lt hil] at h2;rw [Hn,II hil] at h3;simp only [Hv] at h2 h3;rw [h2] at h3;cases h3
   rw [this];rfl
 intro fuel;induction fuel with
 | zero =>
  intro t listed hs hc hu;have hall:∀i,i<l.length→listed.getD i false=true:=fun i hi=>by
   cases hb:listed.getD i false
   ·exfalso
    have:i∈(Hz l.length).filter fun i=>!listed.getD i false:=Iu.2 ⟨Hs.2 hi,by rw [hb];rfl⟩
    unfold unl at hu;have:=List.length_pos_of_mem this;omega
   ·rfl
  exact⟨full 0 t listed hs hc hall,fun i hi=>by simp [Hr] at hi⟩
 | succ fuel ih =>
  intro t listed hs hc hu;by_cases hall:∀i,i<l.length→listed.getD i false=true
  ·have e:=yJ .any l.toArray fuel t listed []
   rw [tv hs hall] at e;have e':Hr .any l.toArray (fuel+1) t listed []=[]:=e;rw [e'];exact⟨full (fuel+1) t listed hs hc hall,fun i hi=>by cases hi⟩
  ·have hne:=zG hB hs hall
   rw [yJ,sI hB hs hc,if_neg hall,List.append_nil,yJ .any l.toArray fuel t listed []];have hlt:t % (Ho .any l.toArray listed).length<(Ho .any l.toArray listed).length:=Jq _ (List.length_pos_iff.2 hne);rw [Hk hlt];simp only;have hmem:=Hy hlt;generalize (Ho .any l.toArray listed)[t % (Ho .any l.toArray listed).length]=i at *;obtain⟨hi,hb⟩:=tu hmem;simp only [HV] at hi;rw [linearise_go_acc,linearise_go_acc .any l.toArray];have hset:(listed.push false).setIfInBounds i true=(listed.setIfInBounds i true).push false:=by
    apply Array.ext_getElem?;intro j;simp only [Array.getElem?_setIfInBounds,Array.getElem?_push,Array.size_push,Array.size_setIfInBounds];by_cases e:i=j
    ·subst e
     simp only [hs,hi,show ¬i=l.length by omega,if_true,if_false,show i<l.length+1 by omega]
    ·simp [e]
   rw [hset];obtain⟨h1,h2⟩:=ih (t / (Ho .any l.toArray listed).length) (listed.setIfInBounds i true) (by simp [hs]) (zU hs hc hmem) (by have:=Eg hs hi hb;omega);rw [h1];refine⟨by simp,fun j hj=>?_⟩
   rcases IX.1 hj with hj | hj
   ·simp at hj
    omega
   ·exact h2 j hj
theorem sC {P:Program} {l:List Oper} {o:Oper} {Q:Exit→Act→World→Prop} (hB:pf l o=true):∀(order:List Nat) (a:Act) (w:World),(∀i∈order,i<l.length)→wpOps P l.toArray (xk P o Q) order a w→wpOps P (l++[o]).toArray Q (order++[l.length]) a w
 | [],a,w,_,h=>by
  have hg:o.guard=none:=by
   simp only [pf,Ht] at hB;simpa using hB.1.2
  have h':o.wp P a w (fun a w=>Q .normal a w) Q:=h;simp only [Js,wpOps,HY,List.getElem?_concat_length,Io,hg,if_true];exact .inl h'
 | i::order,a,w,hi,h=>by
  have hlt:=hi i (by simp);have hg:(l[i]).guard=none:=by
   simp only [pf,Ht,Ic,Hs] at hB;have:=hB.2 i hlt;rw [Hk hlt] at this;simp only [HS,Hv,Ht] at this;simpa using this.1
  rw [List.cons_append,wpOps_cons];rw [wpOps_cons] at h;unfold wpOp at h ⊢;simp only [HY,IK hlt,Hk hlt,Io,hg,if_true] at h ⊢;rcases h with h | ⟨h1,h2⟩
  ·refine .inl ?_
   have h3:l[i].wp P a w (wpOps P (l++[o]).toArray Q (order++[l.length])) (xk P o Q):=Oper.wp_mono (fun a w=>sC hB order a w (fun j hj=>hi j (by simp [hj]))) h;exact Bb h3
  ·exact .inr ⟨h1,h2⟩
theorem sW {P:Program} {id:Nat} {l:List Oper} {o:Oper} {Q:Exit→Act→World→Prop} {S:World→Prop} {a:Act} {w:World} (hm:P.follows .mixedOrders=true) (hB:pf l o=true) (hS:S w.drew)
  (h:S w.drew→wpAnyH P .any l.toArray (xk P o Q) S l.length (Iv l.length false) a w.drew):(Code.region id (l++[o]).toArray true).wp P Q a w :=
 wp_region_draw fun t=>by
  simp only [Region.schedule,hm,Bool.true_or,if_true];have e:Region.linearise .any (l++[o]).toArray t=Hr .any (l++[o]).toArray (l.length+1) t ((Iv l.length false).push false) []:=by
   simp only [Region.linearise,HV,IB,HZ];rw [Array.replicate_succ]
  obtain⟨h1,h2⟩:=EK hB l.length t (Iv l.length false) (by simp) (fun j oj hj hjl=>by
   rw [Hn,Array.getElem?_replicate] at hjl;split at hjl<;>cases hjl) (by unfold unl;exact Ia (List.length_filter_le _ _) (by simp))
  rw [e,h1];exact sC hB _ _ _ h2 (wpAny_sound _ t _ _ _ (wpAny_of_held _ _ _ _ (h hS)))
theorem lU {P:Program} {md:Jm} {ops:Array Oper} {o:Oper} {Q:Exit→Act→World→Prop} {S:World→Prop} {fuel:Nat} {listed:Array Bool} {a:Act} {w:World} (hr:Ho md ops listed=[]) (h:o.wp P a w (fun a w=>Q .normal a w) Q):wpAnyH P md ops (xk P o Q) S fuel listed a w :=
 wpAnyH_done hr h fuel
set_option maxRecDepth 100000
theorem om {P:Program} (w:World) (base:Nat) (t ty e:TypeId) (i:TypeInfo) (size c:Nat) (ht:P.underlying t=some (.slice e)) (hi:P.info? e=some i)
  (v:Value) (n:Nat) (xs:List Value) (hown:w.ownsRow base e size v n xs) :
  (Ja #[t,t] ty #[v,.slice none 0 c]).run P w = .ok v w:=by
 rcases hown.2 with ⟨rfl,rfl⟩ | ⟨g,cap,cur,rfl,_,_,hnc,_⟩
 ·simp [Ja,run_underlying ht,sizeOf,typeInfo,hi,Jt,Jh]
 ·simp [Ja,run_underlying ht,sizeOf,typeInfo,hi,Jt,Jh,hnc,storeCells]
theorem sB {P:Program} (w:World) {o:Oper} {a:Act} {K:Act→World→Prop} {Q:Exit→Act→World→Prop} (s x:Operand) (t:TypeId)
  (ho:o.op = .call {callee:=.builtin .append,args:=#[s,x],argTypes:=#[t,t]})
  (base:Nat) (e:TypeId) (i:TypeInfo) (z:Value) (size bytes:Nat) (ht:P.underlying t=some (.slice e)) (hi:P.info? e=some i) (hz:i.zero=some z)
  (hsize:i.size=size) (hby:i.bytes=bytes) (hzs:z.cells.size=size) (hsz:0<size)
  (v:Value) (n:Nat) (xs:List Value) (hs:a.eval s=v) (hown:w.ownsRow base e size v n xs)
  (A:Option Addr) (m c:Nat) (news:List Value) (hx:a.eval x = .slice A m c) (hl:news.length=m*size) (hA:m≠0→∃g o,A=some ⟨g,o,none⟩∧∀j u,news[j]?=some u→w.cell? ⟨g,o+j,none⟩=some u) (h1:∀u∈news,u.oneCell'=true)
  (h63:n+m≤maxLen) (hbytes:(n+m)*bytes≤140737488355328) (hbase:base≤w.heap.size)
  (h:∀v' w',w'.ownsRow base e size v' (n+m) (xs++news)→w.grownBy w' v.ownBlock→(v'.ownBlock=v.ownBlock∨v'.ownBlock=some w.heap.size)→K (a.put o.dst v') w'):o.wp P a w K Q:=by
 cases A with
 | some ad =>
  have hn:∀j u,news[j]?=some u→w.cell? (ad.add j)=some u:=fun j u hj=>by
   have hm:m≠0:=by
    rintro rfl;have:news=[]:=Iw (by simpa using hl);subst this;simp at hj
   obtain⟨g,o,e1,h2⟩:=hA hm;cases e1;rw [show(⟨g,o,none⟩:Addr).add j=⟨g,o+j,none⟩ by cases j<;>simp [Addr.add]];exact h2 j u hj
  obtain⟨v',w',hr,h2,h3,_,h5⟩:=run_append_own_at (P:=P) w base t o.type e i z size bytes ht hi hz hsize hby hzs hsz v n xs hown ad m c news hl hn h1 h63 hbytes hbase;unfold Oper.wp execOp;simp only [ho,resolve,invoke,builtin,Sem.run_bind,Sem.run_pure,Result.andThen_ok,List.map_toArray,IE,List.map_nil,hs,hx,hr];exact h v' w' h2 h3 h5
 | none =>
  have hm:m=0:=Hu fun hm=>by
   obtain⟨_,_,e1,_⟩:=hA hm;cases e1
  subst hm;have hnews:news=[]:=Iw (by simpa using hl);subst hnews;have hrun:=om (P:=P) w base t o.type e i size c ht hi v n xs hown;unfold Oper.wp;simp [execOp,ho,resolve,invoke,builtin,hs,hx,hrun,Result.andThen];exact h v w (by simpa using hown) (World.grownBy.refl _ _) (.inl rfl)
theorem cG {P:Program} (w:World) {ops:Array Oper} {o:Oper} {a:Act} {K:Act→World→Prop} {Q:Exit→Act→World→Prop} {E:Prop} (hgd:o.guard=none) (s x:Operand) (t:TypeId)
  (ho:o.op = .call {callee:=.builtin .append,args:=#[s,x],argTypes:=#[t,t]})
  (base:Nat) (e:TypeId) (i:TypeInfo) (z:Value) (size bytes:Nat) (ht:P.underlying t=some (.slice e)) (hi:P.info? e=some i) (hz:i.zero=some z)
  (hsize:i.size=size) (hby:i.bytes=bytes) (hzs:z.cells.size=size) (hsz:0<size)
  (v:Value) (n:Nat) (xs:List Value) (hs:a.eval s=v) (hown:w.ownsRow base e size v n xs)
  (A:Option Addr) (m c:Nat) (news:List Value) (hx:a.eval x = .slice A m c) (hl:news.length=m*size) (hA:m≠0→∃g o,A=some ⟨g,o,none⟩∧∀j u,news[j]?=some u→w.cell? ⟨g,o+j,none⟩=some u) (h1:∀u∈news,u.oneCell'=true)
  (h63:n+m≤maxLen) (hbytes:(n+m)*bytes≤140737488355328) (hbase:base≤w.heap.size)
  (h:∀v' w',w'.ownsRow base e size v' (n+m) (xs++news)→w.grownBy w' v.ownBlock→(v'.ownBlock=v.ownBlock∨v'.ownBlock=some w.heap.size)→K (a.put o.dst v') w') :
  if Io o (yielded ops a.tmps)=true then Oper.wp P o a w K Q else E:=by
 have hw:Io o (yielded ops a.tmps)=true:=by simp [Io,hgd]
 rw [if_pos hw];exact sB w s x t ho base e i z size bytes ht hi hz hsize hby hzs hsz v n xs hs hown A m c news hx hl hA h1 h63 hbytes hbase h
open Go Go.Proofs Go.V Go.RowKit Go.Lib Go.Sort
set_option maxRecDepth 100000
theorem dQ {w:World} (o:Obj) {n:Nat} (h:n=w.heap.size):(w.alloc o).heap[n]?=some o:=by
 subst h;exact Array.getElem?_push_size
theorem bB {w:World} (o:Obj) {n:Nat} {x:Obj} (h:w.heap[n]?=some x):(w.alloc o).heap[n]?=some x :=
 ((World.grownBy_alloc w o none).block n (Hh.1 h).1 (by simp)).trans h
theorem GG:(Tryz.prog.info? 3).map (fun i=>(i.zero,i.size,i.bytes))=some (some (.int .i64 0),1,8):=by kernel_rfl
theorem iO (w:World) (b:Nat) (v:Value):w.grownBy (w.setCell ⟨b,0,none⟩ v) (some b) :=
 ⟨rfl,rfl,rfl,by simp [IF],fun k _ h=>heap_setCell_other w ⟨b,0,none⟩ k v (fun e=>h (by rw [e]))⟩
theorem cj {w:World} {base e size n t b:Nat} {v x:Value} {xs:List Value} (h:w.ownsRow base e size v n xs) (hb:w.heap[b]?=some (.cells #[x] t (0,0))) (ht:t≠e):v.ownBlock≠some b:=by
 obtain⟨_,⟨rfl,_⟩ | ⟨g,cap,cur,rfl,_,hg,_⟩⟩:=h
 ·simp [HA]
 ·intro e
  simp only [HA,Jk] at e;rw [e,hb] at hg;simp only [Jk,Obj.cells.injEq] at hg;exact ht hg.2.1
theorem iN {w:World} {base e size n:Nat} {v:Value} {xs:List Value} (h:w.ownsRow base e size v (n+1) xs):∃g cap,v = .slice (some ⟨g,0,none⟩) (n+1) cap:=by
 obtain⟨_,⟨rfl,h⟩ | ⟨g,cap,cur,rfl,_⟩⟩:=h
 ·cases h
 ·exact⟨g,cap,rfl⟩
theorem gA {w:World} {base e size n:Nat} {v:Value} {xs:List Value} (h:w.ownsRow base e size v n xs):∀k,v.ownBlock=some k→base≤k∧k<w.heap.size:=by
 obtain⟨_,⟨rfl,_⟩ | ⟨g,cap,cur,rfl,hge,hg,_⟩⟩:=h
 ·intro k hk;cases hk
 ·intro k hk
  cases hk;exact⟨hge,(Hh.1 hg).1⟩
theorem bu {w w':World} {B b:Nat} {o:Obj} (h:Below B w w') (hb:w.heap[b]?=some o) (hB:b<B):w'.heap[b]?=some o:=(h.block b hB).trans hb
theorem nZ (w:World):Below w.heap.size w w.drew:=⟨rfl,rfl,rfl,Hl _,fun k hk=>rfl⟩
theorem mD {w:World} {g t:Nat} {v:Value} (h:w.heap[g]?=some (.cells #[v] t (0,0))):∀(j:Nat) (u:Value),[v][j]?=some u→w.cell? ⟨g,0+j,none⟩=some u:=by
 intro j u hj
 match j,hj with
 | 0,hj=>cases hj;exact(bN h).1
def yZ (n:Nat):List Int:=(Hz n).map fun(i:Nat)=>(i:Int)
theorem qe (n:Nat):yZ (n+1)=yZ n++[(n:Int)]:=by simp [yZ,IY]
def GB (w:World) (l:List Int) (t:Int) (e:Ending) (w':World):Prop :=
 ∃g cap cur,e = .returned (.tuple #[.slice (some ⟨g,0,none⟩) (cA l t).length cap,.bool (cK l t)])∧Below w.heap.size w w'∧w.heap.size≤g ∧
  w'.heap[g]?=some (.cells cur 3 (0,0))∧(cA l t).length≤cap∧cap≤cur.size∧∀(i:Nat) (u:Value),((cA l t).map (Hm .i64))[i]?=some u→cur[i]?=some u
theorem Ar {w wr:World} {l:List Int} {t:Int} (h:cK l t=false) (hb:Below w.heap.size w wr) (hs:w.heap.size≤wr.heap.size) :
  GB w l t (.returned (.tuple #[.slice (some ⟨wr.heap.size,0,none⟩) 0 0,.bool false])) (wr.alloc (.cells #[] 3)):=by
 refine⟨wr.heap.size,0,#[],?_,hb.alloc hs _,hs,dQ _ rfl,?_,Hl _,?_⟩
 ·rw [h]
  unfold cA;rw [h];rfl
 ·unfold cA
  rw [h];exact Hl _
 ·unfold cA
  rw [h];intro i u hu;simp at hu
set_option maxHeartbeats 4000000 in
set_option maxRecDepth 1000000 in
theorem CG (l:List Int) (hlen:l.length≤1000) (t:Int) (A:Option Addr) (c:Nat) (w:World)
  (hA:∀i,i<l.length→∃b o,A=some ⟨b,o,none⟩∧b<w.heap.size∧∀i,i<l.length→w.cell? ⟨b,o+i,none⟩=some (.int .i64 (l.getD i 0)))
  (hA2:∀W,Below w.heap.size w W→bj W (fun b=>b<w.heap.size) (aq l) (.slice A l.length c))
  (hwi:∀W (x lo hi:Int),Below w.heap.size w W→Calls Tryz.prog 42 #[.int .i64 x,.int .i64 lo,.int .i64 hi] W fun e W'=>e = .returned (.bool (decide (lo≤x∧x≤hi)))∧Below W.heap.size W W')
  (hsu:∀W v (s:List Int),Below w.heap.size w W→bj W (fun b=>b<W.heap.size) (aq s) v→s.length≤1048577→(∀x∈s,0≤x∧x≤1000000000000)→Calls Tryz.prog 43 #[v] W fun e W'=>e = .returned (.int .i64 (aB s))∧Below W.heap.size W W') :
  Calls Tryz.prog 6 #[.slice A l.length c,.int .i64 t] w fun e w'=>GB w l t e w':=by
 obtain⟨i0,hi,hz0,hz1,hz2⟩:=info_parts GG;have B2:Below w.heap.size w ((w.alloc (.cells #[.slice A l.length c] 23)).alloc (.cells #[.int .i64 t] 3)):=((Jf _ w).alloc (Hl _) _).alloc (by simp) _;have q0:((w.alloc (.cells #[.slice A l.length c] 23)).alloc (.cells #[.int .i64 t] 3)).heap[w.heap.size]?=some (.cells #[.slice A l.length c] 23 (0,0)):=bB _ (dQ _ rfl);have q1:((w.alloc (.cells #[.slice A l.length c] 23)).alloc (.cells #[.int .i64 t] 3)).heap[w.heap.size+1]?=some (.cells #[.int .i64 t] 3 (0,0)):=dQ _ (by simp);have hsz2:w.heap.size+2≤((w.alloc (.cells #[.slice A l.length c] 23)).alloc (.cells #[.int .i64 t] 3)).heap.size:=by simp
 go_enter Tryz.func6,Tryz.ntmps6
 go_wp2
 generalize (w.alloc (.cells #[.slice A l.length c] 23)).alloc (.cells #[.int .i64 t] 3)=W2 at *
 go_loopw [17] (fun vi wr=>∃k:Nat,vi = .int .i64 k∧k≤l.length∧(∀j,j<k→0≤l.getD j 0∧l.getD j 0≤1000000)∧Below W2.heap.size W2 wr) (fun vi _=>l.length - (intOf vi).toNat)
 case atStart=>exact⟨0,rfl,Ij _,fun j hj=>by omega,Jf _ _⟩
 case round =>
  obtain⟨k,rfl,hk,hal,hbw⟩:=hrel;have hwsz:=hbw.size;have hBw:Below w.heap.size w wr:=B2.trans (hbw.mono (by omega));have q0':=bu hbw q0 (by omega);have q1':=bu hbw q1 (by omega);by_cases hp:k<l.length
  ·have hpi:(k:Int)<(l.length:Int):=by omega
   obtain⟨b,o,rfl,hb,hcells⟩:=hA k hp;have hck:=(hBw.cell hb).trans (hcells k hp);have hc1:=hwi wr (l.getD k 0) 0 1000000 hBw;obtain⟨x,hx⟩:∃x,x=l.getD k 0:=⟨_,rfl⟩
   rw [←hx] at hck hc1;have HX:Hid (x=l.getD k 0):=hx;clear hx;cases hv:decide (0≤x∧x≤1000000)
   ·rw [hv] at hc1
    go_wp2_with (go_at_call 42;refine hc1.mono ?_;rintro e w2 ⟨rfl,hB⟩)
    go_ret2
    have hno:cK l t=false:=by
     unfold cK;have:l.all (fun w=>decide (0≤w∧w≤1000000))=false:=by
      rw [List.all_eq_false];refine⟨l.getD k 0,?_,by rw [←HX.out,hv];simp⟩
      rw [Hq,Hk hp];exact Hy _
     rw [this];rfl
    exact Ar hno (hBw.trans (hB.mono (by omega))) (by have:=hB.size;omega)
   ·have hv2:0≤x∧x≤1000000:=of_decide_eq_true hv
    rw [hv] at hc1
    go_wp2_with (go_at_call 42;refine hc1.mono ?_;rintro e w2 ⟨rfl,hB⟩)
    refine⟨⟨k+1,congrArg (Hm .i64) (by omega),by omega,fun j hj=>?_,hbw.trans (hB.mono hwsz)⟩,?_⟩
    ·by_cases e:j=k
     ·rw [e,←HX.out];exact hv2
     ·exact hal j (by omega)
    ·show l.length - ((k:Int)+1).toNat<l.length - (k:Int).toNat
     omega
  ·have hpi:¬(k:Int)<(l.length:Int):=by omega
   have hkn:k=l.length:=by omega
   subst hkn;have hall:∀x∈l,0≤x∧x≤1000000:=fun x hx=>by
    obtain⟨j,hj,rfl⟩:=HL hx;have:=hal j hj;rw [Hq,Hk hj] at this;exact this
   have hallB:l.all (fun w=>decide (0≤w∧w≤1000000))=true:=Ic.2 fun x hx=>decide_eq_true (hall x hx)
   have hcs:=hsu wr (.slice A l.length c) l hBw (aS (fun b hb=>by have:=hBw.size;exact HH hb this) (fun _ _=>rfl) (hA2 wr hBw)) (by omega) (fun x hx=>by have:=hall x hx;omega);clear hal;obtain⟨d0,_⟩:=bN q0'
   go_upto_region 8 with (go_at_call 43;refine hcs.mono ?_;rintro e w3 ⟨rfl,hB3⟩)
   have hs3:=hB3.size;have hB3':Below w.heap.size w w3:=hBw.trans (hB3.mono (by omega));have q0a:(w3.alloc (.cells #[.int .i64 (aB l)] 3)).heap[w.heap.size]?=some (.cells #[.slice A l.length c] 23 (0,0)):=bB _ (bu hB3 q0' (by omega));have q1a:(w3.alloc (.cells #[.int .i64 (aB l)] 3)).heap[w.heap.size+1]?=some (.cells #[.int .i64 t] 3 (0,0)):=bB _ (bu hB3 q1' (by omega));have qaa:(w3.alloc (.cells #[.int .i64 (aB l)] 3)).heap[w3.heap.size]?=some (.cells #[.int .i64 (aB l)] 3 (0,0)):=dQ _ rfl;have B4:Below w.heap.size w (w3.alloc (.cells #[.int .i64 (aB l)] 3)):=hB3'.alloc (by omega) _;have s4:w3.heap.size+1≤(w3.alloc (.cells #[.int .i64 (aB l)] 3)).heap.size:=by simp
   obtain⟨Na,hNa⟩:∃Na,Na=w3.heap.size:=⟨_,rfl⟩
   rw [←hNa] at qaa s4 ⊢;have hNa2:w.heap.size+2≤Na:=by omega
   generalize w3.alloc (.cells #[.int .i64 (aB l)] 3)=W4 at *;clear d0 hNa hB3' hB3 hs3 q0' q1' hBw hwsz hbw q0 q1 hsz2 B2 hcs hpi hp hk;have hwl:=hwi W4 (l.length:Int) 1 32 B4;have hwt:∀W,Below W4.heap.size W4 W→Calls Tryz.prog 42 #[.int .i64 t,.int .i64 0,.int .i64 100000] W fun e W'=>e = .returned (.bool (decide (0≤t∧t≤100000)))∧Below W.heap.size W W':=fun W hW=>hwi W t 0 100000 (B4.trans (hW.mono (by omega)))
   obtain⟨c0,_⟩:=bN q0a;have cq:∀W,Below W4.heap.size W4 W→W.cell? ⟨Na,0,none⟩=some (.int .i64 (aB l))∧W.cell? ⟨w.heap.size+1,0,none⟩=some (.int .i64 t):=fun W hW=>⟨(bN (bu hW qaa (by omega))).1,(bN (bu hW q1a (by omega))).1⟩
   obtain⟨nb,hnb⟩:∃nb,nb = !cK l t:=⟨_,rfl⟩
   have HNB:Hid _:=hnb;clear hnb
   go_cut [40] from 15 (fun t40 wc=>t40 = .bool nb∧Below W4.heap.size W4 wc)
   case first =>
    cases hv1:decide (1≤(l.length:Int)∧(l.length:Int)≤32)
    ·have hno:cK l t=false:=by
      have h:=of_decide_eq_false hv1;unfold cK;rw [hallB,decide_eq_false (show ¬(1≤l.length∧l.length≤32) by omega)];rfl
     rw [hv1] at hwl
     go_wp2_with (go_at_call 42;refine hwl.mono ?_;rintro e w5 ⟨rfl,hB5⟩)
     go_meet
     case rel=>exact⟨by rw [HNB.out,hno];rfl,hB5⟩
    ·have h:=of_decide_eq_true hv1
     rw [hv1] at hwl;by_cases hs0:aB l=0
     ·have hno:cK l t=false:=by
       unfold cK;rw [decide_eq_false (show ¬aB l≠0 by omega)];simp
      rw [hs0] at cq
      go_wp2_with (go_at_call 42;refine hwl.mono ?_;rintro e w5 ⟨rfl,hB5⟩;have c1:=(cq _ hB5).1)
      go_meet
      case rel=>exact⟨by rw [HNB.out,hno];rfl,hB5⟩
     ·have hok:cK l t=decide (0≤t∧t≤100000):=by
       unfold cK;rw [hallB,decide_eq_true (show 1≤l.length∧l.length≤32 by omega),decide_eq_true hs0];simp
      have HOK:Hid _:=hok;clear hok;obtain⟨vt,hvt⟩:∃vt,vt=decide (0≤t∧t≤100000):=⟨_,rfl⟩
      have HVT:Hid _:=hvt;rw [←hvt] at hwt;clear hvt;cases vt
      all_goals
       go_wp2_with (first
        | (go_at_call 42;refine(hwt _ hB5).mono ?_;rintro e w6 ⟨rfl,hB6⟩)
        | (go_at_call 42;refine hwl.mono ?_;rintro e w5 ⟨rfl,hB5⟩;have c1:=cq _ hB5;have c2:=c1.1;have c3:=c1.2;clear c1)
        | go_in)
       go_meet
       case rel=>exact⟨by rw [HNB.out,HOK.out,←HVT.out];simp [hs0],hB5.trans (hB6.mono hB5.size)⟩
   case rest =>
    obtain⟨rfl,hB5⟩:=hcut;clear cq hwl hwt c0;have hs5:=hB5.size;have B5:Below w.heap.size w wc:=B4.trans (hB5.mono (by omega));have p0:=bu hB5 q0a (by omega);have p1:=bu hB5 q1a (by omega);have pa:=bu hB5 qaa (by omega);clear q0a q1a qaa B4;cases nb
    case true =>
     go_wp2
     go_ret2
     exact Ar (by simpa using HNB.out.symm) B5 B5.size
    have hok:cK l t=true:=by simpa using HNB.out
    obtain⟨⟨hn1,hn2⟩,hs0,ht0,ht1⟩:(1≤l.length∧l.length≤32)∧aB l≠0∧0≤t∧t≤100000:=by
     have h:=hok;unfold cK at h;simp only [Ht,decide_eq_true_eq] at h;exact⟨h.1.1.2,h.1.2,h.2⟩
    have hsb:=eH 1000000 l hall;have ha0:0<aB l∧aB l≤1000000000:=by omega
    have HOK:Hid _:=hok;clear hok;have hleft:=wq l t hn1 (by omega);generalize hga:aB l=a at *;have HGA:Hid _:=hga;clear hga;obtain⟨b,o,rfl,hb,hcells⟩:=hA 0 (by omega);have d0:∀o1 o2 o3,(((wc.alloc o1).alloc o2).alloc o3).cell? ⟨w.heap.size,0,none⟩=some (.slice (some ⟨b,o,none⟩) l.length c):=fun o1 o2 o3=>(bN (bB _ (bB _ (bB _ p0)))).1
    go_wp2
    clear d0
    go_loopw [9,46] (fun v9 vi wr=>∃k g9 c9 g10 c10:Nat,vi = .int .i64 k∧k≤l.length∧v9 = .slice (some ⟨g9,0,none⟩) k c9∧wr.ownsRow wc.heap.size 3 1 (.slice (some ⟨g9,0,none⟩) k c9) k (((bsW l t a).take k).map (Hm .i64)) ∧
     wr.ownsRow wc.heap.size 3 1 (.slice (some ⟨g10,0,none⟩) k c10) k ((yZ k).map (Hm .i64))∧wr.heap[wc.heap.size+2]?=some (.cells #[.slice (some ⟨g10,0,none⟩) k c10] 23 (0,0))∧g9≠g10∧Below wc.heap.size wc wr∧wc.heap.size+3≤wr.heap.size) (fun _ vi _=>l.length - (intOf vi).toNat)
    case atStart =>
     refine⟨0,wc.heap.size,0,wc.heap.size+1,0,rfl,Ij _,rfl,⟨rfl,.inr ⟨_,0,#[],rfl,Hl _,?_,Hl _,Ij _,rfl,rfl⟩⟩,⟨rfl,.inr ⟨_,0,#[],rfl,by omega,?_,Hl _,Ij _,rfl,rfl⟩⟩,?_,by omega,(((Jf _ wc).alloc (Hl _) _).alloc (by simp) _).alloc (by simp;omega) _,by simp⟩
     ·exact bB _ (bB _ (dQ _ rfl))
     ·exact bB _ (dQ _ (by simp))
     ·exact dQ _ (by simp)
    case round =>
     obtain⟨k,g9,c9,g10,c10,rfl,hk,rfl,hr9,hr10,hbx,hne,hbw,hsz⟩:=hrel;by_cases hp:k<l.length
     ·have hpi:(k:Int)<(l.length:Int):=by omega
      have hck:=((B5.trans (hbw.mono B5.size)).cell hb).trans (hcells k hp);have hwk:0≤l.getD k 0∧l.getD k 0≤1000000:=by
       rw [Hq,Hk hp];exact hall _ (Hy _)
      have hbk:(bsW l t a).take (k+1)=(bsW l t a).take k++[t*l.getD k 0 / a]:=by
       rw [Ir (by simpa [bsW] using hp)];simp [bsW,hp]
      obtain⟨x,hx⟩:∃x,x=l.getD k 0:=⟨_,rfl⟩
      rw [←hx] at hck hwk hbk;clear hx;have HBK:Hid _:=hbk;clear hbk;have m1:0≤t*x:=Ix ht0 hwk.1;have m2:t*x≤100000*1000000:=Iy ht1 hwk.2 hwk.1 (by omega);have hval:Ik.wrap ((Ik.wrap (t*x)).tdiv a)=t*x / a:=by
       have d1:0≤t*x / a:=Jr m1 (by omega);have d2:t*x / a≤t*x:=Jn _ m1;rw [wrap_id (a:=t*x) (by omega) (by omega),Int.tdiv_eq_ediv_of_nonneg m1,wrap_id (by omega) (by omega)]
      have hg10:g10<wr.heap.size:=(gA hr10 g10 rfl).2;have hg9:g9<wr.drew.heap.size:=(gA hr9 g9 rfl).2;have hcells:Hid (∀X:World,Below wc.heap.size wc X→X.heap[wc.heap.size+2]?=some (.cells #[.slice (some ⟨g10,0,none⟩) k c10] 23 (0,0))→X.cell? ⟨w.heap.size+1,0,none⟩=some (.int .i64 t)∧(X.cell? ⟨Na,0,none⟩=some (.int .i64 a)∧X.cell? ⟨wc.heap.size+2,0,none⟩=some (.slice (some ⟨g10,0,none⟩) k c10))):=fun X hX hb=>⟨(bN (bu hX p1 (by omega))).1,(bN (bu hX pa (by omega))).1,(bN hb).1⟩
      have hX0:Below wr.heap.size wr wr.drew:=nZ wr
      go_upto_region 14 with fail
      replace hr9:wr.drew.ownsRow wc.heap.size 3 1 (.slice (some ⟨g9,0,none⟩) k c9) k (((bsW l t a).take k).map (Hm .i64)):=hr9;replace hr10:wr.drew.ownsRow wc.heap.size 3 1 (.slice (some ⟨g10,0,none⟩) k c10) k ((yZ k).map (Hm .i64)):=hr10;replace hbx:wr.drew.heap[wc.heap.size+2]?=some (.cells #[.slice (some ⟨g10,0,none⟩) k c10] 23 (0,0)):=hbx;replace hg10:g10<wr.drew.heap.size:=hg10;replace hsz:wc.heap.size+3≤wr.drew.heap.size:=hsz;have hX:Below wc.heap.size wc wr.drew:=hbw.trans (hX0.mono hbw.size);have hSd:=hcells.out _ hX hbx;clear hX0;refine sW (l:=[_,_,_,_,_,_,_,_,_,_,_,_,_]) (o:=_) (S:=fun w'=>w'.cell? ⟨w.heap.size+1,0,none⟩=some (.int .i64 t)∧(w'.cell? ⟨Na,0,none⟩=some (.int .i64 a)∧w'.cell? ⟨wc.heap.size+2,0,none⟩=some (.slice (some ⟨g10,0,none⟩) k c10))) (by kernel_rfl) (by kernel_rfl) hSd (fun hHeld=>?_)
      change wpAnyH _ _ _ _ _ 13 (Iv 13 false) _ _
      change wpAnyH _ _ _ _ _ _ _ _ wr.drew
      generalize wr.drew=W0 at *;refine wpAnyH_take (i:=0) (oi:=_) (v:=?vd1) rfl (by kernel_rfl) (by kernel_rfl) (by kernel_rfl) (fun _ _ _ h=>h) (Il ⟨by rfl,?yd1⟩) hHeld ?rd1
      case yd1=>(intro w0 hSw;obtain⟨hSw0,hSw1,hSw2⟩:=hSw;go_simp;try with_reducible rfl)
      (try simp only [Hw,Hg,Hi,Hj])
      refine wpAnyH_take (i:=1) (oi:=_) (v:=?vd2) rfl (by kernel_rfl) (by kernel_rfl) (by kernel_rfl) (fun _ _ _ h=>h) (Il ⟨by rfl,?yd2⟩) hHeld ?rd2
      case yd2=>(intro w0 hSw;obtain⟨hSw0,hSw1,hSw2⟩:=hSw;go_simp;try with_reducible rfl)
      (try simp only [Hw,Hg,Hi,Hj])
      refine wpAnyH_take (i:=2) (oi:=_) (v:=?vd3) rfl (by kernel_rfl) (by kernel_rfl) (by kernel_rfl) (fun _ _ _ h=>h) (Il ⟨by rfl,?yd3⟩) hHeld ?rd3
      case yd3=>(intro w0 hSw;obtain⟨hSw0,hSw1,hSw2⟩:=hSw;go_simp;try with_reducible rfl)
      (try simp only [Hw,Hg,Hi,Hj])
      refine wpAnyH_take (i:=3) (oi:=_) (v:=?vd4) rfl (by kernel_rfl) (by kernel_rfl) (by kernel_rfl) (fun _ _ _ h=>h) (Il ⟨by rfl,?yd4⟩) hHeld ?rd4
      case yd4=>(intro w0 hSw;obtain⟨hSw0,hSw1,hSw2⟩:=hSw;go_simp;try with_reducible rfl)
      (try simp only [Hw,Hg,Hi,Hj])
      refine wpAnyH_take (i:=4) (oi:=_) (v:=?vd5) rfl (by kernel_rfl) (by kernel_rfl) (by kernel_rfl) (fun _ _ _ h=>h) (Il ⟨by rfl,?yd5⟩) hHeld ?rd5
      case yd5=>(intro w0 hSw;obtain⟨hSw0,hSw1,hSw2⟩:=hSw;go_simp;try with_reducible rfl)
      (try simp only [Hw,Hg,Hi,Hj])
      refine wpAnyH_take (i:=5) (oi:=_) (v:=?vd6) rfl (by kernel_rfl) (by kernel_rfl) (by kernel_rfl) (fun _ _ _ h=>h) (Il ⟨by rfl,?yd6⟩) hHeld ?rd6
      case yd6=>(intro w0 hSw;obtain⟨hSw0,hSw1,hSw2⟩:=hSw;go_simp;try with_reducible rfl)
      (try simp only [Hw,Hg,Hi,Hj])
      refine wpAnyH_take (i:=8) (oi:=_) (v:=?vd7) rfl (by kernel_rfl) (by kernel_rfl) (by kernel_rfl) (fun _ _ _ h=>h) (Il ⟨by rfl,?yd7⟩) hHeld ?rd7
      case yd7=>(intro w0 hSw;obtain⟨hSw0,hSw1,hSw2⟩:=hSw;go_simp;try with_reducible rfl)
      (try simp only [Hw,Hg,Hi,Hj])
      refine wpAnyH_take (i:=9) (oi:=_) (v:=?vd8) rfl (by kernel_rfl) (by kernel_rfl) (by kernel_rfl) (fun _ _ _ h=>h) (Il ⟨by rfl,?yd8⟩) hHeld ?rd8
      case yd8=>(intro w0 hSw;obtain⟨hSw0,hSw1,hSw2⟩:=hSw;go_simp;try with_reducible rfl)
      (try simp only [Hw,Hg,Hi,Hj])
      refine wpAnyH_ready (rs:=[6,10]) (by kernel_rfl) (by simp) ?_
      refine Hx (o:=_) rfl (fun K hK=>?_) ?_
      ·go_simp
       try rw [hval]
       have hE:(W0.alloc (.cells #[.int .i64 (t*x / a)] 3)).heap[W0.heap.size]?=some (.cells #[.int .i64 (t*x / a)] 3 (0,0)):=dQ _ (by simp);have hX:=hX.alloc hX.size (.cells #[.int .i64 (t*x / a)] 3);have hbx:=bB (.cells #[.int .i64 (t*x / a)] 3) hbx;have hr9:=hr9.alloc (.cells #[.int .i64 (t*x / a)] 3);have hr10:=hr10.alloc (.cells #[.int .i64 (t*x / a)] 3);have hsz:wc.heap.size+3≤(W0.alloc (.cells #[.int .i64 (t*x / a)] 3)).heap.size:=by simp;omega
       have hg10:g10<(W0.alloc (.cells #[.int .i64 (t*x / a)] 3)).heap.size:=by simp;omega
       refine hK.out _ _ ?_ (fun hHeld=>?_)
       ·exact hcells.out _ hX hbx
       clear hK K
       (try simp only [Hw,Hg,Hi,Hj])
       refine wpAnyH_ready (rs:=[7,10]) (by kernel_rfl) (by simp) ?_
       refine Hx (o:=_) rfl (fun K hK=>?_) ?_
       ·refine cG _ rfl _ _ 23 rfl wc.heap.size 3 i0 (.int .i64 0) 1 8 Tryz.underlying23 hi hz0 hz1 hz2 rfl (by decide) (.slice (some ⟨g9,0,none⟩) k c9) _ _ (by simp [go_sem];done) hr9 (some ⟨W0.heap.size,0,none⟩) 1 1 [.int .i64 (t*x / a)] (by simp [go_sem];done) rfl (fun _=>⟨_,_,rfl,mD hE⟩) (by intro u hu;simp at hu;subst hu;rfl) (by unfold maxLen;omega) (by omega) (by omega) ?_
        intro v5 w5 hown5 hg5 hat5;obtain⟨g9b,c9b,rfl⟩:=iN hown5;have hne5:g9b≠g10:=by
         rcases hat5 with h | h
         ·have e:g9b=g9:=Hp h
          omega
         ·have e:g9b=(W0.alloc (.cells #[.int .i64 (t*x / a)] 3)).heap.size:=Hp h
          omega
        have hb5:some (wc.heap.size+2)≠(Im (some ⟨g9,0,none⟩) k c9).ownBlock:=(cj hr9 hbx (by decide)).symm;have hr10:=hr10.kept hg5 (.inr (by simp [HA];omega));have hX:=hX.grown hg5 hX.size (fun j hj=>(gA hr9 j hj).1);have hbx:=(hg5.block (wc.heap.size+2) (by omega) hb5).trans hbx;have hsz:=Ia hsz hg5.size;have hg10:=HH hg10 hg5.size;have hr5:=hown5;clear hat5 hg5 hown5 hr9 hb5;refine hK.out _ _ ?_ (fun hHeld=>?_)
        ·exact hcells.out _ hX hbx
        clear hK K
        (try simp only [Hw,Hg,Hi,Hj])
        refine wpAnyH_ready (rs:=[10]) (by kernel_rfl) (by simp) ?_
        refine Hx (o:=_) rfl (fun K hK=>?_) ?_
        ·go_simp
         have hM:(w5.alloc (.cells #[.int .i64 (k:Int)] 3)).heap[w5.heap.size]?=some (.cells #[.int .i64 (k:Int)] 3 (0,0)):=dQ _ (by simp);have hX:=hX.alloc hX.size (.cells #[.int .i64 (k:Int)] 3);have hbx:=bB (.cells #[.int .i64 (k:Int)] 3) hbx;have hr5:=hr5.alloc (.cells #[.int .i64 (k:Int)] 3);have hr10:=hr10.alloc (.cells #[.int .i64 (k:Int)] 3);have hsz:wc.heap.size+3≤(w5.alloc (.cells #[.int .i64 (k:Int)] 3)).heap.size:=by simp;omega
         have hg10:g10<(w5.alloc (.cells #[.int .i64 (k:Int)] 3)).heap.size:=by simp;omega
         refine hK.out _ _ ?_ (fun hHeld=>?_)
         ·exact hcells.out _ hX hbx
         clear hK K
         (try simp only [Hw,Hg,Hi,Hj])
         refine wpAnyH_ready (rs:=[11]) (by kernel_rfl) (by simp) ?_
         refine Hx (o:=_) rfl (fun K hK=>?_) ?_
         ·refine cG _ rfl _ _ 23 rfl wc.heap.size 3 i0 (.int .i64 0) 1 8 Tryz.underlying23 hi hz0 hz1 hz2 rfl (by decide) (.slice (some ⟨g10,0,none⟩) k c10) _ _ (by simp [go_sem];done) hr10 (some ⟨w5.heap.size,0,none⟩) 1 1 [.int .i64 (k:Int)] (by simp [go_sem];done) rfl (fun _=>⟨_,_,rfl,mD hM⟩) (by intro u hu;simp at hu;subst hu;rfl) (by unfold maxLen;omega) (by omega) (by omega) ?_
          intro v6 w6 hown6 hg6 hat6;obtain⟨g10b,c10b,rfl⟩:=iN hown6;have hg9b:=(gA hr5 g9b rfl).2;have hne6:g9b≠g10b:=by
           rcases hat6 with h | h
           ·have e:g10b=g10:=Hp h
            omega
           ·have e:g10b=(w5.alloc (.cells #[.int .i64 (k:Int)] 3)).heap.size:=Hp h
            omega
          have hb6:some (wc.heap.size+2)≠(Im (some ⟨g10,0,none⟩) k c10).ownBlock:=(cj hr10 hbx (by decide)).symm;have hr5:=hr5.kept hg6 (.inr (by simp [HA];omega));have hX:=hX.grown hg6 hX.size (fun j hj=>(gA hr10 j hj).1);have hbx:=(hg6.block (wc.heap.size+2) (by omega) hb6).trans hbx;have hsz:=Ia hsz hg6.size;clear hat6 hg6 hr10 hb6;refine hK.out _ _ ?_ (fun hHeld=>?_)
          ·exact hcells.out _ hX hbx
          clear hK K
          (try simp only [Hw,Hg,Hi,Hj])
          refine wpAnyH_take (i:=12) (oi:=_) (v:=?vd9) rfl (by kernel_rfl) (by kernel_rfl) (by kernel_rfl) (fun _ _ _ h=>h) (Il ⟨by rfl,?yd9⟩) hHeld ?rd9
          case yd9=>(intro w0 hSw;obtain⟨hSw0,hSw1,hSw2⟩:=hSw;go_simp;try with_reducible rfl)
          (try simp only [Hw,Hg,Hi,Hj])
          refine lU (by kernel_rfl) ?_
          have hb6:=cj hown6 hbx (by decide);have hb9:=cj hr5 hbx (by decide);obtain⟨g1,g2⟩:=bN hbx
          go_simp
          go_wp2
          refine⟨⟨k+1,g9b,c9b,g10b,c10b,congrArg (Hm .i64) (by omega),by omega,rfl,?_,?_,?_,hne6,hX.setCell (by simp;omega) _,?_⟩,?_⟩
          ·rw [HBK.out,HU]
           exact hr5.kept (iO _ _ _) (.inr hb9)
          ·rw [qe,HU]
           exact hown6.kept (iO _ _ _) (.inr hb6)
          ·rw [heap_setCell_same _ _ _ _ _ _ hbx]
           rfl
          ·simp [IF]
           omega
          ·show l.length - ((k:Int)+1).toNat<l.length - (k:Int).toNat
           omega
         exact HF
        exact HF
       refine Hx (o:=_) rfl (fun K hK=>?_) ?_
       ·go_simp
        have hE:=bB (.cells #[.int .i64 (k:Int)] 3) hE;have hM:((W0.alloc (.cells #[.int .i64 (t*x / a)] 3)).alloc (.cells #[.int .i64 (k:Int)] 3)).heap[W0.heap.size+1]?=some (.cells #[.int .i64 (k:Int)] 3 (0,0)):=dQ _ (by simp);have hX:=hX.alloc hX.size (.cells #[.int .i64 (k:Int)] 3);have hbx:=bB (.cells #[.int .i64 (k:Int)] 3) hbx;have hr9:=hr9.alloc (.cells #[.int .i64 (k:Int)] 3);have hr10:=hr10.alloc (.cells #[.int .i64 (k:Int)] 3);have hsz:wc.heap.size+3≤((W0.alloc (.cells #[.int .i64 (t*x / a)] 3)).alloc (.cells #[.int .i64 (k:Int)] 3)).heap.size:=by simp;omega
        have hg10:g10<((W0.alloc (.cells #[.int .i64 (t*x / a)] 3)).alloc (.cells #[.int .i64 (k:Int)] 3)).heap.size:=by simp;omega
        refine hK.out _ _ ?_ (fun hHeld=>?_)
        ·exact hcells.out _ hX hbx
        clear hK K
        (try simp only [Hw,Hg,Hi,Hj])
        refine wpAnyH_ready (rs:=[7]) (by kernel_rfl) (by simp) ?_
        refine Hx (o:=_) rfl (fun K hK=>?_) ?_
        ·refine cG _ rfl _ _ 23 rfl wc.heap.size 3 i0 (.int .i64 0) 1 8 Tryz.underlying23 hi hz0 hz1 hz2 rfl (by decide) (.slice (some ⟨g9,0,none⟩) k c9) _ _ (by simp [go_sem];done) hr9 (some ⟨W0.heap.size,0,none⟩) 1 1 [.int .i64 (t*x / a)] (by simp [go_sem];done) rfl (fun _=>⟨_,_,rfl,mD hE⟩) (by intro u hu;simp at hu;subst hu;rfl) (by unfold maxLen;omega) (by omega) (by omega) ?_
         intro v5 w5 hown5 hg5 hat5;obtain⟨g9b,c9b,rfl⟩:=iN hown5;have hne5:g9b≠g10:=by
          rcases hat5 with h | h
          ·have e:g9b=g9:=Hp h
           omega
          ·have e:g9b=((W0.alloc (.cells #[.int .i64 (t*x / a)] 3)).alloc (.cells #[.int .i64 (k:Int)] 3)).heap.size:=Hp h
           omega
         have hb5:some (wc.heap.size+2)≠(Im (some ⟨g9,0,none⟩) k c9).ownBlock:=(cj hr9 hbx (by decide)).symm;have hr10:=hr10.kept hg5 (.inr (by simp [HA];omega));have hg9l:g9<W0.heap.size:=hg9;have hM:=(hg5.block (W0.heap.size+1) (Hh.1 hM).1 (fun h=>by have e:W0.heap.size+1=g9:=Hp h;omega)).trans hM;have hX:=hX.grown hg5 hX.size (fun j hj=>(gA hr9 j hj).1);have hbx:=(hg5.block (wc.heap.size+2) (by omega) hb5).trans hbx;have hsz:=Ia hsz hg5.size;have hg10:=HH hg10 hg5.size;have hr5:=hown5;clear hat5 hg5 hown5 hr9 hb5;refine hK.out _ _ ?_ (fun hHeld=>?_)
         ·exact hcells.out _ hX hbx
         clear hK K
         (try simp only [Hw,Hg,Hi,Hj])
         refine wpAnyH_ready (rs:=[11]) (by kernel_rfl) (by simp) ?_
         refine Hx (o:=_) rfl (fun K hK=>?_) ?_
         ·refine cG _ rfl _ _ 23 rfl wc.heap.size 3 i0 (.int .i64 0) 1 8 Tryz.underlying23 hi hz0 hz1 hz2 rfl (by decide) (.slice (some ⟨g10,0,none⟩) k c10) _ _ (by simp [go_sem];done) hr10 (some ⟨W0.heap.size+1,0,none⟩) 1 1 [.int .i64 (k:Int)] (by simp [go_sem];done) rfl (fun _=>⟨_,_,rfl,mD hM⟩) (by intro u hu;simp at hu;subst hu;rfl) (by unfold maxLen;omega) (by omega) (by omega) ?_
          intro v6 w6 hown6 hg6 hat6;obtain⟨g10b,c10b,rfl⟩:=iN hown6;have hg9b:=(gA hr5 g9b rfl).2;have hne6:g9b≠g10b:=by
           rcases hat6 with h | h
           ·have e:g10b=g10:=Hp h
            omega
           ·have e:g10b=w5.heap.size:=Hp h
            omega
          have hb6:some (wc.heap.size+2)≠(Im (some ⟨g10,0,none⟩) k c10).ownBlock:=(cj hr10 hbx (by decide)).symm;have hr5:=hr5.kept hg6 (.inr (by simp [HA];omega));have hX:=hX.grown hg6 hX.size (fun j hj=>(gA hr10 j hj).1);have hbx:=(hg6.block (wc.heap.size+2) (by omega) hb6).trans hbx;have hsz:=Ia hsz hg6.size;clear hat6 hg6 hr10 hb6;refine hK.out _ _ ?_ (fun hHeld=>?_)
          ·exact hcells.out _ hX hbx
          clear hK K
          (try simp only [Hw,Hg,Hi,Hj])
          refine wpAnyH_take (i:=12) (oi:=_) (v:=?vd10) rfl (by kernel_rfl) (by kernel_rfl) (by kernel_rfl) (fun _ _ _ h=>h) (Il ⟨by rfl,?yd10⟩) hHeld ?rd10
          case yd10=>(intro w0 hSw;obtain⟨hSw0,hSw1,hSw2⟩:=hSw;go_simp;try with_reducible rfl)
          (try simp only [Hw,Hg,Hi,Hj])
          refine lU (by kernel_rfl) ?_
          have hb6:=cj hown6 hbx (by decide);have hb9:=cj hr5 hbx (by decide);obtain⟨g1,g2⟩:=bN hbx
          go_simp
          go_wp2
          refine⟨⟨k+1,g9b,c9b,g10b,c10b,congrArg (Hm .i64) (by omega),by omega,rfl,?_,?_,?_,hne6,hX.setCell (by simp;omega) _,?_⟩,?_⟩
          ·rw [HBK.out,HU]
           exact hr5.kept (iO _ _ _) (.inr hb9)
          ·rw [qe,HU]
           exact hown6.kept (iO _ _ _) (.inr hb6)
          ·rw [heap_setCell_same _ _ _ _ _ _ hbx]
           rfl
          ·simp [IF]
           omega
          ·show l.length - ((k:Int)+1).toNat<l.length - (k:Int).toNat
           omega
         exact HF
        exact HF
       exact HF
      refine Hx (o:=_) rfl (fun K hK=>?_) ?_
      ·go_simp
       have hM:(W0.alloc (.cells #[.int .i64 (k:Int)] 3)).heap[W0.heap.size]?=some (.cells #[.int .i64 (k:Int)] 3 (0,0)):=dQ _ (by simp);have hX:=hX.alloc hX.size (.cells #[.int .i64 (k:Int)] 3);have hbx:=bB (.cells #[.int .i64 (k:Int)] 3) hbx;have hr9:=hr9.alloc (.cells #[.int .i64 (k:Int)] 3);have hr10:=hr10.alloc (.cells #[.int .i64 (k:Int)] 3);have hsz:wc.heap.size+3≤(W0.alloc (.cells #[.int .i64 (k:Int)] 3)).heap.size:=by simp;omega
       have hg10:g10<(W0.alloc (.cells #[.int .i64 (k:Int)] 3)).heap.size:=by simp;omega
       refine hK.out _ _ ?_ (fun hHeld=>?_)
       ·exact hcells.out _ hX hbx
       clear hK K
       (try simp only [Hw,Hg,Hi,Hj])
       refine wpAnyH_ready (rs:=[6]) (by kernel_rfl) (by simp) ?_
       refine Hx (o:=_) rfl (fun K hK=>?_) ?_
       ·go_simp
        try rw [hval]
        have hM:=bB (.cells #[.int .i64 (t*x / a)] 3) hM;have hE:((W0.alloc (.cells #[.int .i64 (k:Int)] 3)).alloc (.cells #[.int .i64 (t*x / a)] 3)).heap[W0.heap.size+1]?=some (.cells #[.int .i64 (t*x / a)] 3 (0,0)):=dQ _ (by simp);have hX:=hX.alloc hX.size (.cells #[.int .i64 (t*x / a)] 3);have hbx:=bB (.cells #[.int .i64 (t*x / a)] 3) hbx;have hr9:=hr9.alloc (.cells #[.int .i64 (t*x / a)] 3);have hr10:=hr10.alloc (.cells #[.int .i64 (t*x / a)] 3);have hsz:wc.heap.size+3≤((W0.alloc (.cells #[.int .i64 (k:Int)] 3)).alloc (.cells #[.int .i64 (t*x / a)] 3)).heap.size:=by simp;omega
        have hg10:g10<((W0.alloc (.cells #[.int .i64 (k:Int)] 3)).alloc (.cells #[.int .i64 (t*x / a)] 3)).heap.size:=by simp;omega
        refine hK.out _ _ ?_ (fun hHeld=>?_)
        ·exact hcells.out _ hX hbx
        clear hK K
        (try simp only [Hw,Hg,Hi,Hj])
        refine wpAnyH_ready (rs:=[7]) (by kernel_rfl) (by simp) ?_
        refine Hx (o:=_) rfl (fun K hK=>?_) ?_
        ·refine cG _ rfl _ _ 23 rfl wc.heap.size 3 i0 (.int .i64 0) 1 8 Tryz.underlying23 hi hz0 hz1 hz2 rfl (by decide) (.slice (some ⟨g9,0,none⟩) k c9) _ _ (by simp [go_sem];done) hr9 (some ⟨W0.heap.size+1,0,none⟩) 1 1 [.int .i64 (t*x / a)] (by simp [go_sem];done) rfl (fun _=>⟨_,_,rfl,mD hE⟩) (by intro u hu;simp at hu;subst hu;rfl) (by unfold maxLen;omega) (by omega) (by omega) ?_
         intro v5 w5 hown5 hg5 hat5;obtain⟨g9b,c9b,rfl⟩:=iN hown5;have hne5:g9b≠g10:=by
          rcases hat5 with h | h
          ·have e:g9b=g9:=Hp h
           omega
          ·have e:g9b=((W0.alloc (.cells #[.int .i64 (k:Int)] 3)).alloc (.cells #[.int .i64 (t*x / a)] 3)).heap.size:=Hp h
           omega
         have hb5:some (wc.heap.size+2)≠(Im (some ⟨g9,0,none⟩) k c9).ownBlock:=(cj hr9 hbx (by decide)).symm;have hr10:=hr10.kept hg5 (.inr (by simp [HA];omega));have hg9l:g9<W0.heap.size:=hg9;have hM:=(hg5.block (W0.heap.size) (Hh.1 hM).1 (fun h=>by have e:W0.heap.size=g9:=Hp h;omega)).trans hM;have hX:=hX.grown hg5 hX.size (fun j hj=>(gA hr9 j hj).1);have hbx:=(hg5.block (wc.heap.size+2) (by omega) hb5).trans hbx;have hsz:=Ia hsz hg5.size;have hg10:=HH hg10 hg5.size;have hr5:=hown5;clear hat5 hg5 hown5 hr9 hb5;refine hK.out _ _ ?_ (fun hHeld=>?_)
         ·exact hcells.out _ hX hbx
         clear hK K
         (try simp only [Hw,Hg,Hi,Hj])
         refine wpAnyH_ready (rs:=[11]) (by kernel_rfl) (by simp) ?_
         refine Hx (o:=_) rfl (fun K hK=>?_) ?_
         ·refine cG _ rfl _ _ 23 rfl wc.heap.size 3 i0 (.int .i64 0) 1 8 Tryz.underlying23 hi hz0 hz1 hz2 rfl (by decide) (.slice (some ⟨g10,0,none⟩) k c10) _ _ (by simp [go_sem];done) hr10 (some ⟨W0.heap.size,0,none⟩) 1 1 [.int .i64 (k:Int)] (by simp [go_sem];done) rfl (fun _=>⟨_,_,rfl,mD hM⟩) (by intro u hu;simp at hu;subst hu;rfl) (by unfold maxLen;omega) (by omega) (by omega) ?_
          intro v6 w6 hown6 hg6 hat6;obtain⟨g10b,c10b,rfl⟩:=iN hown6;have hg9b:=(gA hr5 g9b rfl).2;have hne6:g9b≠g10b:=by
           rcases hat6 with h | h
           ·have e:g10b=g10:=Hp h
            omega
           ·have e:g10b=w5.heap.size:=Hp h
            omega
          have hb6:some (wc.heap.size+2)≠(Im (some ⟨g10,0,none⟩) k c10).ownBlock:=(cj hr10 hbx (by decide)).symm;have hr5:=hr5.kept hg6 (.inr (by simp [HA];omega));have hX:=hX.grown hg6 hX.size (fun j hj=>(gA hr10 j hj).1);have hbx:=(hg6.block (wc.heap.size+2) (by omega) hb6).trans hbx;have hsz:=Ia hsz hg6.size;clear hat6 hg6 hr10 hb6;refine hK.out _ _ ?_ (fun hHeld=>?_)
          ·exact hcells.out _ hX hbx
          clear hK K
          (try simp only [Hw,Hg,Hi,Hj])
          refine wpAnyH_take (i:=12) (oi:=_) (v:=?vd11) rfl (by kernel_rfl) (by kernel_rfl) (by kernel_rfl) (fun _ _ _ h=>h) (Il ⟨by rfl,?yd11⟩) hHeld ?rd11
          case yd11=>(intro w0 hSw;obtain⟨hSw0,hSw1,hSw2⟩:=hSw;go_simp;try with_reducible rfl)
          (try simp only [Hw,Hg,Hi,Hj])
          refine lU (by kernel_rfl) ?_
          have hb6:=cj hown6 hbx (by decide);have hb9:=cj hr5 hbx (by decide);obtain⟨g1,g2⟩:=bN hbx
          go_simp
          go_wp2
          refine⟨⟨k+1,g9b,c9b,g10b,c10b,congrArg (Hm .i64) (by omega),by omega,rfl,?_,?_,?_,hne6,hX.setCell (by simp;omega) _,?_⟩,?_⟩
          ·rw [HBK.out,HU]
           exact hr5.kept (iO _ _ _) (.inr hb9)
          ·rw [qe,HU]
           exact hown6.kept (iO _ _ _) (.inr hb6)
          ·rw [heap_setCell_same _ _ _ _ _ _ hbx]
           rfl
          ·simp [IF]
           omega
          ·show l.length - ((k:Int)+1).toNat<l.length - (k:Int).toNat
           omega
         exact HF
        exact HF
       exact HF
      exact HF
     ·have hpi:¬(k:Int)<(l.length:Int):=by omega
      have hkn:k=l.length:=by omega
      subst hkn;rw [List.take_of_length_le (show(bsW l t a).length≤l.length by rw [cL];exact Hl _)] at hr9;obtain⟨hxs,⟨hv,_⟩ | ⟨g2,cap2,cur,hv,hge,hg,hcap,_,hcs,htake⟩⟩:=hr10
      ·cases hv
      cases hv;have hrow:∀(i:Nat),i<l.length→cur[i]?=some (.int .i64 i):=fun i hi=>by
       have e:((yZ l.length).map (Hm .i64))[i]?=some (.int .i64 i):=by simp [yZ,hi]
       rw [←htake,IW (by omega)] at e;simpa using e
      have hbW:Below w.heap.size w wr:=B5.trans (hbw.mono B5.size);have hg9:=gA hr9 g9 rfl;have hds:=CK l t a hn1 hn2 ⟨ht0,ht1⟩ ha0 hall (some ⟨b,o,none⟩) c (w.heap.size+1) w.heap.size (wc.heap.size+1+1) Na g10 c10 wr cur
       ⟨b,o,rfl,by omega,by omega,fun i hi=>(hbW.cell hb).trans (hcells i hi)⟩ (bu hbw p1 (by omega)) (bu hbw p0 (by omega)) hbx (bu hbw pa (by omega)) hg (by omega) (by omega) (by omega) hrow
      obtain⟨d0,_⟩:=bN (show wr.heap[wc.heap.size+1+1]?=_ from hbx);have hbo:wc.heap.size+1+1≠g10:=fun e=>by rw [←e] at hg;rw [show wc.heap.size+1+1=wc.heap.size+2 by omega,hbx] at hg;simp at hg
      go_upto_region 17 with (go_at_call 44;refine hds.mono ?_;rintro e w' ⟨rfl,hgr,hfin⟩)
      obtain⟨cur',f1,f2,f3⟩:=hfin;have hr9':=hr9.kept hgr (.inr (by simp [HA];omega));have hB':Below wc.heap.size wc w':=hbw.grown hgr hbw.size (fun j hj=>by cases hj;exact hge);have hbx':w'.heap[wc.heap.size+1+1]?=some (.cells #[.slice (some ⟨g10,0,none⟩) l.length c10] 23 (0,0)):=(hgr.block _ (by omega) (by simp;omega)).trans hbx;have hB'w:Below w.heap.size w w':=B5.trans (hB'.mono B5.size);have hS0:=eH 100000000000 (bsW l t a) (rN l t a ⟨ht0,ht1⟩ ha0.1 hall);rw [cL] at hS0;have hsc:=hsu w'.drew (.slice (some ⟨g9,0,none⟩) l.length c9) (bsW l t a) (hB'w.trans ((nZ w').mono hB'w.size)) (Ey hr9'.drew (cL _ _ _)) (by rw [cL];omega) (fun x hx=>by have:=rN l t a ⟨ht0,ht1⟩ ha0.1 hall x hx;omega);have hp1:=bu hB' p1 (by omega);have hC:Hid (∀X,Below w'.drew.heap.size w'.drew X→X.cell? ⟨wc.heap.size+1+1,0,none⟩=some (.slice (some ⟨g10,0,none⟩) l.length c10)∧X.cell? ⟨w.heap.size+1,0,none⟩=some (.int .i64 t)):=fun X hX =>
       ⟨(bN (bu hX (show w'.drew.heap[wc.heap.size+1+1]?=_ from hbx') (Hh.1 hbx').1)).1,(bN (bu hX (show w'.drew.heap[w.heap.size+1]?=_ from hp1) (Hh.1 hp1).1)).1⟩
      obtain⟨e0,e1⟩:=hC.out _ (Jf _ _);obtain⟨m,hm⟩:∃m:Nat,(m:Int)=t - aB (bsW l t a):=⟨(t - aB (bsW l t a)).toNat,by omega⟩
      have HM:Hid _:=hm;have hm2:aB (bsW l t a)=t - (m:Int):=by omega
      rw [hm2] at hS0 hsc hleft;clear hm2;have hm1:m<l.length:=by omega
      have hmc:m≤c10:=by omega
      have hsub:t - (t - (m:Int))=(m:Int):=by omega
      have hwm:Ik.wrap (m:Int)=(m:Int):=wrap_id (by omega) (by omega);clear hm hds hgr hrow htake hcs hg hxs d0 hr9 hbx hbw hbW
      go_region_held (fun X=>X.cell? ⟨wc.heap.size+1+1,0,none⟩=some (.slice (some ⟨g10,0,none⟩) l.length c10)∧X.cell? ⟨w.heap.size+1,0,none⟩=some (.int .i64 t)) (first | exact⟨e0,e1⟩ | go_keep)
       (first
        | (go_at_call 43;refine hsc.mono ?_;rintro e w8 ⟨rfl,hB8⟩;have e0:=(hC.out _ hB8).1;have e1:=(hC.out _ hB8).2)
        | fail)
      have hs8:=hB8.size;have B8:Below wc.heap.size wc w8:=(hB'.trans ((nZ w').mono hB'.size)).trans (hB8.mono hB'.size);have hr8:=hr9'.drew.kept (row:=none) ⟨hB8.os,hB8.tape,hB8.output,hB8.size,fun j hj _=>hB8.block j hj⟩ (.inr (by simp [HA]));have hg8:w8.heap[g10]?=some (.cells cur' 3 (0,0)):=(hB8.block g10 (show g10<w'.heap.size from(Hh.1 f1).1)).trans f1;obtain⟨ord,hord⟩:∃ord,ord=bD (bG l t a) l.length:=⟨_,rfl⟩
      rw [←hord] at f3;obtain⟨_,horm,horl⟩:=iz (bG l t a) l.length;rw [←hord] at horm horl;have HORD:Hid _:=hord;have hbse:=rN l t a ⟨ht0,ht1⟩ ha0.1 hall;clear hord hC e0 e1 hsc hr9' hp1 hB8 hbx' f1 hsub hwm hB'w hB' hS0 hs8
      go_wp2
      go_loopw [75] (fun vj wx=>∃j:Nat,vj = .int .i64 j∧j≤m∧wx.ownsRow wc.heap.size 3 1 (.slice (some ⟨g9,0,none⟩) l.length c9) l.length ((dE (bsW l t a) (ord.take j)).map (Hm .i64))∧wx.heap[g10]?=some (.cells cur' 3 (0,0))∧Below wc.heap.size wc wx) (fun vj _=>m - (intOf vj).toNat)
      case atStart=>exact⟨0,rfl,Ij _,hr8,hg8,B8⟩
      case round =>
       obtain⟨j,rfl,hj,hrx,hgx,hbx⟩:=hrel;by_cases hq:j<m
       ·have hqi:(j:Int)<(m:Int):=by omega
        have hjl:j<ord.length:=by omega
        have htk:ord.take (j+1)=ord.take j++[ord[j]]:=by rw [Ir hjl]
        have hc1:=f3 j (by omega);have hgd:ord.getD j 0=ord[j]:=by simp [hjl]
        rw [hgd] at hc1;have hxl:ord[j]<l.length:=(horm _).1 (Hy hjl);generalize ord[j]=x at *;have hinc:(dE (bsW l t a) (ord.take j)).length=l.length:=by rw [eF,cL]
        have hbd:=jg 100000000000 (ord.take j) (bsW l t a) hbse;rw [IM,Nat.min_eq_left (by omega)] at hbd;have HT:Hid _:=pJ (bsW l t a) (ord.take j) x;rw [←htk] at HT;have hy:(dE (bsW l t a) (ord.take j))[x]?=some ((dE (bsW l t a) (ord.take j)).getD x 0):=by simp [hinc,hxl]
        have hyb:=hbd _ (List.mem_of_getElem? hy);have hcy:wr.cell? ⟨g9,x,none⟩=some (.int .i64 ((dE (bsW l t a) (ord.take j)).getD x 0)):=by
         rw [hrx.cellAt x (by omega),Jj,hy];rfl
        have hfz:wr.frozen? ⟨g9,x,none⟩=false:=hrx.frozenAt x;have hco:wr.cell? ⟨g10,j,none⟩=some (.int .i64 (x:Int)):=by rw [IP hgx,hc1]
        generalize hgy:(dE (bsW l t a) (ord.take j)).getD x 0=y at *;have hst:=hrx.stored x (.int .i64 (y+1));have hgne:g10≠g9:=fun h=>hne h.symm
        clear hy hbd htk hgd hgy hc1;have hxi:(x:Int)<(l.length:Int):=by omega
        go_wp2
        refine⟨⟨j+1,congrArg (Hm .i64) (by omega),by omega,?_,(hst.2.block g10 (Hh.1 hgx).1 (by simp;exact hgne)).trans hgx,hbx.grown hst.2 hbx.size (fun k hk=>by cases hk;exact(gA hrx g9 rfl).1)⟩,?_⟩
        ·have:=hst.1
         rw [←List.map_set] at this;rw [HT.out];exact this
        ·show m - ((j:Int)+1).toNat<m - (j:Int).toNat
         omega
       ·have hqi:¬(j:Int)<(m:Int):=by omega
        have hjm:j=m:=by omega
        subst hjm
        go_wp2
        go_ret2
        have hdl:cA l t=dE (bsW l t a) (ord.take j):=by
         unfold cA lk;rw [HOK.out,if_pos rfl,HGA.out,HORD.out,←HM.out];rfl
        have hdn:(cA l t).length=l.length:=by rw [hdl,eF,cL]
        rw [←hdl] at hrx;obtain⟨_,⟨hv,_⟩ | ⟨g3,cap3,cur3,hv,hge3,hg3,hcap3,_,hcs3,htake3⟩⟩:=hrx
        ·cases hv
        cases hv;refine⟨g9,c9,cur3,by rw [hdn,HOK.out];rfl,B5.trans (hbx.mono B5.size),by have:=B5.size;omega,hg3,by omega,by omega,fun i u hu=>?_⟩
        have hi2:=(IJ.1 hu).1;rw [HE,hdn] at hi2;rw [←htake3,IW (by omega)] at hu;simpa using hu
end Go.Proofs.YtepkkkphfmckdaaGreatDoor

namespace Go.Proofs.YtepkkkphfmckdaaGreatDoor
open Go Go.Proofs Go.V Go.RowKit Go.Shelf
set_option maxRecDepth 100000
def qc:List D→Option (List Int)
 | []=>some []
 | .v (.int .i64 a)::l=>(qc l).map (a::·)
 | _=>none
theorem yw:∀(ds:List D) (l:List Int),qc ds=some l→ds=l.map I:=by
 intro ds;induction ds with
 | nil=>intro l h;cases h;rfl
 | cons d ds ih =>
  intro l h;unfold qc at h;split at h
  ·rename_i e;cases e
  ·rename_i a m e
   cases e;obtain⟨m',h2,rfl⟩:=Jb.1 h;rw [ih m' h2];rfl
  ·cases h
theorem tC:∀(l:List Int),qc (l.map I)=some l
 | []=>rfl
 | x::l=>by
  simp only [IE,qc,tC l];rfl
theorem xn {w:World} {F:Nat→Prop}:∀(l:List Int) (us:List Value),aZ w F (l.map fun n=>I n) us→us=l.map fun n=>.int .i64 n
 | [],us,h=>aE.1 h
 | x::l,us,h=>by
  obtain⟨v1,v2,rfl,h1,h2⟩:=aw.1 h;simp only [RepC] at h1;rw [xn l v2 h2,h1.1];rfl
theorem qV {P:Program} {G:List (Nat × (Obj→Prop))} {f:FuncId} {S:FS} (he:∀args w,(callFunc f args).run P w = .ok (.enter f args) w) (hm:ay G P f S) {ds:List D} {y:Value} (f':List D→Option Out) (hf':S.f=f') (hd:f' ds=some (.ret [.v y] [])) (hrm:S.rm=[.dat 0]) {args:Array Value} {w:World} {F:Nat→Prop}
  (hgl:gOk G w F) (ha:dK w F (fun _=>none) 0 S.pm ds args.toList) (hF:∀b,F b→b<w.heap.size):Calls P f args w fun e w'=>e = .returned y∧Below w.heap.size w w':=by
 refine(rb he hm (hf' ▸ hd) hgl ha (fun b hb=>⟨hF b hb,rfl⟩) (fun b i h=>by cases h)).mono ?_
 rintro e w' ⟨v,rfl,F',R,vs,rfl,hpost⟩;have hl:=hpost.len;rw [hrm] at hl;obtain⟨u,rfl⟩:=List.length_eq_one_iff.1 hl;have h0:=hpost.res 0;rw [hrm] at h0;simp only [af,nth,List.getD_cons_zero] at h0;rcases h0 with h0 | h0
 ·cases h0
 exact⟨by rw [iD,(fB.1 h0).1],⟨hpost.os,hpost.tape,hpost.output,hpost.size,fun b hb=>hpost.keep b hb rfl⟩⟩
def vG:List D→Option Out
 | [.arr 1 ds,.v (.int .i64 t)]=>(qc ds).bind fun l=>if l.length≤1000 then some (.ret [aq (cA l t),B (cK l t)] []) else none
 | _=>none
theorem En (l:List Int) (t:Int) (h:l.length≤1000):vG [aq l,I t]=some (.ret [aq (cA l t),B (cK l t)] []):=by
 simp -implicitDefEqProofs only [vG];rw [tC,IU,if_pos h]
@[reducible] def fX:FS:={pm:=[.dat 2,.dat 0],rm:=[.own 1 0 false,.dat 0],f:=vG}
theorem kQ:ay gl0 Tryz.prog 6 fX:=by
 have he:∀args w,(callFunc 6 args).run Tryz.prog w = .ok (.enter 6 args) w:=Ie Tryz.func6 (by kernel_rfl) rfl;refine jf he fun ds rs us hd args w F ow hg ha hF _=>?_
 obtain⟨d,y,d2,y2,rfl,h2,h3,h4⟩:=xt ha;replace hd:vG [d,d2]=some (.ret rs us):=hd;unfold vG at hd;split at hd
 case h_2=>cases hd
 rename_i ds t e;cases e;obtain⟨l,hl,hd'⟩:=Option.bind_eq_some_iff.1 hd;clear hd;split at hd'
 case isFalse=>cases hd'
 rename_i hz;obtain rfl:=yw _ _ hl;cases hd';obtain⟨rfl,_⟩:=Gh h4;rcases h3 with h3 | h3
 ·cases h3
 have hrep:bj w F (aq l) y:=h3;simp only [bj,RepC] at h3;obtain⟨A,c,us',hy,hc,hr,_,hA⟩:=h3;simp only [List.cons.injEq,and_true] at hy;subst hy;rw [xn l us' hr] at hA;rw [HE] at hc hrep h2;have hargs:args=#[.slice A l.length c,.int .i64 t]:=by
  apply Array.ext';exact h2
 subst hargs;have hgW:∀W,Below w.heap.size w W→gOk gl0 W F:=fun W hW=>pb (fun _ h=>h) (fun b hb=>hW.block b (hF b hb).1) hg
 refine(CG l hz t A c w (fun i hi=>?_) (fun W hW=>aS (fun b hb=>(hF b hb).1) (fun b hb=>hW.block b (hF b hb).1) hrep) (fun W x lo hi hW=>?_) (fun W v s hW hv hs hsx=>?_)).mono ?_
 ·have hne:l.map I≠[]:=fun e=>by
   have e2:l=[]:=by simpa using e
   subst e2;simp at hi
  obtain⟨b,o,rfl,h5,h6⟩:=hA hne;refine⟨b,o,rfl,(hF b h5).1,fun j hj=>h6 j _ ?_⟩
  simp [hj]
 ·exact qV (Ie Tryz.func42 (by kernel_rfl) rfl) dW bX rfl (dZ x lo hi) rfl (hgW W hW)
   (show iq W F _ (.dat 0) (I x) (.int .i64 x)∧iq W F _ (.dat 0) (I lo) (.int .i64 lo)∧iq W F _ (.dat 0) (I hi) (.int .i64 hi)∧True from⟨.inr (fB.2 ⟨rfl,rfl⟩),.inr (fB.2 ⟨rfl,rfl⟩),.inr (fB.2 ⟨rfl,rfl⟩),trivial⟩) (fun b hb=>HH (hF b hb).1 hW.size)
 ·exact qV (Ie Tryz.func43 (by kernel_rfl) rfl) zM kR rfl (zO s hs hsx) rfl (F:=fun b=>b<W.heap.size) (pb (fun b hb=>HH (hF b hb).1 hW.size) (fun b hb=>rfl) (hgW W hW))
   (show iq W _ _ (.dat 2) (aq s) v∧True from⟨.inr hv,trivial⟩) (fun b hb=>hb)
 ·rintro e w' ⟨gg,cap,cur,rfl,hB,hgg,hcell,hcap,hcs,hrow⟩
  refine⟨_,rfl,F,fun b=>if b=gg then some 0 else none,[_,_],rfl,yB _ hB hF (fun b j hb=>?_) rfl rfl rfl rfl fun j=>?_⟩
  ·split at hb
   ·rename_i e
    subst e;exact⟨hgg,(Hh.1 hcell).1⟩
   ·cases hb
  ·match j with
   | 0 =>
    refine .inr ⟨(cA l t).map I,rfl,fun x hx=>?_,.inr ⟨gg,0,cap,(cA l t).map (Hm .i64),cur,_,?_,?_,hcell,by omega,qs _,fun i u hu=>?_,by simp,hgg⟩⟩
    ·obtain⟨s,_,rfl⟩:=IV.1 hx
     rfl
    ·rw [HE]
     rfl
    ·rw [HE]
     exact hcap
    ·rw [Jg]
     exact hrow i u hu
   | 1=>exact .inr (fB.2 ⟨rfl,rfl⟩)
   | j+2=>exact .inl rfl
end Go.Proofs.YtepkkkphfmckdaaGreatDoor

end
