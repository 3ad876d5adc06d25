/-
  A part of the proof: contracts and plain forms of functions beneath the statement, made small by a program (names shortened, what is not needed left out).
-/
import Derived.Test.YtjafgdefcggjcaaGreatDoorRows
import Derived.Test.YtjafgdefcggjcaaGreatDoorTie
import Derived.Test.YtjafgdefcggjcaaGreatDoorCards
import Derived.Test.YtjafgdefcggjcaaGreatDoorM6
import Derived.Lib.IndexBytes
import Derived.Laws.RangeString
import Derived.Laws.Bits64b
open Option renaming bind_some → aht, map_some → ahw, map_none → aid, isSome_none → air, map_eq_some_iff → aiE, map → aiL, isSome_some → aiQ
open Bool renaming false_eq_true → ahu, not_true → ahA, not_false → ahC, false_and → ahG, true_and → ahW, and_eq_true → ahY, and_false → ah5
open Go.IntKind renaming i64 → ahv, u8 → aii
open List renaming length_map → ahx, drop_zero → ahy, drop_succ_cons → ahz, take_succ_eq_append_getElem → ahD, map_append → ahF, map_cons → ahI, getElem_mem → ahJ, length_take → ahK, getElem?_eq_getElem → ahN, map_nil → ahO, getD_eq_getElem?_getD → ahQ, replicate → ahR, cons_append → ahS, nil_append → ahU, all_eq_true → ahX, mem_cons → ahZ, drop_eq_nil_of_le → ah1, length_set → ah6, drop_append_of_le_length → ah8, map_map → ah9, mem_singleton → aie, mem_map → aif, mem_append → aij, range_succ → ail, map_congr_left → ain, dropLast_concat_getLast → aio, length_append → aiq, foldl_append → ais, getElem?_eq_some_iff → ait, drop_eq_getElem_cons → aiu, length_cons → aiv, not_mem_nil → aix, foldl_cons → aiz, head?_eq_getElem? → aiC, take_of_length_le → aiD, foldl_nil → aiF, dropLast_sublist → aiG, length_dropLast → aiI, range → aiK, length_pos_iff → aiN, replicate_succ → aiO, map_id → aiS, take_length → aiU, length_nil → aiV, foldl → aiX, drop_drop → aiY
open Go.Lib renaming decDigits → ahB, decDigits_one → ahL, parseUint10 → ahV, goFieldsP → ah0, spansFromP → ah4, atoiAll → ah7, closeSpans → aia, cut → aiZ, index → ai0
open Nat renaming beq_refl → ahE, le_refl → ah3, le_trans → aik, zero_le → aip, lt_or_ge → aiw, zero_add → aiy, mod_lt → aiH, pow_le_pow_right → aiJ, pow_succ → aiP
open Int renaming eq_ofNat_of_zero_le → ahH, tdiv_eq_ediv_of_nonneg → ahP, toNat_natCast → ahT, le_refl → aig, add_mul → aih, natCast_mul → aim, ediv_nonneg → aiB
open ByteArray renaming size_append → ahM
open UInt8 renaming ofNat → ah2, toNat_inj → aic
open List.cons renaming injEq → aib, inj → aiM
open Go.Value renaming int → aiA
open Option.some renaming injEq → aiR, inj → aiW
open Go.Utf8 renaming decode → aiT
open Go.BinOp renaming neq → ai1
set_option linter.unusedSimpArgs false
set_option linter.unusedVariables false
noncomputable section
namespace Go.Proofs.YtjafgdefcggjcaaGreatDoor
open Go Go.V
theorem bn (a b c:Int):bW [I a,I b,I c]=some (.ret [B (decide (b≤a∧a≤c))] []):=by
 rw [XR]
 by_cases h:b≤a<;>simp [h]
theorem bz (a b c:Int):bO [I a,I b,I c]=some (.ret [B (decide (b≤a∧a≤c))] []):=by
 rw [RM]
 by_cases h:b≤a<;>simp [h]
def JW (u:Nat):ByteArray:=⟨(ahB u).toArray⟩
def aJ (n:Int):ByteArray:=⟨(Lib.itoa n).toArray⟩
theorem Po (u:Nat):aJ (u:Int)=JW u:=by
 unfold aJ JW
 rw [Lib.itoa_nonneg]
theorem EV {u:Nat} (h:u<10):JW u=⟨#[ah2 (48+u)]⟩:=by
 unfold JW
 rw [ahL h]
theorem Vv {u:Nat} (h:¬u<10):JW u=JW (u / 10)++⟨#[ah2 (48+u % 10)]⟩:=by
 unfold JW
 rw [ahB,dif_neg h]
 apply ByteArray.ext
 simp
theorem vO:∀(k u:Nat),u<10 ^ (k+1)→(JW u).size≤k+1
 | 0,u,h=>by
  rw [EV (by simpa using h)]
  exact ah3 _
 | k+1,u,h=>by
  by_cases hu:u<10
  ·rw [EV hu]
   show 1≤k+1+1
   omega
  ·rw [Vv hu,ahM]
   have h1:=vO k (u / 10) (by rw [aiP] at h;exact Nat.div_lt_of_lt_mul (by rw [Nat.mul_comm];exact h))
   have h2:(⟨#[ah2 (48+u % 10)]⟩:ByteArray).size=1:=rfl
   omega
theorem cq (k:Nat) {n:Int} (h0:0≤n) (h1:n<10 ^ (k+1)):(aJ n).size≤k+1:=by
 obtain⟨u,rfl⟩:=ahH h0
 rw [Po]
 exact vO k u (by exact_mod_cast h1)
theorem ZZ (u:Nat) (h:u<10):sS [.v (.int .u8 (48+(u:Int)))]=some [ah2 (48+u)]:=by
 have e:(48+(u:Int)).toNat=48+u:=by omega
 simp only [sS,e,ahw]
theorem ZB (a:Int) (h0:0≤a) (h1:a<256):aii.wrap a=a:=by
 have:=Int.emod_eq_of_lt h0 h1
 simpa [IntKind.wrap,IntKind.bits,IntKind.signed] using this
theorem WZ (a:Int):aH 1 [.v (.int .u8 a)]=some (.arr 1 [.v (.int .u8 a)]):=by simp [aH,lW]
theorem OG (k u:Nat) (hu:u<10 ^ 18) (ih:cP k [I ((u / 10:Nat):Int)]=none∨cP k [I ((u / 10:Nat):Int)]=some (.ret [T (JW (u / 10))] [])) :
  (cP (k+1) [I (u:Int)]=none∧cP k [I ((u / 10:Nat):Int)]=none∧¬u<10)∨cP (k+1) [I (u:Int)]=some (.ret [T (JW u)] []):=by
 rw [Uc]
 by_cases h:u<10
 ·right
  have h1:(u:Int)<10:=by omega
  have hw:ahv.wrap (48+(u:Int))=48+(u:Int):=ah (by omega) (by omega)
  have hw8:=ZB (48+(u:Int)) (by omega) (by omega)
  simp only [be,h1,decide_true,aht,aG,if_true,br,hw,Aw,hw8,WZ,Rh,ZZ u h,ahw,EV h]
 ·have h1:¬(u:Int)<10:=by omega
  have hq:ahv.wrap ((u:Int).tdiv 10)=((u / 10:Nat):Int):=by
   rw [ahP (by omega),ah (by omega) (by omega)]
   omega
  have hr:(u:Int).tmod 10=((u % 10:Nat):Int):=by
   rw [Int.tmod_eq_emod_of_nonneg (by omega)]
   omega
  have hm:u % 10<10:=aiH _ (by decide)
  have hw:ahv.wrap (48+((u % 10:Nat):Int))=48+((u % 10:Nat):Int):=ah (by omega) (by omega)
  have hw8:=ZB (48+((u % 10:Nat):Int)) (by omega) (by omega)
  have hs:(JW (u / 10)).size+(⟨#[ah2 (48+u % 10)]⟩:ByteArray).size≤1152921504606846976:=by
   have:=vO 17 (u / 10) (by omega)
   have h2:(⟨#[ah2 (48+u % 10)]⟩:ByteArray).size=1:=rfl
   omega
  rcases ih with e | e
  ·left
   refine⟨?_,e,h⟩
   simp only [be,h1,decide_false,aht,aG,ahu,if_false,lC,show ¬(10:Int)=0 by decide,hq,e,ae]
  ·right
   simp only [be,h1,decide_false,aht,aG,ahu,if_false,lC,show ¬(10:Int)=0 by decide,hq,e,am,aak,hr,br,hw,Aw,hw8,WZ,Rh,
    ZZ _ hm,ahw,ak,fH,hs,if_true,Vv h]
theorem Th:∀(k u:Nat),u<10 ^ 18→cP k [I (u:Int)]=none∨cP k [I (u:Int)]=some (.ret [T (JW u)] [])
 | 0,_,_=>.inl rfl
 | k+1,u,hu=>(OG k u hu (Th k (u / 10) (by omega))).imp (fun h=>h.1) id
theorem ZN:∀(k u:Nat),u<10 ^ 18→u<10 ^ (k+1)→cP (k+1) [I (u:Int)]=some (.ret [T (JW u)] [])
 | 0,u,hu,h=>by
  rcases OG 0 u hu (Th 0 _ (by omega)) with ⟨_,_,h1⟩ | h1
  ·exact absurd (by simpa using h) h1
  ·exact h1
 | k+1,u,hu,h=>by
  rcases OG (k+1) u hu (Th (k+1) _ (by omega)) with ⟨_,h1,_⟩ | h1
  ·rw [ZN k (u / 10) (by omega) (by rw [aiP] at h;exact Nat.div_lt_of_lt_mul (by rw [Nat.mul_comm];exact h))] at h1
   cases h1
  ·exact h1
theorem cE {n:Int} (h0:0≤n) (h1:n<1000000000000000000):cd [I n]=some (.ret [T (aJ n)] []):=by
 obtain⟨u,rfl⟩:=ahH h0
 have hu:u<10 ^ 18:=by omega
 rw [Po]
 refine aeJ (fun k o ho=>?_) 18 (ZN 17 u hu hu)
 rcases Th k u hu with e | e
 ·rw [e] at ho;cases ho
 ·rw [e] at ho;cases ho;rfl
theorem MK {n:Int} (h0 : -9223372036854775808≤n) (h1:n≤9223372036854775807):Kz [I n]=some (.ret [T (aJ n)] []):=by
 simp only [Kz,h0,h1,and_self,if_true]
 rfl
theorem aaO {a b:ByteArray} {bl:Bool} {eq:List Nat} (h:a.size+b.size≤1152921504606846976):bin .add bl eq (T a) (T b)=some (T (a++b)):=by rw [fH,if_pos h]
theorem sz1 (a:UInt8):(⟨#[a]⟩:ByteArray).size=1:=rfl
end Go.Proofs.YtjafgdefcggjcaaGreatDoor

namespace Go.Proofs.YtjafgdefcggjcaaGreatDoor
open Go Go.V
theorem Sz {α β:Type} {body:List D→Option Out} (l:List β) (st:Nat→α→List D) (Inv:Nat→α→Prop) (p:Nat→β→Bool) (f:α→β→α) (o1:Out) (fin:α→Out) (a:α) (hs:∀(i:Nat) (a:α) (hi:i<l.length),Inv i a→body (st i a)=some (if p i l[i]=true then .nrm (st (i+1) (f a l[i])) else o1)∧(p i l[i]=true→Inv (i+1) (f a l[i])))
  (he:∀a,Inv l.length a→body (st l.length a)=some (fin a)) (h1:o1.ends=true) (h2:∀a,(fin a).ends=true) (h0:Inv 0 a) {s0:List D} (h:s0=st 0 a):aX body s0=some (if mT p 0 l=true then fin (l.foldl f a) else o1):=by
 have e:∀(m:List β) (i:Nat) (a:α),goL (fun i x (a:α)=>if p i x=true then .inl (f a x) else .inr o1) fin i m a=if mT p i m=true then fin (m.foldl f a) else o1:=by
  intro m
  induction m with
  | nil=>intro i a;simp [goL,mT]
  | cons x m ih =>
   intro i a
   simp only [goL,mT,aiz]
   by_cases hp:p i x=true
   ·simp [hp,ih]
   ·simp [hp]
 rw [←e]
 refine Ba l st Inv _ _ (fun i x a hx hI=>?_) (fun a hI=>⟨he a hI,h2 a⟩) a h0 h
 have hi:i<l.length:=(ait.1 hx).1
 have hxe:l[i]=x:=(ait.1 hx).2
 have:=hs i a hi hI
 rw [hxe] at this
 by_cases hp:p i x=true
 ·simpa [hp] using this
 ·simpa [hp,h1] using this
def ac (s:ByteArray):List UInt8:=s.data.toList
theorem oe {s:ByteArray} {k:IntKind} {i:Nat}:jW (T s) (.v (.int k (i:Int)))=((ac s)[i]?).map fun b=>U b.toNat:=by simp [jW,ac]
theorem cQ (s:ByteArray):s.size=(ac s).length:=rfl
end Go.Proofs.YtjafgdefcggjcaaGreatDoor

namespace Go.Proofs.YtjafgdefcggjcaaGreatDoor
open Go Go.V
theorem bK {a b:ByteArray} (h:ac a=ac b):a=b:=by
 cases a with | mk a=>cases b with | mk b =>
  cases a with | mk a=>cases b with | mk b =>
   simp [ac] at h
   rw [h]
theorem eI (s:ByteArray) (i j:Nat):ac (s.extract i j)=((ac s).take j).drop i:=by
 simp [ac,List.drop_take]
theorem cN (l:List UInt8):ac ⟨l.toArray⟩=l:=by simp [ac]
theorem mC (s:ByteArray):(⟨(ac s).toArray⟩:ByteArray)=s:=bK (cN _)
theorem bk (a b:ByteArray):ac (a++b)=ac a++ac b:=by simp [ac]
theorem agb {s:ByteArray} {z i j:Nat} (h1:i≤j) (h2:j≤s.size):dW true z (T s) (I (i:Int)) (I (j:Int))=some (T (s.extract i j)):=by
 simp only [dW,ahT]
 rw [if_pos (by omega)]
theorem Fz {s:ByteArray} {z i:Nat} (h:i≤s.size):cJ true z (T s) (I (i:Int))=some (T (s.extract i s.size)):=by
 simp only [cJ,ahT]
 rw [if_pos (by omega)]
def Kw (x:UInt8):List (List UInt8)→List (List UInt8)
 | []=>[[x]]
 | h::t=>(x::h)::t
def aY (c:UInt8):List UInt8→List (List UInt8)
 | []=>[[]]
 | x::l=>if x=c then []::aY c l else Kw x (aY c l)
theorem em (c:UInt8) (l:List UInt8):aY c l≠[]:=by
 cases l with
 | nil=>simp [aY]
 | cons x l =>
  simp only [aY]
  split
  ·simp
  ·cases aY c l<;>simp [Kw]
theorem jN {c:UInt8}:∀{l:List UInt8},c∉l→aY c l=[l]
 | [],_=>rfl
 | x::l,h=>by
  simp only [ahZ,not_or] at h
  simp only [aY]
  rw [if_neg (Ne.symm h.1),jN h.2]
  rfl
theorem gr {c:UInt8} {b:List UInt8}:∀{a:List UInt8},c∉a→aY c (a++c::b)=a::aY c b
 | [],_=>by simp [aY]
 | x::a,h=>by
  simp only [ahZ,not_or] at h
  rw [ahS]
  simp only [aY]
  rw [if_neg (Ne.symm h.1),gr h.2]
  rfl
theorem mj (c x:UInt8):∀(l:List UInt8) (o:List (List UInt8)) (p:List UInt8),aY c l=o++[p]→aY c (l++[x])=if x=c then(o++[p])++[[]] else o++[p++[x]]
 | [],o,p,h=>by
  have h:[[]]=o++[p]:=h
  have:o=[]∧p=[]:=by
   cases o with
   | nil=>simpa using h.symm
   | cons y o=>cases o<;>simp at h
  obtain⟨rfl,rfl⟩:=this
  simp only [ahU,aY]
  split<;>rfl
 | y::l,o,p,h=>by
  simp only [aY] at h
  rw [ahS]
  simp only [aY]
  by_cases hy:y=c
  ·rw [if_pos hy] at h ⊢
   cases o with
   | nil=>exact absurd (aiM h).2 (em c l)
   | cons z o =>
    rw [ahS,aib] at h
    obtain⟨rfl,h⟩:=h
    rw [mj c x l o p h]
    split<;>rfl
  ·rw [if_neg hy] at h ⊢
   generalize hs:aY c l=s at h
   cases s with
   | nil=>exact absurd hs (em c l)
   | cons z s =>
    simp only [Kw] at h
    cases o with
    | nil =>
     have:s=[]∧p=y::z:=by
      rw [ahU,aib] at h
      exact⟨h.2,h.1.symm⟩
     obtain⟨rfl,rfl⟩:=this
     rw [mj c x l [] z hs]
     split<;>simp [Kw]
    | cons w o =>
     rw [ahS,aib] at h
     obtain⟨rfl,h⟩:=h
     rw [mj c x l (z::o) p (by rw [hs,h];rfl)]
     split<;>simp [Kw]
theorem nV (c:UInt8):∀(l:List UInt8),(ai0 l [c] = -1∧c∉l)∨∃a b,l=a++c::b∧c∉a∧ai0 l [c]=a.length
 | []=>.inl ⟨by simp [ai0],by simp⟩
 | x::l=>by
  rw [Lib.index_one]
  simp only [Lib.indexByte]
  by_cases hx:x=c
  ·subst hx
   exact .inr ⟨[],l,rfl,by simp,by simp⟩
  ·have ih:=nV c l
   rw [Lib.index_one] at ih
   rw [if_neg (by simpa using hx)]
   rcases ih with ⟨h1,h2⟩ | ⟨a,b,rfl,h2,h3⟩
   ·exact .inl ⟨by rw [h1];rfl,by simp [h2,Ne.symm hx]⟩
   ·refine .inr ⟨x::a,b,rfl,by simp [h2,Ne.symm hx],?_⟩
    rw [if_neg (by rw [h3];simp),h3]
    simp
theorem SF (c:UInt8):∀(n:Nat) (l:List UInt8),l.length≤n→Lib.splitK [c] 0 (Lib.count l [c]) l=aY c l
 | n,l,hn=>by
  rcases nV c l with ⟨h1,h2⟩ | ⟨a,b,rfl,h2,h3⟩
  ·rw [Lib.count_miss h1,jN h2]
   rfl
  ·rw [Lib.count_hit (by simp) h3,gr h2,Nat.add_comm 1]
   have hb:(a++c::b).drop (a.length+[c].length)=b:=by
    rw [←aiY]
    simp
   cases n with
   | zero=>simp at hn
   | succ n =>
    rw [hb]
    unfold Lib.splitK
    rw [if_neg (by rw [h3];simp),h3]
    have e:((a.length:Int)).toNat=a.length:=by omega
    rw [e,hb,SF c n b (by simp at hn;omega)]
    simp
def aB (c:UInt8) (s:ByteArray):List ByteArray:=(aY c (ac s)).map fun l=>⟨l.toArray⟩
theorem YO (c:UInt8) (s:ByteArray):oF s ⟨#[c]⟩=aB c s:=by
 have h:(oF s ⟨#[c]⟩).map ac=aY c (ac s):=by
  have:=Lib.splitB_data ⟨#[c]⟩ 0 (Lib.countB s ⟨#[c]⟩) s
  rw [show(fun x:ByteArray=>x.data.toList)=ac from rfl] at this
  rw [oF,this]
  exact SF c _ _ (ah3 _)
 have h2:(oF s ⟨#[c]⟩).map (fun x=>(⟨(ac x).toArray⟩:ByteArray))=aB c s:=by
  rw [aB,←h,ah9]
  rfl
 rw [←h2]
 have:(fun x:ByteArray=>(⟨(ac x).toArray⟩:ByteArray))=id:=funext mC
 rw [this,aiS]
theorem aad {c:UInt8} {s:ByteArray} (h:s.size<4294967281):yu [T s,T ⟨#[c]⟩]=some (.ret [.arr 1 ((aB c s).map T)] []):=by
 have h1:1≤(⟨#[c]⟩:ByteArray).size:=ah3 1
 simp only [yu,h,h1,and_self,if_true,YO]
theorem Pg {c:UInt8} {l:List UInt8} (h:c∉l):aiZ l [c]=(l,[],false):=by
 rcases nV c l with ⟨h1,_⟩ | ⟨a,b,rfl,_,_⟩
 ·unfold aiZ
  rw [h1,if_neg (by decide)]
 ·simp at h
theorem Vh {c:UInt8} {a b:List UInt8} (h:c∉a):aiZ (a++c::b) [c]=(a,b,true):=by
 rcases nV c (a++c::b) with ⟨_,h2⟩ | ⟨a',b',e,h2,h3⟩
 ·simp at h2
 ·have hl:a.length=a'.length:=by
   have key:∀(a a' b b':List UInt8),c∉a→c∉a'→a++c::b=a'++c::b'→a.length=a'.length:=by
    intro a
    induction a with
    | nil =>
     intro a' b b' _ h2 e
     cases a' with
     | nil=>rfl
     | cons y a' =>
      simp at e
      simp [e.1] at h2
    | cons x a ih =>
     intro a' b b' h1 h2 e
     cases a' with
     | nil =>
      simp at e
      simp [e.1] at h1
     | cons y a' =>
      simp at e h1 h2 ⊢
      exact ih a' b b' h1.2 h2.2 e.2
   exact key a a' b b' h h2 e
  unfold aiZ
  rw [h3,if_pos (by omega)]
  have e2:((a'.length:Int)).toNat=a.length:=by omega
  rw [e2]
  have hb:(a++c::b).drop (a.length+[c].length)=b:=by
   rw [←aiY]
   simp
  rw [hb]
  simp
theorem eJ (c:UInt8):∀(l:List UInt8),(aY c l).length≤l.length+1
 | []=>by simp [aY]
 | x::l=>by
  have ih:=eJ c l
  simp only [aY]
  split
  ·simp;omega
  ·generalize aY c l=s at ih
   cases s<;>simp [Kw] at ih ⊢<;>omega
theorem vb (s:ByteArray):aH 1 [T s]=some (.arr 1 [T s]):=by simp [aH,lW]
theorem rz (l:List ByteArray):cK (.arr 1 (l.map T))=some (.arr 1 (l.map T)):=pw fun _=>rfl
theorem fK (s:ByteArray) (c:UInt8) (h:s.size≤4294967296):bU [T s,U c.toNat]=some (.ret [.arr 1 ((aB c s).map T)] []):=by
 rw [MC]
 let mk:List UInt8→ByteArray:=fun l=>⟨l.toArray⟩
 refine cG (fun r=>r=_) (fun(a:List (List UInt8) × Nat × Nat)=>[T s,U c.toNat,.arr 1 ((a.1.map mk).map T),I (a.2.1:Int),I (a.2.2:Int)])
  (fun a=>a.2.2≤s.size∧a.2.1≤a.2.2∧a.1.length≤a.2.2∧aY c ((ac s).take a.2.2)=a.1++[((ac s).take a.2.2).drop a.2.1])
  (fun a=>s.size - a.2.2) (fun o=>∃(outs:List (List UInt8)) (fr:Nat),o = .ext 0 [T s,.arr 1 ((outs.map mk).map T),I (fr:Int)]∧fr≤s.size∧outs.length≤s.size∧aY c (ac s)=outs++[(ac s).drop fr])
  ?_ ([],0,0) ⟨aip _,ah3 _,ah3 _,by simp [aY]⟩ rfl ?_
 ·rintro⟨outs,fr,i⟩ ⟨h1,h2,h3,h4⟩
  simp only at h1 h2 h3 h4
  by_cases hi:i<s.size
  ·left
   have hl:i<(ac s).length:=by rw [←cQ];exact hi
   have hi':(i:Int)<(s.size:Int):=by omega
   have hw:ahv.wrap ((i:Int)+1)=((i+1:Nat):Int):=by rw [ah (by omega) (by omega)];omega
   have hch:jW (T s) (I (i:Int))=some (U ((ac s)[i].toNat:Int)):=by
    rw [oe,ahN hl]
    rfl
   have htk:(ac s).take (i+1)=(ac s).take i++[(ac s)[i]]:=ahD hl
   have hdr:((ac s).take i++[(ac s)[i]]).drop fr=((ac s).take i).drop fr++[(ac s)[i]]:=by
    rw [ah8 (by rw [ahK];omega)]
   by_cases hc:(ac s)[i]=c
   ·refine⟨(outs++[((ac s).take i).drop fr],i+1,i+1),?_,⟨by simp only;omega,ah3 _,by simp;omega,?_⟩,by simp only;omega⟩
    ·have hsl:=agb (s:=s) (z:=0) (i:=fr) (j:=i) h2 (by omega)
     have hmk:mk (((ac s).take i).drop fr)=s.extract fr i:=bK (by rw [eI];exact cN _)
     have hap:(outs.length+1)*16≤140737488355328∧outs.length+1≤1152921504606846976:=by omega
     have e2:(outs++[((ac s).take i).drop fr]).map mk=outs.map mk++[s.extract fr i]:=by rw [ahF,ahI,ahO,hmk]
     have e1:((outs.map mk).map T).length+[T (s.extract fr i)].length=outs.length+1:=by simp
     have hck:cK (.arr 1 [T (s.extract fr i)])=some (.arr 1 [T (s.extract fr i)]):=rz [s.extract fr i]
     simp only [ak,aF,dG,aht,be,hi',decide_true,aG,if_true,hch,eR,hc,hsl,vb,hck,gn,e1,hap,and_self,br,hw,e2,ahF,ahI,ahO]
    ·have:=mj c (ac s)[i] _ _ _ h4
     rw [if_pos hc,←htk] at this
     simp only
     have hz:((ac s).take (i+1)).drop (i+1)=[]:=ah1 (by rw [ahK];omega)
     rw [this,hz]
   ·refine⟨(outs,fr,i+1),?_,⟨by simp only;omega,by simp only;omega,by simp only;omega,?_⟩,by simp only;omega⟩
    ·have hne:¬((ac s)[i].toNat:Int)=(c.toNat:Int):=fun e=>hc (aic.1 (by omega))
     simp only [ak,aF,dG,aht,be,hi',decide_true,aG,if_true,hch,eR,hne,decide_false,ahu,if_false,br,hw]
    ·have:=mj c (ac s)[i] _ _ _ h4
     rw [if_neg hc,←htk] at this
     simp only
     rw [this,htk,hdr]
  ·right
   have hi':¬(i:Int)<(s.size:Int):=by omega
   have hie:i=s.size:=by omega
   refine⟨_,?_,rfl,outs,fr,rfl,by omega,by omega,?_⟩
   ·simp only [ak,aF,dG,aht,be,hi',decide_false,aG,ahu,if_false]
   ·rw [hie,cQ,aiU] at h4
    exact h4
 ·rintro o ⟨outs,fr,rfl,h1,h2,h3⟩
  have hsl:=Fz (s:=s) (z:=0) (i:=fr) h1
  have hmk:mk ((ac s).drop fr)=s.extract fr s.size:=bK (by rw [eI,cQ,aiU];exact cN _)
  have hap:(outs.length+1)*16≤140737488355328∧outs.length+1≤1152921504606846976:=by omega
  have e1:((outs.map mk).map T).length+[T (s.extract fr s.size)].length=outs.length+1:=by simp
  have hck:cK (.arr 1 [T (s.extract fr s.size)])=some (.arr 1 [T (s.extract fr s.size)]):=rz [s.extract fr s.size]
  have e2:aB c s=outs.map mk++[s.extract fr s.size]:=by rw [aB,h3,ahF,ahI,ahO];exact congrArg _ (congrArg (fun x=>[x]) hmk)
  simp only [bE,ahE,dZ,if_true,ak,aF,hsl,aht,vb,hck,gn,e1,hap,and_self,e2,ahF,ahI,ahO]
end Go.Proofs.YtjafgdefcggjcaaGreatDoor

namespace Go.Proofs.YtjafgdefcggjcaaGreatDoor
open Go Go.V
def dig (b:UInt8):Bool:=decide (48≤b.toNat)&&decide (b.toNat≤57)
theorem oX {b:UInt8}:dig b=true↔48≤b.toNat∧b.toNat≤57:=by simp [dig]
theorem im {u:Nat} (h:u<10):(ah2 (48+u)).toNat=48+u:=by
 simp
 omega
theorem SE {u:Nat} (h:u<10):dig (ah2 (48+u))=true:=by
 rw [oX,im h]
 omega
theorem ia {u:Nat} (h:¬u<10):ahB u=ahB (u / 10)++[ah2 (48+u % 10)]:=by rw [ahB,dif_neg h]
theorem lb {P:Nat→Prop} (h0:∀u,u<10→P u) (h1:∀u,¬u<10→P (u / 10)→P u):∀u,P u:=by
 intro u
 induction u using Nat.strongRecOn with
 | _ u ih =>
  by_cases h:u<10
  ·exact h0 u h
  ·exact h1 u h (ih (u / 10) (by omega))
theorem oP:∀u,∀b∈ahB u,dig b=true:=by
 refine lb (fun u h b hb=>?_) (fun u h ih b hb=>?_)
 ·rw [ahL h] at hb
  rw [aie.1 hb]
  exact SE h
 ·rw [ia h] at hb
  rcases aij.1 hb with hb | hb
  ·exact ih b hb
  ·rw [aie.1 hb]
   exact SE (aiH u (show 10>0 by decide))
theorem kz:∀u,ahB u≠[]:=by
 refine lb (fun u h=>?_) (fun u h ih=>?_)
 ·rw [ahL h];simp
 ·rw [ia h];simp
theorem yQ:∀u,0<u→∀b t,ahB u=b::t→b≠48:=by
 refine lb (fun u h h0 b t e=>?_) (fun u h ih h0 b t e=>?_)
 ·rw [ahL h] at e
  obtain⟨rfl,_⟩:=aiM e
  intro e2
  have:=congrArg UInt8.toNat e2
  rw [im h] at this
  have h48:(48:UInt8).toNat=48:=rfl
  omega
 ·rw [ia h] at e
  cases hd:ahB (u / 10) with
  | nil=>exact absurd hd (kz _)
  | cons b' t' =>
   rw [hd,ahS] at e
   obtain⟨rfl,_⟩:=aiM e
   exact ih (by omega) _ _ hd
def mu (a:Nat) (l:List UInt8):Nat:=l.foldl (fun a b=>a*10+(b.toNat - 48)) a
theorem WS:∀u,mu 0 (ahB u)=u:=by
 refine lb (fun u h=>?_) (fun u h ih=>?_)
 ·rw [ahL h]
  simp only [mu,aiz,aiF,im h]
  omega
 ·rw [ia h]
  simp only [mu] at ih ⊢
  rw [ais,ih]
  simp only [aiz,aiF,im (aiH u (show 10>0 by decide))]
  omega
theorem FQ:∀(l r:List UInt8) (a b:Nat),ahV a l = .ok b→ahV a (l++r)=ahV b r
 | [],r,a,b,h=>by
  simp only [ahV] at h
  injection h with h
  subst h
  rfl
 | c::l,r,a,b,h=>by
  simp only [ahV] at h
  rw [ahS]
  simp only [ahV]
  split at h
  ·rename_i h1
   rw [if_pos h1]
   split at h
   ·cases h
   ·rename_i h2
    rw [if_neg h2]
    split at h
    ·cases h
    ·rename_i h3
     rw [if_neg h3]
     exact FQ l r _ b h
  ·cases h
theorem SC:∀u,u<1844674407370955162→ahV 0 (ahB u) = .ok u:=by
 refine lb (fun u h hu=>?_) (fun u h ih hu=>?_)
 ·rw [ahL h]
  simp only [ahV,im h]
  rw [if_pos (by omega),if_neg (by omega),if_neg (by omega)]
  congr 1
  omega
 ·have h10:=im (aiH u (show 10>0 by decide))
  rw [ia h,FQ _ _ _ _ (ih (by omega))]
  simp only [ahV,h10]
  rw [if_pos (by omega),if_neg (by omega),if_neg (by omega)]
  congr 1
  omega
theorem VL {u:Nat} (h:u<1844674407370955162):ah7 (ahB u) = .ok (u:Int):=by
 have hp:=SC u h
 cases hd:ahB u with
 | nil=>exact absurd hd (kz u)
 | cons c r =>
  have hc:=oX.1 (oP u c (by rw [hd];simp))
  rw [hd] at hp
  unfold ah7
  simp only
  rw [if_neg (by omega)]
  unfold Lib.parseMag
  rw [if_neg (by simp),hp]
  simp only
  have h45:¬c.toNat=45:=by omega
  rw [if_neg (by omega),if_neg (by simp [h45]),if_neg h45]
def VR (b:UInt8):Bool:=rC b.toNat
theorem FA (b:UInt8):VR b = !dig b:=by
 simp only [VR,rC,dig]
 by_cases h1:b.toNat<48<;>by_cases h2:57<b.toNat<;>simp [h1,h2]<;>omega
def om:Option (List UInt8)→List UInt8→List (List UInt8)
 | none,[]=>[]
 | some c,[]=>[c]
 | none,b::l=>if VR b=true then om none l else om (some [b]) l
 | some c,b::l=>if VR b=true then c::om none l else om (some (c++[b])) l
theorem NQ:∀{w:List UInt8} (c l:List UInt8),(∀b∈w,dig b=true)→om (some c) (w++l)=om (some (c++w)) l
 | [],c,l,_=>by simp
 | x::w,c,l,h=>by
  rw [ahS]
  simp only [om]
  rw [if_neg (by rw [FA,h x (by simp)];simp),NQ (c++[x]) l fun b hb=>h b (by simp [hb])]
  simp
theorem rf {w:List UInt8} (hn:w≠[]) (h:∀b∈w,dig b=true) {x:UInt8} (hx:dig x=false) (l:List UInt8):om none (w++x::l)=w::om none l:=by
 cases w with
 | nil=>exact absurd rfl hn
 | cons y w =>
  rw [ahS]
  simp only [om]
  rw [if_neg (by rw [FA,h y (by simp)];simp),NQ [y] _ fun b hb=>h b (by simp [hb])]
  simp only [om]
  rw [if_pos (by rw [FA,hx];rfl)]
  rfl
theorem Ta {w:List UInt8} (hn:w≠[]) (h:∀b∈w,dig b=true):om none w=[w]:=by
 cases w with
 | nil=>exact absurd rfl hn
 | cons y w =>
  simp only [om]
  rw [if_neg (by rw [FA,h y (by simp)];simp)]
  have:=NQ (w:=w) [y] [] fun b hb=>h b (by simp [hb])
  rw [List.append_nil] at this
  rw [this]
  rfl
theorem Ve (s:ByteArray) (hs:∀b∈ac s,b.toNat<128):∀(f pos:Nat) (st:Option Nat) (acc:List (Nat × Nat)),s.size≤pos+f→pos≤s.size→(∀a,st=some a→a<pos) →
  (aia s (ah4 rC s f pos st acc)).map (fun x=>ac (s.extract x.1 x.2))=acc.map (fun x=>ac (s.extract x.1 x.2))++om (st.map fun a=>((ac s).take pos).drop a) ((ac s).drop pos):=by
 intro f
 induction f with
 | zero =>
  intro pos st acc h1 h2 h3
  have hp:pos=s.size:=by omega
  have hd:(ac s).drop pos=[]:=ah1 (by rw [←cQ];omega)
  rw [hd]
  cases st with
  | none=>simp [ah4,aia,om]
  | some a=>simp only [ah4,aia,om,ahw,ahF,ahI,ahO,eI,hp]
 | succ f ih =>
  intro pos st acc h1 h2 h3
  by_cases hp:pos<s.size
  case neg =>
   have hpe:pos=s.size:=by omega
   have hd:(ac s).drop pos=[]:=ah1 (by rw [←cQ];omega)
   rw [hd,Lib.spansFromP_end _ _ _ _ _ _ hp]
   cases st with
   | none=>simp [aia,om]
   | some a=>simp only [aia,om,ahw,ahF,ahI,ahO,eI,hpe]
  have hl:pos<(ac s).length:=by rw [←cQ];exact hp
  have hb:(ac s)[pos].toNat<128:=hs _ (ahJ hl)
  have hdec:aiT s pos=((ac s)[pos].toNat,1):=decode_ascii s pos hp hb
  have hcons:(ac s).drop pos=(ac s)[pos]::(ac s).drop (pos+1):=aiu hl
  have htk:(ac s).take (pos+1)=(ac s).take pos++[(ac s)[pos]]:=ahD hl
  rw [hcons]
  unfold ah4
  rw [if_pos hp,hdec]
  simp only
  by_cases hsep:rC (ac s)[pos].toNat=true
  ·rw [if_pos hsep]
   cases st with
   | none =>
    simp only [aid,om]
    rw [if_pos (show VR _=true from hsep)]
    exact ih (pos+1) none acc (by omega) (by omega) (by simp)
   | some a =>
    simp only [ahw,om]
    rw [if_pos (show VR _=true from hsep),ih (pos+1) none (acc++[(a,pos)]) (by omega) (by omega) (by simp)]
    simp only [ahF,ahI,ahO,List.append_assoc,eI,aid,ahS,ahU]
  ·rw [if_neg hsep]
   cases st with
   | none =>
    simp only [aid,om]
    rw [if_neg (show ¬VR _=true from hsep),ih (pos+1) (some pos) acc (by omega) (by omega) (by intro a ha;cases ha;omega)]
    simp only [ahw]
    rw [htk,ah8 (by rw [ahK];omega),ah1 (by rw [ahK];omega)]
    rfl
   | some a =>
    have ha:=h3 a rfl
    simp only [ahw,om]
    rw [if_neg (show ¬VR _=true from hsep),ih (pos+1) (some a) acc (by omega) (by omega) (by intro a' ha';cases ha';omega)]
    simp only [ahw]
    rw [htk,ah8 (by rw [ahK];omega)]
theorem HQ (s:ByteArray) (hs:∀b∈ac s,b.toNat<128):(ah0 rC s).map ac=om none (ac s):=by
 have:=Ve s hs s.size 0 none [] (by omega) (aip _) (by simp)
 simpa [ah0,Lib.spansOfP,ah9,Function.comp_def] using this
def qe:List ByteArray→List Int→List Int
 | [],acc=>acc
 | w::l,acc=>match ah7 (ac w) with
  | .ok v=>qe l (acc++[v])
  | _=>[]
def fc (s:ByteArray):List Int:=qe (ah0 rC s) []
abbrev ja (l:List Int):D:=.arr 1 (l.map I)
theorem mJ (p:Nat→Bool) (s:ByteArray):∀(f pos:Nat) (st:Option Nat) (acc:List (Nat × Nat)),(ah4 p s f pos st acc).1.length≤acc.length+f
 | 0,pos,st,acc=>by simp [ah4]
 | f+1,pos,st,acc=>by
  unfold ah4
  by_cases hp:pos<s.size
  case neg =>
   rw [if_neg hp]
   exact Nat.le_add_right _ _
  rw [if_pos hp]
  by_cases hq:p (aiT s pos).1=true
  ·rw [if_pos hq]
   cases st with
   | none=>exact aik (mJ p s f _ none acc) (by omega)
   | some a =>
    have h:=mJ p s f (pos+(aiT s pos).2) none (acc++[(a,pos)])
    rw [aiq,List.length_singleton] at h
    exact aik h (by omega)
  ·rw [if_neg hq]
   cases st with
   | none=>exact aik (mJ p s f _ _ acc) (by omega)
   | some a=>exact aik (mJ p s f _ _ acc) (by omega)
theorem DH (p:Nat→Bool) (s:ByteArray):(ah0 p s).length≤s.size+1:=by
 unfold ah0 Lib.spansOfP
 rw [ahx]
 have:=mJ p s s.size 0 none []
 unfold aia
 split
 ·simp only [aiq,aiv,aiV] at this ⊢;omega
 ·simp only [aiV] at this;omega
theorem WJ (p:Nat→Bool) (s:ByteArray):∀w∈ah0 p s,w.size≤s.size:=by
 intro w hw
 unfold ah0 at hw
 obtain⟨x,_,rfl⟩:=aif.1 hw
 rw [cQ,eI,List.length_drop,ahK,←cQ]
 omega
theorem Vr (s:ByteArray) (k:Nat) (p:Nat→Bool) (h:s.size≤4294967296):mp k p [T s,.clo k []]=some (.ret [.arr 1 ((ah0 p s).map T)] []):=by
 simp only [mp,h,and_self,if_true]
theorem aei (a:Int):aH 1 [I a]=some (ja [a]):=by simp [aH,lW]
theorem kn (l:List Int):cK (ja l)=some (ja l):=pw fun _=>rfl
theorem aco (w:ByteArray) (h:w.size≤4294967296):FE [T w]=some (match ah7 (ac w) with
  | .ok v=>Out.ret [I v,.v .nilIface] []
  | .range=>Out.ret [I (Lib.atoiSat (ac w)),.ifc] []
  | _=>Out.ret [I 0,.ifc] []):=by
 have h2:w.size≤281474976710656:=by omega
 simp only [FE,h2,if_true]
 rw [show w.data.toList=ac w from rfl]
 cases ah7 (ac w)<;>rfl
theorem km (s:ByteArray) (h:s.size≤1048576):fx [T s]=some (.ret [ja (fc s)] []):=by
 rw [JL]
 have hl:=DH rC s
 have hz:=WJ rC s
 rw [Vr s _ rC (by omega)]
 simp only [aZ,aht,am,ak,aK,ahx]
 generalize hw:ah0 rC s=ws at hl hz
 have hnum:fc s=qe ws []:=by rw [fc,hw]
 rw [hnum]
 refine cG (fun r=>r=_) (fun(a:List Int × Nat)=>[ja a.1,.arr 1 (ws.map T),I ws.length,I (a.2:Int)]) (fun a=>a.2≤ws.length∧a.1.length≤a.2∧qe (ws.drop a.2) a.1=qe ws [])
  (fun a=>ws.length - a.2) (fun o=>o = .ext 0 [ja (qe ws [])]∨o = .ret [ja (qe ws [])] []) ?_ ([],0) ⟨aip _,ah3 _,rfl⟩ rfl ?_
 ·rintro⟨acc,i⟩ ⟨h1,h2,h3⟩
  simp only at h1 h2 h3
  by_cases hi:i<ws.length
  ·have hi':(i:Int)<(ws.length:Int):=by omega
   have hw:ahv.wrap ((i:Int)+1)=((i+1:Nat):Int):=by rw [ah (by omega) (by omega)];omega
   have hat:=aco ws[i] (by have:=hz ws[i] (ahJ hi);omega)
   have hel:ao 1 (.arr 1 (ws.map T)) (I (i:Int))=some [T ws[i]]:=by simp [hi]
   rw [aiu hi] at h3
   simp only [qe] at h3
   cases ha:ah7 (ac ws[i]) with
   | ok v =>
    rw [ha] at h3 hat
    left
    refine⟨(acc++[v],i+1),?_,⟨by simp only;omega,by simp;omega,h3⟩,by simp only;omega⟩
    have e1:(acc.map I).length+([v].map I).length=acc.length+1:=by simp
    have hap:(acc.length+1)*8≤140737488355328∧acc.length+1≤1152921504606846976:=by omega
    simp only [ak,aF,aht,be,hi',decide_true,aG,if_true,hel,ahw,bh,aP,bC,hat,am,show aq (.tup [I v,.v .nilIface]) 0=some (I v) from rfl,
     show aq (.tup [I v,.v .nilIface]) 1=some (.v .nilIface) from rfl,show Yp true ai1 (.v .nilIface) (.v .nilIface)=some (B false) from rfl,ahu,if_false,aei,kn,gn,e1,hap,and_self,br,hw]
    rw [←ahF]
   | range =>
    rw [ha] at h3 hat
    right
    refine⟨.ret [ja []] [],?_,rfl,.inr (by rw [←h3])⟩
    simp only [ak,aF,aht,be,hi',decide_true,aG,if_true,hel,ahw,bh,aP,bC,hat,am,show ∀n:Int,aq (.tup [I n,.ifc]) 0=some (I n) from fun _=>rfl,
     show ∀n:Int,aq (.tup [I n,.ifc]) 1=some .ifc from fun _=>rfl,show Yp true ai1 .ifc (.v .nilIface)=some (B true) from rfl,aZ]
    rfl
   | _ =>
    rw [ha] at h3 hat
    right
    refine⟨.ret [ja []] [],?_,rfl,.inr (by rw [←h3])⟩
    simp only [ak,aF,aht,be,hi',decide_true,aG,if_true,hel,ahw,bh,aP,bC,hat,am,show aq (.tup [I 0,.ifc]) 0=some (I 0) from rfl,
     show aq (.tup [I 0,.ifc]) 1=some .ifc from rfl,show Yp true ai1 .ifc (.v .nilIface)=some (B true) from rfl,aZ]
    rfl
  ·right
   have hi':¬(i:Int)<(ws.length:Int):=by omega
   refine⟨.ext 0 [ja acc],?_,rfl,.inl ?_⟩
   ·simp only [ak,aF,aht,be,hi',decide_false,aG,ahu,if_false]
   ·rw [ah1 (by omega)] at h3
    rw [←h3]
    rfl
 ·rintro o (rfl | rfl)
  ·simp only [bE,ahE,dZ,if_true,ak]
  ·rfl
end Go.Proofs.YtjafgdefcggjcaaGreatDoor

namespace Go.Proofs.YtjafgdefcggjcaaGreatDoor
open Go Go.V
def Dd (l:List UInt8):Int :=
 if (1≤l.length∧l.length≤6)∧¬(l.head?=some 48∧1<l.length)∧l.all dig=true then(mu 0 l:Int) else -1
def bR (s:ByteArray):Int:=Dd (ac s)
theorem Bi (l:List UInt8) (x:UInt8) (a:Nat):mu a (l++[x])=mu a l*10+(x.toNat - 48):=by simp [mu,ais]
theorem TO:∀(n:Nat) (l:List UInt8),l.length=n→(∀b∈l,dig b=true)→mu 0 l<10 ^ n:=by
 intro n
 induction n with
 | zero =>
  intro l hl _
  rw [List.eq_nil_of_length_eq_zero hl]
  decide
 | succ n ih =>
  intro l hl hd
  have hne:l≠[]:=fun e=>by rw [e] at hl;simp at hl
  have hsp:=aio hne
  have h1:=ih l.dropLast (by rw [aiI];omega) fun b hb=>hd b ((aiG l).subset hb)
  have h2:=oX.1 (hd _ (List.getLast_mem hne))
  rw [←hsp,Bi,aiP]
  omega
theorem fq (s:ByteArray) (h:s.size≤4294967296):dQ [T s]=some (.ret [I (bR s)] []):=by
 rw [RO]
 have hsz:s.size=(ac s).length:=rfl
 by_cases h1:1≤(s.size:Int)∧(s.size:Int)≤6
 case neg =>
  have hr:bR s = -1:=by
   unfold bR Dd
   rw [if_neg (by rintro⟨⟨g1,g2⟩,_⟩;exact h1 (by omega))]
  rw [hr]
  simp -implicitDefEqProofs [bn,h1]
 have hpos:0<(ac s).length:=by omega
 have hch0:jW (T s) (I 0)=some (U ((ac s)[0].toNat:Int)):=by
  have:=oe (s:=s) (k:=.i64) (i:=0)
  rw [ahN hpos] at this
  exact this
 have hhead:(ac s).head?=some (ac s)[0]:=by rw [aiC,ahN hpos]
 have h48:(48:UInt8).toNat=48:=rfl
 have hc48:((ac s)[0].toNat:Int)=48↔(ac s)[0]=48:=⟨fun e=>aic.1 (by omega),fun e=>by rw [e];rfl⟩
 by_cases h2:(ac s)[0]=48∧1<(ac s).length
 ·have hr:bR s = -1:=by
   unfold bR Dd
   rw [if_neg (by rintro⟨_,g,_⟩;exact g ⟨by rw [hhead,h2.1],h2.2⟩)]
  have hl:(1:Int)<(s.size:Int):=by omega
  have hc:=hc48.2 h2.1
  rw [hr]
  simp -implicitDefEqProofs [bn,h1,hch0,hc,hl]
 have hgo:∀(K:D→Option Out),((bin BinOp.eql false [] (U ((ac s)[0].toNat:Int)) (D.v (aiA aii 48))).bind fun z_3=>(aj (D.tup []) (B false) false (some z_3)).bind fun z_4=>(aj (D.tup []) z_4 true (some (T s))).bind fun z_5 =>
   (aj (D.tup []) z_4 true (lenD true z_5)).bind fun z_6=>(aj (D.tup []) z_4 true (bin BinOp.gtr false [] z_6 (D.v (aiA ahv 1)))).bind fun z_7=>(aj (D.tup []) (B false) false (aT z_4 z_7 (D.v (Value.bool false)))).bind K)=K (B false):=by
  intro K
  by_cases e:((ac s)[0].toNat:Int)=48
  ·have:¬(1:Int)<(s.size:Int):=fun hl=>h2 ⟨hc48.1 e,by omega⟩
   simp -implicitDefEqProofs [e,this]
  ·simp -implicitDefEqProofs [e]
 simp only [dG,aht,bn,h1,and_self,decide_true,am,ak,bd,ahA,bG,ahu,if_false,hch0]
 have hgo':=hgo
 simp only [bG,ahu,if_false,aht] at hgo'
 rw [hgo']
 simp only [aN,ahu,if_false,aht,aG]
 refine cG (fun r=>r=_) (fun(a:Nat × Nat)=>[T s,I (a.1:Int),I (a.2:Int)]) (fun a=>a.2≤s.size∧a.1=mu 0 ((ac s).take a.2)∧∀b∈(ac s).take a.2,dig b=true) (fun a=>s.size - a.2)
  (fun o=>o=if (ac s).all dig=true then .ext 0 [I (mu 0 (ac s):Int)] else .ret [I (-1)] []) ?_ (0,0) ⟨aip _,rfl,by simp⟩ rfl ?_
 ·rintro⟨n,i⟩ ⟨g1,g2,g3⟩
  simp only at g1 g2 g3
  by_cases hi:i<s.size
  ·have hl:i<(ac s).length:=by rw [←hsz];exact hi
   have hi':(i:Int)<(s.size:Int):=by omega
   have hch:jW (T s) (I (i:Int))=some (U ((ac s)[i].toNat:Int)):=by
    rw [oe,ahN hl]
    rfl
   have htk:(ac s).take (i+1)=(ac s).take i++[(ac s)[i]]:=ahD hl
   by_cases hd:dig (ac s)[i]=true
   ·left
    have hd':=oX.1 hd
    have hn:n<10 ^ i:=by
     rw [g2]
     exact TO i _ (by rw [ahK];omega) g3
    have h10:10 ^ i≤10 ^ 6:=aiJ (by decide) (by omega)
    have hw:ahv.wrap ((i:Int)+1)=((i+1:Nat):Int):=by rw [ah (by omega) (by omega)];omega
    have hw1:ahv.wrap (10*(n:Int))=10*(n:Int):=ah (by omega) (by omega)
    have hw2:aii.wrap (((ac s)[i].toNat:Int) - 48)=((ac s)[i].toNat:Int) - 48:=ZB _ (by omega) (by omega)
    have hw3:ahv.wrap (((ac s)[i].toNat:Int) - 48)=((ac s)[i].toNat:Int) - 48:=ah (by omega) (by omega)
    have hw4:ahv.wrap (10*(n:Int)+(((ac s)[i].toNat:Int) - 48))=((n*10+((ac s)[i].toNat - 48):Nat):Int):=by rw [ah (by omega) (by omega)];omega
    have c1:¬((ac s)[i].toNat:Int)<48:=by omega
    have c2:¬(57:Int)<((ac s)[i].toNat:Int):=by omega
    refine⟨(n*10+((ac s)[i].toNat - 48),i+1),?_,⟨by simp only;omega,?_,?_⟩,by simp only;omega⟩
    ·simp only [ak,aF,dG,aht,be,hi',decide_true,aG,if_true,hch,c1,decide_false,bG,ahu,if_false,eG,c2,aN,dX,hw1,ca,hw2,Aw,hw3,br,hw4,hw]
    ·simp only
     rw [htk,Bi,g2]
    ·simp only
     rw [htk]
     intro b hb
     rcases aij.1 hb with hb | hb
     ·exact g3 b hb
     ·rw [aie.1 hb];exact hd
   ·right
    refine⟨.ret [I (-1)] [],?_,rfl,?_⟩
    ·by_cases c1:((ac s)[i].toNat:Int)<48
     ·simp -implicitDefEqProofs [hi',hch,c1]
     ·have c2:(57:Int)<((ac s)[i].toNat:Int):=by
       have:¬(48≤(ac s)[i].toNat∧(ac s)[i].toNat≤57):=fun e=>hd (oX.2 e)
       omega
      simp -implicitDefEqProofs [hi',hch,c1,c2]
    ·rw [if_neg]
     intro hall
     exact hd (ahX.1 hall _ (ahJ hl))
  ·right
   have hi':¬(i:Int)<(s.size:Int):=by omega
   have hie:(ac s).take i=ac s:=aiD (by omega)
   rw [hie] at g2 g3
   refine⟨.ext 0 [I (n:Int)],?_,rfl,?_⟩
   ·simp -implicitDefEqProofs [hi']
   ·rw [if_pos (ahX.2 g3),g2]
 ·rintro o rfl
  by_cases ha:(ac s).all dig=true
  ·have hr:bR s=(mu 0 (ac s):Int):=by
    unfold bR Dd
    rw [if_pos ⟨⟨by omega,by omega⟩,fun g=>h2 ⟨by have:=g.1;rw [hhead] at this;exact aiW this,g.2⟩,ha⟩]
   rw [if_pos ha,hr]
   rfl
  ·have hr:bR s = -1:=by
    unfold bR Dd
    rw [if_neg (fun g=>ha g.2.2)]
   rw [if_neg ha,hr]
   rfl
theorem QI {u:Nat} (h:u<1000000):(ahB u).length≤6:=vO 5 u (by omega)
theorem aaR {u:Nat} (h:u<1000000):Dd (ahB u)=(u:Int):=by
 have h1:=kz u
 have h2:=QI h
 have h3:1≤(ahB u).length:=aiN.2 h1
 have hno:¬((ahB u).head?=some 48∧1<(ahB u).length):=by
  rintro⟨g1,g2⟩
  by_cases hu:0<u
  ·cases hd:ahB u with
   | nil=>exact h1 hd
   | cons b t =>
    rw [hd] at g1
    exact yQ u hu b t hd (by simpa using g1)
  ·have:u=0:=by omega
   subst this
   rw [ahL (by decide)] at g2
   simp at g2
 unfold Dd
 rw [if_pos ⟨⟨h3,h2⟩,hno,ahX.2 (oP u)⟩,WS]
theorem iv (n:Int) (h:0≤n):ac (aJ n)=ahB n.toNat:=by
 obtain⟨u,rfl⟩:=ahH h
 rw [Po]
 exact cN _
theorem nU {n:Int} (h0:0≤n) (h1:n<1000000):bR (aJ n)=n:=by
 unfold bR
 rw [iv n h0,aaR (by omega)]
 omega
theorem acO {n:Int} (h0:0≤n) (h1:n<1000000):ah7 (ac (aJ n)) = .ok n:=by
 rw [iv n h0,VL (by omega)]
 congr 1
 omega
theorem ju {n:Int} (h0:0≤n):ac (aJ n)≠[]∧∀b∈ac (aJ n),dig b=true:=by
 rw [iv n h0]
 exact⟨kz _,oP _⟩
theorem EX {b:UInt8} (h:dig b=true):b.toNat<128:=by
 have:=oX.1 h
 omega
theorem adg {s:ByteArray} (hs:∀b∈ac s,b.toNat<128) {ns:List Int} (hn:∀n∈ns,0≤n∧n<1000000) (h:om none (ac s)=ns.map fun n=>ac (aJ n)):fc s=ns:=by
 unfold fc
 have hf:=HQ s hs
 rw [h] at hf
 have key:∀(ws:List ByteArray) (ns:List Int) (acc:List Int),(∀n∈ns,0≤n∧n<1000000)→ws.map ac=ns.map (fun n=>ac (aJ n))→qe ws acc=acc++ns:=by
  intro ws
  induction ws with
  | nil =>
   intro ns acc _ e
   cases ns with
   | nil=>simp [qe]
   | cons _ _=>simp at e
  | cons w ws ih =>
   intro ns acc hn e
   cases ns with
   | nil=>simp at e
   | cons n ns =>
    rw [ahI,ahI,aib] at e
    have hr:=hn n (by simp)
    simp only [qe]
    rw [e.1,acO hr.1 hr.2]
    simp only
    rw [ih ns (acc++[n]) (fun m hm=>hn m (by simp [hm])) e.2]
    simp
 simpa using key _ ns [] hn hf
theorem vZ {b:UInt8} {l:List UInt8} (h:∀x∈l,dig x=true) (hb:dig b=false):b∉l:=fun hm=>by rw [h b hm] at hb;cases hb
theorem fp (c:UInt8) (s:ByteArray):∀w∈aB c s,w.size≤s.size:=by
 intro w hw
 unfold aB at hw
 obtain⟨l,hl,rfl⟩:=aif.1 hw
 have key:∀(m:List UInt8),∀l∈aY c m,l.length≤m.length:=by
  intro m
  induction m with
  | nil=>intro l hl;simp [aY] at hl;simp [hl]
  | cons x m ih =>
   intro l hl
   simp only [aY] at hl
   split at hl
   ·rcases ahZ.1 hl with rfl | hl
    ·simp
    ·have:=ih l hl
     simp;omega
   ·generalize hs:aY c m=t at hl ih
    cases t with
    | nil=>exact absurd hs (em c m)
    | cons y t =>
     simp only [Kw] at hl
     rcases ahZ.1 hl with rfl | hl
     ·have:=ih y (by simp)
      simp;omega
     ·have:=ih l (by simp [hl])
      simp;omega
 have:=key _ l hl
 rw [cQ,cN]
 exact this
theorem eK (c:UInt8) (s:ByteArray):(aB c s).length=(aY c (ac s)).length:=by simp [aB]
end Go.Proofs.YtjafgdefcggjcaaGreatDoor

namespace Go.Proofs.YtjafgdefcggjcaaGreatDoor
open Go Go.V
def dO (c:UInt8):List (List UInt8)→List UInt8
 | []=>[]
 | [a]=>a
 | a::b::l=>a++c::dO c (b::l)
theorem GL {c:UInt8}:∀(ws:List (List UInt8)),ws≠[]→(∀w∈ws,c∉w)→aY c (dO c ws)=ws
 | [],h,_=>absurd rfl h
 | [a],_,h=>jN (h a (by simp))
 | a::b::l,_,h=>by
  have hj:dO c (a::b::l)=a++c::dO c (b::l):=rfl
  rw [hj,gr (h a (by simp)),GL (b::l) (by simp) fun w hw=>h w (by simp [hw])]
theorem mO (c:UInt8):∀(l:List UInt8),dO c (aY c l)=l
 | []=>rfl
 | x::l=>by
  have ih:=mO c l
  simp only [aY]
  split
  ·rename_i hx
   cases hs:aY c l with
   | nil=>exact absurd hs (em c l)
   | cons y t =>
    rw [hs] at ih
    have:dO c ([]::y::t)=[]++c::dO c (y::t):=rfl
    rw [this,ih,hx]
    rfl
  ·cases hs:aY c l with
   | nil=>exact absurd hs (em c l)
   | cons y t =>
    rw [hs] at ih
    cases t with
    | nil =>
     have e:dO c [y]=y:=rfl
     rw [e] at ih
     show x::y=x::l
     rw [ih]
    | cons z t =>
     have e:dO c (y::z::t)=y++c::dO c (z::t):=rfl
     rw [e] at ih
     show(x::y)++c::dO c (z::t)=x::l
     rw [←ih]
     rfl
theorem MM {c:UInt8} (hc:dig c=false):∀(ws:List (List UInt8)),(∀w∈ws,w≠[]∧∀b∈w,dig b=true)→om none (dO c ws)=ws
 | [],_=>rfl
 | [a],h=>Ta (h a (by simp)).1 (h a (by simp)).2
 | a::b::l,h=>by
  have hj:dO c (a::b::l)=a++c::dO c (b::l):=rfl
  rw [hj,rf (h a (by simp)).1 (h a (by simp)).2 hc,MM hc (b::l) fun w hw=>h w (by simp [hw])]
theorem Kb {c b:UInt8}:∀{ws:List (List UInt8)},b∈dO c ws→b=c∨∃w∈ws,b∈w
 | [],h=>by cases h
 | [a],h=>.inr ⟨a,by simp,h⟩
 | a::a'::l,h=>by
  have hj:dO c (a::a'::l)=a++c::dO c (a'::l):=rfl
  rw [hj,aij,ahZ] at h
  rcases h with h | h | h
  ·exact .inr ⟨a,by simp,h⟩
  ·exact .inl h
  ·rcases Kb h with h | ⟨w,hw,hb⟩
   ·exact .inl h
   ·exact .inr ⟨w,by simp only [ahZ] at hw ⊢;exact .inr hw,hb⟩
theorem Dp:∀(n:Nat) (l:List UInt8),l.length=n+1→(∀b∈l,dig b=true)→(l.head?=some 48→n=0)→ahB (mu 0 l)=l:=by
 intro n
 induction n with
 | zero =>
  intro l hl hd _
  obtain⟨x,rfl⟩:=List.length_eq_one_iff.1 hl
  have hx:=oX.1 (hd x (by simp))
  have hv:mu 0 [x]=x.toNat - 48:=by simp [mu]
  rw [hv,ahL (by omega)]
  congr 1
  apply aic.1
  rw [im (by omega)]
  omega
 | succ n ih =>
  intro l hl hd hz
  have hne:l≠[]:=fun e=>by rw [e] at hl;simp at hl
  have hsp:=aio hne
  have hlen:l.dropLast.length=n+1:=by rw [aiI];omega
  have hne2:l.dropLast≠[]:=fun e=>by rw [e] at hlen;simp at hlen
  have hx:=oX.1 (hd _ (List.getLast_mem hne))
  have hhead:l.head?=l.dropLast.head?:=by
   conv=>lhs;rw [←hsp]
   cases h:l.dropLast with
   | nil=>exact absurd h hne2
   | cons a t=>rfl
  have h48:l.dropLast.head?≠some 48:=fun e=>by have:=hz (hhead.trans e);omega
  have hi:=ih l.dropLast hlen (fun b hb=>hd b ((aiG l).subset hb)) fun e=>absurd e h48
  have hpos:1≤mu 0 l.dropLast:=by
   rcases aiw 0 (mu 0 l.dropLast) with g | g
   ·exact g
   ·have h0:mu 0 l.dropLast=0:=by omega
    rw [h0,ahL (by decide)] at hi
    rw [←hi] at h48
    exact absurd rfl h48
  have hv:mu 0 l=mu 0 l.dropLast*10+((l.getLast hne).toNat - 48):=by
   conv=>lhs;rw [←hsp]
   exact Bi _ _ _
  rw [hv,ia (by omega)]
  have h1:(mu 0 l.dropLast*10+((l.getLast hne).toNat - 48)) / 10=mu 0 l.dropLast:=by omega
  have h2:(mu 0 l.dropLast*10+((l.getLast hne).toNat - 48)) % 10=(l.getLast hne).toNat - 48:=by omega
  rw [h1,h2,hi]
  conv=>rhs;rw [←hsp]
  congr 1
  congr 1
  apply aic.1
  rw [im (by omega)]
  omega
theorem sK {w:ByteArray} {n:Int} (h:bR w=n) (h0:0≤n):w=aJ n:=by
 unfold bR Dd at h
 split at h
 ·rename_i hc
  obtain⟨⟨g1,g2⟩,g3,g4⟩:=hc
  subst h
  apply bK
  rw [iv _ h0]
  have:((mu 0 (ac w):Int)).toNat=mu 0 (ac w):=by omega
  rw [this]
  refine(Dp ((ac w).length - 1) (ac w) (by omega) (ahX.1 g4) fun e=>?_).symm
  rcases aiw 1 (ac w).length with g | g
  ·exact absurd ⟨e,g⟩ g3
  ·omega
 ·omega
def bX (c:UInt8) (ns:List Int):ByteArray:=⟨(dO c (ns.map fun n=>ac (aJ n))).toArray⟩
def ada (ns:List Int):Prop:=∀n∈ns,0≤n∧n<1000000000000000000
theorem cz (c:UInt8) (ns:List Int):ac (bX c ns)=dO c (ns.map fun n=>ac (aJ n)):=cN _
theorem SO {n:Int} (h0:0≤n) (h1:n<1000000000000000000):ah7 (ac (aJ n)) = .ok n:=by
 rw [iv n h0,VL (by omega)]
 congr 1
 omega
theorem SU {s:ByteArray} (hs:∀b∈ac s,b.toNat<128) {ns:List Int} (hn:ada ns) (h:om none (ac s)=ns.map fun n=>ac (aJ n)):fc s=ns:=by
 unfold fc
 have hf:=HQ s hs
 rw [h] at hf
 have key:∀(ws:List ByteArray) (ns:List Int) (acc:List Int),ada ns→ws.map ac=ns.map (fun n=>ac (aJ n))→qe ws acc=acc++ns:=by
  intro ws
  induction ws with
  | nil =>
   intro ns acc _ e
   cases ns with
   | nil=>simp [qe]
   | cons _ _=>simp at e
  | cons w ws ih =>
   intro ns acc hn e
   cases ns with
   | nil=>simp at e
   | cons n ns =>
    rw [ahI,ahI,aib] at e
    have hr:=hn n (by simp)
    simp only [qe]
    rw [e.1,SO hr.1 hr.2]
    simp only
    rw [ih ns (acc++[n]) (fun m hm=>hn m (by simp [hm])) e.2]
    simp
 simpa using key _ ns [] hn hf
theorem aff {c:UInt8} {ns:List Int} (hc:dig c=false) (hb:c.toNat<128) (h:ada ns):fc (bX c ns)=ns:=by
 have hw:∀w∈ns.map (fun n=>ac (aJ n)),w≠[]∧∀b∈w,dig b=true:=by
  intro w hw
  obtain⟨n,hn,rfl⟩:=aif.1 hw
  exact ju (h n hn).1
 refine SU (fun b hb'=>?_) h ?_
 ·rw [cz] at hb'
  rcases Kb hb' with rfl | ⟨w,hw',hb'⟩
  ·exact hb
  ·exact EX ((hw w hw').2 b hb')
 ·rw [cz]
  exact MM hc _ hw
theorem adQ {c:UInt8} {ns:List Int} (hc:dig c=false) (hne:ns≠[]) (h:ada ns):aB c (bX c ns)=ns.map aJ:=by
 unfold aB
 rw [cz,GL _ (by simpa using hne)]
 ·rw [ah9]
  refine ain fun n _=>?_
  exact mC _
 ·intro w hw
  obtain⟨n,hn,rfl⟩:=aif.1 hw
  exact vZ (ju (h n hn).1).2 hc
structure Reads (rd:ByteArray→Int) (few:Int):Prop where
 le:few≤1000000000000000000
 of:∀n,0≤n→n<few→rd (aJ n)=n
 canon:∀w,0≤rd w→w=aJ (rd w)
section
variable {rd:ByteArray→Int} {few:Int} (hr:Reads rd few) {c:UInt8} (hc:dig c=false) (hb:c.toNat<128)
include hr hc
theorem ZW {ns:List Int} (hne:ns≠[]) (h:∀n∈ns,0≤n∧n<few):(aB c (bX c ns)).map rd=ns:=by
 rw [adQ hc hne (fun n hn=>⟨(h n hn).1,Int.lt_of_lt_of_le (h n hn).2 hr.le⟩),ah9]
 have:ns.map (rd ∘ aJ)=ns.map id:=ain fun n hn=>hr.of n (h n hn).1 (h n hn).2
 rw [this,aiS]
omit hc in
theorem YE {s:ByteArray} (h:∀n∈(aB c s).map rd,0≤n):bX c ((aB c s).map rd)=s:=by
 apply bK
 rw [cz,ah9]
 have e:(aB c s).map ((fun n=>ac (aJ n)) ∘ rd)=(aB c s).map ac:=ain fun w hw=>by
  have:=hr.canon w (h _ (List.mem_map_of_mem hw))
  exact congrArg ac this.symm
 rw [e]
 have e2:(aB c s).map ac=aY c (ac s):=by
  unfold aB
  rw [ah9]
  have:((ac ∘ fun l:List UInt8=>(⟨l.toArray⟩:ByteArray)))=id:=funext fun l=>cN l
  rw [this,aiS]
 rw [e2,mO]
end
def Ay (c:UInt8) (k:Nat) (good:List Int→Bool) (s:ByteArray):Option (List Int) :=
 if (fc s).length=k∧good (fc s)=true∧bX c (fc s)=s then some (fc s) else none
def II (rd:ByteArray→Int) (c:UInt8) (k:Nat) (good:List Int→Bool) (s:ByteArray):Option (List Int) :=
 if (aB c s).length=k∧good ((aB c s).map rd)=true then some ((aB c s).map rd) else none
section
variable {rd:ByteArray→Int} {few:Int} (hr:Reads rd few) {c:UInt8} (hc:dig c=false) (hb:c.toNat<128) {k:Nat} {good:List Int→Bool} (hg:∀ns,good ns=true→∀n∈ns,0≤n∧n<few)
include hr hc hg
include hb in
theorem Xb {ns:List Int} (h:good ns=true) (hk:ns.length=k):Ay c k good (bX c ns)=some ns:=by
 unfold Ay
 rw [aff hc hb fun n hn=>⟨(hg ns h n hn).1,Int.lt_of_lt_of_le (hg ns h n hn).2 hr.le⟩,if_pos ⟨hk,h,rfl⟩]
theorem VS (hk0:0<k) {ns:List Int} (h:good ns=true) (hk:ns.length=k):II rd c k good (bX c ns)=some ns:=by
 have hne:ns≠[]:=fun e=>by rw [e] at hk;simp at hk;omega
 unfold II
 rw [ZW hr hc hne (hg ns h),if_pos]
 refine⟨?_,h⟩
 have:=congrArg List.length (ZW hr hc hne (hg ns h))
 rw [ahx] at this
 exact this.trans hk
include hb in
theorem acj (hk0:0<k) (s:ByteArray):Ay c k good s=II rd c k good s:=by
 by_cases h:(fc s).length=k∧good (fc s)=true∧bX c (fc s)=s
 ·obtain⟨h1,h2,h3⟩:=h
  have a:=Xb hr hc hb hg h2 h1
  have b:=VS hr hc hg hk0 h2 h1
  rw [h3] at a b
  rw [a,b]
 ·by_cases h':(aB c s).length=k∧good ((aB c s).map rd)=true
  ·obtain⟨h1,h2⟩:=h'
   have hl:((aB c s).map rd).length=k:=by rw [ahx];exact h1
   have a:=Xb hr hc hb hg h2 hl
   have b:=VS hr hc hg hk0 h2 hl
   have h3:=YE hr (c:=c) (s:=s) fun n hn=>(hg _ h2 n hn).1
   rw [h3] at a b
   rw [a,b]
  ·rw [Ay,II,if_neg h,if_neg h']
end
theorem YT {c:UInt8} {k:Nat} {good:List Int→Bool} {s:ByteArray} {ns:List Int} (h:Ay c k good s=some ns):ns.length=k∧good ns=true∧bX c ns=s:=by
 unfold Ay at h
 split at h
 ·rename_i hc
  cases h
  exact hc
 ·cases h
end Go.Proofs.YtjafgdefcggjcaaGreatDoor

namespace Go.Proofs.YtjafgdefcggjcaaGreatDoor
open Go Go.V
structure Cur where
 code:List Int
 at_:Nat
 seed:Int
structure Cur.ok (c:Cur) (B:Nat):Prop where
 by_:∀n∈c.code,0≤n∧n≤255
 len:c.code.length≤1048576
 at_:c.at_≤B
 lo:0≤c.seed
 hi:c.seed<18446744073709551616
abbrev afr (l:List Int):D:=.arr 1 (l.map I)
theorem Cur.ok.mono {c:Cur} {B C:Nat} (h:c.ok B) (hBC:B≤C):c.ok C:=⟨h.by_,h.len,aik h.at_ hBC,h.lo,h.hi⟩
theorem Up {l:List Int}:aH 1 (l.map I)=some (afr l):=by
 have:lW 1 (l.map I).length (l.map I)=true:=by
  unfold lW
  simp
 simp only [aH,this,if_true]
structure Bytes (l:List Int):Prop where
 by_:∀n∈l,0≤n∧n≤255
 len:l.length≤1048576
abbrev txs (l:List ByteArray):D:=.arr 1 (l.map T)
theorem Bj {a b:ByteArray} (h:a.size+b.size≤100000000):bin .add false [] (T a) (T b)=some (T (a++b)):=by
 rw [fH,if_pos (by omega)]
end Go.Proofs.YtjafgdefcggjcaaGreatDoor

namespace Go.Proofs.YtjafgdefcggjcaaGreatDoor
open Go Go.V
theorem Xc (c:UInt8):∀(ws:List (List UInt8)),Lib.join ws [c]=dO c ws
 | []=>rfl
 | [a]=>by rw [Lib.join_one];rfl
 | a::b::l=>by
  have ih:=Xc c (b::l)
  rw [Lib.join_cons] at ih ⊢
  have hj:dO c (a::b::l)=a++c::dO c (b::l):=rfl
  rw [hj,←ih]
  simp [Lib.joinTail]
theorem We (c:UInt8) (ns:List Int):pP (ns.map aJ) ⟨#[c]⟩=bX c ns:=by
 apply bK
 rw [cz,←Xc]
 unfold pP
 rw [cN,ah9]
 rfl
theorem Jo {c:UInt8} {m:Nat}:∀(ws:List (List UInt8)),(∀w∈ws,w.length≤m)→(dO c ws).length≤ws.length*(m+1)
 | [],_=>by simp [dO]
 | [a],h=>by
  have:=h a (by simp)
  show a.length≤1*(m+1)
  omega
 | a::b::l,h=>by
  have ih:=Jo (c:=c) (b::l) fun w hw=>h w (by simp [hw])
  have ha:=h a (by simp)
  have hj:dO c (a::b::l)=a++c::dO c (b::l):=rfl
  rw [hj,aiq,aiv]
  have e:(a::b::l).length*(m+1)=(b::l).length*(m+1)+(m+1):=by rw [aiv,Nat.succ_mul]
  omega
theorem ED {c:UInt8} {ns:List Int} (h:∀n∈ns,0≤n∧n<1000000000000000000):(bX c ns).size≤ns.length*19:=by
 have:(bX c ns).size=(dO c (ns.map fun n=>ac (aJ n))).length:=by rw [cQ,cz]
 rw [this]
 have:=Jo (c:=c) (m:=18) (ns.map fun n=>ac (aJ n)) fun w hw=>by
  obtain⟨n,hn,rfl⟩:=aif.1 hw
  exact cq 17 (h n hn).1 (by have:=(h n hn).2;omega)
 rwa [ahx] at this
abbrev ai (l:List Int):D:=.arr 1 (l.map I)
theorem aah {l m:List ByteArray} (h:l.length+m.length≤1048577):bA 1 16 (txs l) (txs m)=some (txs (l++m)):=by
 rw [gn,if_pos (by simp only [ahx];omega)]
 simp
theorem KN (ns:List Int) (c:UInt8) (h:∀n∈ns,0≤n∧n<1000000000000000000) (hl:ns.length≤1000000):cV [ai ns,T ⟨#[c]⟩]=some (.ret [T (bX c ns)] []):=by
 rw [AK]
 simp only [aZ,aK,ahx,aht]
 refine aD _ (aQ ns.length (fun i=>[T ⟨#[c]⟩,txs ((ns.take i).map aJ),ai ns,I ns.length,I i]) (.ext 0 [T ⟨#[c]⟩,txs (ns.map aJ)]) (fun i hi=>?_) ?_ rfl rfl) ?_
 ·have hi':(i:Int)<(ns.length:Int):=by omega
  have hw:ahv.wrap ((i:Int)+1)=((i+1:Nat):Int):=by rw [ah (by omega) (by omega)];omega
  have hx:=h ns[i] (ahJ hi)
  have hel:ao 1 (ai ns) (I (i:Int))=some [I ns[i]]:=by simp [hi]
  have hit:=MK (n:=ns[i]) (by omega) (by omega)
  have hap:=aah (l:=(ns.take i).map aJ) (m:=[aJ ns[i]]) (by simp;omega)
  have htk:(ns.take (i+1)).map aJ=(ns.take i).map aJ++[aJ ns[i]]:=by rw [ahD hi,ahF];rfl
  rw [←htk] at hap
  have hck:cK (.arr 1 [T (aJ ns[i])])=some (txs [aJ ns[i]]):=rz [aJ ns[i]]
  show _=some (Out.nrm [T ⟨#[c]⟩,txs ((ns.take (i+1)).map aJ),ai ns,I ns.length,I ((i+1:Nat):Int)])
  simp -implicitDefEqProofs only [ak,aF,be,hi',decide_true,aht,aG,if_true,hel,ahw,bh,aP,bC,hit,am,vb,hck,hap,br,hw]
 ·simp
 ·have hz:=ED (c:=c) h
  have hj:CU [txs (ns.map aJ),T ⟨#[c]⟩]=some (.ret [T (bX c ns)] []):=by
   simp only [CU,AP,aht,We]
   rw [if_pos ⟨by rw [ahx];omega,by omega⟩]
  simp -implicitDefEqProofs only [bE,ahE,dZ,if_true,ak,aF,ci,cg,aht,hj,am]
theorem ZG {a b:Int}:∀(l:List Int) (i:Nat),mT (fun _ x=>decide (a≤x∧x≤b)) i l=l.all fun x=>decide (a≤x∧x≤b)
 | [],_=>rfl
 | x::l,i=>by simp only [mT,ZG l,List.all_cons]
theorem GX (l:List Int) (a b:Int) (h:l.length≤1048577):nb [ai l,I a,I b]=some (.ret [B (l.all fun x=>decide (a≤x∧x≤b))] []):=by
 rw [Um]
 simp only [aK,ahx,aht]
 refine aD _ (pA l (fun i=>[I a,I b,ai l,I l.length,I i]) (fun _ x=>decide (a≤x∧x≤b)) (.ret [B false] []) (.ext 0 []) (fun i hi=>?_) ?_ rfl rfl rfl) ?_
 ·have hw:ahv.wrap ((i:Int)+1)=(i:Int)+1:=ah (by omega) (by omega)
  by_cases h1:a≤l[i]∧l[i]≤b<;>simp -implicitDefEqProofs [hi,hw,h1,bn]
 ·simp
 ·rw [ZG]
  by_cases hm:(l.all fun x=>decide (a≤x∧x≤b))=true
  ·rw [if_pos hm,hm];rfl
  ·rw [if_neg hm]
   rw [Bool.not_eq_true] at hm
   rw [hm]
   rfl
theorem tp1 (a:D) (v:Value) (ds:List D):aq (.tup (a :: .v v::ds)) 1=some (.v v):=rfl
end Go.Proofs.YtjafgdefcggjcaaGreatDoor

namespace Go.Proofs.YtjafgdefcggjcaaGreatDoor
open Go Go.V
def aeQ (l:List Int):Prop:=∀n∈l,-9223372036854775808≤n∧n≤9223372036854775807
theorem adE {n:Int} (h0 : -9223372036854775808≤n) (h1:n≤9223372036854775807):(aJ n).size≤20:=by
 by_cases h:0≤n
 ·have:=cq 18 (n:=n) h (by omega)
  omega
 ·have e:aJ n=⟨#[45]⟩++aJ (-n):=by
   obtain⟨u,hu⟩:=ahH (show 0 ≤ -n by omega)
   have hn:n = -(u:Int):=by omega
   apply bK
   rw [bk,hn,Int.neg_neg]
   unfold aJ
   rw [cN,cN,Lib.itoa_neg u (by omega),Lib.itoa_nonneg]
   rfl
  have:=cq 18 (n:=-n) (by omega) (by omega)
  rw [e,ahM]
  have:(⟨#[45]⟩:ByteArray).size=1:=rfl
  omega
theorem nR {c:UInt8} {ns:List Int} (h:aeQ ns):(bX c ns).size≤ns.length*21:=by
 have:(bX c ns).size=(dO c (ns.map fun n=>ac (aJ n))).length:=by rw [cQ,cz]
 rw [this]
 have:=Jo (c:=c) (m:=20) (ns.map fun n=>ac (aJ n)) fun w hw=>by
  obtain⟨n,hn,rfl⟩:=aif.1 hw
  exact adE (h n hn).1 (h n hn).2
 rwa [ahx] at this
theorem wD (ns:List Int) (c:UInt8) (h:aeQ ns) (hl:ns.length≤1000000):cV [ai ns,T ⟨#[c]⟩]=some (.ret [T (bX c ns)] []):=by
 rw [AK]
 simp only [aZ,aK,ahx,aht]
 refine aD _ (aQ ns.length (fun i=>[T ⟨#[c]⟩,txs ((ns.take i).map aJ),ai ns,I ns.length,I i]) (.ext 0 [T ⟨#[c]⟩,txs (ns.map aJ)]) (fun i hi=>?_) ?_ rfl rfl) ?_
 ·have hi':(i:Int)<(ns.length:Int):=by omega
  have hw:ahv.wrap ((i:Int)+1)=((i+1:Nat):Int):=by rw [ah (by omega) (by omega)];omega
  have hx:=h ns[i] (ahJ hi)
  have hel:ao 1 (ai ns) (I (i:Int))=some [I ns[i]]:=by simp [hi]
  have hit:=MK (n:=ns[i]) hx.1 hx.2
  have hap:=aah (l:=(ns.take i).map aJ) (m:=[aJ ns[i]]) (by simp;omega)
  have htk:(ns.take (i+1)).map aJ=(ns.take i).map aJ++[aJ ns[i]]:=by rw [ahD hi,ahF];rfl
  rw [←htk] at hap
  have hck:cK (.arr 1 [T (aJ ns[i])])=some (txs [aJ ns[i]]):=rz [aJ ns[i]]
  show _=some (Out.nrm [T ⟨#[c]⟩,txs ((ns.take (i+1)).map aJ),ai ns,I ns.length,I ((i+1:Nat):Int)])
  simp -implicitDefEqProofs only [ak,aF,be,hi',decide_true,aht,aG,if_true,hel,ahw,bh,aP,bC,hit,am,vb,hck,hap,br,hw]
 ·simp
 ·have hz:=nR (c:=c) h
  have hj:CU [txs (ns.map aJ),T ⟨#[c]⟩]=some (.ret [T (bX c ns)] []):=by
   simp only [CU,AP,aht,We]
   rw [if_pos ⟨by rw [ahx];omega,by omega⟩]
  simp -implicitDefEqProofs only [bE,ahE,dZ,if_true,ak,aF,ci,cg,aht,hj,am]
abbrev Sk:=Int × Int × Int × Int × Int
abbrev k0:Sk:=(0,0,0,0,0)
theorem yD {l:List Int} {n:Int} (h:l.length≤1048576):bA 1 8 (ai l) (ai [n])=some (ai (l++[n])):=by
 rw [gn,if_pos (by simp;omega)]
 simp
theorem Fw (n:Int):aH 1 [I n]=some (ai [n]):=Up (l:=[n])
theorem Io (l:List Int):cK (ai l)=some (ai l):=pw (fun _=>rfl)
end Go.Proofs.YtjafgdefcggjcaaGreatDoor

namespace Go.Proofs.YtjafgdefcggjcaaGreatDoor
open Go Go.V
theorem tpL (l:List Int) (ds:List D):aq (.tup (ai l::ds)) 0=some (ai l):=rfl
theorem zF (a b:Int):jV [I a,I b]=some (.ret [I (if a<b then a else b)] []):=by
 rw [PG]
 by_cases h:a<b<;>simp [h]
end Go.Proofs.YtjafgdefcggjcaaGreatDoor

namespace Go.Proofs.YtjafgdefcggjcaaGreatDoor
open Go Go.V
theorem Eo (c:UInt8) (w:List UInt8):∀(ws:List (List UInt8)),ws≠[]→dO c (ws++[w])=dO c ws++c::w
 | [],h=>absurd rfl h
 | [a],_=>rfl
 | a::b::l,_=>by
  have ih:=Eo c w (b::l) (by simp)
  have h1:dO c ((a::b::l)++[w])=a++c::dO c ((b::l)++[w]):=rfl
  have h2:dO c (a::b::l)=a++c::dO c (b::l):=rfl
  rw [h1,h2,ih]
  simp
theorem JX (c:UInt8) (n:Int):bX c [n]=aJ n:=bK (by rw [cz];rfl)
theorem Pz (c:UInt8) (ns:List Int) (n:Int) (h:ns≠[]):bX c (ns++[n])=bX c ns++⟨#[c]⟩++aJ n:=by
 apply bK
 rw [cz,ahF,ahI,ahO,Eo _ _ _ (by simpa using h),bk,bk,cz,show ac ⟨#[c]⟩=[c] from rfl]
 simp
end Go.Proofs.YtjafgdefcggjcaaGreatDoor

namespace Go.Proofs.YtjafgdefcggjcaaGreatDoor
open Go Go.V
def KR (l:List UInt8):Int :=
 if (1≤l.length∧l.length≤10)∧¬(l.head?=some 48∧1<l.length)∧l.all dig=true then(mu 0 l:Int) else -1
def gf (s:ByteArray):Int:=KR (ac s)
theorem uf (s:ByteArray) (h:s.size≤4294967296):iS [T s]=some (.ret [I (gf s)] []):=by
 rw [Qm]
 have hsz:s.size=(ac s).length:=rfl
 by_cases h1:1≤(s.size:Int)∧(s.size:Int)≤10
 case neg =>
  have hr:gf s = -1:=by
   unfold gf KR
   rw [if_neg (by rintro⟨⟨g1,g2⟩,_⟩;exact h1 (by omega))]
  rw [hr]
  simp -implicitDefEqProofs [bn,h1]
 have hpos:0<(ac s).length:=by omega
 have hch0:jW (T s) (I 0)=some (U ((ac s)[0].toNat:Int)):=by
  have:=oe (s:=s) (k:=.i64) (i:=0)
  rw [ahN hpos] at this
  exact this
 have hhead:(ac s).head?=some (ac s)[0]:=by rw [aiC,ahN hpos]
 have h48:(48:UInt8).toNat=48:=rfl
 have hc48:((ac s)[0].toNat:Int)=48↔(ac s)[0]=48:=⟨fun e=>aic.1 (by omega),fun e=>by rw [e];rfl⟩
 by_cases h2:(ac s)[0]=48∧1<(ac s).length
 ·have hr:gf s = -1:=by
   unfold gf KR
   rw [if_neg (by rintro⟨_,g,_⟩;exact g ⟨by rw [hhead,h2.1],h2.2⟩)]
  have hl:(1:Int)<(s.size:Int):=by omega
  have hc:=hc48.2 h2.1
  rw [hr]
  simp -implicitDefEqProofs [bn,h1,hch0,hc,hl]
 have hgo:∀(K:D→Option Out),((bin BinOp.eql false [] (U ((ac s)[0].toNat:Int)) (D.v (aiA aii 48))).bind fun z_3=>(aj (D.tup []) (B false) false (some z_3)).bind fun z_4=>(aj (D.tup []) z_4 true (some (T s))).bind fun z_5 =>
   (aj (D.tup []) z_4 true (lenD true z_5)).bind fun z_6=>(aj (D.tup []) z_4 true (bin BinOp.gtr false [] z_6 (D.v (aiA ahv 1)))).bind fun z_7=>(aj (D.tup []) (B false) false (aT z_4 z_7 (D.v (Value.bool false)))).bind K)=K (B false):=by
  intro K
  by_cases e:((ac s)[0].toNat:Int)=48
  ·have:¬(1:Int)<(s.size:Int):=fun hl=>h2 ⟨hc48.1 e,by omega⟩
   simp -implicitDefEqProofs [e,this]
  ·simp -implicitDefEqProofs [e]
 simp only [dG,aht,bn,h1,and_self,decide_true,am,ak,bd,ahA,bG,ahu,if_false,hch0]
 have hgo':=hgo
 simp only [bG,ahu,if_false,aht] at hgo'
 rw [hgo']
 simp only [aN,ahu,if_false,aht,aG]
 refine cG (fun r=>r=_) (fun(a:Nat × Nat)=>[T s,I (a.1:Int),I (a.2:Int)]) (fun a=>a.2≤s.size∧a.1=mu 0 ((ac s).take a.2)∧∀b∈(ac s).take a.2,dig b=true) (fun a=>s.size - a.2)
  (fun o=>o=if (ac s).all dig=true then .ext 0 [I (mu 0 (ac s):Int)] else .ret [I (-1)] []) ?_ (0,0) ⟨aip _,rfl,by simp⟩ rfl ?_
 ·rintro⟨n,i⟩ ⟨g1,g2,g3⟩
  simp only at g1 g2 g3
  by_cases hi:i<s.size
  ·have hl:i<(ac s).length:=by rw [←hsz];exact hi
   have hi':(i:Int)<(s.size:Int):=by omega
   have hch:jW (T s) (I (i:Int))=some (U ((ac s)[i].toNat:Int)):=by
    rw [oe,ahN hl]
    rfl
   have htk:(ac s).take (i+1)=(ac s).take i++[(ac s)[i]]:=ahD hl
   by_cases hd:dig (ac s)[i]=true
   ·left
    have hd':=oX.1 hd
    have hn:n<10 ^ i:=by
     rw [g2]
     exact TO i _ (by rw [ahK];omega) g3
    have h10:10 ^ i≤10 ^ 10:=aiJ (by decide) (by omega)
    have hw:ahv.wrap ((i:Int)+1)=((i+1:Nat):Int):=by rw [ah (by omega) (by omega)];omega
    have hw1:ahv.wrap (10*(n:Int))=10*(n:Int):=ah (by omega) (by omega)
    have hw2:aii.wrap (((ac s)[i].toNat:Int) - 48)=((ac s)[i].toNat:Int) - 48:=ZB _ (by omega) (by omega)
    have hw3:ahv.wrap (((ac s)[i].toNat:Int) - 48)=((ac s)[i].toNat:Int) - 48:=ah (by omega) (by omega)
    have hw4:ahv.wrap (10*(n:Int)+(((ac s)[i].toNat:Int) - 48))=((n*10+((ac s)[i].toNat - 48):Nat):Int):=by rw [ah (by omega) (by omega)];omega
    have c1:¬((ac s)[i].toNat:Int)<48:=by omega
    have c2:¬(57:Int)<((ac s)[i].toNat:Int):=by omega
    refine⟨(n*10+((ac s)[i].toNat - 48),i+1),?_,⟨by simp only;omega,?_,?_⟩,by simp only;omega⟩
    ·simp only [ak,aF,dG,aht,be,hi',decide_true,aG,if_true,hch,c1,decide_false,bG,ahu,if_false,eG,c2,aN,dX,hw1,ca,hw2,Aw,hw3,br,hw4,hw]
    ·simp only
     rw [htk,Bi,g2]
    ·simp only
     rw [htk]
     intro b hb
     rcases aij.1 hb with hb | hb
     ·exact g3 b hb
     ·rw [aie.1 hb];exact hd
   ·right
    refine⟨.ret [I (-1)] [],?_,rfl,?_⟩
    ·by_cases c1:((ac s)[i].toNat:Int)<48
     ·simp -implicitDefEqProofs [hi',hch,c1]
     ·have c2:(57:Int)<((ac s)[i].toNat:Int):=by
       have:¬(48≤(ac s)[i].toNat∧(ac s)[i].toNat≤57):=fun e=>hd (oX.2 e)
       omega
      simp -implicitDefEqProofs [hi',hch,c1,c2]
    ·rw [if_neg]
     intro hall
     exact hd (ahX.1 hall _ (ahJ hl))
  ·right
   have hi':¬(i:Int)<(s.size:Int):=by omega
   have hie:(ac s).take i=ac s:=aiD (by omega)
   rw [hie] at g2 g3
   refine⟨.ext 0 [I (n:Int)],?_,rfl,?_⟩
   ·simp -implicitDefEqProofs [hi']
   ·rw [if_pos (ahX.2 g3),g2]
 ·rintro o rfl
  by_cases ha:(ac s).all dig=true
  ·have hr:gf s=(mu 0 (ac s):Int):=by
    unfold gf KR
    rw [if_pos ⟨⟨by omega,by omega⟩,fun g=>h2 ⟨by have:=g.1;rw [hhead] at this;exact aiW this,g.2⟩,ha⟩]
   rw [if_pos ha,hr]
   rfl
  ·have hr:gf s = -1:=by
    unfold gf KR
    rw [if_neg (fun g=>ha g.2.2)]
   rw [if_neg ha,hr]
   rfl
theorem NZ {u:Nat} (h:u<10000000000):(ahB u).length≤10:=vO 9 u (by omega)
theorem aaT {u:Nat} (h:u<10000000000):KR (ahB u)=(u:Int):=by
 have h1:=kz u
 have h2:=NZ h
 have h3:1≤(ahB u).length:=aiN.2 h1
 have hno:¬((ahB u).head?=some 48∧1<(ahB u).length):=by
  rintro⟨g1,g2⟩
  by_cases hu:0<u
  ·cases hd:ahB u with
   | nil=>exact h1 hd
   | cons b t =>
    rw [hd] at g1
    exact yQ u hu b t hd (by simpa using g1)
  ·have:u=0:=by omega
   subst this
   rw [ahL (by decide)] at g2
   simp at g2
 unfold KR
 rw [if_pos ⟨⟨h3,h2⟩,hno,ahX.2 (oP u)⟩,WS]
theorem abk {n:Int} (h0:0≤n) (h1:n<10000000000):gf (aJ n)=n:=by
 unfold gf
 rw [iv n h0,aaT (by omega)]
 omega
theorem Wq {w:ByteArray} {n:Int} (h:gf w=n) (h0:0≤n):w=aJ n:=by
 unfold gf KR at h
 split at h
 ·rename_i hc
  obtain⟨⟨g1,g2⟩,g3,g4⟩:=hc
  subst h
  apply bK
  rw [iv _ h0]
  have:((mu 0 (ac w):Int)).toNat=mu 0 (ac w):=by omega
  rw [this]
  refine(Dp ((ac w).length - 1) (ac w) (by omega) (ahX.1 g4) fun e=>?_).symm
  rcases aiw 1 (ac w).length with g | g
  ·exact absurd ⟨e,g⟩ g3
  ·omega
 ·omega
theorem aeZ:Reads gf 10000000000:=⟨by decide,fun _ h0 h1=>abk h0 h1,fun _ h=>Wq rfl h⟩
end Go.Proofs.YtjafgdefcggjcaaGreatDoor

namespace Go.Proofs.YtjafgdefcggjcaaGreatDoor
open Go Go.V
abbrev Me:=Int × Int × Int
abbrev me (m:Me):D:=.agg [I m.1,I m.2.1,I m.2.2]
abbrev mes (l:List Me):D:=.arr 3 (l.map me)
def meL (m:Me):List Int:=[m.1,m.2.1,m.2.2]
def in6 (x:Int):Bool:=decide (0≤x∧x≤1000000)
def ck (m:Me):Bool:=in6 m.1&&in6 m.2.1&&in6 m.2.2
theorem dF {m:Me}:ck m=true↔(0≤m.1∧m.1≤1000000)∧(0≤m.2.1∧m.2.1≤1000000)∧(0≤m.2.2∧m.2.2≤1000000):=by
 simp only [ck,in6,ahY,decide_eq_true_eq,and_assoc]
def gM (m:Me):Int:=m.1+m.2.1+m.2.2
abbrev m0:Me:=(0,0,0)
theorem oo (m:Me):fJ 3 (me m)=some (me m):=by simp
theorem jb (m:Me):bf true 3 0 (me m)=some (me m):=by simp
theorem stM (a m:Me):stD 3 (me a) (.ref 0 0) (me m)=some (me m):=by simp
theorem stZ (m:Me):stD 3 (.agg [I 0,I 0,I 0]) (.ref 0 0) (me m)=some (me m):=by simp
theorem JN (a b c:Int):dw [(0,1),(1,1),(2,1)] [I 0,I 0,I 0] [I a,I b,I c]=some (me (a,b,c)):=by simp [dw,HR]
theorem jt:dw [] [I 0,I 0,I 0] []=some (me m0):=by simp [dw,HR]
theorem sM0 (m:Me) (a:Int):stD 1 (me m) (.ref 0 0) (I a)=some (me (a,m.2)):=by simp
theorem sM1 (m:Me) (a:Int):stD 1 (me m) (.ref 0 1) (I a)=some (me (m.1,a,m.2.2)):=by simp
theorem sM2 (m:Me) (a:Int):stD 1 (me m) (.ref 0 2) (I a)=some (me (m.1,m.2.1,a)):=by simp
theorem OD (n:Int):gS [I n]=some (.ret [B (in6 n)] []):=by
 rw [Ob]
 simp -implicitDefEqProofs only [bz,am,ak,in6]
theorem cX (m:Me):dR [me m]=some (.ret [B (ck m)] []):=by
 rw [Ql]
 cases h1:in6 m.1<;>cases h2:in6 m.2.1<;>cases h3:in6 m.2.2<;>simp -implicitDefEqProofs [OD,ck,h1,h2,h3]
theorem zA (m:Me):jK [me m]=some (.ret [ai (meL m)] []):=by
 rw [Od]
 have:=Up (l:=[m.1,m.2.1,m.2.2])
 simp only [ahI,ahO] at this
 simp -implicitDefEqProofs only [oo,aht,cA,eT,ahy,ahz,aP,this,meL]
theorem cW (m:Me):gA [me m]=some (.ret [B (ck m)] []):=by
 rw [Qv]
 have ha:=GX (meL m) 0 1000000 (by simp [meL])
 have e:((meL m).all fun x=>decide (0≤x∧x≤1000000))=ck m:=by simp [meL,ck,in6,Bool.and_assoc]
 rw [e] at ha
 simp -implicitDefEqProofs only [oo,jb,aht,zA,am,ak,ha]
theorem vY {m:Me} (h:ck m=true):dh [me m]=some (.ret [I (gM m)] []):=by
 rw [Fi]
 obtain⟨⟨a1,a2⟩,⟨b1,b2⟩,c1,c2⟩:=dF.1 h
 have w1:ahv.wrap (m.1+m.2.1)=m.1+m.2.1:=ah (by omega) (by omega)
 have w2:ahv.wrap (m.1+m.2.1+m.2.2)=gM m:=ah (by omega) (by omega)
 simp -implicitDefEqProofs only [oo,aht,cA,eT,ahy,ahz,aP,br,w1,w2]
theorem mS {m:Me} (h:ck m=true):fN [me m]=some (.ret [I (gM m)] []):=by
 rw [Oc]
 obtain⟨⟨a1,a2⟩,⟨b1,b2⟩,c1,c2⟩:=dF.1 h
 have w1:ahv.wrap (m.1+m.2.1)=m.1+m.2.1:=ah (by omega) (by omega)
 have w2:ahv.wrap (m.1+m.2.1+m.2.2)=gM m:=ah (by omega) (by omega)
 simp -implicitDefEqProofs only [oo,aht,cA,eT,ahy,ahz,aP,br,w1,w2]
theorem acr {m:Me} (h:ck m=true):0≤gM m∧gM m≤3000000:=by
 obtain⟨⟨a1,a2⟩,⟨b1,b2⟩,c1,c2⟩:=dF.1 h
 unfold gM
 omega
def bdM (k:Int) (m:Me):Prop:=(0≤m.1∧m.1≤k)∧(0≤m.2.1∧m.2.1≤k)∧(0≤m.2.2∧m.2.2≤k)
def plM (a b:Me):Me:=(a.1+b.1,a.2.1+b.2.1,a.2.2+b.2.2)
theorem WI {a b:Me} (ha:bdM 1000000000000 a) (hb:bdM 1000000 b):kf [me a,me b]=some (.ret [me (plM a b)] []):=by
 rw [IF]
 obtain⟨⟨a1,a2⟩,⟨a3,a4⟩,a5,a6⟩:=ha
 obtain⟨⟨b1,b2⟩,⟨b3,b4⟩,b5,b6⟩:=hb
 have w1:ahv.wrap (a.1+b.1)=a.1+b.1:=ah (by omega) (by omega)
 have w2:ahv.wrap (a.2.1+b.2.1)=a.2.1+b.2.1:=ah (by omega) (by omega)
 have w3:ahv.wrap (a.2.2+b.2.2)=a.2.2+b.2.2:=ah (by omega) (by omega)
 simp -implicitDefEqProofs only [oo,aht,cA,eT,ahy,ahz,aP,br,w1,w2,w3,JN,stZ,jb,plM]
theorem PI {a b:Me} (ha:bdM 1000000000000 a) (hb:bdM 1000000 b):oS [me a,me b]=some (.ret [me (plM a b)] []):=by
 rw [Ru]
 obtain⟨⟨a1,a2⟩,⟨a3,a4⟩,a5,a6⟩:=ha
 obtain⟨⟨b1,b2⟩,⟨b3,b4⟩,b5,b6⟩:=hb
 have w1:ahv.wrap (a.1+b.1)=a.1+b.1:=ah (by omega) (by omega)
 have w2:ahv.wrap (a.2.1+b.2.1)=a.2.1+b.2.1:=ah (by omega) (by omega)
 have w3:ahv.wrap (a.2.2+b.2.2)=a.2.2+b.2.2:=ah (by omega) (by omega)
 simp -implicitDefEqProofs only [oo,aht,cA,eT,ahy,ahz,aP,br,w1,w2,w3,JN,stZ,jb,plM]
theorem afl {a b:Me} {k j:Int} (ha:bdM k a) (hb:bdM j b):bdM (k+j) (plM a b):=by
 obtain⟨⟨a1,a2⟩,⟨a3,a4⟩,a5,a6⟩:=ha
 obtain⟨⟨b1,b2⟩,⟨b3,b4⟩,b5,b6⟩:=hb
 unfold bdM plM
 dsimp only
 omega
theorem Mn {a:Me} {k j:Int} (ha:bdM k a) (h:k≤j):bdM j a:=by
 obtain⟨⟨a1,a2⟩,⟨a3,a4⟩,a5,a6⟩:=ha
 unfold bdM
 omega
def Lc (l:List Me):Me:=l.foldl plM m0
def joB (l:List Me):Bool:=l.all ck&&decide (l.length≤20)&&ck (Lc l)
def joR (l:List Me):Me:=if joB l=true then Lc l else m0
theorem vH {β:Type} (p:β→Bool):∀(l:List β) (i:Nat),mT (fun _ x=>p x) i l=l.all p
 | [],_=>rfl
 | x::l,i=>by simp only [mT,vH p l,List.all_cons]
theorem elM {l:List Me} {i:Nat} (h:i<l.length):ao 3 (mes l) (I (i:Int))=some [I l[i].1,I l[i].2.1,I l[i].2.2]:=by simp [h]
theorem ldM (a b c:Int):(ldD true 3 (.ptr [I a,I b,I c])).bind aL=some (me (a,b,c)):=rfl
theorem JA (l:List Me) (hl:l.length≤1000):kt [mes l]=some (.ret [me (joR l),B (joB l)] []):=by
 rw [Jv]
 simp -implicitDefEqProofs only [jt,stZ,aht,aK,ahx]
 refine aD _ (Sz l (fun i a=>[mes l,me m0,me a,mes l,I l.length,I i]) (fun i a=>bdM ((i:Int)*1000000) a) (fun _ x=>ck x) plM (.ret [me m0,B false] []) (fun a=>.ext 0 [mes l,me m0,me a]) m0 (fun i a hi ha=>⟨?_,fun hg=>?_⟩) (fun a _=>?_) rfl (fun _=>rfl) ⟨⟨aig _,by simp⟩,⟨aig _,by simp⟩,aig _,by simp⟩ rfl) ?_
 ·have hi':(i:Int)<(l.length:Int):=by omega
  have hw:ahv.wrap ((i:Int)+1)=((i+1:Nat):Int):=by rw [ah (by omega) (by omega)];omega
  have hel:=elM hi
  cases hg:ck l[i]
  ·simp -implicitDefEqProofs only [ak,aF,be,hi',decide_true,aht,aG,if_true,hel,ahw,ldM,stZ,jb,cX,hg,am,bd,ahC,jt,stM,ahu,if_false]
  ·have hp:=WI (a:=a) (b:=l[i]) (Mn ha (by omega)) (dF.1 hg)
   simp -implicitDefEqProofs only [ak,aF,be,hi',decide_true,aht,aG,if_true,hel,ahw,ldM,stZ,jb,cX,hg,am,bd,ahA,stM,ahu,if_false,hp,br,hw]
 ·have:=afl ha (dF.1 hg:bdM 1000000 l[i])
  exact Mn this (by omega)
 ·simp
 ·rw [vH]
  cases hg:l.all ck
  ·have hb:joB l=false:=by simp only [joB,hg,ahG]
   have hr:joR l=m0:=by simp only [joR,hb,ahu,if_false]
   rw [hb,hr]
   rfl
  ·by_cases h20:l.length≤20
   ·have hn:¬(20:Int)<(l.length:Int):=by omega
    have hb:joB l=ck (Lc l):=by simp only [joB,hg,h20,decide_true,ahW]
    have hr:joR l=if ck (Lc l)=true then Lc l else m0:=by simp only [joR,hb]
    rw [hb,hr]
    cases hs:ck (Lc l)
    ·simp -implicitDefEqProofs only [if_true,bE,ahE,dZ,ak,aF,aK,ahx,aht,eG,hn,decide_false,bG,ahu,if_false,jb,bQ,cX,show aiX plM m0 l=Lc l from rfl,hs,am,bv,bd,ahC,aN,aG,jt,stM]
    ·simp -implicitDefEqProofs only [if_true,bE,ahE,dZ,ak,aF,aK,ahx,aht,eG,hn,decide_false,bG,ahu,if_false,jb,bQ,cX,show aiX plM m0 l=Lc l from rfl,hs,am,bv,bd,ahA,aN,aG,stM]
   ·have hn:(20:Int)<(l.length:Int):=by omega
    have hb:joB l=false:=by simp only [joB,h20,decide_false,ah5,ahG]
    have hr:joR l=m0:=by simp only [joR,hb,ahu,if_false]
    rw [hb,hr]
    simp -implicitDefEqProofs only [if_true,bE,ahE,dZ,ak,aF,aK,ahx,aht,eG,hn,decide_true,bG,dN,vW,ahu,if_false,bQ,UI,bv,aN,aG,jt,stM,jb]
theorem Kl (m:Me):pr [me m]=some (.ret [me (if ck m=true then m else m0),B (ck m)] []):=by
 rw [Xk]
 cases h:ck m
 ·simp -implicitDefEqProofs only [oo,jb,aht,cW,h,am,ak,bd,ahC,aG,if_true,jt,stZ,ahu,if_false]
 ·simp -implicitDefEqProofs only [oo,jb,aht,cW,h,am,ak,bd,ahA,aG,if_true,stZ,ahu,if_false]
theorem tpM (m:Me) (ds:List D):aq (.tup (me m::ds)) 0=some (me m):=rfl
theorem agc (m:Me) (v:Value) (ds:List D):aq (.tup (me m :: .v v::ds)) 1=some (.v v):=rfl
theorem Ju (l:List Me) (hl:l.length≤1000):kD [mes l]=some (.ret [me (joR l),B (joB l)] []):=by
 rw [Kc]
 by_cases h20:l.length≤20
 case neg =>
  have hn:(20:Int)<(l.length:Int):=by omega
  have hb:joB l=false:=by simp only [joB,h20,decide_false,ah5,ahG]
  have hr:joR l=m0:=by simp only [joR,hb,ahu,if_false]
  rw [hb,hr]
  simp -implicitDefEqProofs only [aK,ahx,aht,eG,hn,decide_true,aG,if_true,jt,stZ,jb]
 have hn:¬(20:Int)<(l.length:Int):=by omega
 simp -implicitDefEqProofs only [aK,ahx,aht,eG,hn,decide_false,aG,ahu,if_false]
 refine aD _ (Sz l (fun i a=>[me m0,me a,mes l,I l.length,I i]) (fun i a=>bdM ((i:Int)*1000000) a) (fun _ x=>ck x) plM (.ret [me m0,B false] []) (fun a=>.ext 0 [me m0,me a]) m0 (fun i a hi ha=>⟨?_,fun hg=>?_⟩) (fun a _=>?_) rfl (fun _=>rfl) ⟨⟨aig _,by simp⟩,⟨aig _,by simp⟩,aig _,by simp⟩ rfl) ?_
 ·have hi':(i:Int)<(l.length:Int):=by omega
  have hw:ahv.wrap ((i:Int)+1)=((i+1:Nat):Int):=by rw [ah (by omega) (by omega)];omega
  have hel:=elM hi
  cases hg:ck l[i]
  ·simp -implicitDefEqProofs only [ak,aF,be,hi',decide_true,aht,aG,if_true,hel,ahw,ldM,stZ,jb,cW,hg,am,bd,ahC,jt,stM,ahu,if_false]
  ·have hp:=PI (a:=a) (b:=l[i]) (Mn ha (by omega)) (dF.1 hg)
   simp -implicitDefEqProofs only [ak,aF,be,hi',decide_true,aht,aG,if_true,hel,ahw,ldM,stZ,jb,cW,hg,am,bd,ahA,stM,ahu,if_false,hp,br,hw]
 ·have:=afl ha (dF.1 hg:bdM 1000000 l[i])
  exact Mn this (by omega)
 ·simp
 ·rw [vH]
  cases hg:l.all ck
  ·have hb:joB l=false:=by simp only [joB,hg,ahG]
   have hr:joR l=m0:=by simp only [joR,hb,ahu,if_false]
   rw [hb,hr]
   rfl
  ·have hb:joB l=ck (Lc l):=by simp only [joB,hg,h20,decide_true,ahW]
   have hr:joR l=if ck (Lc l)=true then Lc l else m0:=by simp only [joR,hb]
   rw [hb,hr]
   simp -implicitDefEqProofs only [if_true,bE,ahE,dZ,ak,aF,aht,jb,show aiX plM m0 l=Lc l from rfl,Kl,am,tpM,agc,stM]
end Go.Proofs.YtjafgdefcggjcaaGreatDoor

namespace Go.Proofs.YtjafgdefcggjcaaGreatDoor
open Go Go.V
theorem aap {x g a b:Int} (h1:0≤x) (h2:x≤a) (h3:0≤g) (h4:g≤b):0≤x*g∧x*g≤a*b :=
 ⟨Int.mul_nonneg h1 h3,Int.mul_le_mul h2 h4 h3 (Int.le_trans h1 h2)⟩
theorem TL {t g k:Int} (h1:0≤t) (h2:0<g) (h3:g≤k):0≤t*g / k∧t*g / k≤t∧t*g / k*k≤t*g:=by
 have hk:0<k:=by omega
 refine⟨aiB (Int.mul_nonneg h1 (by omega)) (by omega),?_,Int.ediv_mul_le _ (by omega)⟩
 exact Int.ediv_le_of_le_mul hk (Int.mul_le_mul_of_nonneg_left h3 h1)
theorem afM {t a g k:Int} (h1:0≤t) (h1':0≤a) (hs:t+a≤k) (h2:0<g) (h3:g≤k):t*g / k+a*g / k≤g:=by
 have hk:0<k:=by omega
 have e1:=(TL h1 h2 h3).2.2
 have e2:=(TL h1' h2 h3).2.2
 have e3:(t+a)*g≤k*g:=Int.mul_le_mul_of_nonneg_right hs (by omega)
 have e4:(t*g / k+a*g / k)*k≤g*k:=by
  rw [aih] at e3 ⊢
  rw [Int.mul_comm g k]
  omega
 exact Int.le_of_mul_le_mul_right e4 hk
def tT (m:Me) (g:Int):Int:=m.2.1*g / gM m
def tA (m:Me) (g:Int):Int:=m.2.2*g / gM m
def paM (m:Me) (g:Int):Me:=if 0<g then(g - tT m g - tA m g,tT m g,tA m g) else m0
def reM (m:Me) (g:Int):Me:=(m.1 - (paM m g).1,m.2.1 - (paM m g).2.1,m.2.2 - (paM m g).2.2)
def asB (m:Me) (g:Int):Bool:=ck m&&decide (0≤g∧g≤gM m)
def tkB (m:Me) (g:Int):Bool:=asB m g&&decide ((paM m g).1≤m.1)
def tkP (m:Me) (g:Int):Me:=if tkB m g=true then paM m g else m0
def tkR (m:Me) (g:Int):Me:=if tkB m g=true then reM m g else m0
theorem GV {m:Me} {g:Int} (h:ck m=true) (h0:0≤g) (h1:g≤gM m):0≤(paM m g).1∧(paM m g).1≤g∧(0≤(paM m g).2.1∧(paM m g).2.1≤m.2.1)∧(0≤(paM m g).2.2∧(paM m g).2.2≤m.2.2)∧(paM m g).1+(paM m g).2.1+(paM m g).2.2=g:=by
 obtain⟨⟨a1,a2⟩,⟨b1,b2⟩,c1,c2⟩:=dF.1 h
 unfold paM
 by_cases hg:0<g
 ·rw [if_pos hg]
  have e1:=TL b1 hg h1
  have e2:=TL c1 hg h1
  have e3:=afM b1 c1 (k:=gM m) (by unfold gM;omega) hg h1
  dsimp only [tT,tA]
  omega
 ·rw [if_neg hg]
  dsimp only
  omega
theorem aeX {m:Me} {g:Int} (h:ck m=true) (h0:0≤g) (h1:g≤gM m):ck (reM m g)=decide ((paM m g).1≤m.1):=by
 have hf:=GV h h0 h1
 have hm:=dF.1 h
 rw [Bool.eq_iff_iff,dF,decide_eq_true_eq]
 unfold reM
 dsimp only
 omega
theorem aar {m:Me} {g:Int} (h:ck m=true) (hr:¬(0≤g∧g≤gM m)):tkB m g=false:=by simp only [tkB,asB,h,hr,decide_false,ah5,ahG]
theorem ZF {m:Me} {g:Int} (h:ck m=true) (hr:0≤g∧g≤gM m):tkB m g=decide ((paM m g).1≤m.1):=by simp only [tkB,asB,h,hr,and_self,decide_true,ahW]
theorem Lk (m:Me) (g:Int):lB [me m,I g]=some (.ret [me (tkP m g),me (tkR m g),B (tkB m g)] []):=by
 rw [Ls]
 unfold tkP tkR
 cases h:ck m
 ·have hb:tkB m g=false:=by simp only [tkB,asB,h,ahG]
  rw [hb]
  simp -implicitDefEqProofs only [oo,jb,aht,cX,h,am,ak,bd,ahC,bG,if_true,bQ,aN,aG,jt,stZ,ahu,if_false]
 have hG:=vY h
 by_cases hr:0≤g∧g≤gM m
 case neg =>
  rw [aar h hr]
  simp -implicitDefEqProofs only [oo,jb,aht,cX,h,am,ak,bd,ahA,ahC,bG,bQ,hG,bv,bz,hr,decide_false,if_true,aN,aG,jt,stZ,ahu,if_false]
 rw [ZF h hr]
 have hf:=GV h hr.1 hr.2
 have hre:=aeX h hr.1 hr.2
 obtain⟨⟨a1,a2⟩,⟨b1,b2⟩,c1,c2⟩:=dF.1 h
 have hgb:=acr h
 have v1:ahv.wrap (m.1 - (paM m g).1)=(reM m g).1:=ah (by omega) (by omega)
 have v2:ahv.wrap (m.2.1 - (paM m g).2.1)=(reM m g).2.1:=ah (by omega) (by omega)
 have v3:ahv.wrap (m.2.2 - (paM m g).2.2)=(reM m g).2.2:=ah (by omega) (by omega)
 by_cases hg:0<g
 ·have hp:paM m g=(g - tT m g - tA m g,tT m g,tA m g):=by unfold paM;rw [if_pos hg]
  have m1:=aap b1 b2 (Int.le_of_lt hg) (show g≤3000000 by omega)
  have m2:=aap c1 c2 (Int.le_of_lt hg) (show g≤3000000 by omega)
  have w1:ahv.wrap (m.2.1*g)=m.2.1*g:=ah (by omega) (by omega)
  have w2:ahv.wrap (m.2.2*g)=m.2.2*g:=ah (by omega) (by omega)
  rw [hp] at hf v1 v2 v3 hre
  dsimp only at hf v1 v2 v3 hre
  have q1:ahv.wrap ((m.2.1*g).tdiv (gM m))=tT m g:=by
   rw [ahP m1.1]
   exact ah (by unfold tT at hf;omega) (by unfold tT at hf;omega)
  have q2:ahv.wrap ((m.2.2*g).tdiv (gM m))=tA m g:=by
   rw [ahP m2.1]
   exact ah (by unfold tA at hf;omega) (by unfold tA at hf;omega)
  have w3:ahv.wrap (g - tT m g)=g - tT m g:=ah (by omega) (by omega)
  have w4:ahv.wrap (g - tT m g - tA m g)=g - tT m g - tA m g:=ah (by omega) (by omega)
  have hn:¬gM m=0:=by omega
  have hpr:me (reM m g) = .agg [I (reM m g).1,I (reM m g).2.1,I (reM m g).2.2]:=rfl
  rw [hp]
  dsimp only
  by_cases hle:g - tT m g - tA m g≤m.1
  ·rw [decide_eq_true hle] at hre ⊢
   simp -implicitDefEqProofs only [oo,jb,aht,cX,h,am,ak,bd,ahA,bG,bQ,hG,bv,bz,hr,and_self,decide_true,aN,aG,jt,stZ,ahu,if_false,eG,hg,if_true,cA,eT,ahy,ahz,aP,dX,w1,w2,lC,hn,q1,q2,sM0,sM1,sM2,ca,w3,w4,v1,v2,v3,JN,hre]
  ·rw [decide_eq_false hle] at hre ⊢
   simp -implicitDefEqProofs only [oo,jb,aht,cX,h,am,ak,bd,ahA,ahC,bG,bQ,hG,bv,bz,hr,and_self,decide_true,aN,aG,jt,stZ,ahu,if_false,eG,hg,if_true,cA,eT,ahy,ahz,aP,dX,w1,w2,lC,hn,q1,q2,sM0,sM1,sM2,ca,w3,w4,v1,v2,v3,JN,hre]
 ·have hp:paM m g=m0:=by unfold paM;rw [if_neg hg]
  rw [hp] at v1 v2 v3 hre ⊢
  have hle:m0.1≤m.1:=a1
  rw [decide_eq_true hle] at hre ⊢
  dsimp only at v1 v2 v3
  simp -implicitDefEqProofs only [oo,jb,aht,cX,h,am,ak,bd,ahA,bG,bQ,hG,bv,bz,hr,and_self,decide_true,aN,aG,jt,stZ,ahu,if_false,eG,hg,decide_false,if_true,cA,eT,ahy,ahz,aP,ca,v1,v2,v3,JN,hre]
theorem LL (m:Me) (g:Int):lJ [me m,I g]=some (.ret [me (tkP m g),me (tkR m g),B (tkB m g)] []):=by
 rw [Lb]
 unfold tkP tkR
 cases h:ck m
 ·have hb:tkB m g=false:=by simp only [tkB,asB,h,ahG]
  rw [hb]
  simp -implicitDefEqProofs only [oo,jb,aht,cW,h,am,ak,bd,ahC,bG,if_true,bQ,aN,aG,jt,stZ,ahu,if_false]
 have hG:=mS h
 by_cases hr:0≤g∧g≤gM m
 case neg =>
  rw [aar h hr]
  simp -implicitDefEqProofs only [oo,jb,aht,cW,h,am,ak,bd,ahA,ahC,bG,bQ,hG,bv,bn,hr,decide_false,if_true,aN,aG,jt,stZ,ahu,if_false]
 rw [ZF h hr]
 have hf:=GV h hr.1 hr.2
 obtain⟨⟨a1,a2⟩,⟨b1,b2⟩,c1,c2⟩:=dF.1 h
 have hgb:=acr h
 have v1:ahv.wrap (m.1 - (paM m g).1)=(reM m g).1:=ah (by omega) (by omega)
 have v2:ahv.wrap (m.2.1 - (paM m g).2.1)=(reM m g).2.1:=ah (by omega) (by omega)
 have v3:ahv.wrap (m.2.2 - (paM m g).2.2)=(reM m g).2.2:=ah (by omega) (by omega)
 have s1:∀a:Int,stD 1 (.agg [I 0,I 0,I 0]) (.ref 0 1) (I a)=some (me (0,a,0)):=fun a=>sM1 m0 a
 have s0:∀a:Int,stD 1 (.agg [I 0,I 0,I 0]) (.ref 0 0) (I a)=some (me (a,0,0)):=fun a=>sM0 m0 a
 by_cases hg:0<gM m
 ·have hp:paM m g=(g - tT m g - tA m g,tT m g,tA m g):=by
   unfold paM
   by_cases g0:0<g
   ·rw [if_pos g0]
   ·rw [if_neg g0]
    have:g=0:=by omega
    subst this
    simp [tT,tA]
  have m1:=aap b1 b2 hr.1 (show g≤3000000 by omega)
  have m2:=aap c1 c2 hr.1 (show g≤3000000 by omega)
  have w1:ahv.wrap (m.2.1*g)=m.2.1*g:=ah (by omega) (by omega)
  have w2:ahv.wrap (m.2.2*g)=m.2.2*g:=ah (by omega) (by omega)
  rw [hp] at hf v1 v2 v3
  dsimp only at hf v1 v2 v3
  have q1:ahv.wrap ((m.2.1*g).tdiv (gM m))=tT m g:=by
   rw [ahP m1.1]
   exact ah (by unfold tT at hf;omega) (by unfold tT at hf;omega)
  have q2:ahv.wrap ((m.2.2*g).tdiv (gM m))=tA m g:=by
   rw [ahP m2.1]
   exact ah (by unfold tA at hf;omega) (by unfold tA at hf;omega)
  have w3:ahv.wrap (g - tT m g)=g - tT m g:=ah (by omega) (by omega)
  have w4:ahv.wrap (g - tT m g - tA m g)=g - tT m g - tA m g:=ah (by omega) (by omega)
  have hn:¬gM m=0:=by omega
  rw [hp]
  dsimp only
  by_cases hle:g - tT m g - tA m g≤m.1
  ·have hgt:¬m.1<g - tT m g - tA m g:=by omega
   rw [decide_eq_true hle]
   simp -implicitDefEqProofs only [oo,jb,aht,cW,h,am,ak,bd,ahA,bG,bQ,hG,bv,bn,hr,and_self,decide_true,decide_false,aN,aG,jt,stZ,ahu,if_false,eG,hg,hgt,if_true,cA,eT,ahy,ahz,aP,dX,w1,w2,lC,hn,q1,q2,s1,sM0,sM1,sM2,ca,w3,w4,v1,v2,v3,JN]
  ·have hgt:m.1<g - tT m g - tA m g:=by omega
   rw [decide_eq_false hle]
   simp -implicitDefEqProofs only [oo,jb,aht,cW,h,am,ak,bd,ahA,ahC,bG,bQ,hG,bv,bn,hr,and_self,decide_true,aN,aG,jt,stZ,ahu,if_false,eG,hg,hgt,if_true,cA,eT,ahy,ahz,aP,dX,w1,w2,lC,hn,q1,q2,s1,sM0,sM1,sM2,ca,w3,w4,v1,v2,v3,JN]
 ·have g0:g=0:=by omega
  subst g0
  have hp:paM m 0=m0:=by unfold paM;rw [if_neg (by decide)]
  rw [hp] at v1 v2 v3 ⊢
  have hle:m0.1≤m.1:=a1
  have hgt:¬m.1<0:=by omega
  rw [decide_eq_true hle]
  dsimp only at v1 v2 v3
  have w0:ahv.wrap (0 - 0)=0:=rfl
  simp -implicitDefEqProofs only [oo,jb,aht,cW,h,am,ak,bd,ahA,bG,bQ,hG,bv,bn,hr,and_self,decide_true,aN,aG,jt,stZ,ahu,if_false,eG,hg,hgt,decide_false,if_true,cA,eT,ahy,ahz,aP,ca,w0,s0,v1,v2,v3,JN]
def shB (m:Me):Bool:=ck m&&decide (0<gM m)
def shL (m:Me):List Int:=[1000*m.1 / gM m,1000*m.2.1 / gM m,1000*m.2.2 / gM m]
def shR (m:Me):List Int:=if shB m=true then shL m else []
theorem TW {x k:Int} (h0:0≤x) (h1:x≤1000000) (h2:0<k):ahv.wrap (1000*x)=1000*x∧ahv.wrap ((1000*x).tdiv k)=1000*x / k:=by
 refine⟨ah (by omega) (by omega),?_⟩
 have e1:0≤1000*x / k:=aiB (by omega) (by omega)
 have e2:1000*x / k≤1000*x:=Int.ediv_le_self _ (by omega)
 rw [ahP (by omega)]
 exact ah (by omega) (by omega)
theorem AB (m:Me):mW [me m]=some (.ret [B (shB m)] []):=by
 rw [NY]
 cases h:ck m
 ·simp -implicitDefEqProofs only [oo,jb,aht,cX,h,am,ak,dN,Ml,ahu,if_false,vW,aN,shB,ahG]
 ·simp -implicitDefEqProofs only [oo,jb,aht,cX,h,am,ak,dN,Ml,if_true,bv,vY h,eG,aN,shB,ahW]
theorem LO (m:Me):lH [me m]=some (.ret [ai (shR m),B (shB m)] []):=by
 rw [Lz]
 unfold shR
 cases hb:shB m
 ·simp -implicitDefEqProofs only [oo,jb,aht,AB,hb,am,ak,bd,ahC,aG,if_true,aZ,ahu,if_false,ahO]
  rfl
 ·have h:=hb
  simp only [shB,ahY,decide_eq_true_eq] at h
  obtain⟨⟨a1,a2⟩,⟨b1,b2⟩,c1,c2⟩:=dF.1 h.1
  obtain⟨w1,q1⟩:=TW a1 a2 h.2
  obtain⟨w2,q2⟩:=TW b1 b2 h.2
  obtain⟨w3,q3⟩:=TW c1 c2 h.2
  have hn:¬gM m=0:=by omega
  have hm:=Up (l:=shL m)
  simp only [shL,ahI,ahO] at hm
  simp -implicitDefEqProofs only [oo,jb,aht,AB,hb,am,ak,bd,ahA,aG,ahu,if_false,if_true,vY h.1,cA,eT,ahy,ahz,aP,dX,w1,w2,w3,lC,hn,q1,q2,q3,hm,shL]
theorem Ld (m:Me):lK [me m]=some (.ret [ai (shR m),B (shB m)] []):=by
 rw [LG]
 unfold shR
 cases h:ck m
 ·have hb:shB m=false:=by simp only [shB,h,ahG]
  rw [hb]
  simp -implicitDefEqProofs only [oo,jb,aht,cW,h,am,ak,bd,ahC,bG,bQ,aG,if_true,aN,ahu,if_false,ahO]
  rfl
 have hgb:=acr h
 by_cases h0:gM m=0
 ·have hb:shB m=false:=by simp only [shB,h,h0,ahW];decide
  rw [hb]
  simp -implicitDefEqProofs only [oo,jb,aht,cW,h,am,ak,bd,ahA,bG,bQ,mS h,bv,eR,h0,decide_true,aG,if_true,aN,ahu,if_false,ahO]
  rfl
 have hpos:0<gM m:=by omega
 have hb:shB m=true:=by simp only [shB,h,hpos,decide_true,ahW]
 obtain⟨⟨a1,a2⟩,⟨b1,b2⟩,c1,c2⟩:=dF.1 h
 have hin:∀n∈meL m,0≤n∧n≤1000000:=by
  intro n hn
  simp only [meL,ahZ,aix,or_false] at hn
  rcases hn with rfl | rfl | rfl<;>omega
 have hl:(meL m).length=3:=rfl
 have hsl:shL m=(meL m).map fun x=>1000*x / gM m:=rfl
 rw [hb]
 simp -implicitDefEqProofs only [oo,jb,aht,cW,h,am,ak,bd,ahA,bG,bQ,mS h,bv,eR,h0,decide_false,aG,if_true,aN,ahu,if_false,zA,aK,ahx]
 rw [hsl]
 generalize meL m=ns at hin hl
 refine aD (.ext 0 [ai (ns.map fun x=>1000*x / gM m)]) (aQ ns.length (fun i=>[me m,ai ((ns.take i).map fun x=>1000*x / gM m),ai ns,I ns.length,I i]) _ (fun i hi=>?_) ?_ rfl rfl) ?_
 ·have hi':(i:Int)<(ns.length:Int):=by omega
  have hw:ahv.wrap ((i:Int)+1)=((i+1:Nat):Int):=by rw [ah (by omega) (by omega)];omega
  have hx:=hin ns[i] (ahJ hi)
  obtain⟨w1,q1⟩:=TW hx.1 hx.2 hpos
  have e1:ao 1 (ai ns) (I (i:Int))=some [I ns[i]]:=by simp [hi]
  have hap:=yD (l:=(ns.take i).map fun x=>1000*x / gM m) (n:=1000*ns[i] / gM m) (by rw [ahx,ahK];omega)
  have htk:(ns.take (i+1)).map (fun x=>1000*x / gM m)=(ns.take i).map (fun x=>1000*x / gM m)++[1000*ns[i] / gM m]:=by rw [ahD hi,ahF];rfl
  rw [←htk] at hap
  simp -implicitDefEqProofs only [ak,aF,be,hi',decide_true,aht,aG,if_true,e1,ahw,bh,aP,bC,dX,w1,jb,mS h,am,lC,h0,if_false,q1,Fw,Io,hap,br,hw]
 ·simp
 ·simp -implicitDefEqProofs only [bE,ahE,dZ,if_true,ak,aF]
theorem Vj {m:Me} (h:shB m=true):998≤(shL m).sum∧(shL m).sum≤1000∧∀n∈shL m,0≤n∧n≤1000:=by
 simp only [shB,ahY,decide_eq_true_eq] at h
 obtain⟨hg,hk⟩:=h
 obtain⟨⟨a1,a2⟩,⟨b1,b2⟩,c1,c2⟩:=dF.1 hg
 have ee:m.1+m.2.1+m.2.2=gM m:=rfl
 generalize gM m=k at hk ee
 have f:∀x:Int,0≤x→0≤1000*x / k∧1000*x / k*k≤1000*x∧1000*x<1000*x / k*k+k:=fun x hx=>by
  have h1:0≤1000*x / k:=aiB (by omega) (by omega)
  have h2:=Int.ediv_mul_le (1000*x) (show k≠0 by omega)
  have h3:=Int.lt_ediv_add_one_mul_self (1000*x) hk
  rw [aih,Int.one_mul] at h3
  exact⟨h1,h2,h3⟩
 obtain⟨f1,f2,f3⟩:=f m.1 a1
 obtain⟨g1,g2,g3⟩:=f m.2.1 b1
 obtain⟨j1,j2,j3⟩:=f m.2.2 c1
 have es:(shL m).sum=1000*m.1 / gM m+1000*m.2.1 / gM m+1000*m.2.2 / gM m:=by
  simp only [shL,List.sum_cons,List.sum_nil]
  omega
 have eg:gM m=k:=ee
 have ek:∀n∈shL m,n=1000*m.1 / k∨n=1000*m.2.1 / k∨n=1000*m.2.2 / k:=by
  intro n hn
  simp only [shL,eg,ahZ,aix,or_false] at hn
  exact hn
 rw [es,eg]
 generalize 1000*m.1 / k=x at *
 generalize 1000*m.2.1 / k=y at *
 generalize 1000*m.2.2 / k=z at *
 have up:(x+y+z)*k≤1000*k:=by
  rw [aih,aih]
  omega
 have lo:997*k<(x+y+z)*k:=by
  rw [aih,aih]
  omega
 have u1:=Int.le_of_mul_le_mul_right up hk
 have u2:=Int.lt_of_mul_lt_mul_right lo (by omega)
 refine⟨by omega,by omega,fun n hn=>?_⟩
 rcases ek n hn with rfl | rfl | rfl<;>omega
end Go.Proofs.YtjafgdefcggjcaaGreatDoor

namespace Go.Proofs.YtjafgdefcggjcaaGreatDoor
open Go Go.V
theorem Rj (a b:Int):oN [I a,I b]=some (.ret [I (if b<a then a else b)] []):=by
 rw [QJ]
 by_cases h:b<a<;>simp [h]
def mtT (m:Me):ByteArray:=bX 45 (meL m)
theorem UA {m:Me} (h:ck m=true):∀n∈meL m,0≤n∧n<1000001:=by
 have:=dF.1 h
 intro n hn
 simp only [meL,ahZ,aix,or_false] at hn
 rcases hn with rfl | rfl | rfl<;>omega
theorem pV {m:Me} (h:ck m=true):ga [me m]=some (.ret [T (mtT m)] []):=by
 rw [LI]
 have hm:=Up (l:=meL m)
 simp only [meL,ahI,ahO] at hm
 have hj:=KN (meL m) 45 (fun n hn=>by have:=UA h n hn;omega) (by simp [meL])
 have e:(D.v (Value.string {data:={toList:=[45]}}))=T ⟨#[45]⟩:=rfl
 have hq:afr (meL m)=ai (meL m):=rfl
 simp only [meL] at hj hq
 simp -implicitDefEqProofs only [oo,aht,cA,eT,ahy,ahz,aP,hm,hq,e,hj,am,ak,mtT,meL]
theorem afI (m:Me):mtT m=aJ m.1++⟨#[45]⟩++aJ m.2.1++⟨#[45]⟩++aJ m.2.2:=by
 have e1:meL m=[m.1]++[m.2.1]++[m.2.2]:=rfl
 unfold mtT
 rw [e1,Pz _ _ _ (by simp),Pz _ _ _ (by simp),JX]
theorem DU {m:Me} (h:ck m=true):gx [me m]=some (.ret [T (mtT m)] []):=by
 rw [Re,afI]
 obtain⟨⟨a1,a2⟩,⟨b1,b2⟩,c1,c2⟩:=dF.1 h
 have n1:=cE (n:=m.1) (by omega) (by omega)
 have n2:=cE (n:=m.2.1) (by omega) (by omega)
 have n3:=cE (n:=m.2.2) (by omega) (by omega)
 have z1:=cq 9 (n:=m.1) (by omega) (by omega)
 have z2:=cq 9 (n:=m.2.1) (by omega) (by omega)
 have z3:=cq 9 (n:=m.2.2) (by omega) (by omega)
 have s1:(⟨#[45]⟩:ByteArray).size=1:=rfl
 have e:(D.v (Value.string {data:={toList:=[45]}}))=T ⟨#[45]⟩:=rfl
 have p1:=aaO (a:=aJ m.1) (b:=⟨#[45]⟩) (bl:=false) (eq:=[]) (by omega)
 have p2:=aaO (a:=aJ m.1++⟨#[45]⟩) (b:=aJ m.2.1) (bl:=false) (eq:=[]) (by rw [ahM];omega)
 have p3:=aaO (a:=aJ m.1++⟨#[45]⟩++aJ m.2.1) (b:=⟨#[45]⟩) (bl:=false) (eq:=[]) (by rw [ahM,ahM];omega)
 have p4:=aaO (a:=aJ m.1++⟨#[45]⟩++aJ m.2.1++⟨#[45]⟩) (b:=aJ m.2.2) (bl:=false) (eq:=[]) (by rw [ahM,ahM,ahM];omega)
 simp -implicitDefEqProofs only [oo,aht,cA,eT,ahy,ahz,aP,n1,n2,n3,am,ak,e,p1,p2,p3,p4]
def okM (ns:List Int):Bool :=
 match ns with
 | [a,b,c]=>ck (a,b,c)
 | _=>false
theorem afT (ns:List Int) (h:okM ns=true):∀n∈ns,0≤n∧n<10000000000:=by
 unfold okM at h
 split at h
 ·intro n hn
  have:=UA h n hn
  omega
 ·cases h
def meO (o:Option (List Int)):Me :=
 match o with
 | some [a,b,c]=>(a,b,c)
 | _=>m0
abbrev pM (s:ByteArray):Option (List Int):=Ay 45 3 okM s
theorem agz (s:ByteArray):II gf 45 3 okM s=pM s:=(acj aeZ (by decide) (by decide) afT (by decide) s).symm
theorem vo (s:ByteArray) (h:s.size≤1048576):gW [T s]=some (.ret [me (meO (pM s)),B (pM s).isSome] []):=by
 rw [Jb,km s h]
 unfold pM Ay
 generalize fc s=ns
 rcases ns with _ | ⟨a,_ | ⟨b,_ | ⟨c,_ | ⟨d,ns⟩⟩⟩⟩
 ·simp -implicitDefEqProofs [meO,jt]
 ·simp -implicitDefEqProofs [meO,jt]
 ·simp -implicitDefEqProofs [meO,jt]
 ·have hi:=cX (a,b,c)
  have hk:okM [a,b,c]=ck (a,b,c):=rfl
  have hq:(([a,b,c].map I).length:Int)=3:=rfl
  have l0:ao 1 (ja [a,b,c]) (I 0)=some [I a]:=rfl
  have l1:ao 1 (ja [a,b,c]) (I 1)=some [I b]:=rfl
  have l2:ao 1 (ja [a,b,c]) (I 2)=some [I c]:=rfl
  have hl:[a,b,c].length=3:=rfl
  cases h1:ck (a,b,c)
  ·rw [h1] at hi hk
   simp -implicitDefEqProofs only [am,ak,aK,hq,iz,decide_true,ahA,aht,aG,ahu,if_false,l0,l1,l2,ahw,bh,aP,bC,JN,stZ,jb,hi,bd,ahC,bG,if_true,bQ,aN,jt,hk,false_and,and_false,meO,air]
  ·rw [h1] at hi hk
   have ht:=pV h1
   have hmt:mtT (a,b,c)=bX 45 [a,b,c]:=rfl
   rw [hmt] at ht
   by_cases h2:bX 45 [a,b,c]=s
   ·subst h2
    have hne:bin .neq false [] (T (bX 45 [a,b,c])) (T (bX 45 [a,b,c]))=some (B false):=by simp
    simp -implicitDefEqProofs only [am,ak,aK,hq,iz,decide_true,ahA,aht,aG,ahu,if_false,l0,l1,l2,ahw,bh,aP,bC,JN,stZ,jb,hi,bd,bG,bQ,ht,bv,hne,aN,hk,hl,and_self,if_true,meO,aiQ]
   ·have hne:bin .neq false [] (T (bX 45 [a,b,c])) (T s)=some (B true):=by simp [h2]
    simp -implicitDefEqProofs only [am,ak,aK,hq,iz,decide_true,ahA,aht,aG,ahu,if_false,l0,l1,l2,ahw,bh,aP,bC,JN,stZ,jb,hi,bd,bG,bQ,ht,bv,hne,aN,if_true,jt,h2,and_false,meO,air]
 ·have hl:¬((ns.length:Int)+1+1+1+1=3):=by omega
  have hl2:¬(ns.length+1+1+1+1=3):=by omega
  simp -implicitDefEqProofs [meO,jt,hl,hl2]
theorem vt (s:ByteArray) (h:s.size≤1048576):ke [T s]=some (.ret [me (meO (pM s)),B (pM s).isSome] []):=by
 rw [JO,←agz]
 have hs:bU [T s,D.v (aiA aii 45)]=some (.ret [.arr 1 ((aB 45 s).map T)] []):=fK s 45 (by omega)
 have hz:=fp 45 s
 rw [hs]
 unfold II
 generalize aB 45 s=ws at hz
 by_cases h5:ws.length=3
 case neg =>
  have h5':¬(ws.length:Int)=3:=by omega
  simp -implicitDefEqProofs [meO,jt,h5,h5']
 have:∃a b c,ws=[a,b,c]:=by
  match ws,h5 with
  | [a,b,c],_=>exact⟨a,b,c,rfl⟩
 obtain⟨a,b,c,rfl⟩:=this
 have hq:(([a,b,c].map T).length:Int)=3:=rfl
 have l0:ao 1 (.arr 1 ([a,b,c].map T)) (I 0)=some [T a]:=rfl
 have l1:ao 1 (.arr 1 ([a,b,c].map T)) (I 1)=some [T b]:=rfl
 have l2:ao 1 (.arr 1 ([a,b,c].map T)) (I 2)=some [T c]:=rfl
 have r0:=uf a (by have:=hz a (by simp);omega)
 have r1:=uf b (by have:=hz b (by simp);omega)
 have r2:=uf c (by have:=hz c (by simp);omega)
 have hi:=Kl (gf a,gf b,gf c)
 have hk:okM ([a,b,c].map gf)=ck (gf a,gf b,gf c):=rfl
 have hm:[a,b,c].map gf=[gf a,gf b,gf c]:=rfl
 have hl:[a,b,c].length=3:=rfl
 rw [hk,hm]
 cases h1:ck (gf a,gf b,gf c)
 ·rw [h1] at hi
  simp -implicitDefEqProofs only [am,ak,aK,hq,iz,decide_true,ahA,aht,aG,ahu,if_false,l0,l1,l2,ahw,bh,aP,bC,r0,r1,r2,JN,hi,tpM,agc,stZ,jb,and_false,meO,air]
 ·rw [h1] at hi
  simp -implicitDefEqProofs only [am,ak,aK,hq,iz,decide_true,ahA,aht,aG,ahu,if_false,l0,l1,l2,ahw,bh,aP,bC,r0,r1,r2,JN,hi,tpM,agc,stZ,jb,hl,and_self,if_true,meO,aiQ]
end Go.Proofs.YtjafgdefcggjcaaGreatDoor

namespace Go.Proofs.YtjafgdefcggjcaaGreatDoor
open Go Go.V
end Go.Proofs.YtjafgdefcggjcaaGreatDoor

namespace Go.Proofs.YtjafgdefcggjcaaGreatDoor
open Go Go.V
abbrev Slp:=Int × Int
abbrev slp (x:Slp):D:=.agg [I x.1,I x.2]
abbrev sls (l:List Slp):D:=.arr 2 (l.map slp)
def okS (x:Slp):Bool:=decide (1≤x.1∧x.1≤200)&&decide (0≤x.2∧x.2≤20)
def pS (l:List Slp) (i:Nat) (x:Slp):Bool:=okS x && !(decide (0<i)&&decide (x.1≤(l.getD (i - 1) (0,0)).1))
def ct (l:List Slp):Bool:=mT (pS l) 0 l&&decide (l.length≤8)
theorem af5 (m:Slp):stD 2 (.agg [I 0,I 0]) (.ref 0 0) (slp m)=some (slp m):=by simp
theorem ad7 (a b:Int):dw [(0,1),(1,1)] [I 0,I 0] [I a,I b]=some (slp (a,b)):=by simp [dw,HR]
theorem elS {l:List Slp} {i:Nat} (h:i<l.length):ao 2 (sls l) (I (i:Int))=some [I l[i].1,I l[i].2]:=by simp [h]
theorem ldS (a b:Int):(ldD true 2 (.ptr [I a,I b])).bind aL=some (slp (a,b)):=rfl
theorem Mg (m:Slp):aH 2 [slp m]=some (sls [m]):=by simp [aH,lW]
theorem jj (l:List Slp):cK (sls l)=some (sls l):=pw (fun _=>rfl)
theorem je {l m:List Slp} (h:l.length+m.length≤1048576):bA 2 16 (sls l) (sls m)=some (sls (l++m)):=by
 rw [gn,if_pos (by simp;omega),←ahF]
theorem oL:(D.arr 2 [])=sls []:=rfl
theorem AO (l:List Slp) (i:Nat) (v:Int) (hi:i<l.length):stD 1 (sls l) (.ref i 1) (I v)=some (sls (l.set i (l[i].1,v))):=by
 have:=Ni (z:=2) (i:=i) (f:=1) (L:=l.map slp) (c:=[I l[i].1,I l[i].2]) (v:=.int .i64 v) (by simp [hi]) (by simp)
 rw [this]
 show some (D.arr 2 ((l.map slp).set i (slp (l[i].1,v))))=_
 rw [←List.map_set]
theorem uy (x:Slp):oE [slp x]=some (.ret [B (okS x)] []):=by
 rw [Rz]
 by_cases h1:1≤x.1∧x.1≤200<;>simp -implicitDefEqProofs [bn,okS,h1]
theorem eL (l:List Slp) (h:l.length≤1048576):gz [sls l]=some (.ret [B (ct l)] []):=by
 rw [Rs]
 simp only [aK,ahx,aht]
 refine aD _ (pA l (fun i=>[sls l,sls l,I l.length,I i]) (pS l) (.ret [B false] []) (.ext 0 [sls l]) (fun i hi=>?_) ?_ rfl rfl rfl) ?_
 ·have hw:ahv.wrap ((i:Int)+1)=(i:Int)+1:=ah (by omega) (by omega)
  cases h1:okS l[i]
  ·simp -implicitDefEqProofs [hi,uy,h1,pS]
  ·by_cases h0:0<i
   ·have hw2:ahv.wrap ((i:Int) - 1)=((i - 1:Nat):Int):=by rw [ah (by omega) (by omega)];omega
    have hy:i - 1<l.length:=by omega
    by_cases h2:l[i].1≤l[i - 1].1<;>simp -implicitDefEqProofs [hi,hy,uy,h1,pS,hw,hw2,h0,h2]
   ·simp -implicitDefEqProofs [hi,uy,h1,pS,hw,h0]
 ·simp
 ·by_cases hg:mT (pS l) 0 l=true<;>simp [hg,ct]
  omega
theorem dm (l:List Slp) (h:l.length≤1048576):eM [sls l]=some (.ret [B (ct l)] []):=by
 rw [Pk]
 simp only [aK,ahx,aht]
 refine aD _ (pA l (fun i=>[sls l,sls l,I l.length,I i]) (pS l) (.ret [B false] []) (.ext 0 [sls l]) (fun i hi=>?_) ?_ rfl rfl rfl) ?_
 ·have hw:ahv.wrap ((i:Int)+1)=(i:Int)+1:=ah (by omega) (by omega)
  by_cases h1:1≤l[i].1∧l[i].1≤200
  case neg=>simp -implicitDefEqProofs [hi,bz,h1,pS,okS]
  by_cases h3:0≤l[i].2∧l[i].2≤20
  case neg=>simp -implicitDefEqProofs [hi,bz,h1,h3,pS,okS]
  by_cases h0:0<i
  ·have hw2:ahv.wrap ((i:Int) - 1)=((i - 1:Nat):Int):=by rw [ah (by omega) (by omega)];omega
   have hy:i - 1<l.length:=by omega
   by_cases h2:l[i].1≤l[i - 1].1<;>simp -implicitDefEqProofs [hi,hy,bz,h1,h3,pS,okS,hw,hw2,h0,h2]
  ·simp -implicitDefEqProofs [hi,bz,h1,h3,pS,okS,hw,h0]
 ·simp
 ·by_cases hg:mT (pS l) 0 l=true<;>simp [hg,ct]
  omega
def bm (len:Int):List Slp→Nat
 | []=>0
 | x::l=>if x.1<len then bm len l+1 else 0
theorem GD (len:Int):∀l:List Slp,bm len l≤l.length
 | []=>ah3 _
 | x::l=>by
  have:=GD len l
  simp only [bm]
  split<;>simp<;>omega
theorem Mv (len:Int):∀(l:List Slp) (i:Nat) (hi:i<l.length),i<bm len l→l[i].1<len
 | x::l,0,_,h=>by
  simp only [bm] at h
  split at h
  ·assumption
  ·omega
 | x::l,i+1,hi,h=>by
  simp only [bm] at h
  split at h
  ·exact Mv len l i (by simpa using hi) (by omega)
  ·omega
theorem OV (len:Int):∀(l:List Slp) (h:bm len l<l.length),¬l[bm len l].1<len
 | x::l,h=>by
  by_cases hx:x.1<len
  ·have e:bm len (x::l)=bm len l+1:=by simp only [bm,hx,if_true]
   have h':bm len l<l.length:=by rw [e] at h;simpa using h
   have:=OV len l h'
   simp only [e,List.getElem_cons_succ]
   exact this
  ·have e:bm len (x::l)=0:=by simp only [bm,hx,if_false]
   simp only [e,List.getElem_cons_zero]
   exact hx
def sC (l:List Slp) (len cnt:Int):List Slp :=
 if (l.getD (bm len l) (0,0)).1=len∧bm len l<l.length then l.set (bm len l) (len,ahv.wrap ((l.getD (bm len l) (0,0)).2+cnt))
 else l.take (bm len l)++[(len,cnt)]++l.drop (bm len l)
theorem Hk (l:List Slp) (len cnt:Int):(sC l len cnt).length≤l.length+1:=by
 have:=GD len l
 unfold sC
 split
 ·simp
 ·simp;omega
theorem Ih (l:List Slp) (len cnt:Int) (h:l.length≤1000000):mD [sls l,I len,I cnt]=some (.ret [sls (sC l len cnt)] []):=by
 rw [UQ]
 have hle:=GD len l
 refine aD (.ext 0 [sls l,I len,I cnt,I (bm len l)]) (aQ (bm len l) (fun i=>[sls l,I len,I cnt,I i]) _ (fun i hi=>?_) ?_ rfl rfl) ?_
 ·have hi2:i<l.length:=by omega
  have hi':(i:Int)<(l.length:Int):=by omega
  have hw:ahv.wrap ((i:Int)+1)=((i+1:Nat):Int):=by rw [ah (by omega) (by omega)];omega
  have hlt:=Mv len l i hi2 hi
  simp -implicitDefEqProofs only [ak,aF,aK,ahx,aht,be,hi',decide_true,dN,if_true,elS hi2,ahw,dA,ahy,bh,aP,bC,hlt,aN,aG,br,hw]
 ·by_cases hk:bm len l<l.length
  ·have hi':((bm len l:Nat):Int)<(l.length:Int):=by omega
   have hlt:=OV len l hk
   simp -implicitDefEqProofs only [ak,aF,aK,ahx,aht,be,hi',decide_true,dN,if_true,elS hk,ahw,dA,ahy,bh,aP,bC,hlt,decide_false,aN,aG,ahu,if_false]
  ·have hi':¬((bm len l:Nat):Int)<(l.length:Int):=by omega
   simp -implicitDefEqProofs only [ak,aF,aK,ahx,aht,be,hi',decide_false,dN,ahu,if_false,aN,aG]
 ·have ha0:=je (l:=[]) (m:=l) (by simp;omega)
  rw [ahU] at ha0
  have hins:¬((l.getD (bm len l) (0,0)).1=len∧bm len l<l.length)→((dW false 2 (sls l) (I ((0:Nat):Int)) (I (bm len l))).bind fun z=>(cK z).bind fun b=>(bA 2 16 (sls []) b).bind fun y=>(dw [(0,1),(1,1)] [I 0,I 0] [I len,I cnt]).bind fun z=>(aH 2 [z]).bind fun a=>(cK a).bind fun b=>(bA 2 16 y b).bind fun y =>
    (cJ false 2 (sls l) (I (bm len l))).bind fun z=>(cK z).bind fun b=>(bA 2 16 y b).bind fun y=>some (Out.ret [y] []))=some (.ret [sls (sC l len cnt)] []):=by
   intro hn
   have e1:dW false 2 (sls l) (I ((0:Nat):Int)) (I (bm len l))=some (sls (l.take (bm len l))):=by
    rw [lQ (by omega) (by simpa using hle),ahy,←List.map_take]
   have e2:cJ false 2 (sls l) (I (bm len l))=some (sls (l.drop (bm len l))):=by
    rw [mn (by simpa using hle),←List.map_drop]
   have a1:=je (l:=[]) (m:=l.take (bm len l)) (by simp;omega)
   rw [ahU] at a1
   have a2:=je (l:=l.take (bm len l)) (m:=[(len,cnt)]) (by simp;omega)
   have a3:=je (l:=l.take (bm len l)++[(len,cnt)]) (m:=l.drop (bm len l)) (by simp;omega)
   simp -implicitDefEqProofs only [e1,e2,aht,jj,a1,a2,a3,ad7,Mg,sC,hn,if_false]
  by_cases hk:bm len l<l.length
  ·have hi':((bm len l:Nat):Int)<(l.length:Int):=by omega
   have eg:l.getD (bm len l) (0,0)=l[bm len l]:=by simp [ahQ,hk]
   by_cases heq:l[bm len l].1=len
   ·have hr:eH 2 (sls l) (I (bm len l))=some (.ref (bm len l) 0):=by rw [mU,if_pos (by simpa using hk)]
    have hat:(atD (sls l) (.ref (bm len l) 1)).bind (an false 1)=some (I l[bm len l].2):=by simp [hk]
    have hs:=AO l (bm len l) (ahv.wrap (l[bm len l].2+cnt)) hk
    have hp:sC l len cnt=l.set (bm len l) (l[bm len l].1,ahv.wrap (l[bm len l].2+cnt)):=by
     unfold sC
     rw [eg,if_pos ⟨heq,hk⟩,heq]
    rw [hp]
    simp -implicitDefEqProofs only [bE,ahE,dZ,if_true,ak,aF,aZ,oL,jj,ha0,aK,ahx,aht,be,hi',decide_true,dN,elS hk,ahw,dA,ahy,bh,aP,bC,eR,heq,aN,aG,ci,cg,hr,od,aiy,hat,br,hs]
   ·have:=hins (by rw [eg];exact fun g=>heq g.1)
    simp -implicitDefEqProofs only [bE,ahE,dZ,if_true,ak,aF,aZ,oL,jj,ha0,aK,ahx,aht,be,hi',decide_true,dN,elS hk,ahw,dA,ahy,bh,aP,bC,eR,heq,decide_false,aN,aG,ahu,if_false]
    exact this
  ·have hi':¬((bm len l:Nat):Int)<(l.length:Int):=by omega
   have:=hins (fun g=>hk g.2)
   simp -implicitDefEqProofs only [bE,ahE,dZ,if_true,ak,aF,aZ,oL,jj,ha0,aK,ahx,aht,be,hi',decide_false,dN,aN,aG,ahu,if_false]
   exact this
theorem tM (l:List Slp) (len cnt:Int) (h:l.length≤1000000):gj [sls l,I len,I cnt]=some (.ret [sls (sC l len cnt)] []):=by
 rw [HX]
 have hle:=GD len l
 refine aD (.ext 0 [sls l,I len,I cnt,I (bm len l)]) (aQ (bm len l) (fun i=>[sls l,I len,I cnt,I i]) _ (fun i hi=>?_) ?_ rfl rfl) ?_
 ·have hi2:i<l.length:=by omega
  have hi':(i:Int)<(l.length:Int):=by omega
  have hw:ahv.wrap ((i:Int)+1)=((i+1:Nat):Int):=by rw [ah (by omega) (by omega)];omega
  have hlt:=Mv len l i hi2 hi
  simp -implicitDefEqProofs only [ak,aF,aK,ahx,aht,be,hi',decide_true,dN,if_true,elS hi2,ahw,dA,ahy,bh,aP,bC,hlt,aN,aG,br,hw]
 ·by_cases hk:bm len l<l.length
  ·have hi':((bm len l:Nat):Int)<(l.length:Int):=by omega
   have hlt:=OV len l hk
   simp -implicitDefEqProofs only [ak,aF,aK,ahx,aht,be,hi',decide_true,dN,if_true,elS hk,ahw,dA,ahy,bh,aP,bC,hlt,decide_false,aN,aG,ahu,if_false]
  ·have hi':¬((bm len l:Nat):Int)<(l.length:Int):=by omega
   simp -implicitDefEqProofs only [ak,aF,aK,ahx,aht,be,hi',decide_false,dN,ahu,if_false,aN,aG]
 ·have ha0:=je (l:=[]) (m:=l) (by simp;omega)
  rw [ahU] at ha0
  have hins:¬((l.getD (bm len l) (0,0)).1=len∧bm len l<l.length)→((dW false 2 (sls l) (I ((0:Nat):Int)) (I (bm len l))).bind fun z=>(cK z).bind fun b=>(bA 2 16 (sls []) b).bind fun y=>(dw [(0,1),(1,1)] [I 0,I 0] [I len,I cnt]).bind fun z=>(aH 2 [z]).bind fun a=>(cK a).bind fun b=>(bA 2 16 y b).bind fun y =>
    (cJ false 2 (sls l) (I (bm len l))).bind fun z=>(cK z).bind fun b=>(bA 2 16 y b).bind fun y=>some (Out.ret [y] []))=some (.ret [sls (sC l len cnt)] []):=by
   intro hn
   have e1:dW false 2 (sls l) (I ((0:Nat):Int)) (I (bm len l))=some (sls (l.take (bm len l))):=by
    rw [lQ (by omega) (by simpa using hle),ahy,←List.map_take]
   have e2:cJ false 2 (sls l) (I (bm len l))=some (sls (l.drop (bm len l))):=by
    rw [mn (by simpa using hle),←List.map_drop]
   have a1:=je (l:=[]) (m:=l.take (bm len l)) (by simp;omega)
   rw [ahU] at a1
   have a2:=je (l:=l.take (bm len l)) (m:=[(len,cnt)]) (by simp;omega)
   have a3:=je (l:=l.take (bm len l)++[(len,cnt)]) (m:=l.drop (bm len l)) (by simp;omega)
   simp -implicitDefEqProofs only [e1,e2,aht,jj,a1,a2,a3,ad7,Mg,sC,hn,if_false]
  by_cases hk:bm len l<l.length
  ·have hi':((bm len l:Nat):Int)<(l.length:Int):=by omega
   have eg:l.getD (bm len l) (0,0)=l[bm len l]:=by simp [ahQ,hk]
   by_cases heq:l[bm len l].1=len
   ·have hr:eH 2 (sls l) (I (bm len l))=some (.ref (bm len l) 0):=by rw [mU,if_pos (by simpa using hk)]
    have hat:(atD (sls l) (.ref (bm len l) 1)).bind (an false 1)=some (I l[bm len l].2):=by simp [hk]
    have hs:=AO l (bm len l) (ahv.wrap (l[bm len l].2+cnt)) hk
    have hp:sC l len cnt=l.set (bm len l) (l[bm len l].1,ahv.wrap (l[bm len l].2+cnt)):=by
     unfold sC
     rw [eg,if_pos ⟨heq,hk⟩,heq]
    rw [hp]
    simp -implicitDefEqProofs only [bE,ahE,dZ,if_true,ak,aF,aZ,oL,jj,ha0,aK,ahx,aht,be,hi',decide_true,dN,elS hk,ahw,dA,ahy,bh,aP,bC,eR,heq,aN,aG,ci,cg,hr,od,aiy,hat,br,hs]
   ·have:=hins (by rw [eg];exact fun g=>heq g.1)
    simp -implicitDefEqProofs only [bE,ahE,dZ,if_true,ak,aF,aZ,oL,jj,ha0,aK,ahx,aht,be,hi',decide_true,dN,elS hk,ahw,dA,ahy,bh,aP,bC,eR,heq,decide_false,aN,aG,ahu,if_false]
    exact this
  ·have hi':¬((bm len l:Nat):Int)<(l.length:Int):=by omega
   have:=hins (fun g=>hk g.2)
   simp -implicitDefEqProofs only [bE,ahE,dZ,if_true,ak,aF,aZ,oL,jj,ha0,aK,ahx,aht,be,hi',decide_false,dN,aN,aG,ahu,if_false]
   exact this
end Go.Proofs.YtjafgdefcggjcaaGreatDoor

namespace Go.Proofs.YtjafgdefcggjcaaGreatDoor
open Go Go.V
theorem Pp {β:Type} {p:Nat→β→Bool}:∀(l:List β) (s:Nat),mT p s l=true→∀(i:Nat) (hi:i<l.length),p (s+i) l[i]=true
 | [],_,_,_,hi=>absurd hi (Nat.not_lt_zero _)
 | x::l,s,h,0,_=>by
  simp only [mT,ahY] at h
  exact h.1
 | x::l,s,h,i+1,hi=>by
  simp only [mT,ahY] at h
  have:=Pp l (s+1) h.2 i (by simpa using hi)
  rwa [show s+(i+1)=s+1+i by omega]
theorem eZ {l:List Slp} (h:ct l=true):∀x∈l,(1≤x.1∧x.1≤200)∧0≤x.2∧x.2≤20:=by
 intro x hx
 obtain⟨i,hi,rfl⟩:=List.getElem_of_mem hx
 simp only [ct,ahY] at h
 have:=Pp l 0 h.1 i hi
 simp only [pS,okS,ahY,decide_eq_true_eq] at this
 exact this.1
theorem ef {l:List Slp} (h:ct l=true):l.length≤8:=by
 simp only [ct,ahY,decide_eq_true_eq] at h
 exact h.2
def ckS (l:List Slp):List Slp:=if ct l=true then l else []
theorem Bq (l:List Slp) (h:l.length≤1048576):gI [sls l]=some (.ret [sls (ckS l),B (ct l)] []):=by
 rw [Bp]
 unfold ckS
 cases hg:ct l
 ·simp -implicitDefEqProofs only [dm l h,hg,am,ak,bd,ahC,aht,aG,if_true,aZ,ahu,if_false]
  rfl
 ·simp -implicitDefEqProofs only [dm l h,hg,am,ak,bd,ahA,aht,aG,ahu,if_false,if_true]
theorem KE (l:List Slp) (h:l.length≤1048576):pK [sls l]=some (.ret [sls (ckS l),B (ct l)] []):=by
 rw [Xw]
 unfold ckS
 cases hg:ct l
 ·simp -implicitDefEqProofs only [eL l h,hg,am,ak,bd,ahC,aht,aG,if_true,ahu,if_false]
  rfl
 ·simp -implicitDefEqProofs only [eL l h,hg,am,ak,bd,ahA,aht,aG,ahu,if_false,if_true]
theorem afV (l:List Slp) (ds:List D):aq (.tup (sls l::ds)) 0=some (sls l):=rfl
theorem agp (l:List Slp) (v:Value) (ds:List D):aq (.tup (sls l :: .v v::ds)) 1=some (.v v):=rfl
def cuK (l:List Slp) (u:Nat) (len:Int):List Slp :=
 sC (sC (l.set u ((l.getD u (0,0)).1,(l.getD u (0,0)).2 - 1)) len 1) ((l.getD u (0,0)).1 - len) 1
def cuA (l:List Slp) (i len:Int):Bool:=ct l&&decide (0≤i∧i≤(l.length:Int) - 1) && !decide ((l.getD i.toNat (0,0)).2=0)&&decide (1≤len∧len≤(l.getD i.toNat (0,0)).1 - 1)
def cuB (l:List Slp) (i len:Int):Bool:=cuA l i len&&ct (cuK l i.toNat len)
def cuR (l:List Slp) (i len:Int):List Slp:=if cuB l i len=true then cuK l i.toNat len else []
theorem Ot (l:List Slp) (i len:Int) (h:l.length≤1000):nx [sls l,I i,I len]=some (.ret [sls (cuR l i len),B (cuB l i len)] []):=by
 rw [Nx]
 unfold cuR
 cases h1:ct l
 ·have hj:cuB l i len=false:=by simp only [cuB,cuA,h1,ahG]
  rw [hj]
  simp -implicitDefEqProofs only [dm l (by omega),h1,am,ak,bd,ahC,aht,bG,if_true,bQ,aN,aG,aZ,ahu,if_false]
  rfl
 have wl:ahv.wrap ((l.length:Int) - 1)=(l.length:Int) - 1:=ah (by omega) (by omega)
 by_cases hr:0≤i∧i≤(l.length:Int) - 1
 case neg =>
  have hj:cuB l i len=false:=by simp only [cuB,cuA,hr,decide_false,ah5,ahG]
  rw [hj]
  simp -implicitDefEqProofs only [dm l (by omega),h1,am,ak,bd,ahA,ahC,aht,bG,bQ,aK,ahx,ca,wl,bz,hr,decide_false,bv,if_true,aN,aG,aZ,ahu,if_false]
  rfl
 obtain⟨u,rfl⟩:=ahH hr.1
 have hu:u<l.length:=by omega
 have eg:l.getD u (0,0)=l[u]:=by simp [ahQ,hu]
 have hok:=eZ h1 l[u] (ahJ hu)
 have hcA:cuA l (u:Int) len=(!decide (l[u].2=0)&&decide (1≤len∧len≤l[u].1 - 1)):=by simp only [cuA,h1,hr,and_self,decide_true,ahW,ahT,eg]
 by_cases h0:l[u].2=0
 ·have hj:cuB l (u:Int) len=false:=by simp only [cuB,hcA,h0,decide_true,ahA,ahG]
  rw [hj]
  simp -implicitDefEqProofs only [dm l (by omega),h1,am,ak,bd,ahA,ahC,aht,bG,bQ,aK,ahx,ca,wl,bz,hr,and_self,decide_true,bv,if_true,aN,aG,aZ,ahu,if_false,elS hu,ahw,dA,ahz,ahy,bh,aP,bC,eR,h0]
  rfl
 have wu:ahv.wrap (l[u].1 - 1)=l[u].1 - 1:=ah (by omega) (by omega)
 by_cases h2:1≤len∧len≤l[u].1 - 1
 case neg =>
  have hj:cuB l (u:Int) len=false:=by simp only [cuB,hcA,h2,decide_false,ah5,ahG]
  rw [hj]
  simp -implicitDefEqProofs only [dm l (by omega),h1,am,ak,bd,ahA,ahC,aht,bG,bQ,aK,ahx,ca,wl,bz,hr,and_self,decide_true,bv,if_true,aN,aG,aZ,ahu,if_false,elS hu,ahw,dA,ahz,ahy,bh,aP,bC,eR,h0,wu,h2,decide_false]
  rfl
 have hj:cuB l (u:Int) len=ct (cuK l u len):=by simp only [cuB,hcA,h0,h2,and_self,decide_true,decide_false,ahC,ahW,ahT]
 have ha0:=je (l:=[]) (m:=l) (by simp;omega)
 rw [ahU] at ha0
 have hri:eH 2 (sls l) (I (u:Int))=some (.ref u 0):=by rw [mU,if_pos (by simpa using hu)]
 have hat:(atD (sls l) (.ref u 1)).bind (an false 1)=some (I l[u].2):=by simp [hu]
 have w3:ahv.wrap (l[u].2 - 1)=l[u].2 - 1:=ah (by omega) (by omega)
 have w4:ahv.wrap (l[u].1 - len)=l[u].1 - len:=ah (by omega) (by omega)
 have hs:=AO l u (l[u].2 - 1) hu
 have z1:=Hk (l.set u (l[u].1,l[u].2 - 1)) len 1
 rw [ah6] at z1
 have z2:=Hk (sC (l.set u (l[u].1,l[u].2 - 1)) len 1) (l[u].1 - len) 1
 have p1:=tM (l.set u (l[u].1,l[u].2 - 1)) len 1 (by rw [ah6];omega)
 have p2:=tM (sC (l.set u (l[u].1,l[u].2 - 1)) len 1) (l[u].1 - len) 1 (by omega)
 have hk:cuK l u len=sC (sC (l.set u (l[u].1,l[u].2 - 1)) len 1) (l[u].1 - len) 1:=by unfold cuK;rw [eg]
 rw [←hk] at p2 z2
 have p3:=Bq (cuK l u len) (by omega)
 rw [hj,ahT]
 simp -implicitDefEqProofs only [dm l (by omega),h1,am,ak,bd,ahA,aht,bG,bQ,aK,ahx,ca,wl,bz,hr,and_self,decide_true,bv,aN,aG,aZ,oL,jj,ha0,ahu,if_false,elS hu,ahw,dA,ahz,ahy,bh,aP,bC,eR,h0,decide_false,wu,h2,ci,cg,hri,od,aiy,hat,w3,hs,p1,w4,p2,p3,afV,agp,ckS]
theorem OU (l:List Slp) (i len:Int) (h:l.length≤1000):mR [sls l,I i,I len]=some (.ret [sls (cuR l i len),B (cuB l i len)] []):=by
 rw [MU]
 unfold cuR
 cases h1:ct l
 ·have hj:cuB l i len=false:=by simp only [cuB,cuA,h1,ahG]
  rw [hj]
  simp -implicitDefEqProofs only [eL l (by omega),h1,am,ak,bd,ahC,aht,bG,if_true,bQ,aN,aG,aZ,ahu,if_false]
  rfl
 have wl:ahv.wrap ((l.length:Int) - 1)=(l.length:Int) - 1:=ah (by omega) (by omega)
 by_cases hr:0≤i∧i≤(l.length:Int) - 1
 case neg =>
  have hj:cuB l i len=false:=by simp only [cuB,cuA,hr,decide_false,ah5,ahG]
  rw [hj]
  simp -implicitDefEqProofs only [eL l (by omega),h1,am,ak,bd,ahA,ahC,aht,bG,bQ,aK,ahx,ca,wl,bn,hr,decide_false,bv,if_true,aN,aG,aZ,ahu,if_false]
  rfl
 obtain⟨u,rfl⟩:=ahH hr.1
 have hu:u<l.length:=by omega
 have eg:l.getD u (0,0)=l[u]:=by simp [ahQ,hu]
 have hok:=eZ h1 l[u] (ahJ hu)
 have hcA:cuA l (u:Int) len=(!decide (l[u].2=0)&&decide (1≤len∧len≤l[u].1 - 1)):=by simp only [cuA,h1,hr,and_self,decide_true,ahW,ahT,eg]
 by_cases h0:l[u].2=0
 ·have hj:cuB l (u:Int) len=false:=by simp only [cuB,hcA,h0,decide_true,ahA,ahG]
  rw [hj]
  simp -implicitDefEqProofs only [eL l (by omega),h1,am,ak,bd,ahA,ahC,aht,bG,bQ,aK,ahx,ca,wl,bn,hr,and_self,decide_true,bv,if_true,aN,aG,aZ,ahu,if_false,elS hu,ahw,dA,ahz,ahy,bh,aP,bC,eR,h0]
  rfl
 have wu:ahv.wrap (l[u].1 - 1)=l[u].1 - 1:=ah (by omega) (by omega)
 by_cases h2:1≤len∧len≤l[u].1 - 1
 case neg =>
  have hj:cuB l (u:Int) len=false:=by simp only [cuB,hcA,h2,decide_false,ah5,ahG]
  rw [hj]
  simp -implicitDefEqProofs only [eL l (by omega),h1,am,ak,bd,ahA,ahC,aht,bG,bQ,aK,ahx,ca,wl,bn,hr,and_self,decide_true,bv,if_true,aN,aG,aZ,ahu,if_false,elS hu,ahw,dA,ahz,ahy,bh,aP,bC,eR,h0,wu,h2,decide_false]
  rfl
 have hj:cuB l (u:Int) len=ct (cuK l u len):=by simp only [cuB,hcA,h0,h2,and_self,decide_true,decide_false,ahC,ahW,ahT]
 have ha0:=je (l:=[]) (m:=l) (by simp;omega)
 rw [ahU] at ha0
 have hri:eH 2 (sls l) (I (u:Int))=some (.ref u 0):=by rw [mU,if_pos (by simpa using hu)]
 have hat:(atD (sls l) (.ref u 1)).bind (an false 1)=some (I l[u].2):=by simp [hu]
 have w3:ahv.wrap (l[u].2 - 1)=l[u].2 - 1:=ah (by omega) (by omega)
 have w4:ahv.wrap (l[u].1 - len)=l[u].1 - len:=ah (by omega) (by omega)
 have hs:=AO l u (l[u].2 - 1) hu
 have z1:=Hk (l.set u (l[u].1,l[u].2 - 1)) len 1
 rw [ah6] at z1
 have z2:=Hk (sC (l.set u (l[u].1,l[u].2 - 1)) len 1) (l[u].1 - len) 1
 have p1:=Ih (l.set u (l[u].1,l[u].2 - 1)) len 1 (by rw [ah6];omega)
 have p2:=Ih (sC (l.set u (l[u].1,l[u].2 - 1)) len 1) (l[u].1 - len) 1 (by omega)
 have hk:cuK l u len=sC (sC (l.set u (l[u].1,l[u].2 - 1)) len 1) (l[u].1 - len) 1:=by unfold cuK;rw [eg]
 rw [←hk] at p2 z2
 have p3:=KE (cuK l u len) (by omega)
 rw [hj,ahT]
 simp -implicitDefEqProofs only [eL l (by omega),h1,am,ak,bd,ahA,aht,bG,bQ,aK,ahx,ca,wl,bn,hr,and_self,decide_true,bv,aN,aG,aZ,oL,jj,ha0,ahu,if_false,elS hu,ahw,dA,ahz,ahy,bh,aP,bC,eR,h0,decide_false,wu,h2,ci,cg,hri,od,aiy,hat,w3,hs,p1,w4,p2,p3,afV,agp,ckS]
end Go.Proofs.YtjafgdefcggjcaaGreatDoor

namespace Go.Proofs.YtjafgdefcggjcaaGreatDoor
open Go Go.V
def yg (a b:Option Nat):Option Nat :=
 match a,b with
 | none,b=>b
 | some a,none=>some a
 | some a,some b=>if b<a then some b else some a
def yE (k:Nat):Option Nat:=if k=0 then some 0 else none
def ql (row:Nat→Option Nat) (w k:Nat):Nat→Option Nat
 | 0=>none
 | m+1=>yg (ql row w k m) ((row (k - m*w)).map (·+m))
def ip (w c k:Nat):Nat:=min c (k / w)+1
def lX (w c:Nat) (row:Nat→Option Nat) (k:Nat):Option Nat:=ql row w k (ip w c k)
def cS (l:List Slp):Nat→Option Nat:=l.foldl (fun row x=>lX x.1.toNat x.2.toNat row) yE
theorem Bh {l:List Slp} {i:Nat} (hi:i<l.length):cS (l.take (i+1))=lX l[i].1.toNat l[i].2.toNat (cS (l.take i)):=by
 unfold cS
 rw [ahD hi,ais]
 rfl
def iA (o:Option Nat):Int :=
 match o with
 | none=>-1
 | some v=>(v:Int)
def gD (o:Option Nat):Int :=
 match o with
 | none=>1048576
 | some v=>(v:Int)
theorem afX {a b:Option Nat} {z:Nat} (ha:∀v,a=some v→v≤z) (hb:∀v,b=some v→v≤z):∀v,yg a b=some v→v≤z:=by
 intro v h
 cases a with
 | none=>exact hb v h
 | some a =>
  cases b with
  | none=>exact ha v h
  | some b =>
   simp only [yg] at h
   split at h
   ·exact hb v h
   ·exact ha v h
theorem Mh {row:Nat→Option Nat} {w k z c:Nat} (hr:∀j v,row j=some v→v≤z):∀m,m≤c+1→∀v,ql row w k m=some v→v≤z+c
 | 0,_,v,h=>by cases h
 | m+1,hm,v,h=>by
  refine afX (z:=z+c) (Mh hr m (by omega)) (fun v h=>?_) v h
  obtain⟨u,h1,rfl⟩:=aiE.1 h
  have:=hr _ _ h1
  omega
theorem An {l:List Slp} (hl:∀x∈l,x.2≤20):∀(i:Nat),i≤l.length→∀k v,cS (l.take i) k=some v→v≤20*i
 | 0,_,k,v,h=>by
  simp only [List.take_zero,cS,aiF,yE] at h
  split at h
  ·cases h;omega
  ·cases h
 | i+1,hi,k,v,h=>by
  have hi':i<l.length:=hi
  rw [Bh hi'] at h
  have hc:=hl l[i] (ahJ hi')
  have:=Mh (c:=l[i].2.toNat) (An hl i (by omega)) (ip l[i].1.toNat l[i].2.toNat k) (by unfold ip;omega) v h
  omega
theorem GC {w c k m:Nat} (hw:0<w):m<ip w c k↔m≤c∧m*w≤k:=by
 have:=Nat.le_div_iff_mul_le (x:=m) (y:=k) hw
 unfold ip
 omega
def nI (f:Nat→Int) (n k:Nat):List Int:=(aiK k).map f++ahR (n - k) 0
def nK (f:Nat→Int) (n:Nat):List Int:=(aiK n).map f
theorem SH {f:Nat→Int} {n k:Nat} (h:k≤n):(nI f n k).length=n:=by simp [nI];omega
theorem YV (f:Nat→Int) (n:Nat):nI f n 0=ahR n 0:=by simp [nI]
theorem Mu (f:Nat→Int) (n:Nat):nI f n n=nK f n:=by simp [nI,nK]
theorem SS {f:Nat→Int} {n k:Nat} (h:k<n):(nI f n k).set k (f k)=nI f n (k+1):=by
 obtain⟨m,hm⟩:∃m,n - k=m+1:=⟨n - k - 1,by omega⟩
 rw [nI,nI,hm,show n - (k+1)=m by omega,aiO,List.set_append_right _ _ (by simp)]
 simp [ail]
abbrev fj (rows:List (List Int)):D:=.arr 1 (rows.map fun r=>ai r)
theorem pC {l:List Int} {i:Nat} (h:i<l.length):eH 1 (ai l) (I (i:Int))=some (.ref i 0):=by rw [mU,if_pos (by simpa using h)]
theorem oT (l:List Int) (i:Nat) (v:Int) (h:i<l.length):stD 1 (ai l) (.ref i 0) (I v)=some (ai (l.set i v)):=by
 rw [Yb (w:=.int .i64 l[i]) (by simp [h])]
 show some (D.arr 1 ((l.map I).set i (I v)))=_
 rw [←List.map_set]
theorem aew {l:List Int} {i:Nat} (h:i<l.length):(atD (ai l) (.ref i 0)).bind (an false 1)=some (I l[i]):=by simp [h]
theorem gH {l:List Int} {i:Nat} (h:i<l.length):ao 1 (ai l) (I (i:Int))=some [I l[i]]:=by simp [h]
theorem wx {l:List (List Int)} {i:Nat} (h:i<l.length):eH 1 (fj l) (I (i:Int))=some (.ref i 0):=by rw [mU,if_pos (by simpa using h)]
theorem EY {l:List (List Int)} {i:Nat} (h:i<l.length):(atD (fj l) (.ref i 0)).bind (an false 1)=some (ai l[i]):=by simp [h]
theorem AF {l:List (List Int)} {i:Nat} (h:i<l.length):ao 1 (fj l) (I (i:Int))=some [ai l[i]]:=by simp [h]
theorem wK (r:List Int):aH 1 [ai r]=some (fj [r]):=by simp [aH,lW]
theorem HB {l m:List (List Int)} (h:l.length+m.length≤1000000):bA 1 24 (fj l) (fj m)=some (fj (l++m)):=by
 rw [gn,if_pos (by simp;omega),←ahF]
theorem AE {n:Nat} (h:n≤1000000):OA 1 8 (I 0) (I (n:Int)) (I (n:Int))=some (ai (ahR n 0)):=by
 rw [abJ,if_pos (by omega)]
 show _=some (D.arr 1 ((ahR n (0:Int)).map I))
 rw [List.map_replicate]
end Go.Proofs.YtjafgdefcggjcaaGreatDoor

namespace Go.Proofs.YtjafgdefcggjcaaGreatDoor
open Go Go.V
theorem uB (l:List Slp) (h:l.length≤1000000):ib [sls l]=some (.ret [ai (l.map (·.1)),ai (l.map (·.2))] []):=by
 rw [Jf]
 simp -implicitDefEqProofs only [aZ,aht,aK,ahx]
 refine aD (.ext 0 [ai (l.map (·.1)),ai (l.map (·.2))]) (aQ l.length (fun i=>[ai ((l.take i).map (·.1)),ai ((l.take i).map (·.2)),sls l,I l.length,I i]) _ (fun i hi=>?_) ?_ rfl rfl) ?_
 ·have hi':(i:Int)<(l.length:Int):=by omega
  have hw:ahv.wrap ((i:Int)+1)=((i+1:Nat):Int):=by rw [ah (by omega) (by omega)];omega
  have a1:=yD (l:=(l.take i).map (·.1)) (n:=l[i].1) (by rw [ahx,ahK];omega)
  have a2:=yD (l:=(l.take i).map (·.2)) (n:=l[i].2) (by rw [ahx,ahK];omega)
  have e1:(l.take (i+1)).map (·.1)=(l.take i).map (·.1)++[l[i].1]:=by rw [ahD hi,ahF];rfl
  have e2:(l.take (i+1)).map (·.2)=(l.take i).map (·.2)++[l[i].2]:=by rw [ahD hi,ahF];rfl
  rw [←e1] at a1
  rw [←e2] at a2
  simp -implicitDefEqProofs only [ak,aF,be,hi',decide_true,aht,aG,if_true,elS hi,ahw,ldS,af5,cA,eT,ahy,ahz,aP,Fw,Io,a1,a2,br,hw]
 ·simp
 ·simp -implicitDefEqProofs only [bE,ahE,dZ,if_true,ak,aF]
theorem MW (i f:Nat) (x:D):Xs (.ref i f) x=x:=rfl
def yf (n:Nat) (F:Nat→Option Nat):List Int:=nK (fun k=>iA (F k)) (n+1)
def px (n:Nat) (l:List Slp) (i:Nat):List (List Int):=(aiK i).map fun j=>yf n (cS (l.take j))
theorem pz (n:Nat) (l:List Slp) (i:Nat):(px n l i).length=i:=by simp [px]
theorem Ad {n:Nat} {l:List Slp} {i j:Nat} (h:j<i):(px n l i)[j]'(by rw [pz];exact h)=yf n (cS (l.take j)):=by simp [px]
theorem aaZ (n:Nat) (l:List Slp) (i:Nat):px n l i++[yf n (cS (l.take i))]=px n l (i+1):=by simp [px,ail]
theorem ve (n:Nat) (F:Nat→Option Nat):(yf n F).length=n+1:=by simp [yf,nK]
theorem Ap {n:Nat} {F:Nat→Option Nat} {k:Nat} (h:k<n+1):(yf n F)[k]'(by rw [ve];exact h)=iA (F k):=by simp [yf,nK]
end Go.Proofs.YtjafgdefcggjcaaGreatDoor

namespace Go.Proofs.YtjafgdefcggjcaaGreatDoor
open Go Go.V
theorem Jc:iA none = -1:=rfl
theorem EJ (v:Nat):iA (some v)=(v:Int):=rfl
theorem wI {i:Nat} (h:i≤1000000):ahv.wrap ((i:Int)+1)=((i+1:Nat):Int):=by rw [ah (by omega) (by omega)];omega
theorem afi {l:List Int} {i:Nat} {v:Int} (h:i<l.length):(l.set i v)[i]'(by rw [ah6];exact h)=v:=by simp
theorem DN (l:List Slp) (n:Nat) (hl:l.length≤8) (hn:n≤400) (hok:∀x∈l,(1≤x.1∧x.1≤200)∧0≤x.2∧x.2≤20) :
  iU [ai (l.map (·.1)),ai (l.map (·.2)),I (n:Int)]=some (.ret [fj (px n l (l.length+1))] []):=by
 rw [QT]
 simp -implicitDefEqProofs only [br,wI (show n≤1000000 by omega),AE (show n+1≤1000000 by omega),ci,aht]
 refine aD (.ext 0 [ai (l.map (·.1)),ai (l.map (·.2)),I (n:Int),.ref 0 0,ai (yf n yE)]) (aQ n (fun i=>[ai (l.map (·.1)),ai (l.map (·.2)),I (n:Int),.ref 0 0,I ((i+1:Nat):Int),ai (nI (fun k=>iA (yE k)) (n+1) (i+1))]) _ (fun i hi=>?_) ?_ rfl ?_) ?_
 ·have h1:((i+1:Nat):Int)≤(n:Int):=by omega
  have hlen:=SH (f:=fun k=>iA (yE k)) (n:=n+1) (k:=i+1) (by omega)
  have hr:=pC (l:=nI (fun k=>iA (yE k)) (n+1) (i+1)) (i:=i+1) (by omega)
  have hs:=oT (nI (fun k=>iA (yE k)) (n+1) (i+1)) (i+1) (-1) (by omega)
  have hf:=SS (f:=fun k=>iA (yE k)) (n:=n+1) (k:=i+1) (by omega)
  have hm:iA (yE (i+1)) = -1:=by simp [yE,iA]
  simp only [hm] at hf
  rw [hf] at hs
  simp -implicitDefEqProofs only [ak,aF,fP,h1,decide_true,aht,aG,if_true,cg,hr,hs,br,wI (show i+1≤1000000 by omega)]
 ·have h1:¬((n+1:Nat):Int)≤(n:Int):=by omega
  simp -implicitDefEqProofs only [ak,aF,fP,h1,decide_false,aht,aG,ahu,if_false,Mu]
  rfl
 ·have:nI (fun k=>iA (yE k)) (n+1) (0+1)=ahR (n+1) 0:=by
   simp [nI,yE,iA,aiO]
  rw [this]
  rfl
 have t0:[yf n yE]=px n l 1:=by simp [px,cS]
 simp -implicitDefEqProofs only [bE,ahE,dZ,if_true,ak,aF,MW,wK,t0,aK,ahx,aht]
 refine aD (.ext 2 [fj (px n l (l.length+1))]) (aQ l.length (fun i=>[ai (l.map (·.2)),I (n:Int),fj (px n l (i+1)),ai (l.map (·.1)),I l.length,I i]) _ (fun i hi=>?_) ?_ rfl rfl) ?_
 case refine_2 =>
  simp
 case refine_3=>simp -implicitDefEqProofs only [bE,ahE,dZ,if_true,ak,aF]
 have hi':(i:Int)<(l.length:Int):=by omega
 have ho:=hok l[i] (ahJ hi)
 obtain⟨w,hw⟩:=ahH (show 0≤l[i].1 by omega)
 obtain⟨c,hc⟩:=ahH ho.2.1
 have hwp:0<w:=by omega
 have ew:ao 1 (ai (l.map (·.1))) (I (i:Int))=some [I (w:Int)]:=by rw [gH (by simpa using hi)];simp [←hw]
 have ec:ao 1 (ai (l.map (·.2))) (I (i:Int))=some [I (c:Int)]:=by rw [gH (by simpa using hi)];simp [←hc]
 have hstep:cS (l.take (i+1))=lX w c (cS (l.take i)):=by rw [Bh hi,hw,hc];rfl
 have hb:=An (l:=l) (fun x hx=>(hok x hx).2.2) i (by omega)
 have htab:=EY (l:=px n l (i+1)) (i:=i) (by rw [pz];omega)
 have hrt:=wx (l:=px n l (i+1)) (i:=i) (by rw [pz];omega)
 rw [Ad (by omega)] at htab
 simp -implicitDefEqProofs only [ak,aF,be,hi',decide_true,aht,aG,if_true,ew,ahw,bh,aP,bC,br,wI (show n≤1000000 by omega),AE (show n+1≤1000000 by omega),ci,cg,aK,ahx,List.length_replicate]
 generalize hF:cS (l.take i)=F at *
 refine aD (.ext 4 [ai (l.map (·.2)),I (n:Int),fj (px n l (i+1)),.ref 0 0,ai (l.map (·.1)),I l.length,I i,ai (yf n (lX w c F))]) (aQ (n+1) (fun k=>[ai (l.map (·.2)),I (n:Int),fj (px n l (i+1)),I i,I (w:Int),.ref 0 0,ai (l.map (·.1)),I l.length,I i,ai (nI (fun k=>iA (lX w c F k)) (n+1) k),I ((n+1:Nat):Int),I k]) _ (fun k hk=>?_) ?_ rfl ?_) ?_
 case refine_2 =>
  have h1:¬((n+1:Nat):Int)<((n+1:Nat):Int):=by omega
  simp -implicitDefEqProofs only [ak,aF,be,h1,decide_false,aht,aG,ahu,if_false,Mu]
  rfl
 case refine_3 =>
  rw [YV]
  rfl
 case refine_4 =>
  have hap:=HB (l:=px n l (i+1)) (m:=[yf n (lX w c F)]) (by rw [pz];simp;omega)
  have hsn:=aaZ n l (i+1)
  rw [hstep] at hsn
  rw [hsn] at hap
  simp -implicitDefEqProofs only [bE,ahE,dZ,if_true,ak,aF,MW,wK,hap,aht,br,wI (show i≤1000000 by omega)]
 have hk':(k:Int)<((n+1:Nat):Int):=by omega
 generalize hL:nI (fun k=>iA (lX w c F k)) (n+1) k=L
 have hlen:L.length=n+1:=by rw [←hL];exact SH (by omega)
 have hfill:L.set k (iA (lX w c F k))=nI (fun k=>iA (lX w c F k)) (n+1) (k+1):=by rw [←hL];exact SS (by omega)
 have hrf:=pC (l:=L) (i:=k) (by omega)
 have hst:=oT L k (-1) (by omega)
 simp -implicitDefEqProofs only [ak,aF,be,hk',decide_true,aht,aG,if_true,cg,hrf,hst]
 refine aD (.ext 6 [ai (l.map (·.2)),I (n:Int),fj (px n l (i+1)),I i,I (w:Int),.ref 0 0,ai (l.map (·.1)),I l.length,I i,ai (L.set k (iA (lX w c F k))),I ((n+1:Nat):Int),I k]) (aQ (ip w c k) (fun m=>[ai (l.map (·.2)),I (n:Int),fj (px n l (i+1)),I i,I (w:Int),.ref 0 0,I k,I m,ai (l.map (·.1)),I l.length,I i,ai (L.set k (iA (ql F w k m))),I ((n+1:Nat):Int),I k]) _ (fun m hm=>?_) ?_ rfl rfl) ?_
 case refine_2 =>
  have hno:¬(ip w c k≤c∧ip w c k*w≤k):=fun h=>Nat.lt_irrefl _ ((GC hwp).2 h)
  have hM:ip w c k≤21:=by unfold ip;omega
  by_cases h1:((ip w c k:Nat):Int)≤(c:Int)
  ·have h2:¬((ip w c k:Nat):Int)*(w:Int)≤(k:Int):=by
    intro h
    exact hno ⟨by omega,by exact_mod_cast h⟩
   have hmb:ip w c k*w≤21*200:=Nat.mul_le_mul hM (by omega)
   have hwr:ahv.wrap (((ip w c k:Nat):Int)*(w:Int))=((ip w c k:Nat):Int)*(w:Int):=by
    rw [←aim]
    exact ah (by omega) (by omega)
   simp -implicitDefEqProofs only [ak,aF,ec,ahw,bh,aP,bC,aht,fP,h1,decide_true,dN,if_true,dX,hwr,h2,decide_false,aN,aG,ahu,if_false]
   rfl
  ·simp -implicitDefEqProofs only [ak,aF,ec,ahw,bh,aP,bC,aht,fP,h1,decide_false,dN,ahu,if_false,aN,aG]
   rfl
 case refine_3 =>
  simp -implicitDefEqProofs only [bE,ahE,dZ,if_true,ak,aF,aht,br,wI (show k≤1000000 by omega),hfill]
 obtain⟨m1,m2⟩:=(GC hwp).1 hm
 have h1:(m:Int)≤(c:Int):=by omega
 have h2:(m:Int)*(w:Int)≤(k:Int):=by exact_mod_cast m2
 have hwr:ahv.wrap ((m:Int)*(w:Int))=((m*w:Nat):Int):=by
  rw [←aim]
  exact ah (by omega) (by omega)
 have h2':((m*w:Nat):Int)≤(k:Int):=by omega
 have hsub:ahv.wrap ((k:Int) - ((m*w:Nat):Int))=((k - m*w:Nat):Int):=by rw [ah (by omega) (by omega)];omega
 have hel:=gH (l:=yf n F) (i:=k - m*w) (by rw [ve];omega)
 rw [Ap (by omega)] at hel
 have hwm:=wI (show m≤1000000 by omega)
 have hln:(L.set k (iA (ql F w k m))).length=n+1:=by rw [ah6,hlen]
 have hrf2:=pC (l:=L.set k (iA (ql F w k m))) (i:=k) (by omega)
 have hat2:=aew (l:=L.set k (iA (ql F w k m))) (i:=k) (by omega)
 rw [afi (by omega)] at hat2
 have hst2:∀v:Int,stD 1 (ai (L.set k (iA (ql F w k m)))) (.ref k 0) (I v)=some (ai (L.set k v)):=fun v=>by rw [oT _ k v (by omega),List.set_set]
 have hbn:ql F w k (m+1)=yg (ql F w k m) ((F (k - m*w)).map (·+m)):=rfl
 have hBb:=Mh (row:=F) (w:=w) (k:=k) (z:=20*i) (c:=c) hb m (by omega)
 rw [hbn]
 have hFb:=hb (k - m*w)
 generalize hG:F (k - m*w)=o at hel hFb ⊢
 generalize hH:ql F w k m=q at *
 cases o with
 | none =>
  have hmin:yg q (aiL (·+m) none)=q:=by cases q<;>rfl
  rw [hmin]
  simp -implicitDefEqProofs only [ak,aF,ec,ahw,bh,aP,bC,aht,fP,h1,decide_true,dN,if_true,dX,hwr,h2',aN,aG,cg,ci,hrt,htab,ca,hsub,hel,Jc,EJ,jd,show ¬(0:Int) ≤ -1 by decide,decide_false,ahu,if_false,vW,bG,br,hwm]
 | some v =>
  have hv:=hFb v rfl
  have hvm:ahv.wrap ((v:Int)+(m:Int))=((v+m:Nat):Int):=by rw [ah (by omega) (by omega)];omega
  have hv0:(0:Int)≤(v:Int):=by omega
  cases q with
  | none =>
   simp only [Jc] at hrf2 hat2 hst2
   have hmin:yg none (aiL (·+m) (some v))=some (v+m):=rfl
   rw [hmin]
   simp -implicitDefEqProofs only [ak,aF,ec,ahw,bh,aP,bC,aht,fP,h1,decide_true,dN,if_true,dX,hwr,h2',aN,aG,cg,ci,hrt,htab,ca,hsub,hel,Jc,EJ,jd,hv0,hrf2,hat2,be,show(-1:Int)<0 by decide,bG,vW,br,hvm,hst2,hwm]
  | some b =>
   simp only [EJ] at hrf2 hat2 hst2
   have hnb:¬(b:Int)<0:=by omega
   by_cases hlt:v+m<b
   ·have hlt':((v+m:Nat):Int)<(b:Int):=by omega
    have hmin:yg (some b) (aiL (·+m) (some v))=some (v+m):=by simp [yg,hlt]
    rw [hmin]
    simp -implicitDefEqProofs only [ak,aF,ec,ahw,bh,aP,bC,aht,fP,h1,decide_true,dN,if_true,dX,hwr,h2',aN,aG,cg,ci,hrt,htab,ca,hsub,hel,Jc,EJ,jd,hv0,hrf2,hat2,be,hnb,hlt',decide_false,ahu,if_false,bG,vW,br,hvm,hst2,hwm]
   ·have hlt':¬((v+m:Nat):Int)<(b:Int):=by omega
    have hmin:yg (some b) (aiL (·+m) (some v))=some b:=by simp [yg,hlt]
    rw [hmin]
    simp -implicitDefEqProofs only [ak,aF,ec,ahw,bh,aP,bC,aht,fP,h1,decide_true,dN,if_true,dX,hwr,h2',aN,aG,cg,ci,hrt,htab,ca,hsub,hel,Jc,EJ,jd,hv0,hrf2,hat2,be,hnb,hlt',decide_false,ahu,if_false,bG,vW,br,hvm,hwm]
end Go.Proofs.YtjafgdefcggjcaaGreatDoor

namespace Go.Proofs.YtjafgdefcggjcaaGreatDoor
open Go Go.V
theorem af4 (a b:Int):(if a<b then a else b)=min a b:=by
 rw [Int.min_def]
 by_cases h:a<b
 ·rw [if_pos h,if_pos (by omega)]
 ·rw [if_neg h]
  by_cases h2:a≤b
  ·rw [if_pos h2];omega
  ·rw [if_neg h2]
theorem aaG {q o:Option Nat} {m:Nat} (hq:∀b,q=some b→b≤1000) (ho:∀v,o=some v→v≤1000) (hm:m≤1000):(if gD q<gD o+(m:Int) then gD q else gD o+(m:Int))=gD (yg q (o.map (·+m))):=by
 rw [af4]
 cases o with
 | none =>
  cases q with
  | none =>
   simp only [gD,yg,aid]
   omega
  | some b =>
   have:=hq b rfl
   simp only [gD,yg,aid]
   omega
 | some v =>
  have:=ho v rfl
  cases q with
  | none =>
   simp only [gD,yg,ahw]
   omega
  | some b =>
   have:=hq b rfl
   simp only [yg,ahw]
   by_cases h:v+m<b
   ·rw [if_pos h]
    simp only [gD]
    omega
   ·rw [if_neg h]
    simp only [gD]
    omega
theorem acP {o:Option Nat} (ho:∀v,o=some v→v≤1000):0≤gD o∧gD o≤1048576:=by
 cases o with
 | none=>simp [gD]
 | some v =>
  have:=ho v rfl
  simp only [gD]
  omega
def yk (n:Nat) (F:Nat→Option Nat):List Int:=nK (fun k=>gD (F k)) (n+1)
def nQ (n:Nat) (l:List Slp) (i:Nat):List (List Int):=(aiK i).map fun j=>yk n (cS (l.take j))
theorem pj (n:Nat) (l:List Slp) (i:Nat):(nQ n l i).length=i:=by simp [nQ]
theorem Af {n:Nat} {l:List Slp} {i j:Nat} (h:j<i):(nQ n l i)[j]'(by rw [pj];exact h)=yk n (cS (l.take j)):=by simp [nQ]
theorem aaB (n:Nat) (l:List Slp) (i:Nat):nQ n l i++[yk n (cS (l.take i))]=nQ n l (i+1):=by simp [nQ,ail]
theorem vj (n:Nat) (F:Nat→Option Nat):(yk n F).length=n+1:=by simp [yk,nK]
theorem uC {n:Nat} {F:Nat→Option Nat} {k:Nat} (h:k<n+1):(yk n F)[k]'(by rw [vj];exact h)=gD (F k):=by simp [yk,nK]
theorem Zh (f:Nat→Int) (k:Nat):nK f (k+1)=nK f k++[f k]:=by simp [nK,ail]
theorem abm (f:Nat→Int) (k:Nat):(nK f k).length=k:=by simp [nK]
theorem abn (n:Nat):(ahR (n+1) (1048576:Int)).set 0 0=yk n yE:=by
 refine List.ext_getElem (by simp [yk,nK]) fun i h1 h2=>?_
 rw [uC (by simpa using h1),List.getElem_set]
 by_cases h:0=i
 ·subst h
  simp [yE,gD]
 ·rw [if_neg h]
  have:¬i=0:=fun e=>h e.symm
  simp [yE,gD,this]
theorem xF (l:List Slp) (n:Nat) (hl:l.length≤8) (hn:n≤400) (hok:∀x∈l,(1≤x.1∧x.1≤200)∧0≤x.2∧x.2≤20) :
  gb [sls l,I (n:Int)]=some (.ret [fj (nQ n l (l.length+1))] []):=by
 rw [Lv]
 refine aD (.ext 0 [sls l,I (n:Int),ai (ahR (n+1) 1048576)]) (aQ (n+1) (fun k=>[sls l,I (n:Int),ai (ahR k 1048576),I k]) _ (fun k hk=>?_) ?_ rfl rfl) ?_
 ·have h1:(k:Int)≤(n:Int):=by omega
  have ha:=yD (l:=ahR k 1048576) (n:=1048576) (by simp;omega)
  rw [←List.replicate_succ'] at ha
  simp -implicitDefEqProofs only [ak,aF,fP,h1,decide_true,aht,aG,if_true,Fw,Io,ha,br,wI (show k≤1000000 by omega)]
 ·have h1:¬((n+1:Nat):Int)≤(n:Int):=by omega
  simp -implicitDefEqProofs only [ak,aF,fP,h1,decide_false,aht,aG,ahu,if_false]
 have hr0:eH 1 (ai (ahR (n+1) 1048576)) (I 0)=some (.ref 0 0):=pC (i:=0) (by simp)
 have hs0:=oT (ahR (n+1) 1048576) 0 0 (by simp)
 rw [abn] at hs0
 have t0:[yk n yE]=nQ n l 1:=by simp [nQ,cS]
 simp -implicitDefEqProofs only [bE,ahE,dZ,if_true,ak,aF,ci,cg,hr0,hs0,wK,t0,aK,ahx,aht]
 refine aD (.ext 2 [fj (nQ n l (l.length+1))]) (aQ l.length (fun i=>[I (n:Int),fj (nQ n l (i+1)),sls l,I l.length,I i]) _ (fun i hi=>?_) ?_ rfl rfl) ?_
 case refine_2=>simp
 case refine_3=>simp -implicitDefEqProofs only [bE,ahE,dZ,if_true,ak,aF]
 have hi':(i:Int)<(l.length:Int):=by omega
 have ho:=hok l[i] (ahJ hi)
 obtain⟨w,hw⟩:=ahH (show 0≤l[i].1 by omega)
 obtain⟨c,hc⟩:=ahH ho.2.1
 have hwp:0<w:=by omega
 have hstep:cS (l.take (i+1))=lX w c (cS (l.take i)):=by rw [Bh hi,hw,hc];rfl
 have hb:=An (l:=l) (fun x hx=>(hok x hx).2.2) i (by omega)
 have htab:=EY (l:=nQ n l (i+1)) (i:=i) (by rw [pj];omega)
 have hrt:=wx (l:=nQ n l (i+1)) (i:=i) (by rw [pj];omega)
 rw [Af (by omega)] at htab
 simp -implicitDefEqProofs only [ak,aF,be,hi',decide_true,aht,aG,if_true,elS hi,ahw,ldS,af5]
 rw [hw,hc]
 generalize hF:cS (l.take i)=F at *
 refine aD (.ext 4 [I (n:Int),fj (nQ n l (i+1)),ai (yk n (lX w c F)),sls l,I l.length,I i]) (aQ (n+1) (fun k=>[I (n:Int),fj (nQ n l (i+1)),I i,slp ((w:Int),(c:Int)),ai (nK (fun k=>gD (lX w c F k)) k),I k,sls l,I l.length,I i]) _ (fun k hk=>?_) ?_ rfl rfl) ?_
 case refine_2 =>
  have h1:¬((n+1:Nat):Int)≤(n:Int):=by omega
  simp -implicitDefEqProofs only [ak,aF,fP,h1,decide_false,aht,aG,ahu,if_false]
  rfl
 case refine_3 =>
  have hap:=HB (l:=nQ n l (i+1)) (m:=[yk n (lX w c F)]) (by rw [pj];simp;omega)
  have hsn:=aaB n l (i+1)
  rw [hstep] at hsn
  rw [hsn] at hap
  simp -implicitDefEqProofs only [bE,ahE,dZ,if_true,ak,aF,wK,hap,aht,br,wI (show i≤1000000 by omega)]
 have hk':(k:Int)≤(n:Int):=by omega
 simp -implicitDefEqProofs only [ak,aF,fP,hk',decide_true,aht,aG,if_true]
 refine aD (.ext 6 [I (n:Int),fj (nQ n l (i+1)),I i,slp ((w:Int),(c:Int)),ai (nK (fun k=>gD (lX w c F k)) k),I k,I (gD (lX w c F k)),sls l,I l.length,I i]) (aQ (ip w c k) (fun m=>[I (n:Int),fj (nQ n l (i+1)),I i,slp ((w:Int),(c:Int)),ai (nK (fun k=>gD (lX w c F k)) k),I k,I (gD (ql F w k m)),I m,sls l,I l.length,I i]) _ (fun m hm=>?_) ?_ rfl rfl) ?_
 case refine_2 =>
  have hno:¬(ip w c k≤c∧ip w c k*w≤k):=fun h=>Nat.lt_irrefl _ ((GC hwp).2 h)
  have hM:ip w c k≤21:=by unfold ip;omega
  by_cases h1:((ip w c k:Nat):Int)≤(c:Int)
  ·have h2:¬((ip w c k:Nat):Int)*(w:Int)≤(k:Int):=by
    intro h
    exact hno ⟨by omega,by exact_mod_cast h⟩
   have hmb:ip w c k*w≤21*200:=Nat.mul_le_mul hM (by omega)
   have hwr:ahv.wrap (((ip w c k:Nat):Int)*(w:Int))=((ip w c k:Nat):Int)*(w:Int):=by
    rw [←aim]
    exact ah (by omega) (by omega)
   simp -implicitDefEqProofs only [ak,aF,cA,eT,ahy,ahz,aP,aht,fP,h1,decide_true,dN,if_true,dX,hwr,h2,decide_false,aN,aG,ahu,if_false]
   rfl
  ·simp -implicitDefEqProofs only [ak,aF,cA,eT,ahy,ahz,aP,aht,fP,h1,decide_false,dN,ahu,if_false,aN,aG]
   rfl
 case refine_3 =>
  have ha:=yD (l:=nK (fun k=>gD (lX w c F k)) k) (n:=gD (lX w c F k)) (by rw [abm];omega)
  rw [←Zh (fun k=>gD (lX w c F k))] at ha
  simp -implicitDefEqProofs only [bE,ahE,dZ,if_true,ak,aF,Fw,Io,ha,aht,br,wI (show k≤1000000 by omega)]
 obtain⟨m1,m2⟩:=(GC hwp).1 hm
 have h1:(m:Int)≤(c:Int):=by omega
 have hwr:ahv.wrap ((m:Int)*(w:Int))=((m*w:Nat):Int):=by
  rw [←aim]
  exact ah (by omega) (by omega)
 have h2':((m*w:Nat):Int)≤(k:Int):=by omega
 have hsub:ahv.wrap ((k:Int) - ((m*w:Nat):Int))=((k - m*w:Nat):Int):=by rw [ah (by omega) (by omega)];omega
 have hel:=gH (l:=yk n F) (i:=k - m*w) (by rw [vj];omega)
 rw [uC (by omega)] at hel
 have hwm:=wI (show m≤1000000 by omega)
 have hBb:=Mh (row:=F) (w:=w) (k:=k) (z:=20*i) (c:=c) hb m (by omega)
 have hFb:=hb (k - m*w)
 have heb:=acP (o:=F (k - m*w)) fun v hv=>by have:=hFb v hv;omega
 have hadd:ahv.wrap (gD (F (k - m*w))+(m:Int))=gD (F (k - m*w))+(m:Int):=ah (by omega) (by omega)
 have hls:=zF (gD (ql F w k m)) (gD (F (k - m*w))+(m:Int))
 rw [aaG (fun b hb=>by have:=hBb b hb;omega) (fun v hv=>by have:=hFb v hv;omega) (by omega)] at hls
 have hbn:yg (ql F w k m) ((F (k - m*w)).map (·+m))=ql F w k (m+1):=rfl
 rw [hbn] at hls
 simp -implicitDefEqProofs only [ak,aF,cA,ci,cg,eT,ahy,ahz,aP,aht,fP,h1,decide_true,dN,if_true,dX,hwr,h2',aN,aG,hrt,htab,ca,hsub,hel,ahw,bh,bC,br,hadd,hls,am,hwm]
end Go.Proofs.YtjafgdefcggjcaaGreatDoor

namespace Go.Proofs.YtjafgdefcggjcaaGreatDoor
open Go Go.V
def HV (P:Nat→Bool):Nat→Nat
 | 0=>0
 | m+1=>if P (m+1)=true then m+1 else HV P m
theorem ZH (P:Nat→Bool):∀M,HV P M≤M
 | 0=>ah3 _
 | m+1=>by
  have:=ZH P m
  simp only [HV]
  split<;>omega
theorem HZ {P:Nat→Bool}:∀{M:Nat},(∃j,j≤M∧P j=true)→P (HV P M)=true
 | 0,⟨j,h1,h2⟩=>by
  have:j=0:=by omega
  subst this
  exact h2
 | m+1,⟨j,h1,h2⟩=>by
  simp only [HV]
  by_cases h:P (m+1)=true
  ·rw [if_pos h]
   exact h
  ·rw [if_neg h]
   refine HZ ⟨j,?_,h2⟩
   rcases aiw m j with g | g
   ·have:j=m+1:=by omega
    subst this
    exact absurd h2 h
   ·exact g
theorem SN {P:Nat→Bool} {M:Nat} (h:P M=true):HV P M=M:=by
 cases M with
 | zero=>rfl
 | succ m=>simp only [HV,h,if_true]
theorem Te {P:Nat→Bool} {M:Nat} (h:P (HV P M)=true) (hn:¬P M=true):∃m,M=m+1∧HV P M=HV P m:=by
 cases M with
 | zero=>exact absurd h hn
 | succ m=>exact⟨m,rfl,by simp only [HV,hn];simp⟩
theorem aet {a b:Option Nat} {v:Nat} (h:yg a b=some v):a=some v∨b=some v:=by
 cases a with
 | none=>exact .inr h
 | some a =>
  cases b with
  | none=>exact .inl h
  | some b =>
   simp only [yg] at h
   split at h
   ·exact .inr h
   ·exact .inl h
theorem XX {row:Nat→Option Nat} {w k v:Nat}:∀{m:Nat},ql row w k m=some v→∃j,j<m∧(row (k - j*w)).map (·+j)=some v
 | 0,h=>by cases h
 | m+1,h=>by
  rcases aet h with h | h
  ·obtain⟨j,h1,h2⟩:=XX h
   exact⟨j,by omega,h2⟩
  ·exact⟨m,by omega,h⟩
def slW (l:List Slp) (i:Nat):Nat:=(l.getD i (0,0)).1.toNat
def slC (l:List Slp) (i:Nat):Nat:=(l.getD i (0,0)).2.toNat
def agr (l:List Slp) (i n m:Nat):Bool:=decide ((cS (l.take i) (n - m*slW l i)).map (·+m)=cS (l.take (i+1)) n)
def mx (l:List Slp) (i n:Nat):Nat:=min (slC l i) (n / slW l i)
def pk (l:List Slp) (i n:Nat):Nat:=HV (agr l i n) (mx l i n)
def ctl (l:List Slp):Nat→Nat→List Int
 | 0,_=>[]
 | i+1,n=>ctl l i (n - pk l i n*slW l i)++[(pk l i n:Int)]
theorem Zv {l:List Slp} {i n v:Nat} (hi:i<l.length) (h:cS (l.take (i+1)) n=some v):∃j,j≤mx l i n∧agr l i n j=true:=by
 have h0:=h
 have hw:slW l i=l[i].1.toNat:=by simp [slW,ahQ,hi]
 have hc:slC l i=l[i].2.toNat:=by simp [slC,ahQ,hi]
 rw [Bh hi,←hw,←hc] at h
 obtain⟨j,h1,h2⟩:=XX h
 refine⟨j,by unfold ip at h1;unfold mx;omega,?_⟩
 unfold agr
 rw [h0,h2,decide_eq_true rfl]
theorem Nc {l:List Slp} {i n v:Nat} (hi:i<l.length) (h:cS (l.take (i+1)) n=some v):∃u,cS (l.take i) (n - pk l i n*slW l i)=some u∧u+pk l i n=v∧pk l i n≤mx l i n:=by
 have:agr l i n (pk l i n)=true:=HZ (Zv hi h)
 unfold agr at this
 rw [decide_eq_true_eq,h] at this
 obtain⟨u,h1,h2⟩:=aiE.1 this
 exact⟨u,h1,h2,ZH _ _⟩
theorem ab0 {o p:Option Nat} {m v:Nat} (hp:p=some v):decide (o.map (·+m)=p)=(decide (0≤iA o)&&decide (iA o+(m:Int)=iA p)):=by
 subst hp
 cases o with
 | none=>simp [iA]
 | some u =>
  show decide (some (u+m)=some v)=(decide ((0:Int)≤(u:Int))&&decide ((u:Int)+(m:Int)=(v:Int)))
  rw [←Bool.decide_and]
  exact decide_eq_decide.2 (by rw [aiR];omega)
theorem acL {o p:Option Nat} {m v:Nat} (hp:p=some v) (hv:v≤1000):decide (o.map (·+m)=p)=decide (gD o+(m:Int)=gD p):=by
 subst hp
 cases o with
 | none =>
  show decide (none=some v)=decide ((1048576:Int)+(m:Int)=(v:Int))
  exact decide_eq_decide.2 ⟨fun h=>(by cases h),fun h=>(by exfalso;omega)⟩
 | some u =>
  show decide (some (u+m)=some v)=decide ((u:Int)+(m:Int)=(v:Int))
  exact decide_eq_decide.2 (by rw [aiR];omega)
end Go.Proofs.YtjafgdefcggjcaaGreatDoor

end
