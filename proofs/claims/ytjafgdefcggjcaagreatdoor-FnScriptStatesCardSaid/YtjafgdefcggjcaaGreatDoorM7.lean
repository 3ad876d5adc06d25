/-
  A part of the proof: contracts and plain forms of functions beneath the statement, made small by a program (names shortened, what is not needed left out).
-/
import Derived.Test.YtjafgdefcggjcaaGreatDoorRows
import Derived.Test.YtjafgdefcggjcaaGreatDoorTie
import Derived.Test.YtjafgdefcggjcaaGreatDoorCards
import Derived.Test.YtjafgdefcggjcaaGreatDoorM6
import Derived.Lib.IndexBytes
import Derived.Laws.RangeString
import Derived.Laws.Bits64b
open Option renaming bind_some → aiT, map_some → aiW, map_none → ajG, isSome_none → ajU, map → akb, isSome_some → akg
open Bool renaming false_eq_true → aiU, not_true → aiZ, not_false → ai2, false_and → ai8, true_and → ajm, and_eq_true → ajo, and_false → ajv
open Go.IntKind renaming i64 → aiV, u64 → ajB, u8 → ajM, bits → aks
open List renaming length_map → aiX, drop_zero → aiY, drop_succ_cons → ai0, take_succ_eq_append_getElem → ai3, getElem_mem → ai6, map_append → ai7, map_cons → ai9, map_nil → aja, length_take → ajb, getElem?_eq_getElem → aje, replicate → ajg, cons_append → ajh, nil_append → ajj, mem_cons → ajl, all_eq_true → ajn, drop_eq_nil_of_le → ajq, getD_eq_getElem?_getD → ajr, length_set → ajw, drop_append_of_le_length → ajy, map_map → ajz, length_pos_iff → ajD, mem_singleton → ajH, mem_map → ajJ, not_mem_nil → ajL, mem_append → ajN, range_succ → ajO, map_congr_left → ajQ, dropLast_concat_getLast → ajR, length_append → ajT, foldl_append → ajV, getElem?_eq_some_iff → ajW, drop_eq_getElem_cons → ajX, length_cons → ajY, foldl_cons → aj0, head?_eq_getElem? → aj3, take_of_length_le → aj4, foldl_nil → aj5, dropLast_sublist → aj6, length_dropLast → aj8, range → aka, replicate_succ → akd, map_id → akh, take_length → akj, length_nil → akl, foldl → akn, drop_drop → ako
open Go.Lib renaming decDigits → ai1, decDigits_one → ajc, parseUint10 → ajk, goFieldsP → ajp, spansFromP → aju, atoiAll → ajx, closeSpans → ajA, cut → akp, index → akq
open Int renaming eq_ofNat_of_zero_le → ai4, tdiv_eq_ediv_of_nonneg → ajf, toNat_natCast → aji, le_refl → ajC, add_mul → ajK, natCast_mul → ajP, ediv_nonneg → aj2
open Nat renaming beq_refl → ai5, le_refl → ajt, le_trans → ajI, zero_le → ajS, zero_add → ajZ, mod_lt → aj7, pow_le_pow_right → aj9, pow_succ → ake, lt_or_ge → akf, succ_le_succ → akk
open ByteArray renaming size_append → ajd
open UInt8 renaming ofNat → ajs, toNat_inj → ajF
open List.cons renaming injEq → ajE, inj → akc
open Go.Value renaming int → aj1
open Go.Utf8 renaming decode → aki
open Option.some renaming inj → akm
open Go.BinOp renaming neq → akr
set_option maxRecDepth 100000
set_option linter.unusedSimpArgs false
set_option linter.unusedVariables false
noncomputable section
namespace Go.Proofs.YtjafgdefcggjcaaGreatDoor
open Go Go.V
theorem br (a b c:Int):ci [I a,I b,I c]=some (.ret [B (decide (b≤a∧a≤c))] []):=by
 rw [Xy];by_cases h:b≤a<;>simp [h]
theorem bC (a b c:Int):bW [I a,I b,I c]=some (.ret [B (decide (b≤a∧a≤c))] []):=by
 rw [QP];by_cases h:b≤a<;>simp [h]
def Kj (u:Nat):ByteArray:=⟨(ai1 u).toArray⟩
def aI (n:Int):ByteArray:=⟨(Lib.itoa n).toArray⟩
theorem NY (u:Nat):aI (u:Int)=Kj u:=by
 unfold aI Kj;rw [Lib.itoa_nonneg]
theorem Gi {u:Nat} (h:u<10):Kj u=⟨#[ajs (48+u)]⟩:=by
 unfold Kj;rw [ajc h]
theorem XP {u:Nat} (h:¬u<10):Kj u=Kj (u / 10)++⟨#[ajs (48+u % 10)]⟩:=by
 unfold Kj;rw [ai1,dif_neg h];apply ByteArray.ext;simp
theorem vS:∀(k u:Nat),u<10 ^ (k+1)→(Kj u).size≤k+1
 | 0,u,h=>by
  rw [Gi (by simpa using h)];exact ajt _
 | k+1,u,h=>by
  by_cases hu:u<10
  ·rw [Gi hu]
   show 1≤k+1+1
   omega
  ·rw [XP hu,ajd]
   have h1:=vS k (u / 10) (by rw [ake] at h;exact Nat.div_lt_of_lt_mul (by rw [Nat.mul_comm];exact h));have h2:(⟨#[ajs (48+u % 10)]⟩:ByteArray).size=1:=rfl;omega
theorem bX (k:Nat) {n:Int} (h0:0≤n) (h1:n<10 ^ (k+1)):(aI n).size≤k+1:=by
 obtain⟨u,rfl⟩:=ai4 h0;rw [NY];exact vS k u (by exact_mod_cast h1)
theorem aaE (u:Nat) (h:u<10):um [.v (.int .u8 (48+(u:Int)))]=some [ajs (48+u)]:=by
 have e:(48+(u:Int)).toNat=48+u:=by omega
 simp only [um,e,aiW]
theorem aah (a:Int) (h0:0≤a) (h1:a<256):ajM.wrap a=a:=by
 have:=Int.emod_eq_of_lt h0 h1;simpa [IntKind.wrap,aks,IntKind.signed] using this
theorem XT (a:Int):aA 1 [.v (.int .u8 a)]=some (.arr 1 [.v (.int .u8 a)]):=by simp [aA,kx]
theorem NV (k u:Nat) (hu:u<10 ^ 18) (ih:cX k [I ((u / 10:Nat):Int)]=none∨cX k [I ((u / 10:Nat):Int)]=some (.ret [T (Kj (u / 10))] [])) :
  (cX (k+1) [I (u:Int)]=none∧cX k [I ((u / 10:Nat):Int)]=none∧¬u<10)∨cX (k+1) [I (u:Int)]=some (.ret [T (Kj u)] []):=by
 rw [TT];by_cases h:u<10
 ·right
  have h1:(u:Int)<10:=by omega
  have hw:aiV.wrap (48+(u:Int))=48+(u:Int):=ah (by omega) (by omega);have hw8:=aah (48+(u:Int)) (by omega) (by omega);simp only [bg,h1,decide_true,aiT,aH,if_true,bv,hw,oz,hw8,XT,Rs,aaE u h,aiW,Gi h]
 ·have h1:¬(u:Int)<10:=by omega
  have hq:aiV.wrap ((u:Int).tdiv 10)=((u / 10:Nat):Int):=by
   rw [ajf (by omega),ah (by omega) (by omega)];omega
  have hr:(u:Int).tmod 10=((u % 10:Nat):Int):=by
   rw [Int.tmod_eq_emod_of_nonneg (by omega)];omega
  have hm:u % 10<10:=aj7 _ (by decide);have hw:aiV.wrap (48+((u % 10:Nat):Int))=48+((u % 10:Nat):Int):=ah (by omega) (by omega);have hw8:=aah (48+((u % 10:Nat):Int)) (by omega) (by omega);have hs:(Kj (u / 10)).size+(⟨#[ajs (48+u % 10)]⟩:ByteArray).size≤1152921504606846976:=by
   have:=vS 17 (u / 10) (by omega);have h2:(⟨#[ajs (48+u % 10)]⟩:ByteArray).size=1:=rfl;omega
  rcases ih with e | e
  ·left
   refine⟨?_,e,h⟩
   simp only [bg,h1,decide_false,aiT,aH,aiU,if_false,md,show ¬(10:Int)=0 by decide,hq,e,ac]
  ·right
   simp only [bg,h1,decide_false,aiT,aH,aiU,if_false,md,show ¬(10:Int)=0 by decide,hq,e,am,aar,hr,bv,hw,oz,hw8,XT,Rs,
    aaE _ hm,aiW,ak,fT,hs,if_true,XP h]
theorem TB:∀(k u:Nat),u<10 ^ 18→cX k [I (u:Int)]=none∨cX k [I (u:Int)]=some (.ret [T (Kj u)] [])
 | 0,_,_=>.inl rfl
 | k+1,u,hu=>(NV k u hu (TB k (u / 10) (by omega))).imp (fun h=>h.1) id
theorem aaz:∀(k u:Nat),u<10 ^ 18→u<10 ^ (k+1)→cX (k+1) [I (u:Int)]=some (.ret [T (Kj u)] [])
 | 0,u,hu,h=>by
  rcases NV 0 u hu (TB 0 _ (by omega)) with ⟨_,_,h1⟩ | h1
  ·exact absurd (by simpa using h) h1
  ·exact h1
 | k+1,u,hu,h=>by
  rcases NV (k+1) u hu (TB (k+1) _ (by omega)) with ⟨_,h1,_⟩ | h1
  ·rw [aaz k (u / 10) (by omega) (by rw [ake] at h;exact Nat.div_lt_of_lt_mul (by rw [Nat.mul_comm];exact h))] at h1
   cases h1
  ·exact h1
theorem bR {n:Int} (h0:0≤n) (h1:n<1000000000000000000):bK [I n]=some (.ret [T (aI n)] []):=by
 obtain⟨u,rfl⟩:=ai4 h0;have hu:u<10 ^ 18:=by omega
 rw [NY];refine afn (fun k o ho=>?_) 18 (aaz 17 u hu hu)
 rcases TB k u hu with e | e
 ·rw [e] at ho;cases ho
 ·rw [e] at ho;cases ho;rfl
theorem Nu {n:Int} (h0 : -9223372036854775808≤n) (h1:n≤9223372036854775807):KP [I n]=some (.ret [T (aI n)] []):=by
 simp only [KP,h0,h1,and_self,if_true];rfl
theorem YM {a b:ByteArray} {bl:Bool} {eq:List Nat} (h:a.size+b.size≤1152921504606846976):bin .add bl eq (T a) (T b)=some (T (a++b)):=by rw [fT,if_pos h]
theorem sz1 (a:UInt8):(⟨#[a]⟩:ByteArray).size=1:=rfl
theorem Ts {α β:Type} {body:List D→Option Out} (l:List β) (st:Nat→α→List D) (Inv:Nat→α→Prop) (p:Nat→β→Bool) (f:α→β→α) (o1:Out) (fin:α→Out) (a:α) (hs:∀(i:Nat) (a:α) (hi:i<l.length),Inv i a→body (st i a)=some (if p i l[i]=true then .nrm (st (i+1) (f a l[i])) else o1)∧(p i l[i]=true→Inv (i+1) (f a l[i])))
  (he:∀a,Inv l.length a→body (st l.length a)=some (fin a)) (h1:o1.ends=true) (h2:∀a,(fin a).ends=true) (h0:Inv 0 a) {s0:List D} (h:s0=st 0 a):ba body s0=some (if jD p 0 l=true then fin (l.foldl f a) else o1):=by
 have e:∀(m:List β) (i:Nat) (a:α),goL (fun i x (a:α)=>if p i x=true then .inl (f a x) else .inr o1) fin i m a=if jD p i m=true then fin (m.foldl f a) else o1:=by
  intro m;induction m with
  | nil=>intro i a;simp [goL,jD]
  | cons x m ih =>
   intro i a;simp only [goL,jD,aj0];by_cases hp:p i x=true
   ·simp [hp,ih]
   ·simp [hp]
 rw [←e];refine Ck l st Inv _ _ (fun i x a hx hI=>?_) (fun a hI=>⟨he a hI,h2 a⟩) a h0 h
 have hi:i<l.length:=(ajW.1 hx).1;have hxe:l[i]=x:=(ajW.1 hx).2;have:=hs i a hi hI;rw [hxe] at this;by_cases hp:p i x=true
 ·simpa [hp] using this
 ·simpa [hp,h1] using this
def ae (s:ByteArray):List UInt8:=s.data.toList
theorem oO {s:ByteArray} {k:IntKind} {i:Nat}:kA (T s) (.v (.int k (i:Int)))=((ae s)[i]?).map fun b=>U b.toNat:=by simp [kA,ae]
theorem cZ (s:ByteArray):s.size=(ae s).length:=rfl
theorem bP {a b:ByteArray} (h:ae a=ae b):a=b:=by
 cases a with | mk a=>cases b with | mk b =>
  cases a with | mk a=>cases b with | mk b =>
   simp [ae] at h;rw [h]
theorem fa (s:ByteArray) (i j:Nat):ae (s.extract i j)=((ae s).take j).drop i:=by
 simp [ae,List.drop_take]
theorem cS (l:List UInt8):ae ⟨l.toArray⟩=l:=by simp [ae]
theorem nQ (s:ByteArray):(⟨(ae s).toArray⟩:ByteArray)=s:=bP (cS _)
theorem bh (a b:ByteArray):ae (a++b)=ae a++ae b:=by simp [ae]
theorem acM {s:ByteArray} {z i j:Nat} (h1:i≤j) (h2:j≤s.size):dH true z (T s) (I (i:Int)) (I (j:Int))=some (T (s.extract i j)):=by
 simp only [dH,aji];rw [if_pos (by omega)]
theorem Gn {s:ByteArray} {z i:Nat} (h:i≤s.size):cU true z (T s) (I (i:Int))=some (T (s.extract i s.size)):=by
 simp only [cU,aji];rw [if_pos (by omega)]
def GU (x:UInt8):List (List UInt8)→List (List UInt8)
 | []=>[[x]]
 | h::t=>(x::h)::t
def aW (c:UInt8):List UInt8→List (List UInt8)
 | []=>[[]]
 | x::l=>if x=c then []::aW c l else GU x (aW c l)
theorem dv (c:UInt8) (l:List UInt8):aW c l≠[]:=by
 cases l with
 | nil=>simp [aW]
 | cons x l =>
  simp only [aW];split
  ·simp
  ·cases aW c l<;>simp [GU]
theorem ko {c:UInt8}:∀{l:List UInt8},c∉l→aW c l=[l]
 | [],_=>rfl
 | x::l,h=>by
  simp only [ajl,not_or] at h;simp only [aW];rw [if_neg (Ne.symm h.1),ko h.2];rfl
theorem fq {c:UInt8} {b:List UInt8}:∀{a:List UInt8},c∉a→aW c (a++c::b)=a::aW c b
 | [],_=>by simp [aW]
 | x::a,h=>by
  simp only [ajl,not_or] at h;rw [ajh];simp only [aW];rw [if_neg (Ne.symm h.1),fq h.2];rfl
theorem mZ (c x:UInt8):∀(l:List UInt8) (o:List (List UInt8)) (p:List UInt8),aW c l=o++[p]→aW c (l++[x])=if x=c then(o++[p])++[[]] else o++[p++[x]]
 | [],o,p,h=>by
  have h:[[]]=o++[p]:=h;have:o=[]∧p=[]:=by
   cases o with
   | nil=>simpa using h.symm
   | cons y o=>cases o<;>simp at h
  obtain⟨rfl,rfl⟩:=this;simp only [ajj,aW];split<;>rfl
 | y::l,o,p,h=>by
  simp only [aW] at h;rw [ajh];simp only [aW];by_cases hy:y=c
  ·rw [if_pos hy] at h ⊢
   cases o with
   | nil=>exact absurd (akc h).2 (dv c l)
   | cons z o =>
    rw [ajh,ajE] at h;obtain⟨rfl,h⟩:=h;rw [mZ c x l o p h];split<;>rfl
  ·rw [if_neg hy] at h ⊢
   generalize hs:aW c l=s at h;cases s with
   | nil=>exact absurd hs (dv c l)
   | cons z s =>
    simp only [GU] at h;cases o with
    | nil =>
     have:s=[]∧p=y::z:=by
      rw [ajj,ajE] at h;exact⟨h.2,h.1.symm⟩
     obtain⟨rfl,rfl⟩:=this;rw [mZ c x l [] z hs];split<;>simp [GU]
    | cons w o =>
     rw [ajh,ajE] at h;obtain⟨rfl,h⟩:=h;rw [mZ c x l (z::o) p (by rw [hs,h];rfl)];split<;>simp [GU]
theorem pg (c:UInt8):∀(l:List UInt8),(akq l [c] = -1∧c∉l)∨∃a b,l=a++c::b∧c∉a∧akq l [c]=a.length
 | []=>.inl ⟨by simp [akq],by simp⟩
 | x::l=>by
  rw [Lib.index_one];simp only [Lib.indexByte];by_cases hx:x=c
  ·subst hx
   exact .inr ⟨[],l,rfl,by simp,by simp⟩
  ·have ih:=pg c l
   rw [Lib.index_one] at ih;rw [if_neg (by simpa using hx)];rcases ih with ⟨h1,h2⟩ | ⟨a,b,rfl,h2,h3⟩
   ·exact .inl ⟨by rw [h1];rfl,by simp [h2,Ne.symm hx]⟩
   ·refine .inr ⟨x::a,b,rfl,by simp [h2,Ne.symm hx],?_⟩
    rw [if_neg (by rw [h3];simp),h3];simp
theorem Tf (c:UInt8):∀(n:Nat) (l:List UInt8),l.length≤n→Lib.splitK [c] 0 (Lib.count l [c]) l=aW c l
 | n,l,hn=>by
  rcases pg c l with ⟨h1,h2⟩ | ⟨a,b,rfl,h2,h3⟩
  ·rw [Lib.count_miss h1,ko h2]
   rfl
  ·rw [Lib.count_hit (by simp) h3,fq h2,Nat.add_comm 1]
   have hb:(a++c::b).drop (a.length+[c].length)=b:=by
    rw [←ako];simp
   cases n with
   | zero=>simp at hn
   | succ n =>
    rw [hb];unfold Lib.splitK;rw [if_neg (by rw [h3];simp),h3];have e:((a.length:Int)).toNat=a.length:=by omega
    rw [e,hb,Tf c n b (by simp at hn;omega)];simp
def aC (c:UInt8) (s:ByteArray):List ByteArray:=(aW c (ae s)).map fun l=>⟨l.toArray⟩
theorem YE (c:UInt8) (s:ByteArray):pG s ⟨#[c]⟩=aC c s:=by
 have h:(pG s ⟨#[c]⟩).map ae=aW c (ae s):=by
  have:=Lib.splitB_data ⟨#[c]⟩ 0 (Lib.countB s ⟨#[c]⟩) s;rw [show(fun x:ByteArray=>x.data.toList)=ae from rfl] at this;rw [pG,this];exact Tf c _ _ (ajt _)
 have h2:(pG s ⟨#[c]⟩).map (fun x=>(⟨(ae x).toArray⟩:ByteArray))=aC c s:=by
  rw [aC,←h,ajz];rfl
 rw [←h2];have:(fun x:ByteArray=>(⟨(ae x).toArray⟩:ByteArray))=id:=funext nQ;rw [this,akh]
theorem aax {c:UInt8} {s:ByteArray} (h:s.size<4294967281):Av [T s,T ⟨#[c]⟩]=some (.ret [.arr 1 ((aC c s).map T)] []):=by
 have h1:1≤(⟨#[c]⟩:ByteArray).size:=ajt 1;simp only [Av,h,h1,and_self,if_true,YE]
theorem Oa {c:UInt8} {l:List UInt8} (h:c∉l):akp l [c]=(l,[],false):=by
 rcases pg c l with ⟨h1,_⟩ | ⟨a,b,rfl,_,_⟩
 ·unfold akp
  rw [h1,if_neg (by decide)]
 ·simp at h
theorem Uj {c:UInt8} {a b:List UInt8} (h:c∉a):akp (a++c::b) [c]=(a,b,true):=by
 rcases pg c (a++c::b) with ⟨_,h2⟩ | ⟨a',b',e,h2,h3⟩
 ·simp at h2
 ·have hl:a.length=a'.length:=by
   have key:∀(a a' b b':List UInt8),c∉a→c∉a'→a++c::b=a'++c::b'→a.length=a'.length:=by
    intro a;induction a with
    | nil =>
     intro a' b b' _ h2 e;cases a' with
     | nil=>rfl
     | cons y a' =>
      simp at e;simp [e.1] at h2
    | cons x a ih =>
     intro a' b b' h1 h2 e;cases a' with
     | nil =>
      simp at e;simp [e.1] at h1
     | cons y a' =>
      simp at e h1 h2 ⊢;exact ih a' b b' h1.2 h2.2 e.2
   exact key a a' b b' h h2 e
  unfold akp;rw [h3,if_pos (by omega)];have e2:((a'.length:Int)).toNat=a.length:=by omega
  rw [e2];have hb:(a++c::b).drop (a.length+[c].length)=b:=by
   rw [←ako];simp
  rw [hb];simp
theorem fc (c:UInt8):∀(l:List UInt8),(aW c l).length≤l.length+1
 | []=>by simp [aW]
 | x::l=>by
  have ih:=fc c l;simp only [aW];split
  ·simp;omega
  ·generalize aW c l=s at ih
   cases s<;>simp [GU] at ih ⊢<;>omega
theorem wd (s:ByteArray):aA 1 [T s]=some (.arr 1 [T s]):=by simp [aA,kx]
theorem sE (l:List ByteArray):cR (.arr 1 (l.map T))=some (.arr 1 (l.map T)):=qg fun _=>rfl
theorem ga (s:ByteArray) (c:UInt8) (h:s.size≤4294967296):ce [T s,U c.toNat]=some (.ret [.arr 1 ((aC c s).map T)] []):=by
 rw [OG]
 let mk:List UInt8→ByteArray:=fun l=>⟨l.toArray⟩
 refine bL (fun r=>r=_) (fun(a:List (List UInt8) × Nat × Nat)=>[T s,U c.toNat,.arr 1 ((a.1.map mk).map T),I (a.2.1:Int),I (a.2.2:Int)])
  (fun a=>a.2.2≤s.size∧a.2.1≤a.2.2∧a.1.length≤a.2.2∧aW c ((ae s).take a.2.2)=a.1++[((ae s).take a.2.2).drop a.2.1])
  (fun a=>s.size - a.2.2) (fun o=>∃(outs:List (List UInt8)) (fr:Nat),o = .ext 0 [T s,.arr 1 ((outs.map mk).map T),I (fr:Int)]∧fr≤s.size∧outs.length≤s.size∧aW c (ae s)=outs++[(ae s).drop fr])
  ?_ ([],0,0) ⟨ajS _,ajt _,ajt _,by simp [aW]⟩ rfl ?_
 ·rintro⟨outs,fr,i⟩ ⟨h1,h2,h3,h4⟩
  simp only at h1 h2 h3 h4;by_cases hi:i<s.size
  ·left
   have hl:i<(ae s).length:=by rw [←cZ];exact hi
   have hi':(i:Int)<(s.size:Int):=by omega
   have hw:aiV.wrap ((i:Int)+1)=((i+1:Nat):Int):=by rw [ah (by omega) (by omega)];omega
   have hch:kA (T s) (I (i:Int))=some (U ((ae s)[i].toNat:Int)):=by
    rw [oO,aje hl];rfl
   have htk:(ae s).take (i+1)=(ae s).take i++[(ae s)[i]]:=ai3 hl;have hdr:((ae s).take i++[(ae s)[i]]).drop fr=((ae s).take i).drop fr++[(ae s)[i]]:=by
    rw [ajy (by rw [ajb];omega)]
   by_cases hc:(ae s)[i]=c
   ·refine⟨(outs++[((ae s).take i).drop fr],i+1,i+1),?_,⟨by simp only;omega,ajt _,by simp;omega,?_⟩,by simp only;omega⟩
    ·have hsl:=acM (s:=s) (z:=0) (i:=fr) (j:=i) h2 (by omega)
     have hmk:mk (((ae s).take i).drop fr)=s.extract fr i:=bP (by rw [fa];exact cS _);have hap:(outs.length+1)*16≤140737488355328∧outs.length+1≤1152921504606846976:=by omega
     have e2:(outs++[((ae s).take i).drop fr]).map mk=outs.map mk++[s.extract fr i]:=by rw [ai7,ai9,aja,hmk]
     have e1:((outs.map mk).map T).length+[T (s.extract fr i)].length=outs.length+1:=by simp
     have hck:cR (.arr 1 [T (s.extract fr i)])=some (.arr 1 [T (s.extract fr i)]):=sE [s.extract fr i];simp only [ak,aE,dV,aiT,bg,hi',decide_true,aH,if_true,hch,fi,hc,hsl,wd,hck,gH,e1,hap,and_self,bv,hw,e2,ai7,ai9,aja]
    ·have:=mZ c (ae s)[i] _ _ _ h4
     rw [if_pos hc,←htk] at this;simp only;have hz:((ae s).take (i+1)).drop (i+1)=[]:=ajq (by rw [ajb];omega);rw [this,hz]
   ·refine⟨(outs,fr,i+1),?_,⟨by simp only;omega,by simp only;omega,by simp only;omega,?_⟩,by simp only;omega⟩
    ·have hne:¬((ae s)[i].toNat:Int)=(c.toNat:Int):=fun e=>hc (ajF.1 (by omega))
     simp only [ak,aE,dV,aiT,bg,hi',decide_true,aH,if_true,hch,fi,hne,decide_false,aiU,if_false,bv,hw]
    ·have:=mZ c (ae s)[i] _ _ _ h4
     rw [if_neg hc,←htk] at this;simp only;rw [this,htk,hdr]
  ·right
   have hi':¬(i:Int)<(s.size:Int):=by omega
   have hie:i=s.size:=by omega
   refine⟨_,?_,rfl,outs,fr,rfl,by omega,by omega,?_⟩
   ·simp only [ak,aE,dV,aiT,bg,hi',decide_false,aH,aiU,if_false]
   ·rw [hie,cZ,akj] at h4
    exact h4
 ·rintro o ⟨outs,fr,rfl,h1,h2,h3⟩
  have hsl:=Gn (s:=s) (z:=0) (i:=fr) h1;have hmk:mk ((ae s).drop fr)=s.extract fr s.size:=bP (by rw [fa,cZ,akj];exact cS _);have hap:(outs.length+1)*16≤140737488355328∧outs.length+1≤1152921504606846976:=by omega
  have e1:((outs.map mk).map T).length+[T (s.extract fr s.size)].length=outs.length+1:=by simp
  have hck:cR (.arr 1 [T (s.extract fr s.size)])=some (.arr 1 [T (s.extract fr s.size)]):=sE [s.extract fr s.size];have e2:aC c s=outs.map mk++[s.extract fr s.size]:=by rw [aC,h3,ai7,ai9,aja];exact congrArg _ (congrArg (fun x=>[x]) hmk)
  simp only [bF,ai5,ep,if_true,ak,aE,hsl,aiT,wd,hck,gH,e1,hap,and_self,e2,ai7,ai9,aja]
def dig (b:UInt8):Bool:=decide (48≤b.toNat)&&decide (b.toNat≤57)
theorem pI {b:UInt8}:dig b=true↔48≤b.toNat∧b.toNat≤57:=by simp [dig]
theorem iI {u:Nat} (h:u<10):(ajs (48+u)).toNat=48+u:=by
 simp;omega
theorem Te {u:Nat} (h:u<10):dig (ajs (48+u))=true:=by
 rw [pI,iI h];omega
theorem ij {u:Nat} (h:¬u<10):ai1 u=ai1 (u / 10)++[ajs (48+u % 10)]:=by rw [ai1,dif_neg h]
theorem lY {P:Nat→Prop} (h0:∀u,u<10→P u) (h1:∀u,¬u<10→P (u / 10)→P u):∀u,P u:=by
 intro u;induction u using Nat.strongRecOn with
 | _ u ih =>
  by_cases h:u<10
  ·exact h0 u h
  ·exact h1 u h (ih (u / 10) (by omega))
theorem po:∀u,∀b∈ai1 u,dig b=true:=by
 refine lY (fun u h b hb=>?_) (fun u h ih b hb=>?_)
 ·rw [ajc h] at hb
  rw [ajH.1 hb];exact Te h
 ·rw [ij h] at hb
  rcases ajN.1 hb with hb | hb
  ·exact ih b hb
  ·rw [ajH.1 hb]
   exact Te (aj7 u (show 10>0 by decide))
theorem kQ:∀u,ai1 u≠[]:=by
 refine lY (fun u h=>?_) (fun u h ih=>?_)
 ·rw [ajc h];simp
 ·rw [ij h];simp
theorem Al:∀u,0<u→∀b t,ai1 u=b::t→b≠48:=by
 refine lY (fun u h h0 b t e=>?_) (fun u h ih h0 b t e=>?_)
 ·rw [ajc h] at e
  obtain⟨rfl,_⟩:=akc e;intro e2;have:=congrArg UInt8.toNat e2;rw [iI h] at this;have h48:(48:UInt8).toNat=48:=rfl;omega
 ·rw [ij h] at e
  cases hd:ai1 (u / 10) with
  | nil=>exact absurd hd (kQ _)
  | cons b' t' =>
   rw [hd,ajh] at e;obtain⟨rfl,_⟩:=akc e;exact ih (by omega) _ _ hd
def nh (a:Nat) (l:List UInt8):Nat:=l.foldl (fun a b=>a*10+(b.toNat - 48)) a
theorem Xc:∀u,nh 0 (ai1 u)=u:=by
 refine lY (fun u h=>?_) (fun u h ih=>?_)
 ·rw [ajc h]
  simp only [nh,aj0,aj5,iI h];omega
 ·rw [ij h]
  simp only [nh] at ih ⊢;rw [ajV,ih];simp only [aj0,aj5,iI (aj7 u (show 10>0 by decide))];omega
theorem HB:∀(l r:List UInt8) (a b:Nat),ajk a l = .ok b→ajk a (l++r)=ajk b r
 | [],r,a,b,h=>by
  simp only [ajk] at h;injection h with h;subst h;rfl
 | c::l,r,a,b,h=>by
  simp only [ajk] at h;rw [ajh];simp only [ajk];split at h
  ·rename_i h1
   rw [if_pos h1];split at h
   ·cases h
   ·rename_i h2
    rw [if_neg h2];split at h
    ·cases h
    ·rename_i h3
     rw [if_neg h3];exact HB l r _ b h
  ·cases h
theorem Tq:∀u,u<1844674407370955162→ajk 0 (ai1 u) = .ok u:=by
 refine lY (fun u h hu=>?_) (fun u h ih hu=>?_)
 ·rw [ajc h]
  simp only [ajk,iI h];rw [if_pos (by omega),if_neg (by omega),if_neg (by omega)];congr 1
  omega
 ·have h10:=iI (aj7 u (show 10>0 by decide))
  rw [ij h,HB _ _ _ _ (ih (by omega))];simp only [ajk,h10];rw [if_pos (by omega),if_neg (by omega),if_neg (by omega)];congr 1
  omega
theorem WX {u:Nat} (h:u<1844674407370955162):ajx (ai1 u) = .ok (u:Int):=by
 have hp:=Tq u h;cases hd:ai1 u with
 | nil=>exact absurd hd (kQ u)
 | cons c r =>
  have hc:=pI.1 (po u c (by rw [hd];simp));rw [hd] at hp;unfold ajx;simp only;rw [if_neg (by omega)];unfold Lib.parseMag;rw [if_neg (by simp),hp];simp only;have h45:¬c.toNat=45:=by omega
  rw [if_neg (by omega),if_neg (by simp [h45]),if_neg h45]
def XL (b:UInt8):Bool:=tb b.toNat
theorem Gp (b:UInt8):XL b = !dig b:=by
 simp only [XL,tb,dig];by_cases h1:b.toNat<48<;>by_cases h2:57<b.toNat<;>simp [h1,h2]<;>omega
def pf:Option (List UInt8)→List UInt8→List (List UInt8)
 | none,[]=>[]
 | some c,[]=>[c]
 | none,b::l=>if XL b=true then pf none l else pf (some [b]) l
 | some c,b::l=>if XL b=true then c::pf none l else pf (some (c++[b])) l
theorem OZ:∀{w:List UInt8} (c l:List UInt8),(∀b∈w,dig b=true)→pf (some c) (w++l)=pf (some (c++w)) l
 | [],c,l,_=>by simp
 | x::w,c,l,h=>by
  rw [ajh];simp only [pf];rw [if_neg (by rw [Gp,h x (by simp)];simp),OZ (c++[x]) l fun b hb=>h b (by simp [hb])];simp
theorem rU {w:List UInt8} (hn:w≠[]) (h:∀b∈w,dig b=true) {x:UInt8} (hx:dig x=false) (l:List UInt8):pf none (w++x::l)=w::pf none l:=by
 cases w with
 | nil=>exact absurd rfl hn
 | cons y w =>
  rw [ajh];simp only [pf];rw [if_neg (by rw [Gp,h y (by simp)];simp),OZ [y] _ fun b hb=>h b (by simp [hb])];simp only [pf];rw [if_pos (by rw [Gp,hx];rfl)];rfl
theorem SC {w:List UInt8} (hn:w≠[]) (h:∀b∈w,dig b=true):pf none w=[w]:=by
 cases w with
 | nil=>exact absurd rfl hn
 | cons y w =>
  simp only [pf];rw [if_neg (by rw [Gp,h y (by simp)];simp)];have:=OZ (w:=w) [y] [] fun b hb=>h b (by simp [hb])
  rw [List.append_nil] at this;rw [this];rfl
theorem TV (s:ByteArray) (hs:∀b∈ae s,b.toNat<128):∀(f pos:Nat) (st:Option Nat) (acc:List (Nat × Nat)),s.size≤pos+f→pos≤s.size→(∀a,st=some a→a<pos) →
  (ajA s (aju tb s f pos st acc)).map (fun x=>ae (s.extract x.1 x.2))=acc.map (fun x=>ae (s.extract x.1 x.2))++pf (st.map fun a=>((ae s).take pos).drop a) ((ae s).drop pos):=by
 intro f;induction f with
 | zero =>
  intro pos st acc h1 h2 h3;have hp:pos=s.size:=by omega
  have hd:(ae s).drop pos=[]:=ajq (by rw [←cZ];omega);rw [hd];cases st with
  | none=>simp [aju,ajA,pf]
  | some a=>simp only [aju,ajA,pf,aiW,ai7,ai9,aja,fa,hp]
 | succ f ih =>
  intro pos st acc h1 h2 h3;by_cases hp:pos<s.size
  case neg =>
   have hpe:pos=s.size:=by omega
   have hd:(ae s).drop pos=[]:=ajq (by rw [←cZ];omega);rw [hd,Lib.spansFromP_end _ _ _ _ _ _ hp];cases st with
   | none=>simp [ajA,pf]
   | some a=>simp only [ajA,pf,aiW,ai7,ai9,aja,fa,hpe]
  have hl:pos<(ae s).length:=by rw [←cZ];exact hp
  have hb:(ae s)[pos].toNat<128:=hs _ (ai6 hl);have hdec:aki s pos=((ae s)[pos].toNat,1):=decode_ascii s pos hp hb;have hcons:(ae s).drop pos=(ae s)[pos]::(ae s).drop (pos+1):=ajX hl;have htk:(ae s).take (pos+1)=(ae s).take pos++[(ae s)[pos]]:=ai3 hl;rw [hcons];unfold aju;rw [if_pos hp,hdec];simp only;by_cases hsep:tb (ae s)[pos].toNat=true
  ·rw [if_pos hsep]
   cases st with
   | none =>
    simp only [ajG,pf];rw [if_pos (show XL _=true from hsep)];exact ih (pos+1) none acc (by omega) (by omega) (by simp)
   | some a =>
    simp only [aiW,pf];rw [if_pos (show XL _=true from hsep),ih (pos+1) none (acc++[(a,pos)]) (by omega) (by omega) (by simp)];simp only [ai7,ai9,aja,List.append_assoc,fa,ajG,ajh,ajj]
  ·rw [if_neg hsep]
   cases st with
   | none =>
    simp only [ajG,pf];rw [if_neg (show ¬XL _=true from hsep),ih (pos+1) (some pos) acc (by omega) (by omega) (by intro a ha;cases ha;omega)];simp only [aiW];rw [htk,ajy (by rw [ajb];omega),ajq (by rw [ajb];omega)];rfl
   | some a =>
    have ha:=h3 a rfl;simp only [aiW,pf];rw [if_neg (show ¬XL _=true from hsep),ih (pos+1) (some a) acc (by omega) (by omega) (by intro a' ha';cases ha';omega)];simp only [aiW];rw [htk,ajy (by rw [ajb];omega)]
theorem Iq (s:ByteArray) (hs:∀b∈ae s,b.toNat<128):(ajp tb s).map ae=pf none (ae s):=by
 have:=TV s hs s.size 0 none [] (by omega) (ajS _) (by simp);simpa [ajp,Lib.spansOfP,ajz,Function.comp_def] using this
def qX:List ByteArray→List Int→List Int
 | [],acc=>acc
 | w::l,acc=>match ajx (ae w) with
  | .ok v=>qX l (acc++[v])
  | _=>[]
def fv (s:ByteArray):List Int:=qX (ajp tb s) []
abbrev oo (l:List Int):D:=.arr 1 (l.map I)
theorem nN (p:Nat→Bool) (s:ByteArray):∀(f pos:Nat) (st:Option Nat) (acc:List (Nat × Nat)),(aju p s f pos st acc).1.length≤acc.length+f
 | 0,pos,st,acc=>by simp [aju]
 | f+1,pos,st,acc=>by
  unfold aju;by_cases hp:pos<s.size
  case neg =>
   rw [if_neg hp];exact Nat.le_add_right _ _
  rw [if_pos hp];by_cases hq:p (aki s pos).1=true
  ·rw [if_pos hq]
   cases st with
   | none=>exact ajI (nN p s f _ none acc) (by omega)
   | some a =>
    have h:=nN p s f (pos+(aki s pos).2) none (acc++[(a,pos)]);rw [ajT,List.length_singleton] at h;exact ajI h (by omega)
  ·rw [if_neg hq]
   cases st with
   | none=>exact ajI (nN p s f _ _ acc) (by omega)
   | some a=>exact ajI (nN p s f _ _ acc) (by omega)
theorem Dw (p:Nat→Bool) (s:ByteArray):(ajp p s).length≤s.size+1:=by
 unfold ajp Lib.spansOfP;rw [aiX];have:=nN p s s.size 0 none [];unfold ajA;split
 ·simp only [ajT,ajY,akl] at this ⊢;omega
 ·simp only [akl] at this;omega
theorem XK (p:Nat→Bool) (s:ByteArray):∀w∈ajp p s,w.size≤s.size:=by
 intro w hw;unfold ajp at hw;obtain⟨x,_,rfl⟩:=ajJ.1 hw;rw [cZ,fa,List.length_drop,ajb,←cZ];omega
theorem Vg (s:ByteArray) (k:Nat) (p:Nat→Bool) (h:s.size≤4294967296):mS k p [T s,.clo k []]=some (.ret [.arr 1 ((ajp p s).map T)] []):=by
 simp only [mS,h,and_self,if_true]
theorem afh (a:Int):aA 1 [I a]=some (oo [a]):=by simp [aA,kx]
theorem kX (l:List Int):cR (oo l)=some (oo l):=qg fun _=>rfl
theorem acL (w:ByteArray) (h:w.size≤4294967296):HP [T w]=some (match ajx (ae w) with
  | .ok v=>Out.ret [I v,.v .nilIface] []
  | .range=>Out.ret [I (Lib.atoiSat (ae w)),.ifc] []
  | _=>Out.ret [I 0,.ifc] []):=by
 have h2:w.size≤281474976710656:=by omega
 simp only [HP,h2,if_true];rw [show w.data.toList=ae w from rfl];cases ajx (ae w)<;>rfl
theorem kJ (s:ByteArray) (h:s.size≤1048576):fQ [T s]=some (.ret [oo (fv s)] []):=by
 rw [Jz];have hl:=Dw tb s;have hz:=XK tb s;rw [Vg s _ tb (by omega)];simp only [be,aiT,am,ak,aL,aiX];generalize hw:ajp tb s=ws at hl hz;have hnum:fv s=qX ws []:=by rw [fv,hw]
 rw [hnum];refine bL (fun r=>r=_) (fun(a:List Int × Nat)=>[oo a.1,.arr 1 (ws.map T),I ws.length,I (a.2:Int)]) (fun a=>a.2≤ws.length∧a.1.length≤a.2∧qX (ws.drop a.2) a.1=qX ws [])
  (fun a=>ws.length - a.2) (fun o=>o = .ext 0 [oo (qX ws [])]∨o = .ret [oo (qX ws [])] []) ?_ ([],0) ⟨ajS _,ajt _,rfl⟩ rfl ?_
 ·rintro⟨acc,i⟩ ⟨h1,h2,h3⟩
  simp only at h1 h2 h3;by_cases hi:i<ws.length
  ·have hi':(i:Int)<(ws.length:Int):=by omega
   have hw:aiV.wrap ((i:Int)+1)=((i+1:Nat):Int):=by rw [ah (by omega) (by omega)];omega
   have hat:=acL ws[i] (by have:=hz ws[i] (ai6 hi);omega);have hel:aq 1 (.arr 1 (ws.map T)) (I (i:Int))=some [T ws[i]]:=by simp [hi]
   rw [ajX hi] at h3;simp only [qX] at h3;cases ha:ajx (ae ws[i]) with
   | ok v =>
    rw [ha] at h3 hat
    left
    refine⟨(acc++[v],i+1),?_,⟨by simp only;omega,by simp;omega,h3⟩,by simp only;omega⟩
    have e1:(acc.map I).length+([v].map I).length=acc.length+1:=by simp
    have hap:(acc.length+1)*8≤140737488355328∧acc.length+1≤1152921504606846976:=by omega
    simp only [ak,aE,aiT,bg,hi',decide_true,aH,if_true,hel,aiW,bn,aR,bJ,hat,am,show ao (.tup [I v,.v .nilIface]) 0=some (I v) from rfl,
     show ao (.tup [I v,.v .nilIface]) 1=some (.v .nilIface) from rfl,show ZF true akr (.v .nilIface) (.v .nilIface)=some (B false) from rfl,aiU,if_false,afh,kX,gH,e1,hap,and_self,bv,hw]
    rw [←ai7]
   | range =>
    rw [ha] at h3 hat
    right
    refine⟨.ret [oo []] [],?_,rfl,.inr (by rw [←h3])⟩
    simp only [ak,aE,aiT,bg,hi',decide_true,aH,if_true,hel,aiW,bn,aR,bJ,hat,am,show ∀n:Int,ao (.tup [I n,.ifc]) 0=some (I n) from fun _=>rfl,
     show ∀n:Int,ao (.tup [I n,.ifc]) 1=some .ifc from fun _=>rfl,show ZF true akr .ifc (.v .nilIface)=some (B true) from rfl,be]
    rfl
   | _ =>
    rw [ha] at h3 hat
    right
    refine⟨.ret [oo []] [],?_,rfl,.inr (by rw [←h3])⟩
    simp only [ak,aE,aiT,bg,hi',decide_true,aH,if_true,hel,aiW,bn,aR,bJ,hat,am,show ao (.tup [I 0,.ifc]) 0=some (I 0) from rfl,
     show ao (.tup [I 0,.ifc]) 1=some .ifc from rfl,show ZF true akr .ifc (.v .nilIface)=some (B true) from rfl,be]
    rfl
  ·right
   have hi':¬(i:Int)<(ws.length:Int):=by omega
   refine⟨.ext 0 [oo acc],?_,rfl,.inl ?_⟩
   ·simp only [ak,aE,aiT,bg,hi',decide_false,aH,aiU,if_false]
   ·rw [ajq (by omega)] at h3
    rw [←h3];rfl
 ·rintro o (rfl | rfl)
  ·simp only [bF,ai5,ep,if_true,ak]
  ·rfl
def EC (l:List UInt8):Int :=
 if (1≤l.length∧l.length≤6)∧¬(l.head?=some 48∧1<l.length)∧l.all dig=true then(nh 0 l:Int) else -1
def bY (s:ByteArray):Int:=EC (ae s)
theorem Cq (l:List UInt8) (x:UInt8) (a:Nat):nh a (l++[x])=nh a l*10+(x.toNat - 48):=by simp [nh,ajV]
theorem UB:∀(n:Nat) (l:List UInt8),l.length=n→(∀b∈l,dig b=true)→nh 0 l<10 ^ n:=by
 intro n;induction n with
 | zero =>
  intro l hl _;rw [List.eq_nil_of_length_eq_zero hl];decide
 | succ n ih =>
  intro l hl hd;have hne:l≠[]:=fun e=>by rw [e] at hl;simp at hl
  have hsp:=ajR hne;have h1:=ih l.dropLast (by rw [aj8];omega) fun b hb=>hd b ((aj6 l).subset hb)
  have h2:=pI.1 (hd _ (List.getLast_mem hne));rw [←hsp,Cq,ake];omega
theorem fN (s:ByteArray) (h:s.size≤4294967296):eB [T s]=some (.ret [I (bY s)] []):=by
 rw [QL];have hsz:s.size=(ae s).length:=rfl;by_cases h1:1≤(s.size:Int)∧(s.size:Int)≤6
 case neg =>
  have hr:bY s = -1:=by
   unfold bY EC;rw [if_neg (by rintro⟨⟨g1,g2⟩,_⟩;exact h1 (by omega))]
  rw [hr];simp -implicitDefEqProofs [br,h1]
 have hpos:0<(ae s).length:=by omega
 have hch0:kA (T s) (I 0)=some (U ((ae s)[0].toNat:Int)):=by
  have:=oO (s:=s) (k:=.i64) (i:=0);rw [aje hpos] at this;exact this
 have hhead:(ae s).head?=some (ae s)[0]:=by rw [aj3,aje hpos]
 have h48:(48:UInt8).toNat=48:=rfl;have hc48:((ae s)[0].toNat:Int)=48↔(ae s)[0]=48:=⟨fun e=>ajF.1 (by omega),fun e=>by rw [e];rfl⟩
 by_cases h2:(ae s)[0]=48∧1<(ae s).length
 ·have hr:bY s = -1:=by
   unfold bY EC;rw [if_neg (by rintro⟨_,g,_⟩;exact g ⟨by rw [hhead,h2.1],h2.2⟩)]
  have hl:(1:Int)<(s.size:Int):=by omega
  have hc:=hc48.2 h2.1;rw [hr];simp -implicitDefEqProofs [br,h1,hch0,hc,hl]
 have hgo:∀(K:D→Option Out),((bin BinOp.eql false [] (U ((ae s)[0].toNat:Int)) (D.v (aj1 ajM 48))).bind fun z_3=>(aj (D.tup []) (B false) false (some z_3)).bind fun z_4=>(aj (D.tup []) z_4 true (some (T s))).bind fun z_5 =>
   (aj (D.tup []) z_4 true (lenD true z_5)).bind fun z_6=>(aj (D.tup []) z_4 true (bin BinOp.gtr false [] z_6 (D.v (aj1 aiV 1)))).bind fun z_7=>(aj (D.tup []) (B false) false (aS z_4 z_7 (D.v (Value.bool false)))).bind K)=K (B false):=by
  intro K;by_cases e:((ae s)[0].toNat:Int)=48
  ·have:¬(1:Int)<(s.size:Int):=fun hl=>h2 ⟨hc48.1 e,by omega⟩
   simp -implicitDefEqProofs [e,this]
  ·simp -implicitDefEqProofs [e]
 simp only [dV,aiT,br,h1,and_self,decide_true,am,ak,bj,aiZ,bH,aiU,if_false,hch0];have hgo':=hgo;simp only [bH,aiU,if_false,aiT] at hgo';rw [hgo'];simp only [aP,aiU,if_false,aiT,aH];refine bL (fun r=>r=_) (fun(a:Nat × Nat)=>[T s,I (a.1:Int),I (a.2:Int)]) (fun a=>a.2≤s.size∧a.1=nh 0 ((ae s).take a.2)∧∀b∈(ae s).take a.2,dig b=true) (fun a=>s.size - a.2)
  (fun o=>o=if (ae s).all dig=true then .ext 0 [I (nh 0 (ae s):Int)] else .ret [I (-1)] []) ?_ (0,0) ⟨ajS _,rfl,by simp⟩ rfl ?_
 ·rintro⟨n,i⟩ ⟨g1,g2,g3⟩
  simp only at g1 g2 g3;by_cases hi:i<s.size
  ·have hl:i<(ae s).length:=by rw [←hsz];exact hi
   have hi':(i:Int)<(s.size:Int):=by omega
   have hch:kA (T s) (I (i:Int))=some (U ((ae s)[i].toNat:Int)):=by
    rw [oO,aje hl];rfl
   have htk:(ae s).take (i+1)=(ae s).take i++[(ae s)[i]]:=ai3 hl;by_cases hd:dig (ae s)[i]=true
   ·left
    have hd':=pI.1 hd;have hn:n<10 ^ i:=by
     rw [g2];exact UB i _ (by rw [ajb];omega) g3
    have h10:10 ^ i≤10 ^ 6:=aj9 (by decide) (by omega);have hw:aiV.wrap ((i:Int)+1)=((i+1:Nat):Int):=by rw [ah (by omega) (by omega)];omega
    have hw1:aiV.wrap (10*(n:Int))=10*(n:Int):=ah (by omega) (by omega);have hw2:ajM.wrap (((ae s)[i].toNat:Int) - 48)=((ae s)[i].toNat:Int) - 48:=aah _ (by omega) (by omega);have hw3:aiV.wrap (((ae s)[i].toNat:Int) - 48)=((ae s)[i].toNat:Int) - 48:=ah (by omega) (by omega);have hw4:aiV.wrap (10*(n:Int)+(((ae s)[i].toNat:Int) - 48))=((n*10+((ae s)[i].toNat - 48):Nat):Int):=by rw [ah (by omega) (by omega)];omega
    have c1:¬((ae s)[i].toNat:Int)<48:=by omega
    have c2:¬(57:Int)<((ae s)[i].toNat:Int):=by omega
    refine⟨(n*10+((ae s)[i].toNat - 48),i+1),?_,⟨by simp only;omega,?_,?_⟩,by simp only;omega⟩
    ·simp only [ak,aE,dV,aiT,bg,hi',decide_true,aH,if_true,hch,c1,decide_false,bH,aiU,if_false,eY,c2,aP,eG,hw1,cq,hw2,oz,hw3,bv,hw4,hw]
    ·simp only
     rw [htk,Cq,g2]
    ·simp only
     rw [htk];intro b hb;rcases ajN.1 hb with hb | hb
     ·exact g3 b hb
     ·rw [ajH.1 hb];exact hd
   ·right
    refine⟨.ret [I (-1)] [],?_,rfl,?_⟩
    ·by_cases c1:((ae s)[i].toNat:Int)<48
     ·simp -implicitDefEqProofs [hi',hch,c1]
     ·have c2:(57:Int)<((ae s)[i].toNat:Int):=by
       have:¬(48≤(ae s)[i].toNat∧(ae s)[i].toNat≤57):=fun e=>hd (pI.2 e)
       omega
      simp -implicitDefEqProofs [hi',hch,c1,c2]
    ·rw [if_neg]
     intro hall;exact hd (ajn.1 hall _ (ai6 hl))
  ·right
   have hi':¬(i:Int)<(s.size:Int):=by omega
   have hie:(ae s).take i=ae s:=aj4 (by omega);rw [hie] at g2 g3;refine⟨.ext 0 [I (n:Int)],?_,rfl,?_⟩
   ·simp -implicitDefEqProofs [hi']
   ·rw [if_pos (ajn.2 g3),g2]
 ·rintro o rfl
  by_cases ha:(ae s).all dig=true
  ·have hr:bY s=(nh 0 (ae s):Int):=by
    unfold bY EC;rw [if_pos ⟨⟨by omega,by omega⟩,fun g=>h2 ⟨by have:=g.1;rw [hhead] at this;exact akm this,g.2⟩,ha⟩]
   rw [if_pos ha,hr];rfl
  ·have hr:bY s = -1:=by
    unfold bY EC;rw [if_neg (fun g=>ha g.2.2)]
   rw [if_neg ha,hr];rfl
theorem Re {u:Nat} (h:u<1000000):(ai1 u).length≤6:=vS 5 u (by omega)
theorem abI {u:Nat} (h:u<1000000):EC (ai1 u)=(u:Int):=by
 have h1:=kQ u;have h2:=Re h;have h3:1≤(ai1 u).length:=ajD.2 h1;have hno:¬((ai1 u).head?=some 48∧1<(ai1 u).length):=by
  rintro⟨g1,g2⟩;by_cases hu:0<u
  ·cases hd:ai1 u with
   | nil=>exact h1 hd
   | cons b t =>
    rw [hd] at g1;exact Al u hu b t hd (by simpa using g1)
  ·have:u=0:=by omega
   subst this;rw [ajc (by decide)] at g2;simp at g2
 unfold EC;rw [if_pos ⟨⟨h3,h2⟩,hno,ajn.2 (po u)⟩,Xc]
theorem jl (n:Int) (h:0≤n):ae (aI n)=ai1 n.toNat:=by
 obtain⟨u,rfl⟩:=ai4 h;rw [NY];exact cS _
theorem oU {n:Int} (h0:0≤n) (h1:n<1000000):bY (aI n)=n:=by
 unfold bY;rw [jl n h0,abI (by omega)];omega
theorem acV {n:Int} (h0:0≤n) (h1:n<1000000):ajx (ae (aI n)) = .ok n:=by
 rw [jl n h0,WX (by omega)];congr 1
 omega
theorem gq {n:Int} (h0:0≤n):ae (aI n)≠[]∧∀b∈ae (aI n),dig b=true:=by
 rw [jl n h0];exact⟨kQ _,po _⟩
theorem Fz {b:UInt8} (h:dig b=true):b.toNat<128:=by
 have:=pI.1 h;omega
theorem acl {s:ByteArray} (hs:∀b∈ae s,b.toNat<128) {ns:List Int} (hn:∀n∈ns,0≤n∧n<1000000) (h:pf none (ae s)=ns.map fun n=>ae (aI n)):fv s=ns:=by
 unfold fv;have hf:=Iq s hs;rw [h] at hf;have key:∀(ws:List ByteArray) (ns:List Int) (acc:List Int),(∀n∈ns,0≤n∧n<1000000)→ws.map ae=ns.map (fun n=>ae (aI n))→qX ws acc=acc++ns:=by
  intro ws;induction ws with
  | nil =>
   intro ns acc _ e;cases ns with
   | nil=>simp [qX]
   | cons _ _=>simp at e
  | cons w ws ih =>
   intro ns acc hn e;cases ns with
   | nil=>simp at e
   | cons n ns =>
    rw [ai9,ai9,ajE] at e;have hr:=hn n (by simp);simp only [qX];rw [e.1,acV hr.1 hr.2];simp only;rw [ih ns (acc++[n]) (fun m hm=>hn m (by simp [hm])) e.2];simp
 simpa using key _ ns [] hn hf
theorem nP {b:UInt8} {l:List UInt8} (h:∀x∈l,dig x=true) (hb:dig b=false):b∉l:=fun hm=>by rw [h b hm] at hb;cases hb
theorem fL (c:UInt8) (s:ByteArray):∀w∈aC c s,w.size≤s.size:=by
 intro w hw;unfold aC at hw;obtain⟨l,hl,rfl⟩:=ajJ.1 hw;have key:∀(m:List UInt8),∀l∈aW c m,l.length≤m.length:=by
  intro m;induction m with
  | nil=>intro l hl;simp [aW] at hl;simp [hl]
  | cons x m ih =>
   intro l hl;simp only [aW] at hl;split at hl
   ·rcases ajl.1 hl with rfl | hl
    ·simp
    ·have:=ih l hl
     simp;omega
   ·generalize hs:aW c m=t at hl ih
    cases t with
    | nil=>exact absurd hs (dv c m)
    | cons y t =>
     simp only [GU] at hl;rcases ajl.1 hl with rfl | hl
     ·have:=ih y (by simp)
      simp;omega
     ·have:=ih l (by simp [hl])
      simp;omega
 have:=key _ l hl;rw [cZ,cS];exact this
theorem fb (c:UInt8) (s:ByteArray):(aC c s).length=(aW c (ae s)).length:=by simp [aC]
def ex (c:UInt8):List (List UInt8)→List UInt8
 | []=>[]
 | [a]=>a
 | a::b::l=>a++c::ex c (b::l)
theorem HN {c:UInt8}:∀(ws:List (List UInt8)),ws≠[]→(∀w∈ws,c∉w)→aW c (ex c ws)=ws
 | [],h,_=>absurd rfl h
 | [a],_,h=>ko (h a (by simp))
 | a::b::l,_,h=>by
  have hj:ex c (a::b::l)=a++c::ex c (b::l):=rfl;rw [hj,fq (h a (by simp)),HN (b::l) (by simp) fun w hw=>h w (by simp [hw])]
theorem nJ (c:UInt8):∀(l:List UInt8),ex c (aW c l)=l
 | []=>rfl
 | x::l=>by
  have ih:=nJ c l;simp only [aW];split
  ·rename_i hx
   cases hs:aW c l with
   | nil=>exact absurd hs (dv c l)
   | cons y t =>
    rw [hs] at ih;have:ex c ([]::y::t)=[]++c::ex c (y::t):=rfl;rw [this,ih,hx];rfl
  ·cases hs:aW c l with
   | nil=>exact absurd hs (dv c l)
   | cons y t =>
    rw [hs] at ih;cases t with
    | nil =>
     have e:ex c [y]=y:=rfl;rw [e] at ih;show x::y=x::l
     rw [ih]
    | cons z t =>
     have e:ex c (y::z::t)=y++c::ex c (z::t):=rfl;rw [e] at ih;show(x::y)++c::ex c (z::t)=x::l
     rw [←ih];rfl
theorem Ns {c:UInt8} (hc:dig c=false):∀(ws:List (List UInt8)),(∀w∈ws,w≠[]∧∀b∈w,dig b=true)→pf none (ex c ws)=ws
 | [],_=>rfl
 | [a],h=>SC (h a (by simp)).1 (h a (by simp)).2
 | a::b::l,h=>by
  have hj:ex c (a::b::l)=a++c::ex c (b::l):=rfl;rw [hj,rU (h a (by simp)).1 (h a (by simp)).2 hc,Ns hc (b::l) fun w hw=>h w (by simp [hw])]
theorem Kl {c b:UInt8}:∀{ws:List (List UInt8)},b∈ex c ws→b=c∨∃w∈ws,b∈w
 | [],h=>by cases h
 | [a],h=>.inr ⟨a,by simp,h⟩
 | a::a'::l,h=>by
  have hj:ex c (a::a'::l)=a++c::ex c (a'::l):=rfl;rw [hj,ajN,ajl] at h;rcases h with h | h | h
  ·exact .inr ⟨a,by simp,h⟩
  ·exact .inl h
  ·rcases Kl h with h | ⟨w,hw,hb⟩
   ·exact .inl h
   ·exact .inr ⟨w,by simp only [ajl] at hw ⊢;exact .inr hw,hb⟩
theorem Ei:∀(n:Nat) (l:List UInt8),l.length=n+1→(∀b∈l,dig b=true)→(l.head?=some 48→n=0)→ai1 (nh 0 l)=l:=by
 intro n;induction n with
 | zero =>
  intro l hl hd _;obtain⟨x,rfl⟩:=List.length_eq_one_iff.1 hl;have hx:=pI.1 (hd x (by simp));have hv:nh 0 [x]=x.toNat - 48:=by simp [nh]
  rw [hv,ajc (by omega)];congr 1
  apply ajF.1;rw [iI (by omega)];omega
 | succ n ih =>
  intro l hl hd hz;have hne:l≠[]:=fun e=>by rw [e] at hl;simp at hl
  have hsp:=ajR hne;have hlen:l.dropLast.length=n+1:=by rw [aj8];omega
  have hne2:l.dropLast≠[]:=fun e=>by rw [e] at hlen;simp at hlen
  have hx:=pI.1 (hd _ (List.getLast_mem hne));have hhead:l.head?=l.dropLast.head?:=by
   conv=>lhs;rw [←hsp]
   cases h:l.dropLast with
   | nil=>exact absurd h hne2
   | cons a t=>rfl
  have h48:l.dropLast.head?≠some 48:=fun e=>by have:=hz (hhead.trans e);omega
  have hi:=ih l.dropLast hlen (fun b hb=>hd b ((aj6 l).subset hb)) fun e=>absurd e h48
  have hpos:1≤nh 0 l.dropLast:=by
   rcases akf 0 (nh 0 l.dropLast) with g | g
   ·exact g
   ·have h0:nh 0 l.dropLast=0:=by omega
    rw [h0,ajc (by decide)] at hi;rw [←hi] at h48;exact absurd rfl h48
  have hv:nh 0 l=nh 0 l.dropLast*10+((l.getLast hne).toNat - 48):=by
   conv=>lhs;rw [←hsp]
   exact Cq _ _ _
  rw [hv,ij (by omega)];have h1:(nh 0 l.dropLast*10+((l.getLast hne).toNat - 48)) / 10=nh 0 l.dropLast:=by omega
  have h2:(nh 0 l.dropLast*10+((l.getLast hne).toNat - 48)) % 10=(l.getLast hne).toNat - 48:=by omega
  rw [h1,h2,hi]
  conv=>rhs;rw [←hsp]
  congr 1
  congr 1
  apply ajF.1;rw [iI (by omega)];omega
theorem uJ {w:ByteArray} {n:Int} (h:bY w=n) (h0:0≤n):w=aI n:=by
 unfold bY EC at h;split at h
 ·rename_i hc
  obtain⟨⟨g1,g2⟩,g3,g4⟩:=hc;subst h;apply bP;rw [jl _ h0];have:((nh 0 (ae w):Int)).toNat=nh 0 (ae w):=by omega
  rw [this];refine(Ei ((ae w).length - 1) (ae w) (by omega) (ajn.1 g4) fun e=>?_).symm
  rcases akf 1 (ae w).length with g | g
  ·exact absurd ⟨e,g⟩ g3
  ·omega
 ·omega
def cj (c:UInt8) (ns:List Int):ByteArray:=⟨(ex c (ns.map fun n=>ae (aI n))).toArray⟩
def ads (ns:List Int):Prop:=∀n∈ns,0≤n∧n<1000000000000000000
theorem cJ (c:UInt8) (ns:List Int):ae (cj c ns)=ex c (ns.map fun n=>ae (aI n)):=cS _
theorem SD {n:Int} (h0:0≤n) (h1:n<1000000000000000000):ajx (ae (aI n)) = .ok n:=by
 rw [jl n h0,WX (by omega)];congr 1
 omega
theorem SU {s:ByteArray} (hs:∀b∈ae s,b.toNat<128) {ns:List Int} (hn:ads ns) (h:pf none (ae s)=ns.map fun n=>ae (aI n)):fv s=ns:=by
 unfold fv;have hf:=Iq s hs;rw [h] at hf;have key:∀(ws:List ByteArray) (ns:List Int) (acc:List Int),ads ns→ws.map ae=ns.map (fun n=>ae (aI n))→qX ws acc=acc++ns:=by
  intro ws;induction ws with
  | nil =>
   intro ns acc _ e;cases ns with
   | nil=>simp [qX]
   | cons _ _=>simp at e
  | cons w ws ih =>
   intro ns acc hn e;cases ns with
   | nil=>simp at e
   | cons n ns =>
    rw [ai9,ai9,ajE] at e;have hr:=hn n (by simp);simp only [qX];rw [e.1,SD hr.1 hr.2];simp only;rw [ih ns (acc++[n]) (fun m hm=>hn m (by simp [hm])) e.2];simp
 simpa using key _ ns [] hn hf
theorem afK {c:UInt8} {ns:List Int} (hc:dig c=false) (hb:c.toNat<128) (h:ads ns):fv (cj c ns)=ns:=by
 have hw:∀w∈ns.map (fun n=>ae (aI n)),w≠[]∧∀b∈w,dig b=true:=by
  intro w hw;obtain⟨n,hn,rfl⟩:=ajJ.1 hw;exact gq (h n hn).1
 refine SU (fun b hb'=>?_) h ?_
 ·rw [cJ] at hb'
  rcases Kl hb' with rfl | ⟨w,hw',hb'⟩
  ·exact hb
  ·exact Fz ((hw w hw').2 b hb')
 ·rw [cJ]
  exact Ns hc _ hw
theorem adw {c:UInt8} {ns:List Int} (hc:dig c=false) (hne:ns≠[]) (h:ads ns):aC c (cj c ns)=ns.map aI:=by
 unfold aC;rw [cJ,HN _ (by simpa using hne)]
 ·rw [ajz]
  refine ajQ fun n _=>?_
  exact nQ _
 ·intro w hw
  obtain⟨n,hn,rfl⟩:=ajJ.1 hw;exact nP (gq (h n hn).1).2 hc
structure Reads (rd:ByteArray→Int) (few:Int):Prop where
 le:few≤1000000000000000000
 of:∀n,0≤n→n<few→rd (aI n)=n
 canon:∀w,0≤rd w→w=aI (rd w)
section
variable {rd:ByteArray→Int} {few:Int} (hr:Reads rd few) {c:UInt8} (hc:dig c=false) (hb:c.toNat<128)
include hr hc
theorem aaA {ns:List Int} (hne:ns≠[]) (h:∀n∈ns,0≤n∧n<few):(aC c (cj c ns)).map rd=ns:=by
 rw [adw hc hne (fun n hn=>⟨(h n hn).1,Int.lt_of_lt_of_le (h n hn).2 hr.le⟩),ajz];have:ns.map (rd ∘ aI)=ns.map id:=ajQ fun n hn=>hr.of n (h n hn).1 (h n hn).2
 rw [this,akh]
omit hc in
theorem Zy {s:ByteArray} (h:∀n∈(aC c s).map rd,0≤n):cj c ((aC c s).map rd)=s:=by
 apply bP;rw [cJ,ajz];have e:(aC c s).map ((fun n=>ae (aI n)) ∘ rd)=(aC c s).map ae:=ajQ fun w hw=>by
  have:=hr.canon w (h _ (List.mem_map_of_mem hw));exact congrArg ae this.symm
 rw [e];have e2:(aC c s).map ae=aW c (ae s):=by
  unfold aC;rw [ajz];have:((ae ∘ fun l:List UInt8=>(⟨l.toArray⟩:ByteArray)))=id:=funext fun l=>cS l
  rw [this,akh]
 rw [e2,nJ]
end
def zT (c:UInt8) (k:Nat) (good:List Int→Bool) (s:ByteArray):Option (List Int) :=
 if (fv s).length=k∧good (fv s)=true∧cj c (fv s)=s then some (fv s) else none
def JE (rd:ByteArray→Int) (c:UInt8) (k:Nat) (good:List Int→Bool) (s:ByteArray):Option (List Int) :=
 if (aC c s).length=k∧good ((aC c s).map rd)=true then some ((aC c s).map rd) else none
section
variable {rd:ByteArray→Int} {few:Int} (hr:Reads rd few) {c:UInt8} (hc:dig c=false) (hb:c.toNat<128) {k:Nat} {good:List Int→Bool} (hg:∀ns,good ns=true→∀n∈ns,0≤n∧n<few)
include hr hc hg
include hb in
theorem WP {ns:List Int} (h:good ns=true) (hk:ns.length=k):zT c k good (cj c ns)=some ns:=by
 unfold zT;rw [afK hc hb fun n hn=>⟨(hg ns h n hn).1,Int.lt_of_lt_of_le (hg ns h n hn).2 hr.le⟩,if_pos ⟨hk,h,rfl⟩]
theorem Xx (hk0:0<k) {ns:List Int} (h:good ns=true) (hk:ns.length=k):JE rd c k good (cj c ns)=some ns:=by
 have hne:ns≠[]:=fun e=>by rw [e] at hk;simp at hk;omega
 unfold JE;rw [aaA hr hc hne (hg ns h),if_pos];refine⟨?_,h⟩
 have:=congrArg List.length (aaA hr hc hne (hg ns h));rw [aiX] at this;exact this.trans hk
include hb in
theorem aer (hk0:0<k) (s:ByteArray):zT c k good s=JE rd c k good s:=by
 by_cases h:(fv s).length=k∧good (fv s)=true∧cj c (fv s)=s
 ·obtain⟨h1,h2,h3⟩:=h
  have a:=WP hr hc hb hg h2 h1;have b:=Xx hr hc hg hk0 h2 h1;rw [h3] at a b;rw [a,b]
 ·by_cases h':(aC c s).length=k∧good ((aC c s).map rd)=true
  ·obtain⟨h1,h2⟩:=h'
   have hl:((aC c s).map rd).length=k:=by rw [aiX];exact h1
   have a:=WP hr hc hb hg h2 hl;have b:=Xx hr hc hg hk0 h2 hl;have h3:=Zy hr (c:=c) (s:=s) fun n hn=>(hg _ h2 n hn).1
   rw [h3] at a b;rw [a,b]
  ·rw [zT,JE,if_neg h,if_neg h']
end
theorem Yi {c:UInt8} {k:Nat} {good:List Int→Bool} {s:ByteArray} {ns:List Int} (h:zT c k good s=some ns):ns.length=k∧good ns=true∧cj c ns=s:=by
 unfold zT at h;split at h
 ·rename_i hc
  cases h;exact hc
 ·cases h
end Go.Proofs.YtjafgdefcggjcaaGreatDoor

namespace Go.Proofs.YtjafgdefcggjcaaGreatDoor
open Go Go.V
structure Cur where
 code:List Int
 at_:Nat
 seed:Int
abbrev jH (l:List Int):D:=.arr 1 (l.map U)
abbrev lX (c:Cur):D:=.agg [jH c.code,I c.at_,.v (.int .u64 c.seed)]
structure Cur.ok (c:Cur) (B:Nat):Prop where
 by_:∀n∈c.code,0≤n∧n≤255
 len:c.code.length≤1048576
 at_:c.at_≤B
 lo:0≤c.seed
 hi:c.seed<18446744073709551616
theorem Sw {k:IntKind} {n:Int}:oz (some .i64) false (.v (.int k n))=some (I (aiV.wrap n)):=rfl
theorem Sx {k:IntKind} {n:Int}:oz (some .u64) false (.v (.int k n))=some (.v (.int .u64 (ajB.wrap n))):=rfl
theorem abw {n:Int} {bl:Bool} {eq:List Nat}:bin .shr bl eq (.v (.int .u64 n)) (.v (.int .u64 40))=some (.v (.int .u64 (n.fdiv 1099511627776))):=by
 simp [bin,aks]
theorem afP {a b:Int} {bl:Bool} {eq:List Nat}:bin .and bl eq (.v (.int .u64 a)) (.v (.int .u64 b))=some (.v (.int .u64 (bits .and .u64 a b))):=by simp [bin,mG]
theorem agY {n:Int} (h0:0≤n) (h1:n<18446744073709551616):0≤bits .and .u64 n 255∧bits .and .u64 n 255≤255:=by
 obtain⟨m,rfl⟩:=ai4 h0;have:=bits_and_u64_nat m 255 (by omega) (by omega);rw [show((255:Int))=((255:Nat):Int) from rfl,this];have h2:m &&& 255≤255:=Nat.and_le_right;omega
theorem ahf (n:Int):0≤ajB.wrap n∧ajB.wrap n<18446744073709551616:=by
 rw [IntKind.wrap_u64];omega
def ve (s n:Int):Int:=ajB.wrap (ajB.wrap (ajB.wrap (s*6364136223846793005)+ajB.wrap n)+1442695040888963407)
def Le (s:Int):Int:=bits .and .u64 (s.fdiv 1099511627776) 255
theorem mP (s n:Int):0≤ve s n∧ve s n<18446744073709551616:=ahf _
theorem VU {s:Int} (h0:0≤s) (h1:s<18446744073709551616):0≤Le s∧Le s≤255:=by
 unfold Le;rw [Int.fdiv_eq_ediv_of_nonneg _ (by omega)];exact agY (by omega) (by omega)
theorem ah8 (c:Cur) (B:Nat) (h:c.ok B) (hB:B≤1000000000000) (hc:c.at_<c.code.length):eD [lX c]=some (.ret [I c.code[c.at_]] [lX ⟨c.code,c.at_+1,ve c.seed c.code[c.at_]⟩]):=by
 have hl:=h.len;have ha:=h.at_;have hw:aiV.wrap ((c.at_:Int)+1)=(c.at_:Int)+1:=ah (by omega) (by omega);have hn:=h.by_ c.code[c.at_] (ai6 hc);have hv:aiV.wrap c.code[c.at_]=c.code[c.at_]:=ah (by omega) (by omega);have hle:(c.at_:Int)+1≤(c.code.length:Int):=by omega
 rw [tL];simp -implicitDefEqProofs [hc,hw,hv,hle,Sw,Sx,ve]
theorem ahC (c:Cur) (B:Nat) (h:c.ok B) (hB:B≤1000000000000) (hc:¬c.at_<c.code.length):eD [lX c]=some (.ret [I (Le (ve c.seed 0))] [lX ⟨c.code,c.at_+1,ve c.seed 0⟩]):=by
 have hl:=h.len;have ha:=h.at_;have hw:aiV.wrap ((c.at_:Int)+1)=(c.at_:Int)+1:=ah (by omega) (by omega);have hle:¬(c.at_:Int)+1≤(c.code.length:Int):=by omega
 have hq:=VU (mP c.seed 0).1 (mP c.seed 0).2;have hv:aiV.wrap (Le (ve c.seed 0))=Le (ve c.seed 0):=ah (by omega) (by omega);unfold Le ve at hv;rw [tL];simp -implicitDefEqProofs [hc,hw,hle,Sw,Sx,abw,afP,hv,ve,Le]
theorem adv (c:Cur) (B:Nat) (h:c.ok B) (hB:B≤1000000000000):∃v c',eD [lX c]=some (.ret [I v] [lX c'])∧0≤v∧v≤255∧c'.ok (B+1):=by
 have ha:=h.at_;by_cases hc:c.at_<c.code.length
 ·have hn:=h.by_ c.code[c.at_] (ai6 hc)
  exact⟨_,_,ah8 c B h hB hc,hn.1,hn.2,⟨h.by_,h.len,akk ha,(mP _ _).1,(mP _ _).2⟩⟩
 ·have hq:=VU (mP c.seed 0).1 (mP c.seed 0).2
  exact⟨_,_,ahC c B h hB hc,hq.1,hq.2,⟨h.by_,h.len,akk ha,(mP _ _).1,(mP _ _).2⟩⟩
theorem iF (c:Cur) (n:Int) (B:Nat) (h:c.ok B) (hB:B≤100000000000) (hn:n≤1000000000):∃v c',aK [lX c,I n]=some (.ret [I v] [lX c'])∧0≤v∧(v<n∨v=0)∧c'.ok (B+2):=by
 rw [Jj];by_cases h1:n≤1
 ·exact⟨0,c,by simp [h1],by omega,.inr rfl,⟨h.by_,h.len,by have:=h.at_;omega,h.lo,h.hi⟩⟩
 obtain⟨v,c1,e1,l1,u1,k1⟩:=adv c B h (by omega);have hn0:¬n=0:=by omega
 by_cases h2:200<n
 ·obtain⟨v2,c2,e2,l2,u2,k2⟩:=adv c1 (B+1) k1 (by omega)
  have w1:aiV.wrap (v*256)=v*256:=ah (by omega) (by omega);have w2:aiV.wrap (v*256+v2)=v*256+v2:=ah (by omega) (by omega);refine⟨(v*256+v2).tmod n,c2,by simp [h1,h2,e1,e2,w1,w2,hn0],Int.tmod_nonneg _ (by omega),.inl (Int.tmod_lt_of_pos _ (by omega)),k2⟩
 ·refine⟨v.tmod n,c1,by simp [h1,h2,e1,hn0],Int.tmod_nonneg _ l1,.inl (Int.tmod_lt_of_pos _ (by omega)),⟨k1.by_,k1.len,by have:=k1.at_;omega,k1.lo,k1.hi⟩⟩
theorem acA (c:Cur) (n:Int) (B:Nat) (h:c.ok B) (hB:B≤100000000000) (hn:n≤1000000000):∃(b:Bool) (c':Cur),eT [lX c,I n]=some (.ret [.v (.bool b)] [lX c'])∧c'.ok (B+2):=by
 rw [Ko];obtain⟨v,c1,e1,l1,u1,k1⟩:=iF c n B h hB hn;exact⟨_,c1,by simp [e1];rfl,k1⟩
abbrev acb (l:List Int):D:=.arr 1 (l.map I)
theorem IX (c:Cur) (l:List Int) (B:Nat) (h:c.ok B) (hB:B≤100000000000) (hl:l≠[]) (hn:l.length≤1000000000):∃v c',dj [lX c,acb l]=some (.ret [I v] [lX c'])∧v∈l∧c'.ok (B+2):=by
 rw [FO];have hp:0<l.length:=ajD.2 hl;obtain⟨v,c1,e1,l1,u1,k1⟩:=iF c l.length B h hB (by omega);obtain⟨i,rfl⟩:=ai4 l1;have hi:i<l.length:=by omega
 exact⟨l[i],c1,by simp [e1,hi],ai6 hi,k1⟩
theorem Cur.ok.mono {c:Cur} {B C:Nat} (h:c.ok B) (hBC:B≤C):c.ok C:=⟨h.by_,h.len,ajI h.at_ hBC,h.lo,h.hi⟩
theorem xt {l:List Int}:aA 1 (l.map I)=some (acb l):=by
 have:kx 1 (l.map I).length (l.map I)=true:=by
  unfold kx;simp
 simp only [aA,this,if_true]
theorem YJ (a b:List Int):∃p:Bool,xN [jH a,jH b]=some (.ret [B p] [])∧(p=false→a.length≤1048576∧b.length≤1048576):=by
 rw [YY];by_cases h1:1048576<(a.length:Int)
 ·exact⟨true,by simp [h1],fun h=>by cases h⟩
 have hw:aiV.wrap (1048576 - (a.length:Int))=1048576 - (a.length:Int):=ah (by omega) (by omega);by_cases h2:1048576 - (a.length:Int)<(b.length:Int)
 ·exact⟨true,by simp [h1,h2,hw],fun h=>by cases h⟩
 ·exact⟨false,by simp [h1,h2,hw],fun _=>by omega⟩
theorem aey (l:List Int):dp [(0,1)] [D.arr 1 [],I 0,D.v (.int .u64 0)] [jH l]=some (.agg [jH l,I 0,D.v (.int .u64 0)]):=by
 simp [dp,DJ]
structure Bytes (l:List Int):Prop where
 by_:∀n∈l,0≤n∧n≤255
 len:l.length≤1048576
theorem adm {l:List Int} (h:Bytes l):Cur.ok ⟨l,0,0⟩ 0:=⟨h.by_,h.len,ajt _,ajC 0,show(0:Int)<18446744073709551616 by decide⟩
abbrev agm (l:List Int):D:=.agg [jH l,I 0,.v (.int .u64 0)]
abbrev txs (l:List ByteArray):D:=.arr 1 (l.map T)
theorem qd {l:List ByteArray}:aA 1 (l.map T)=some (txs l):=by
 have:kx 1 (l.map T).length (l.map T)=true:=by
  unfold kx;simp
 simp only [aA,this,if_true]
theorem Ba (c:Cur) (l:List ByteArray) (B:Nat) (h:c.ok B) (hB:B≤100000000000) (hl:l≠[]) (hn:l.length≤1000000000):∃v c',bN [lX c,txs l]=some (.ret [T v] [lX c'])∧v∈l∧c'.ok (B+2):=by
 rw [Ms];have hp:0<l.length:=ajD.2 hl;obtain⟨v,c1,e1,l1,u1,k1⟩:=iF c l.length B h hB (by omega);obtain⟨i,rfl⟩:=ai4 l1;have hi:i<l.length:=by omega
 exact⟨l[i],c1,by simp [e1,hi],ai6 hi,k1⟩
theorem BW {a b:ByteArray} (h:a.size+b.size≤100000000):bin .add false [] (T a) (T b)=some (T (a++b)):=by
 rw [fT,if_pos (by omega)]
theorem WJ (c:UInt8):∀(ws:List (List UInt8)),Lib.join ws [c]=ex c ws
 | []=>rfl
 | [a]=>by rw [Lib.join_one];rfl
 | a::b::l=>by
  have ih:=WJ c (b::l);rw [Lib.join_cons] at ih ⊢;have hj:ex c (a::b::l)=a++c::ex c (b::l):=rfl;rw [hj,←ih];simp [Lib.joinTail]
theorem Vz (c:UInt8) (ns:List Int):qC (ns.map aI) ⟨#[c]⟩=cj c ns:=by
 apply bP;rw [cJ,←WJ];unfold qC;rw [cS,ajz];rfl
theorem JW {c:UInt8} {m:Nat}:∀(ws:List (List UInt8)),(∀w∈ws,w.length≤m)→(ex c ws).length≤ws.length*(m+1)
 | [],_=>by simp [ex]
 | [a],h=>by
  have:=h a (by simp);show a.length≤1*(m+1)
  omega
 | a::b::l,h=>by
  have ih:=JW (c:=c) (b::l) fun w hw=>h w (by simp [hw])
  have ha:=h a (by simp);have hj:ex c (a::b::l)=a++c::ex c (b::l):=rfl;rw [hj,ajT,ajY];have e:(a::b::l).length*(m+1)=(b::l).length*(m+1)+(m+1):=by rw [ajY,Nat.succ_mul]
  omega
theorem xB {c:UInt8} {ns:List Int} (h:∀n∈ns,0≤n∧n<1000000000000000000):(cj c ns).size≤ns.length*19:=by
 have:(cj c ns).size=(ex c (ns.map fun n=>ae (aI n))).length:=by rw [cZ,cJ]
 rw [this];have:=JW (c:=c) (m:=18) (ns.map fun n=>ae (aI n)) fun w hw=>by
  obtain⟨n,hn,rfl⟩:=ajJ.1 hw;exact bX 17 (h n hn).1 (by have:=(h n hn).2;omega)
 rwa [aiX] at this
abbrev ai (l:List Int):D:=.arr 1 (l.map I)
theorem aan {l m:List ByteArray} (h:l.length+m.length≤1048577):bB 1 16 (txs l) (txs m)=some (txs (l++m)):=by
 rw [gH,if_pos (by simp only [aiX];omega)];simp
theorem KO (ns:List Int) (c:UInt8) (h:∀n∈ns,0≤n∧n<1000000000000000000) (hl:ns.length≤1000000):dm [ai ns,T ⟨#[c]⟩]=some (.ret [T (cj c ns)] []):=by
 rw [Bo];simp only [be,aL,aiX,aiT];refine aG _ (aY ns.length (fun i=>[T ⟨#[c]⟩,txs ((ns.take i).map aI),ai ns,I ns.length,I i]) (.ext 0 [T ⟨#[c]⟩,txs (ns.map aI)]) (fun i hi=>?_) ?_ rfl rfl) ?_
 ·have hi':(i:Int)<(ns.length:Int):=by omega
  have hw:aiV.wrap ((i:Int)+1)=((i+1:Nat):Int):=by rw [ah (by omega) (by omega)];omega
  have hx:=h ns[i] (ai6 hi);have hel:aq 1 (ai ns) (I (i:Int))=some [I ns[i]]:=by simp [hi]
  have hit:=Nu (n:=ns[i]) (by omega) (by omega);have hap:=aan (l:=(ns.take i).map aI) (m:=[aI ns[i]]) (by simp;omega);have htk:(ns.take (i+1)).map aI=(ns.take i).map aI++[aI ns[i]]:=by rw [ai3 hi,ai7];rfl
  rw [←htk] at hap;have hck:cR (.arr 1 [T (aI ns[i])])=some (txs [aI ns[i]]):=sE [aI ns[i]];show _=some (Out.nrm [T ⟨#[c]⟩,txs ((ns.take (i+1)).map aI),ai ns,I ns.length,I ((i+1:Nat):Int)])
  simp -implicitDefEqProofs only [ak,aE,bg,hi',decide_true,aiT,aH,if_true,hel,aiW,bn,aR,bJ,hit,am,wd,hck,hap,bv,hw]
 ·simp
 ·have hz:=xB (c:=c) h
  have hj:El [txs (ns.map aI),T ⟨#[c]⟩]=some (.ret [T (cj c ns)] []):=by
   simp only [El,BN,aiT,Vz];rw [if_pos ⟨by rw [aiX];omega,by omega⟩]
  simp -implicitDefEqProofs only [bF,ai5,ep,if_true,ak,aE,cy,ch,aiT,hj,am]
theorem ZP {a b:Int}:∀(l:List Int) (i:Nat),jD (fun _ x=>decide (a≤x∧x≤b)) i l=l.all fun x=>decide (a≤x∧x≤b)
 | [],_=>rfl
 | x::l,i=>by simp only [jD,ZP l,List.all_cons]
theorem Iv (l:List Int) (a b:Int) (h:l.length≤1048577):nC [ai l,I a,I b]=some (.ret [B (l.all fun x=>decide (a≤x∧x≤b))] []):=by
 rw [TF];simp only [aL,aiX,aiT];refine aG _ (pY l (fun i=>[I a,I b,ai l,I l.length,I i]) (fun _ x=>decide (a≤x∧x≤b)) (.ret [B false] []) (.ext 0 []) (fun i hi=>?_) ?_ rfl rfl rfl) ?_
 ·have hw:aiV.wrap ((i:Int)+1)=(i:Int)+1:=ah (by omega) (by omega)
  by_cases h1:a≤l[i]∧l[i]≤b<;>simp -implicitDefEqProofs [hi,hw,h1,br]
 ·simp
 ·rw [ZP]
  by_cases hm:(l.all fun x=>decide (a≤x∧x≤b))=true
  ·rw [if_pos hm,hm];rfl
  ·rw [if_neg hm]
   rw [Bool.not_eq_true] at hm;rw [hm];rfl
theorem tp1 (a:D) (v:Value) (ds:List D):ao (.tup (a :: .v v::ds)) 1=some (.v v):=rfl
def ae7 (l:List Int):Prop:=∀n∈l,-9223372036854775808≤n∧n≤9223372036854775807
theorem aeq {n:Int} (h0 : -9223372036854775808≤n) (h1:n≤9223372036854775807):(aI n).size≤20:=by
 by_cases h:0≤n
 ·have:=bX 18 (n:=n) h (by omega)
  omega
 ·have e:aI n=⟨#[45]⟩++aI (-n):=by
   obtain⟨u,hu⟩:=ai4 (show 0 ≤ -n by omega);have hn:n = -(u:Int):=by omega
   apply bP;rw [bh,hn,Int.neg_neg];unfold aI;rw [cS,cS,Lib.itoa_neg u (by omega),Lib.itoa_nonneg];rfl
  have:=bX 18 (n:=-n) (by omega) (by omega);rw [e,ajd];have:(⟨#[45]⟩:ByteArray).size=1:=rfl;omega
theorem oM {c:UInt8} {ns:List Int} (h:ae7 ns):(cj c ns).size≤ns.length*21:=by
 have:(cj c ns).size=(ex c (ns.map fun n=>ae (aI n))).length:=by rw [cZ,cJ]
 rw [this];have:=JW (c:=c) (m:=20) (ns.map fun n=>ae (aI n)) fun w hw=>by
  obtain⟨n,hn,rfl⟩:=ajJ.1 hw;exact aeq (h n hn).1 (h n hn).2
 rwa [aiX] at this
theorem xE (ns:List Int) (c:UInt8) (h:ae7 ns) (hl:ns.length≤1000000):dm [ai ns,T ⟨#[c]⟩]=some (.ret [T (cj c ns)] []):=by
 rw [Bo];simp only [be,aL,aiX,aiT];refine aG _ (aY ns.length (fun i=>[T ⟨#[c]⟩,txs ((ns.take i).map aI),ai ns,I ns.length,I i]) (.ext 0 [T ⟨#[c]⟩,txs (ns.map aI)]) (fun i hi=>?_) ?_ rfl rfl) ?_
 ·have hi':(i:Int)<(ns.length:Int):=by omega
  have hw:aiV.wrap ((i:Int)+1)=((i+1:Nat):Int):=by rw [ah (by omega) (by omega)];omega
  have hx:=h ns[i] (ai6 hi);have hel:aq 1 (ai ns) (I (i:Int))=some [I ns[i]]:=by simp [hi]
  have hit:=Nu (n:=ns[i]) hx.1 hx.2;have hap:=aan (l:=(ns.take i).map aI) (m:=[aI ns[i]]) (by simp;omega);have htk:(ns.take (i+1)).map aI=(ns.take i).map aI++[aI ns[i]]:=by rw [ai3 hi,ai7];rfl
  rw [←htk] at hap;have hck:cR (.arr 1 [T (aI ns[i])])=some (txs [aI ns[i]]):=sE [aI ns[i]];show _=some (Out.nrm [T ⟨#[c]⟩,txs ((ns.take (i+1)).map aI),ai ns,I ns.length,I ((i+1:Nat):Int)])
  simp -implicitDefEqProofs only [ak,aE,bg,hi',decide_true,aiT,aH,if_true,hel,aiW,bn,aR,bJ,hit,am,wd,hck,hap,bv,hw]
 ·simp
 ·have hz:=oM (c:=c) h
  have hj:El [txs (ns.map aI),T ⟨#[c]⟩]=some (.ret [T (cj c ns)] []):=by
   simp only [El,BN,aiT,Vz];rw [if_pos ⟨by rw [aiX];omega,by omega⟩]
  simp -implicitDefEqProofs only [bF,ai5,ep,if_true,ak,aE,cy,ch,aiT,hj,am]
abbrev Sk:=Int × Int × Int × Int × Int
abbrev k0:Sk:=(0,0,0,0,0)
theorem BI {l:List Int} {n:Int} (h:l.length≤1048576):bB 1 8 (ai l) (ai [n])=some (ai (l++[n])):=by
 rw [gH,if_pos (by simp;omega)];simp
theorem Jc (n:Int):aA 1 [I n]=some (ai [n]):=xt (l:=[n])
theorem HT (l:List Int):cR (ai l)=some (ai l):=qg (fun _=>rfl)
theorem tpL (l:List Int) (ds:List D):ao (.tup (ai l::ds)) 0=some (ai l):=rfl
theorem Md (l:List Int) (h:l.length≤1048576):ml [ai l,ai l]=some (.ret [B true] []):=by
 rw [LP];simp only [aL,aiX,aiT,iO,decide_true,aiZ,aH,aiU,if_false];refine aG (.ext 0 []) (aY l.length (fun i=>[ai l,ai l,I l.length,I i]) _ (fun i hi=>?_) ?_ rfl rfl) ?_
 ·have hw:aiV.wrap ((i:Int)+1)=(i:Int)+1:=ah (by omega) (by omega)
  simp -implicitDefEqProofs [hi,hw]
 ·simp
 ·simp
theorem zU (a b:Int):kG [I a,I b]=some (.ret [I (if a<b then a else b)] []):=by
 rw [Oe];by_cases h:a<b<;>simp [h]
theorem FC (c:UInt8) (w:List UInt8):∀(ws:List (List UInt8)),ws≠[]→ex c (ws++[w])=ex c ws++c::w
 | [],h=>absurd rfl h
 | [a],_=>rfl
 | a::b::l,_=>by
  have ih:=FC c w (b::l) (by simp);have h1:ex c ((a::b::l)++[w])=a++c::ex c ((b::l)++[w]):=rfl;have h2:ex c (a::b::l)=a++c::ex c (b::l):=rfl;rw [h1,h2,ih];simp
theorem JU (c:UInt8) (n:Int):cj c [n]=aI n:=bP (by rw [cJ];rfl)
theorem On (c:UInt8) (ns:List Int) (n:Int) (h:ns≠[]):cj c (ns++[n])=cj c ns++⟨#[c]⟩++aI n:=by
 apply bP;rw [cJ,ai7,ai9,aja,FC _ _ _ (by simpa using h),bh,bh,cJ,show ae ⟨#[c]⟩=[c] from rfl];simp
def Lw (l:List UInt8):Int :=
 if (1≤l.length∧l.length≤10)∧¬(l.head?=some 48∧1<l.length)∧l.all dig=true then(nh 0 l:Int) else -1
def gF (s:ByteArray):Int:=Lw (ae s)
theorem vi (s:ByteArray) (h:s.size≤4294967296):ju [T s]=some (.ret [I (gF s)] []):=by
 rw [Qt];have hsz:s.size=(ae s).length:=rfl;by_cases h1:1≤(s.size:Int)∧(s.size:Int)≤10
 case neg =>
  have hr:gF s = -1:=by
   unfold gF Lw;rw [if_neg (by rintro⟨⟨g1,g2⟩,_⟩;exact h1 (by omega))]
  rw [hr];simp -implicitDefEqProofs [br,h1]
 have hpos:0<(ae s).length:=by omega
 have hch0:kA (T s) (I 0)=some (U ((ae s)[0].toNat:Int)):=by
  have:=oO (s:=s) (k:=.i64) (i:=0);rw [aje hpos] at this;exact this
 have hhead:(ae s).head?=some (ae s)[0]:=by rw [aj3,aje hpos]
 have h48:(48:UInt8).toNat=48:=rfl;have hc48:((ae s)[0].toNat:Int)=48↔(ae s)[0]=48:=⟨fun e=>ajF.1 (by omega),fun e=>by rw [e];rfl⟩
 by_cases h2:(ae s)[0]=48∧1<(ae s).length
 ·have hr:gF s = -1:=by
   unfold gF Lw;rw [if_neg (by rintro⟨_,g,_⟩;exact g ⟨by rw [hhead,h2.1],h2.2⟩)]
  have hl:(1:Int)<(s.size:Int):=by omega
  have hc:=hc48.2 h2.1;rw [hr];simp -implicitDefEqProofs [br,h1,hch0,hc,hl]
 have hgo:∀(K:D→Option Out),((bin BinOp.eql false [] (U ((ae s)[0].toNat:Int)) (D.v (aj1 ajM 48))).bind fun z_3=>(aj (D.tup []) (B false) false (some z_3)).bind fun z_4=>(aj (D.tup []) z_4 true (some (T s))).bind fun z_5 =>
   (aj (D.tup []) z_4 true (lenD true z_5)).bind fun z_6=>(aj (D.tup []) z_4 true (bin BinOp.gtr false [] z_6 (D.v (aj1 aiV 1)))).bind fun z_7=>(aj (D.tup []) (B false) false (aS z_4 z_7 (D.v (Value.bool false)))).bind K)=K (B false):=by
  intro K;by_cases e:((ae s)[0].toNat:Int)=48
  ·have:¬(1:Int)<(s.size:Int):=fun hl=>h2 ⟨hc48.1 e,by omega⟩
   simp -implicitDefEqProofs [e,this]
  ·simp -implicitDefEqProofs [e]
 simp only [dV,aiT,br,h1,and_self,decide_true,am,ak,bj,aiZ,bH,aiU,if_false,hch0];have hgo':=hgo;simp only [bH,aiU,if_false,aiT] at hgo';rw [hgo'];simp only [aP,aiU,if_false,aiT,aH];refine bL (fun r=>r=_) (fun(a:Nat × Nat)=>[T s,I (a.1:Int),I (a.2:Int)]) (fun a=>a.2≤s.size∧a.1=nh 0 ((ae s).take a.2)∧∀b∈(ae s).take a.2,dig b=true) (fun a=>s.size - a.2)
  (fun o=>o=if (ae s).all dig=true then .ext 0 [I (nh 0 (ae s):Int)] else .ret [I (-1)] []) ?_ (0,0) ⟨ajS _,rfl,by simp⟩ rfl ?_
 ·rintro⟨n,i⟩ ⟨g1,g2,g3⟩
  simp only at g1 g2 g3;by_cases hi:i<s.size
  ·have hl:i<(ae s).length:=by rw [←hsz];exact hi
   have hi':(i:Int)<(s.size:Int):=by omega
   have hch:kA (T s) (I (i:Int))=some (U ((ae s)[i].toNat:Int)):=by
    rw [oO,aje hl];rfl
   have htk:(ae s).take (i+1)=(ae s).take i++[(ae s)[i]]:=ai3 hl;by_cases hd:dig (ae s)[i]=true
   ·left
    have hd':=pI.1 hd;have hn:n<10 ^ i:=by
     rw [g2];exact UB i _ (by rw [ajb];omega) g3
    have h10:10 ^ i≤10 ^ 10:=aj9 (by decide) (by omega);have hw:aiV.wrap ((i:Int)+1)=((i+1:Nat):Int):=by rw [ah (by omega) (by omega)];omega
    have hw1:aiV.wrap (10*(n:Int))=10*(n:Int):=ah (by omega) (by omega);have hw2:ajM.wrap (((ae s)[i].toNat:Int) - 48)=((ae s)[i].toNat:Int) - 48:=aah _ (by omega) (by omega);have hw3:aiV.wrap (((ae s)[i].toNat:Int) - 48)=((ae s)[i].toNat:Int) - 48:=ah (by omega) (by omega);have hw4:aiV.wrap (10*(n:Int)+(((ae s)[i].toNat:Int) - 48))=((n*10+((ae s)[i].toNat - 48):Nat):Int):=by rw [ah (by omega) (by omega)];omega
    have c1:¬((ae s)[i].toNat:Int)<48:=by omega
    have c2:¬(57:Int)<((ae s)[i].toNat:Int):=by omega
    refine⟨(n*10+((ae s)[i].toNat - 48),i+1),?_,⟨by simp only;omega,?_,?_⟩,by simp only;omega⟩
    ·simp only [ak,aE,dV,aiT,bg,hi',decide_true,aH,if_true,hch,c1,decide_false,bH,aiU,if_false,eY,c2,aP,eG,hw1,cq,hw2,oz,hw3,bv,hw4,hw]
    ·simp only
     rw [htk,Cq,g2]
    ·simp only
     rw [htk];intro b hb;rcases ajN.1 hb with hb | hb
     ·exact g3 b hb
     ·rw [ajH.1 hb];exact hd
   ·right
    refine⟨.ret [I (-1)] [],?_,rfl,?_⟩
    ·by_cases c1:((ae s)[i].toNat:Int)<48
     ·simp -implicitDefEqProofs [hi',hch,c1]
     ·have c2:(57:Int)<((ae s)[i].toNat:Int):=by
       have:¬(48≤(ae s)[i].toNat∧(ae s)[i].toNat≤57):=fun e=>hd (pI.2 e)
       omega
      simp -implicitDefEqProofs [hi',hch,c1,c2]
    ·rw [if_neg]
     intro hall;exact hd (ajn.1 hall _ (ai6 hl))
  ·right
   have hi':¬(i:Int)<(s.size:Int):=by omega
   have hie:(ae s).take i=ae s:=aj4 (by omega);rw [hie] at g2 g3;refine⟨.ext 0 [I (n:Int)],?_,rfl,?_⟩
   ·simp -implicitDefEqProofs [hi']
   ·rw [if_pos (ajn.2 g3),g2]
 ·rintro o rfl
  by_cases ha:(ae s).all dig=true
  ·have hr:gF s=(nh 0 (ae s):Int):=by
    unfold gF Lw;rw [if_pos ⟨⟨by omega,by omega⟩,fun g=>h2 ⟨by have:=g.1;rw [hhead] at this;exact akm this,g.2⟩,ha⟩]
   rw [if_pos ha,hr];rfl
  ·have hr:gF s = -1:=by
    unfold gF Lw;rw [if_neg (fun g=>ha g.2.2)]
   rw [if_neg ha,hr];rfl
theorem OM {u:Nat} (h:u<10000000000):(ai1 u).length≤10:=vS 9 u (by omega)
theorem aaQ {u:Nat} (h:u<10000000000):Lw (ai1 u)=(u:Int):=by
 have h1:=kQ u;have h2:=OM h;have h3:1≤(ai1 u).length:=ajD.2 h1;have hno:¬((ai1 u).head?=some 48∧1<(ai1 u).length):=by
  rintro⟨g1,g2⟩;by_cases hu:0<u
  ·cases hd:ai1 u with
   | nil=>exact h1 hd
   | cons b t =>
    rw [hd] at g1;exact Al u hu b t hd (by simpa using g1)
  ·have:u=0:=by omega
   subst this;rw [ajc (by decide)] at g2;simp at g2
 unfold Lw;rw [if_pos ⟨⟨h3,h2⟩,hno,ajn.2 (po u)⟩,Xc]
theorem aaJ {n:Int} (h0:0≤n) (h1:n<10000000000):gF (aI n)=n:=by
 unfold gF;rw [jl n h0,aaQ (by omega)];omega
theorem Wh {w:ByteArray} {n:Int} (h:gF w=n) (h0:0≤n):w=aI n:=by
 unfold gF Lw at h;split at h
 ·rename_i hc
  obtain⟨⟨g1,g2⟩,g3,g4⟩:=hc;subst h;apply bP;rw [jl _ h0];have:((nh 0 (ae w):Int)).toNat=nh 0 (ae w):=by omega
  rw [this];refine(Ei ((ae w).length - 1) (ae w) (by omega) (ajn.1 g4) fun e=>?_).symm
  rcases akf 1 (ae w).length with g | g
  ·exact absurd ⟨e,g⟩ g3
  ·omega
 ·omega
theorem afw:Reads gF 10000000000:=⟨by decide,fun _ h0 h1=>aaJ h0 h1,fun _ h=>Wh rfl h⟩
abbrev Me:=Int × Int × Int
abbrev me (m:Me):D:=.agg [I m.1,I m.2.1,I m.2.2]
abbrev mes (l:List Me):D:=.arr 3 (l.map me)
def meL (m:Me):List Int:=[m.1,m.2.1,m.2.2]
def in6 (x:Int):Bool:=decide (0≤x∧x≤1000000)
def cr (m:Me):Bool:=in6 m.1&&in6 m.2.1&&in6 m.2.2
theorem dr {m:Me}:cr m=true↔(0≤m.1∧m.1≤1000000)∧(0≤m.2.1∧m.2.1≤1000000)∧(0≤m.2.2∧m.2.2≤1000000):=by
 simp only [cr,in6,ajo,decide_eq_true_eq,and_assoc]
def gM (m:Me):Int:=m.1+m.2.1+m.2.2
abbrev m0:Me:=(0,0,0)
theorem ph (m:Me):gu 3 (me m)=some (me m):=by simp
theorem jg (m:Me):bf true 3 0 (me m)=some (me m):=by simp
theorem stM (a m:Me):stD 3 (me a) (.ref 0 0) (me m)=some (me m):=by simp
theorem stZ (m:Me):stD 3 (.agg [I 0,I 0,I 0]) (.ref 0 0) (me m)=some (me m):=by simp
theorem Gb (a b c:Int):dp [(0,1),(1,1),(2,1)] [I 0,I 0,I 0] [I a,I b,I c]=some (me (a,b,c)):=by simp [dp,DJ]
theorem kh:dp [] [I 0,I 0,I 0] []=some (me m0):=by simp [dp,DJ]
theorem sM0 (m:Me) (a:Int):stD 1 (me m) (.ref 0 0) (I a)=some (me (a,m.2)):=by simp
theorem sM1 (m:Me) (a:Int):stD 1 (me m) (.ref 0 1) (I a)=some (me (m.1,a,m.2.2)):=by simp
theorem sM2 (m:Me) (a:Int):stD 1 (me m) (.ref 0 2) (I a)=some (me (m.1,m.2.1,a)):=by simp
theorem NA (n:Int):ig [I n]=some (.ret [B (in6 n)] []):=by
 rw [Ox];simp -implicitDefEqProofs only [bC,am,ak,in6]
theorem cV (m:Me):dG [me m]=some (.ret [B (cr m)] []):=by
 rw [RS];cases h1:in6 m.1<;>cases h2:in6 m.2.1<;>cases h3:in6 m.2.2<;>simp -implicitDefEqProofs [NA,cr,h1,h2,h3]
theorem Be (m:Me):kv [me m]=some (.ret [ai (meL m)] []):=by
 rw [Np];have:=xt (l:=[m.1,m.2.1,m.2.2]);simp only [ai9,aja] at this;simp -implicitDefEqProofs only [ph,aiT,cz,fh,aiY,ai0,aR,this,meL]
theorem dn (m:Me):gO [me m]=some (.ret [B (cr m)] []):=by
 rw [Rj];have ha:=Iv (meL m) 0 1000000 (by simp [meL]);have e:((meL m).all fun x=>decide (0≤x∧x≤1000000))=cr m:=by simp [meL,cr,in6,Bool.and_assoc]
 rw [e] at ha;simp -implicitDefEqProofs only [ph,jg,aiT,Be,am,ak,ha]
theorem xy {m:Me} (h:cr m=true):dB [me m]=some (.ret [I (gM m)] []):=by
 rw [Jg];obtain⟨⟨a1,a2⟩,⟨b1,b2⟩,c1,c2⟩:=dr.1 h;have w1:aiV.wrap (m.1+m.2.1)=m.1+m.2.1:=ah (by omega) (by omega);have w2:aiV.wrap (m.1+m.2.1+m.2.2)=gM m:=ah (by omega) (by omega);simp -implicitDefEqProofs only [ph,aiT,cz,fh,aiY,ai0,aR,bv,w1,w2]
theorem nL {m:Me} (h:cr m=true):fY [me m]=some (.ret [I (gM m)] []):=by
 rw [OP];obtain⟨⟨a1,a2⟩,⟨b1,b2⟩,c1,c2⟩:=dr.1 h;have w1:aiV.wrap (m.1+m.2.1)=m.1+m.2.1:=ah (by omega) (by omega);have w2:aiV.wrap (m.1+m.2.1+m.2.2)=gM m:=ah (by omega) (by omega);simp -implicitDefEqProofs only [ph,aiT,cz,fh,aiY,ai0,aR,bv,w1,w2]
theorem adf {m:Me} (h:cr m=true):0≤gM m∧gM m≤3000000:=by
 obtain⟨⟨a1,a2⟩,⟨b1,b2⟩,c1,c2⟩:=dr.1 h;unfold gM;omega
def bdM (k:Int) (m:Me):Prop:=(0≤m.1∧m.1≤k)∧(0≤m.2.1∧m.2.1≤k)∧(0≤m.2.2∧m.2.2≤k)
def plM (a b:Me):Me:=(a.1+b.1,a.2.1+b.2.1,a.2.2+b.2.2)
theorem VY {a b:Me} (ha:bdM 1000000000000 a) (hb:bdM 1000000 b):kK [me a,me b]=some (.ret [me (plM a b)] []):=by
 rw [Jt];obtain⟨⟨a1,a2⟩,⟨a3,a4⟩,a5,a6⟩:=ha;obtain⟨⟨b1,b2⟩,⟨b3,b4⟩,b5,b6⟩:=hb;have w1:aiV.wrap (a.1+b.1)=a.1+b.1:=ah (by omega) (by omega);have w2:aiV.wrap (a.2.1+b.2.1)=a.2.1+b.2.1:=ah (by omega) (by omega);have w3:aiV.wrap (a.2.2+b.2.2)=a.2.2+b.2.2:=ah (by omega) (by omega);simp -implicitDefEqProofs only [ph,aiT,cz,fh,aiY,ai0,aR,bv,w1,w2,w3,Gb,stZ,jg,plM]
theorem Ql {a b:Me} (ha:bdM 1000000000000 a) (hb:bdM 1000000 b):pJ [me a,me b]=some (.ret [me (plM a b)] []):=by
 rw [Se];obtain⟨⟨a1,a2⟩,⟨a3,a4⟩,a5,a6⟩:=ha;obtain⟨⟨b1,b2⟩,⟨b3,b4⟩,b5,b6⟩:=hb;have w1:aiV.wrap (a.1+b.1)=a.1+b.1:=ah (by omega) (by omega);have w2:aiV.wrap (a.2.1+b.2.1)=a.2.1+b.2.1:=ah (by omega) (by omega);have w3:aiV.wrap (a.2.2+b.2.2)=a.2.2+b.2.2:=ah (by omega) (by omega);simp -implicitDefEqProofs only [ph,aiT,cz,fh,aiY,ai0,aR,bv,w1,w2,w3,Gb,stZ,jg,plM]
theorem af6 {a b:Me} {k j:Int} (ha:bdM k a) (hb:bdM j b):bdM (k+j) (plM a b):=by
 obtain⟨⟨a1,a2⟩,⟨a3,a4⟩,a5,a6⟩:=ha;obtain⟨⟨b1,b2⟩,⟨b3,b4⟩,b5,b6⟩:=hb;unfold bdM plM;dsimp only;omega
theorem MQ {a:Me} {k j:Int} (ha:bdM k a) (h:k≤j):bdM j a:=by
 obtain⟨⟨a1,a2⟩,⟨a3,a4⟩,a5,a6⟩:=ha;unfold bdM;omega
def My (l:List Me):Me:=l.foldl plM m0
def joB (l:List Me):Bool:=l.all cr&&decide (l.length≤20)&&cr (My l)
def joR (l:List Me):Me:=if joB l=true then My l else m0
theorem wG {β:Type} (p:β→Bool):∀(l:List β) (i:Nat),jD (fun _ x=>p x) i l=l.all p
 | [],_=>rfl
 | x::l,i=>by simp only [jD,wG p l,List.all_cons]
theorem elM {l:List Me} {i:Nat} (h:i<l.length):aq 3 (mes l) (I (i:Int))=some [I l[i].1,I l[i].2.1,I l[i].2.2]:=by simp [h]
theorem ldM (a b c:Int):(ldD true 3 (.ptr [I a,I b,I c])).bind aM=some (me (a,b,c)):=rfl
theorem Jr (l:List Me) (hl:l.length≤1000):kN [mes l]=some (.ret [me (joR l),B (joB l)] []):=by
 rw [JM];simp -implicitDefEqProofs only [kh,stZ,aiT,aL,aiX];refine aG _ (Ts l (fun i a=>[mes l,me m0,me a,mes l,I l.length,I i]) (fun i a=>bdM ((i:Int)*1000000) a) (fun _ x=>cr x) plM (.ret [me m0,B false] []) (fun a=>.ext 0 [mes l,me m0,me a]) m0 (fun i a hi ha=>⟨?_,fun hg=>?_⟩) (fun a _=>?_) rfl (fun _=>rfl) ⟨⟨ajC _,by simp⟩,⟨ajC _,by simp⟩,ajC _,by simp⟩ rfl) ?_
 ·have hi':(i:Int)<(l.length:Int):=by omega
  have hw:aiV.wrap ((i:Int)+1)=((i+1:Nat):Int):=by rw [ah (by omega) (by omega)];omega
  have hel:=elM hi;cases hg:cr l[i]
  ·simp -implicitDefEqProofs only [ak,aE,bg,hi',decide_true,aiT,aH,if_true,hel,aiW,ldM,stZ,jg,cV,hg,am,bj,ai2,kh,stM,aiU,if_false]
  ·have hp:=VY (a:=a) (b:=l[i]) (MQ ha (by omega)) (dr.1 hg)
   simp -implicitDefEqProofs only [ak,aE,bg,hi',decide_true,aiT,aH,if_true,hel,aiW,ldM,stZ,jg,cV,hg,am,bj,aiZ,stM,aiU,if_false,hp,bv,hw]
 ·have:=af6 ha (dr.1 hg:bdM 1000000 l[i])
  exact MQ this (by omega)
 ·simp
 ·rw [wG]
  cases hg:l.all cr
  ·have hb:joB l=false:=by simp only [joB,hg,ai8]
   have hr:joR l=m0:=by simp only [joR,hb,aiU,if_false]
   rw [hb,hr];rfl
  ·by_cases h20:l.length≤20
   ·have hn:¬(20:Int)<(l.length:Int):=by omega
    have hb:joB l=cr (My l):=by simp only [joB,hg,h20,decide_true,ajm]
    have hr:joR l=if cr (My l)=true then My l else m0:=by simp only [joR,hb]
    rw [hb,hr];cases hs:cr (My l)
    ·simp -implicitDefEqProofs only [if_true,bF,ai5,ep,ak,aE,aL,aiX,aiT,eY,hn,decide_false,bH,aiU,if_false,jg,cb,cV,show akn plM m0 l=My l from rfl,hs,am,bz,bj,ai2,aP,aH,kh,stM]
    ·simp -implicitDefEqProofs only [if_true,bF,ai5,ep,ak,aE,aL,aiX,aiT,eY,hn,decide_false,bH,aiU,if_false,jg,cb,cV,show akn plM m0 l=My l from rfl,hs,am,bz,bj,aiZ,aP,aH,stM]
   ·have hn:(20:Int)<(l.length:Int):=by omega
    have hb:joB l=false:=by simp only [joB,h20,decide_false,ajv,ai8]
    have hr:joR l=m0:=by simp only [joR,hb,aiU,if_false]
    rw [hb,hr];simp -implicitDefEqProofs only [if_true,bF,ai5,ep,ak,aE,aL,aiX,aiT,eY,hn,decide_true,bH,eo,xi,aiU,if_false,cb,UE,bz,aP,aH,kh,stM,jg]
theorem Lo (m:Me):qp [me m]=some (.ret [me (if cr m=true then m else m0),B (cr m)] []):=by
 rw [XH];cases h:cr m
 ·simp -implicitDefEqProofs only [ph,jg,aiT,dn,h,am,ak,bj,ai2,aH,if_true,kh,stZ,aiU,if_false]
 ·simp -implicitDefEqProofs only [ph,jg,aiT,dn,h,am,ak,bj,aiZ,aH,if_true,stZ,aiU,if_false]
theorem tpM (m:Me) (ds:List D):ao (.tup (me m::ds)) 0=some (me m):=rfl
theorem agU (m:Me) (v:Value) (ds:List D):ao (.tup (me m :: .v v::ds)) 1=some (.v v):=rfl
theorem Jp (l:List Me) (hl:l.length≤1000):kU [mes l]=some (.ret [me (joR l),B (joB l)] []):=by
 rw [Kk];by_cases h20:l.length≤20
 case neg =>
  have hn:(20:Int)<(l.length:Int):=by omega
  have hb:joB l=false:=by simp only [joB,h20,decide_false,ajv,ai8]
  have hr:joR l=m0:=by simp only [joR,hb,aiU,if_false]
  rw [hb,hr];simp -implicitDefEqProofs only [aL,aiX,aiT,eY,hn,decide_true,aH,if_true,kh,stZ,jg]
 have hn:¬(20:Int)<(l.length:Int):=by omega
 simp -implicitDefEqProofs only [aL,aiX,aiT,eY,hn,decide_false,aH,aiU,if_false];refine aG _ (Ts l (fun i a=>[me m0,me a,mes l,I l.length,I i]) (fun i a=>bdM ((i:Int)*1000000) a) (fun _ x=>cr x) plM (.ret [me m0,B false] []) (fun a=>.ext 0 [me m0,me a]) m0 (fun i a hi ha=>⟨?_,fun hg=>?_⟩) (fun a _=>?_) rfl (fun _=>rfl) ⟨⟨ajC _,by simp⟩,⟨ajC _,by simp⟩,ajC _,by simp⟩ rfl) ?_
 ·have hi':(i:Int)<(l.length:Int):=by omega
  have hw:aiV.wrap ((i:Int)+1)=((i+1:Nat):Int):=by rw [ah (by omega) (by omega)];omega
  have hel:=elM hi;cases hg:cr l[i]
  ·simp -implicitDefEqProofs only [ak,aE,bg,hi',decide_true,aiT,aH,if_true,hel,aiW,ldM,stZ,jg,dn,hg,am,bj,ai2,kh,stM,aiU,if_false]
  ·have hp:=Ql (a:=a) (b:=l[i]) (MQ ha (by omega)) (dr.1 hg)
   simp -implicitDefEqProofs only [ak,aE,bg,hi',decide_true,aiT,aH,if_true,hel,aiW,ldM,stZ,jg,dn,hg,am,bj,aiZ,stM,aiU,if_false,hp,bv,hw]
 ·have:=af6 ha (dr.1 hg:bdM 1000000 l[i])
  exact MQ this (by omega)
 ·simp
 ·rw [wG]
  cases hg:l.all cr
  ·have hb:joB l=false:=by simp only [joB,hg,ai8]
   have hr:joR l=m0:=by simp only [joR,hb,aiU,if_false]
   rw [hb,hr];rfl
  ·have hb:joB l=cr (My l):=by simp only [joB,hg,h20,decide_true,ajm]
   have hr:joR l=if cr (My l)=true then My l else m0:=by simp only [joR,hb]
   rw [hb,hr];simp -implicitDefEqProofs only [if_true,bF,ai5,ep,ak,aE,aiT,jg,show akn plM m0 l=My l from rfl,Lo,am,tpM,agU,stM]
theorem aaG {x g a b:Int} (h1:0≤x) (h2:x≤a) (h3:0≤g) (h4:g≤b):0≤x*g∧x*g≤a*b :=
 ⟨Int.mul_nonneg h1 h3,Int.mul_le_mul h2 h4 h3 (Int.le_trans h1 h2)⟩
theorem UA {t g k:Int} (h1:0≤t) (h2:0<g) (h3:g≤k):0≤t*g / k∧t*g / k≤t∧t*g / k*k≤t*g:=by
 have hk:0<k:=by omega
 refine⟨aj2 (Int.mul_nonneg h1 (by omega)) (by omega),?_,Int.ediv_mul_le _ (by omega)⟩
 exact Int.ediv_le_of_le_mul hk (Int.mul_le_mul_of_nonneg_left h3 h1)
theorem ag8 {t a g k:Int} (h1:0≤t) (h1':0≤a) (hs:t+a≤k) (h2:0<g) (h3:g≤k):t*g / k+a*g / k≤g:=by
 have hk:0<k:=by omega
 have e1:=(UA h1 h2 h3).2.2;have e2:=(UA h1' h2 h3).2.2;have e3:(t+a)*g≤k*g:=Int.mul_le_mul_of_nonneg_right hs (by omega);have e4:(t*g / k+a*g / k)*k≤g*k:=by
  rw [ajK] at e3 ⊢;rw [Int.mul_comm g k];omega
 exact Int.le_of_mul_le_mul_right e4 hk
def tT (m:Me) (g:Int):Int:=m.2.1*g / gM m
def tA (m:Me) (g:Int):Int:=m.2.2*g / gM m
def paM (m:Me) (g:Int):Me:=if 0<g then(g - tT m g - tA m g,tT m g,tA m g) else m0
def reM (m:Me) (g:Int):Me:=(m.1 - (paM m g).1,m.2.1 - (paM m g).2.1,m.2.2 - (paM m g).2.2)
def asB (m:Me) (g:Int):Bool:=cr m&&decide (0≤g∧g≤gM m)
def tkB (m:Me) (g:Int):Bool:=asB m g&&decide ((paM m g).1≤m.1)
def tkP (m:Me) (g:Int):Me:=if tkB m g=true then paM m g else m0
def tkR (m:Me) (g:Int):Me:=if tkB m g=true then reM m g else m0
theorem IE {m:Me} {g:Int} (h:cr m=true) (h0:0≤g) (h1:g≤gM m):0≤(paM m g).1∧(paM m g).1≤g∧(0≤(paM m g).2.1∧(paM m g).2.1≤m.2.1)∧(0≤(paM m g).2.2∧(paM m g).2.2≤m.2.2)∧(paM m g).1+(paM m g).2.1+(paM m g).2.2=g:=by
 obtain⟨⟨a1,a2⟩,⟨b1,b2⟩,c1,c2⟩:=dr.1 h;unfold paM;by_cases hg:0<g
 ·rw [if_pos hg]
  have e1:=UA b1 hg h1;have e2:=UA c1 hg h1;have e3:=ag8 b1 c1 (k:=gM m) (by unfold gM;omega) hg h1;dsimp only [tT,tA];omega
 ·rw [if_neg hg]
  dsimp only;omega
theorem afm {m:Me} {g:Int} (h:cr m=true) (h0:0≤g) (h1:g≤gM m):cr (reM m g)=decide ((paM m g).1≤m.1):=by
 have hf:=IE h h0 h1;have hm:=dr.1 h;rw [Bool.eq_iff_iff,dr,decide_eq_true_eq];unfold reM;dsimp only;omega
theorem aaw {m:Me} {g:Int} (h:cr m=true) (hr:¬(0≤g∧g≤gM m)):tkB m g=false:=by simp only [tkB,asB,h,hr,decide_false,ajv,ai8]
theorem aaa {m:Me} {g:Int} (h:cr m=true) (hr:0≤g∧g≤gM m):tkB m g=decide ((paM m g).1≤m.1):=by simp only [tkB,asB,h,hr,and_self,decide_true,ajm]
theorem Mh (m:Me) (g:Int):mi [me m,I g]=some (.ret [me (tkP m g),me (tkR m g),B (tkB m g)] []):=by
 rw [MI];unfold tkP tkR;cases h:cr m
 ·have hb:tkB m g=false:=by simp only [tkB,asB,h,ai8]
  rw [hb];simp -implicitDefEqProofs only [ph,jg,aiT,cV,h,am,ak,bj,ai2,bH,if_true,cb,aP,aH,kh,stZ,aiU,if_false]
 have hG:=xy h;by_cases hr:0≤g∧g≤gM m
 case neg =>
  rw [aaw h hr];simp -implicitDefEqProofs only [ph,jg,aiT,cV,h,am,ak,bj,aiZ,ai2,bH,cb,hG,bz,bC,hr,decide_false,if_true,aP,aH,kh,stZ,aiU,if_false]
 rw [aaa h hr];have hf:=IE h hr.1 hr.2;have hre:=afm h hr.1 hr.2;obtain⟨⟨a1,a2⟩,⟨b1,b2⟩,c1,c2⟩:=dr.1 h;have hgb:=adf h;have v1:aiV.wrap (m.1 - (paM m g).1)=(reM m g).1:=ah (by omega) (by omega);have v2:aiV.wrap (m.2.1 - (paM m g).2.1)=(reM m g).2.1:=ah (by omega) (by omega);have v3:aiV.wrap (m.2.2 - (paM m g).2.2)=(reM m g).2.2:=ah (by omega) (by omega);by_cases hg:0<g
 ·have hp:paM m g=(g - tT m g - tA m g,tT m g,tA m g):=by unfold paM;rw [if_pos hg]
  have m1:=aaG b1 b2 (Int.le_of_lt hg) (show g≤3000000 by omega);have m2:=aaG c1 c2 (Int.le_of_lt hg) (show g≤3000000 by omega);have w1:aiV.wrap (m.2.1*g)=m.2.1*g:=ah (by omega) (by omega);have w2:aiV.wrap (m.2.2*g)=m.2.2*g:=ah (by omega) (by omega);rw [hp] at hf v1 v2 v3 hre;dsimp only at hf v1 v2 v3 hre;have q1:aiV.wrap ((m.2.1*g).tdiv (gM m))=tT m g:=by
   rw [ajf m1.1];exact ah (by unfold tT at hf;omega) (by unfold tT at hf;omega)
  have q2:aiV.wrap ((m.2.2*g).tdiv (gM m))=tA m g:=by
   rw [ajf m2.1];exact ah (by unfold tA at hf;omega) (by unfold tA at hf;omega)
  have w3:aiV.wrap (g - tT m g)=g - tT m g:=ah (by omega) (by omega);have w4:aiV.wrap (g - tT m g - tA m g)=g - tT m g - tA m g:=ah (by omega) (by omega);have hn:¬gM m=0:=by omega
  have hpr:me (reM m g) = .agg [I (reM m g).1,I (reM m g).2.1,I (reM m g).2.2]:=rfl;rw [hp];dsimp only;by_cases hle:g - tT m g - tA m g≤m.1
  ·rw [decide_eq_true hle] at hre ⊢
   simp -implicitDefEqProofs only [ph,jg,aiT,cV,h,am,ak,bj,aiZ,bH,cb,hG,bz,bC,hr,and_self,decide_true,aP,aH,kh,stZ,aiU,if_false,eY,hg,if_true,cz,fh,aiY,ai0,aR,eG,w1,w2,md,hn,q1,q2,sM0,sM1,sM2,cq,w3,w4,v1,v2,v3,Gb,hre]
  ·rw [decide_eq_false hle] at hre ⊢
   simp -implicitDefEqProofs only [ph,jg,aiT,cV,h,am,ak,bj,aiZ,ai2,bH,cb,hG,bz,bC,hr,and_self,decide_true,aP,aH,kh,stZ,aiU,if_false,eY,hg,if_true,cz,fh,aiY,ai0,aR,eG,w1,w2,md,hn,q1,q2,sM0,sM1,sM2,cq,w3,w4,v1,v2,v3,Gb,hre]
 ·have hp:paM m g=m0:=by unfold paM;rw [if_neg hg]
  rw [hp] at v1 v2 v3 hre ⊢;have hle:m0.1≤m.1:=a1;rw [decide_eq_true hle] at hre ⊢;dsimp only at v1 v2 v3;simp -implicitDefEqProofs only [ph,jg,aiT,cV,h,am,ak,bj,aiZ,bH,cb,hG,bz,bC,hr,and_self,decide_true,aP,aH,kh,stZ,aiU,if_false,eY,hg,decide_false,if_true,cz,fh,aiY,ai0,aR,cq,v1,v2,v3,Gb,hre]
theorem LK (m:Me) (g:Int):mo [me m,I g]=some (.ret [me (tkP m g),me (tkR m g),B (tkB m g)] []):=by
 rw [Mn];unfold tkP tkR;cases h:cr m
 ·have hb:tkB m g=false:=by simp only [tkB,asB,h,ai8]
  rw [hb];simp -implicitDefEqProofs only [ph,jg,aiT,dn,h,am,ak,bj,ai2,bH,if_true,cb,aP,aH,kh,stZ,aiU,if_false]
 have hG:=nL h;by_cases hr:0≤g∧g≤gM m
 case neg =>
  rw [aaw h hr];simp -implicitDefEqProofs only [ph,jg,aiT,dn,h,am,ak,bj,aiZ,ai2,bH,cb,hG,bz,br,hr,decide_false,if_true,aP,aH,kh,stZ,aiU,if_false]
 rw [aaa h hr];have hf:=IE h hr.1 hr.2;obtain⟨⟨a1,a2⟩,⟨b1,b2⟩,c1,c2⟩:=dr.1 h;have hgb:=adf h;have v1:aiV.wrap (m.1 - (paM m g).1)=(reM m g).1:=ah (by omega) (by omega);have v2:aiV.wrap (m.2.1 - (paM m g).2.1)=(reM m g).2.1:=ah (by omega) (by omega);have v3:aiV.wrap (m.2.2 - (paM m g).2.2)=(reM m g).2.2:=ah (by omega) (by omega);have s1:∀a:Int,stD 1 (.agg [I 0,I 0,I 0]) (.ref 0 1) (I a)=some (me (0,a,0)):=fun a=>sM1 m0 a
 have s0:∀a:Int,stD 1 (.agg [I 0,I 0,I 0]) (.ref 0 0) (I a)=some (me (a,0,0)):=fun a=>sM0 m0 a
 by_cases hg:0<gM m
 ·have hp:paM m g=(g - tT m g - tA m g,tT m g,tA m g):=by
   unfold paM;by_cases g0:0<g
   ·rw [if_pos g0]
   ·rw [if_neg g0]
    have:g=0:=by omega
    subst this;simp [tT,tA]
  have m1:=aaG b1 b2 hr.1 (show g≤3000000 by omega);have m2:=aaG c1 c2 hr.1 (show g≤3000000 by omega);have w1:aiV.wrap (m.2.1*g)=m.2.1*g:=ah (by omega) (by omega);have w2:aiV.wrap (m.2.2*g)=m.2.2*g:=ah (by omega) (by omega);rw [hp] at hf v1 v2 v3;dsimp only at hf v1 v2 v3;have q1:aiV.wrap ((m.2.1*g).tdiv (gM m))=tT m g:=by
   rw [ajf m1.1];exact ah (by unfold tT at hf;omega) (by unfold tT at hf;omega)
  have q2:aiV.wrap ((m.2.2*g).tdiv (gM m))=tA m g:=by
   rw [ajf m2.1];exact ah (by unfold tA at hf;omega) (by unfold tA at hf;omega)
  have w3:aiV.wrap (g - tT m g)=g - tT m g:=ah (by omega) (by omega);have w4:aiV.wrap (g - tT m g - tA m g)=g - tT m g - tA m g:=ah (by omega) (by omega);have hn:¬gM m=0:=by omega
  rw [hp];dsimp only;by_cases hle:g - tT m g - tA m g≤m.1
  ·have hgt:¬m.1<g - tT m g - tA m g:=by omega
   rw [decide_eq_true hle];simp -implicitDefEqProofs only [ph,jg,aiT,dn,h,am,ak,bj,aiZ,bH,cb,hG,bz,br,hr,and_self,decide_true,decide_false,aP,aH,kh,stZ,aiU,if_false,eY,hg,hgt,if_true,cz,fh,aiY,ai0,aR,eG,w1,w2,md,hn,q1,q2,s1,sM0,sM1,sM2,cq,w3,w4,v1,v2,v3,Gb]
  ·have hgt:m.1<g - tT m g - tA m g:=by omega
   rw [decide_eq_false hle];simp -implicitDefEqProofs only [ph,jg,aiT,dn,h,am,ak,bj,aiZ,ai2,bH,cb,hG,bz,br,hr,and_self,decide_true,aP,aH,kh,stZ,aiU,if_false,eY,hg,hgt,if_true,cz,fh,aiY,ai0,aR,eG,w1,w2,md,hn,q1,q2,s1,sM0,sM1,sM2,cq,w3,w4,v1,v2,v3,Gb]
 ·have g0:g=0:=by omega
  subst g0;have hp:paM m 0=m0:=by unfold paM;rw [if_neg (by decide)]
  rw [hp] at v1 v2 v3 ⊢;have hle:m0.1≤m.1:=a1;have hgt:¬m.1<0:=by omega
  rw [decide_eq_true hle];dsimp only at v1 v2 v3;have w0:aiV.wrap (0 - 0)=0:=rfl;simp -implicitDefEqProofs only [ph,jg,aiT,dn,h,am,ak,bj,aiZ,bH,cb,hG,bz,br,hr,and_self,decide_true,aP,aH,kh,stZ,aiU,if_false,eY,hg,hgt,decide_false,if_true,cz,fh,aiY,ai0,aR,cq,w0,s0,v1,v2,v3,Gb]
def shB (m:Me):Bool:=cr m&&decide (0<gM m)
def shL (m:Me):List Int:=[1000*m.1 / gM m,1000*m.2.1 / gM m,1000*m.2.2 / gM m]
def shR (m:Me):List Int:=if shB m=true then shL m else []
theorem Vk {x k:Int} (h0:0≤x) (h1:x≤1000000) (h2:0<k):aiV.wrap (1000*x)=1000*x∧aiV.wrap ((1000*x).tdiv k)=1000*x / k:=by
 refine⟨ah (by omega) (by omega),?_⟩
 have e1:0≤1000*x / k:=aj2 (by omega) (by omega);have e2:1000*x / k≤1000*x:=Int.ediv_le_self _ (by omega);rw [ajf (by omega)];exact ah (by omega) (by omega)
theorem AW (m:Me):oh [me m]=some (.ret [B (shB m)] []):=by
 rw [Pi];cases h:cr m
 ·simp -implicitDefEqProofs only [ph,jg,aiT,cV,h,am,ak,eo,MV,aiU,if_false,xi,aP,shB,ai8]
 ·simp -implicitDefEqProofs only [ph,jg,aiT,cV,h,am,ak,eo,MV,if_true,bz,xy h,eY,aP,shB,ajm]
theorem ML (m:Me):mf [me m]=some (.ret [ai (shR m),B (shB m)] []):=by
 rw [ME];unfold shR;cases hb:shB m
 ·simp -implicitDefEqProofs only [ph,jg,aiT,AW,hb,am,ak,bj,ai2,aH,if_true,be,aiU,if_false,aja]
  rfl
 ·have h:=hb
  simp only [shB,ajo,decide_eq_true_eq] at h;obtain⟨⟨a1,a2⟩,⟨b1,b2⟩,c1,c2⟩:=dr.1 h.1;obtain⟨w1,q1⟩:=Vk a1 a2 h.2;obtain⟨w2,q2⟩:=Vk b1 b2 h.2;obtain⟨w3,q3⟩:=Vk c1 c2 h.2;have hn:¬gM m=0:=by omega
  have hm:=xt (l:=shL m);simp only [shL,ai9,aja] at hm;simp -implicitDefEqProofs only [ph,jg,aiT,AW,hb,am,ak,bj,aiZ,aH,aiU,if_false,if_true,xy h.1,cz,fh,aiY,ai0,aR,eG,w1,w2,w3,md,hn,q1,q2,q3,hm,shL]
theorem MA (m:Me):mn [me m]=some (.ret [ai (shR m),B (shB m)] []):=by
 rw [Mq];unfold shR;cases h:cr m
 ·have hb:shB m=false:=by simp only [shB,h,ai8]
  rw [hb];simp -implicitDefEqProofs only [ph,jg,aiT,dn,h,am,ak,bj,ai2,bH,cb,aH,if_true,aP,aiU,if_false,aja];rfl
 have hgb:=adf h;by_cases h0:gM m=0
 ·have hb:shB m=false:=by simp only [shB,h,h0,ajm];decide
  rw [hb];simp -implicitDefEqProofs only [ph,jg,aiT,dn,h,am,ak,bj,aiZ,bH,cb,nL h,bz,fi,h0,decide_true,aH,if_true,aP,aiU,if_false,aja];rfl
 have hpos:0<gM m:=by omega
 have hb:shB m=true:=by simp only [shB,h,hpos,decide_true,ajm]
 obtain⟨⟨a1,a2⟩,⟨b1,b2⟩,c1,c2⟩:=dr.1 h;have hin:∀n∈meL m,0≤n∧n≤1000000:=by
  intro n hn;simp only [meL,ajl,ajL,or_false] at hn;rcases hn with rfl | rfl | rfl<;>omega
 have hl:(meL m).length=3:=rfl;have hsl:shL m=(meL m).map fun x=>1000*x / gM m:=rfl
 rw [hb];simp -implicitDefEqProofs only [ph,jg,aiT,dn,h,am,ak,bj,aiZ,bH,cb,nL h,bz,fi,h0,decide_false,aH,if_true,aP,aiU,if_false,Be,aL,aiX];rw [hsl];generalize meL m=ns at hin hl;refine aG (.ext 0 [ai (ns.map fun x=>1000*x / gM m)]) (aY ns.length (fun i=>[me m,ai ((ns.take i).map fun x=>1000*x / gM m),ai ns,I ns.length,I i]) _ (fun i hi=>?_) ?_ rfl rfl) ?_
 ·have hi':(i:Int)<(ns.length:Int):=by omega
  have hw:aiV.wrap ((i:Int)+1)=((i+1:Nat):Int):=by rw [ah (by omega) (by omega)];omega
  have hx:=hin ns[i] (ai6 hi);obtain⟨w1,q1⟩:=Vk hx.1 hx.2 hpos;have e1:aq 1 (ai ns) (I (i:Int))=some [I ns[i]]:=by simp [hi]
  have hap:=BI (l:=(ns.take i).map fun x=>1000*x / gM m) (n:=1000*ns[i] / gM m) (by rw [aiX,ajb];omega);have htk:(ns.take (i+1)).map (fun x=>1000*x / gM m)=(ns.take i).map (fun x=>1000*x / gM m)++[1000*ns[i] / gM m]:=by rw [ai3 hi,ai7];rfl
  rw [←htk] at hap;simp -implicitDefEqProofs only [ak,aE,bg,hi',decide_true,aiT,aH,if_true,e1,aiW,bn,aR,bJ,eG,w1,jg,nL h,am,md,h0,if_false,q1,Jc,HT,hap,bv,hw]
 ·simp
 ·simp -implicitDefEqProofs only [bF,ai5,ep,if_true,ak,aE]
theorem UQ {m:Me} (h:shB m=true):998≤(shL m).sum∧(shL m).sum≤1000∧∀n∈shL m,0≤n∧n≤1000:=by
 simp only [shB,ajo,decide_eq_true_eq] at h;obtain⟨hg,hk⟩:=h;obtain⟨⟨a1,a2⟩,⟨b1,b2⟩,c1,c2⟩:=dr.1 hg;have ee:m.1+m.2.1+m.2.2=gM m:=rfl;generalize gM m=k at hk ee;have f:∀x:Int,0≤x→0≤1000*x / k∧1000*x / k*k≤1000*x∧1000*x<1000*x / k*k+k:=fun x hx=>by
  have h1:0≤1000*x / k:=aj2 (by omega) (by omega);have h2:=Int.ediv_mul_le (1000*x) (show k≠0 by omega);have h3:=Int.lt_ediv_add_one_mul_self (1000*x) hk;rw [ajK,Int.one_mul] at h3;exact⟨h1,h2,h3⟩
 obtain⟨f1,f2,f3⟩:=f m.1 a1;obtain⟨g1,g2,g3⟩:=f m.2.1 b1;obtain⟨j1,j2,j3⟩:=f m.2.2 c1;have es:(shL m).sum=1000*m.1 / gM m+1000*m.2.1 / gM m+1000*m.2.2 / gM m:=by
  simp only [shL,List.sum_cons,List.sum_nil];omega
 have eg:gM m=k:=ee;have ek:∀n∈shL m,n=1000*m.1 / k∨n=1000*m.2.1 / k∨n=1000*m.2.2 / k:=by
  intro n hn;simp only [shL,eg,ajl,ajL,or_false] at hn;exact hn
 rw [es,eg];generalize 1000*m.1 / k=x at *;generalize 1000*m.2.1 / k=y at *;generalize 1000*m.2.2 / k=z at *;have up:(x+y+z)*k≤1000*k:=by
  rw [ajK,ajK];omega
 have lo:997*k<(x+y+z)*k:=by
  rw [ajK,ajK];omega
 have u1:=Int.le_of_mul_le_mul_right up hk;have u2:=Int.lt_of_mul_lt_mul_right lo (by omega);refine⟨by omega,by omega,fun n hn=>?_⟩
 rcases ek n hn with rfl | rfl | rfl<;>omega
theorem QR (a b:Int):pQ [I a,I b]=some (.ret [I (if b<a then a else b)] []):=by
 rw [RG];by_cases h:b<a<;>simp [h]
def mtT (m:Me):ByteArray:=cj 45 (meL m)
theorem OK {m:Me} (h:cr m=true):∀n∈meL m,0≤n∧n<1000001:=by
 have:=dr.1 h;intro n hn;simp only [meL,ajl,ajL,or_false] at hn;rcases hn with rfl | rfl | rfl<;>omega
theorem Wa {m:Me} (h:cr m=true):(mtT m).size≤100:=by
 have:=xB (c:=45) (ns:=meL m) fun n hn=>by have:=OK h n hn;omega
 exact ajI this (by simp [meL])
theorem qz {m:Me} (h:cr m=true):gz [me m]=some (.ret [T (mtT m)] []):=by
 rw [Ma];have hm:=xt (l:=meL m);simp only [meL,ai9,aja] at hm;have hj:=KO (meL m) 45 (fun n hn=>by have:=OK h n hn;omega) (by simp [meL]);have e:(D.v (Value.string {data:={toList:=[45]}}))=T ⟨#[45]⟩:=rfl;have hq:acb (meL m)=ai (meL m):=rfl;simp only [meL] at hj hq;simp -implicitDefEqProofs only [ph,aiT,cz,fh,aiY,ai0,aR,hm,hq,e,hj,am,ak,mtT,meL]
theorem ago (m:Me):mtT m=aI m.1++⟨#[45]⟩++aI m.2.1++⟨#[45]⟩++aI m.2.2:=by
 have e1:meL m=[m.1]++[m.2.1]++[m.2.2]:=rfl;unfold mtT;rw [e1,On _ _ _ (by simp),On _ _ _ (by simp),JU]
theorem pl {m:Me} (h:cr m=true):fK [me m]=some (.ret [T (mtT m)] []):=by
 rw [Rb,ago];obtain⟨⟨a1,a2⟩,⟨b1,b2⟩,c1,c2⟩:=dr.1 h;have n1:=bR (n:=m.1) (by omega) (by omega);have n2:=bR (n:=m.2.1) (by omega) (by omega);have n3:=bR (n:=m.2.2) (by omega) (by omega);have z1:=bX 9 (n:=m.1) (by omega) (by omega);have z2:=bX 9 (n:=m.2.1) (by omega) (by omega);have z3:=bX 9 (n:=m.2.2) (by omega) (by omega);have s1:(⟨#[45]⟩:ByteArray).size=1:=rfl;have e:(D.v (Value.string {data:={toList:=[45]}}))=T ⟨#[45]⟩:=rfl;have p1:=YM (a:=aI m.1) (b:=⟨#[45]⟩) (bl:=false) (eq:=[]) (by omega);have p2:=YM (a:=aI m.1++⟨#[45]⟩) (b:=aI m.2.1) (bl:=false) (eq:=[]) (by rw [ajd];omega);have p3:=YM (a:=aI m.1++⟨#[45]⟩++aI m.2.1) (b:=⟨#[45]⟩) (bl:=false) (eq:=[]) (by rw [ajd,ajd];omega);have p4:=YM (a:=aI m.1++⟨#[45]⟩++aI m.2.1++⟨#[45]⟩) (b:=aI m.2.2) (bl:=false) (eq:=[]) (by rw [ajd,ajd,ajd];omega);simp -implicitDefEqProofs only [ph,aiT,cz,fh,aiY,ai0,aR,n1,n2,n3,am,ak,e,p1,p2,p3,p4]
def okM (ns:List Int):Bool :=
 match ns with
 | [a,b,c]=>cr (a,b,c)
 | _=>false
theorem ag1 (ns:List Int) (h:okM ns=true):∀n∈ns,0≤n∧n<10000000000:=by
 unfold okM at h;split at h
 ·intro n hn
  have:=OK h n hn;omega
 ·cases h
def meO (o:Option (List Int)):Me :=
 match o with
 | some [a,b,c]=>(a,b,c)
 | _=>m0
abbrev pM (s:ByteArray):Option (List Int):=zT 45 3 okM s
theorem ahV (s:ByteArray):JE gF 45 3 okM s=pM s:=(aer afw (by decide) (by decide) ag1 (by decide) s).symm
theorem wO (s:ByteArray) (h:s.size≤1048576):il [T s]=some (.ret [me (meO (pM s)),B (pM s).isSome] []):=by
 rw [Ku,kJ s h];unfold pM zT;generalize fv s=ns;rcases ns with _ | ⟨a,_ | ⟨b,_ | ⟨c,_ | ⟨d,ns⟩⟩⟩⟩
 ·simp -implicitDefEqProofs [meO,kh]
 ·simp -implicitDefEqProofs [meO,kh]
 ·simp -implicitDefEqProofs [meO,kh]
 ·have hi:=cV (a,b,c)
  have hk:okM [a,b,c]=cr (a,b,c):=rfl;have hq:(([a,b,c].map I).length:Int)=3:=rfl;have l0:aq 1 (oo [a,b,c]) (I 0)=some [I a]:=rfl;have l1:aq 1 (oo [a,b,c]) (I 1)=some [I b]:=rfl;have l2:aq 1 (oo [a,b,c]) (I 2)=some [I c]:=rfl;have hl:[a,b,c].length=3:=rfl;cases h1:cr (a,b,c)
  ·rw [h1] at hi hk
   simp -implicitDefEqProofs only [am,ak,aL,hq,iO,decide_true,aiZ,aiT,aH,aiU,if_false,l0,l1,l2,aiW,bn,aR,bJ,Gb,stZ,jg,hi,bj,ai2,bH,if_true,cb,aP,kh,hk,false_and,and_false,meO,ajU]
  ·rw [h1] at hi hk
   have ht:=qz h1;have hmt:mtT (a,b,c)=cj 45 [a,b,c]:=rfl;rw [hmt] at ht;by_cases h2:cj 45 [a,b,c]=s
   ·subst h2
    have hne:bin .neq false [] (T (cj 45 [a,b,c])) (T (cj 45 [a,b,c]))=some (B false):=by simp
    simp -implicitDefEqProofs only [am,ak,aL,hq,iO,decide_true,aiZ,aiT,aH,aiU,if_false,l0,l1,l2,aiW,bn,aR,bJ,Gb,stZ,jg,hi,bj,bH,cb,ht,bz,hne,aP,hk,hl,and_self,if_true,meO,akg]
   ·have hne:bin .neq false [] (T (cj 45 [a,b,c])) (T s)=some (B true):=by simp [h2]
    simp -implicitDefEqProofs only [am,ak,aL,hq,iO,decide_true,aiZ,aiT,aH,aiU,if_false,l0,l1,l2,aiW,bn,aR,bJ,Gb,stZ,jg,hi,bj,bH,cb,ht,bz,hne,aP,if_true,kh,h2,and_false,meO,ajU]
 ·have hl:¬((ns.length:Int)+1+1+1+1=3):=by omega
  have hl2:¬(ns.length+1+1+1+1=3):=by omega
  simp -implicitDefEqProofs [meO,kh,hl,hl2]
theorem wk (s:ByteArray) (h:s.size≤1048576):kY [T s]=some (.ret [me (meO (pM s)),B (pM s).isSome] []):=by
 rw [Jq,←ahV];have hs:ce [T s,D.v (aj1 ajM 45)]=some (.ret [.arr 1 ((aC 45 s).map T)] []):=ga s 45 (by omega);have hz:=fL 45 s;rw [hs];unfold JE;generalize aC 45 s=ws at hz;by_cases h5:ws.length=3
 case neg =>
  have h5':¬(ws.length:Int)=3:=by omega
  simp -implicitDefEqProofs [meO,kh,h5,h5']
 have:∃a b c,ws=[a,b,c]:=by
  match ws,h5 with
  | [a,b,c],_=>exact⟨a,b,c,rfl⟩
 obtain⟨a,b,c,rfl⟩:=this;have hq:(([a,b,c].map T).length:Int)=3:=rfl;have l0:aq 1 (.arr 1 ([a,b,c].map T)) (I 0)=some [T a]:=rfl;have l1:aq 1 (.arr 1 ([a,b,c].map T)) (I 1)=some [T b]:=rfl;have l2:aq 1 (.arr 1 ([a,b,c].map T)) (I 2)=some [T c]:=rfl;have r0:=vi a (by have:=hz a (by simp);omega);have r1:=vi b (by have:=hz b (by simp);omega);have r2:=vi c (by have:=hz c (by simp);omega);have hi:=Lo (gF a,gF b,gF c);have hk:okM ([a,b,c].map gF)=cr (gF a,gF b,gF c):=rfl;have hm:[a,b,c].map gF=[gF a,gF b,gF c]:=rfl;have hl:[a,b,c].length=3:=rfl;rw [hk,hm];cases h1:cr (gF a,gF b,gF c)
 ·rw [h1] at hi
  simp -implicitDefEqProofs only [am,ak,aL,hq,iO,decide_true,aiZ,aiT,aH,aiU,if_false,l0,l1,l2,aiW,bn,aR,bJ,r0,r1,r2,Gb,hi,tpM,agU,stZ,jg,and_false,meO,ajU]
 ·rw [h1] at hi
  simp -implicitDefEqProofs only [am,ak,aL,hq,iO,decide_true,aiZ,aiT,aH,aiU,if_false,l0,l1,l2,aiW,bn,aR,bJ,r0,r1,r2,Gb,hi,tpM,agU,stZ,jg,hl,and_self,if_true,meO,akg]
theorem ab4 (c:Cur) (B:Nat) (h:c.ok B) (hB:B≤3000000):∃(m:Me) (c':Cur),kg [lX c]=some (.ret [me m] [lX c'])∧cr m=true∧c'.ok (B+10):=by
 obtain⟨v1,c1,e1,l1,u1,k1⟩:=iF c 100 B h (by omega) (by omega);obtain⟨v2,c2,e2,l2,u2,k2⟩:=iF c1 20 _ k1 (by omega) (by omega);obtain⟨v3,c3,e3,l3,u3,k3⟩:=iF c2 30 _ k2 (by omega) (by omega);obtain⟨b,c4,e4,k4⟩:=acA c3 8 _ k3 (by omega) (by omega);rw [HH];cases b
 ·refine⟨(v1,v2,v3),c4,?_,dr.2 (by dsimp only;omega),k4.mono (by omega)⟩
  simp -implicitDefEqProofs only [cz,ch,MM,aiT,e1,e2,e3,e4,am,ak,Gb,stZ,jg,aH,aiU,if_false]
 ·obtain⟨v5,c5,e5,l5,k5⟩:=IX c4 [1000000,0,500000] _ k4 (by omega) (by simp) (by simp)
  have m1:=xt (l:=[1000000,0,500000]);simp only [ai9,aja] at m1;have hv:0≤v5∧v5≤1000000:=by
   simp only [ajl,ajL,or_false] at l5;omega
  refine⟨(v5,v2,v3),c5,?_,dr.2 (by dsimp only;omega),k5.mono (by omega)⟩
  simp -implicitDefEqProofs only [cz,ch,MM,aiT,e1,e2,e3,e4,m1,e5,am,ak,Gb,stZ,sM0,jg,aH,if_true]
abbrev Slp:=Int × Int
abbrev slp (x:Slp):D:=.agg [I x.1,I x.2]
abbrev sls (l:List Slp):D:=.arr 2 (l.map slp)
def okS (x:Slp):Bool:=decide (1≤x.1∧x.1≤200)&&decide (0≤x.2∧x.2≤20)
def pS (l:List Slp) (i:Nat) (x:Slp):Bool:=okS x && !(decide (0<i)&&decide (x.1≤(l.getD (i - 1) (0,0)).1))
def cA (l:List Slp):Bool:=jD (pS l) 0 l&&decide (l.length≤8)
theorem ahl (m:Slp):stD 2 (.agg [I 0,I 0]) (.ref 0 0) (slp m)=some (slp m):=by simp
theorem abB (a b:Int):dp [(0,1),(1,1)] [I 0,I 0] [I a,I b]=some (slp (a,b)):=by simp [dp,DJ]
theorem elS {l:List Slp} {i:Nat} (h:i<l.length):aq 2 (sls l) (I (i:Int))=some [I l[i].1,I l[i].2]:=by simp [h]
theorem ldS (a b:Int):(ldD true 2 (.ptr [I a,I b])).bind aM=some (slp (a,b)):=rfl
theorem BV (m:Slp):aA 2 [slp m]=some (sls [m]):=by simp [aA,kx]
theorem ia (l:List Slp):cR (sls l)=some (sls l):=qg (fun _=>rfl)
theorem hN {l m:List Slp} (h:l.length+m.length≤1048576):bB 2 16 (sls l) (sls m)=some (sls (l++m)):=by
 rw [gH,if_pos (by simp;omega),←ai7]
theorem pH:(D.arr 2 [])=sls []:=rfl
theorem xf (l:List Slp) (i:Nat) (v:Int) (hi:i<l.length):stD 1 (sls l) (.ref i 1) (I v)=some (sls (l.set i (l[i].1,v))):=by
 have:=acN (z:=2) (i:=i) (f:=1) (L:=l.map slp) (c:=[I l[i].1,I l[i].2]) (v:=.int .i64 v) (by simp [hi]) (by simp);rw [this];show some (D.arr 2 ((l.map slp).set i (slp (l[i].1,v))))=_
 rw [←List.map_set]
theorem vj (x:Slp):px [slp x]=some (.ret [B (okS x)] []):=by
 rw [Qg];by_cases h1:1≤x.1∧x.1≤200<;>simp -implicitDefEqProofs [br,okS,h1]
theorem dM (l:List Slp) (h:l.length≤1048576):fJ [sls l]=some (.ret [B (cA l)] []):=by
 rw [Rf];simp only [aL,aiX,aiT];refine aG _ (pY l (fun i=>[sls l,sls l,I l.length,I i]) (pS l) (.ret [B false] []) (.ext 0 [sls l]) (fun i hi=>?_) ?_ rfl rfl rfl) ?_
 ·have hw:aiV.wrap ((i:Int)+1)=(i:Int)+1:=ah (by omega) (by omega)
  cases h1:okS l[i]
  ·simp -implicitDefEqProofs [hi,vj,h1,pS]
  ·by_cases h0:0<i
   ·have hw2:aiV.wrap ((i:Int) - 1)=((i - 1:Nat):Int):=by rw [ah (by omega) (by omega)];omega
    have hy:i - 1<l.length:=by omega
    by_cases h2:l[i].1≤l[i - 1].1<;>simp -implicitDefEqProofs [hi,hy,vj,h1,pS,hw,hw2,h0,h2]
   ·simp -implicitDefEqProofs [hi,vj,h1,pS,hw,h0]
 ·simp
 ·by_cases hg:jD (pS l) 0 l=true<;>simp [hg,cA]
  omega
theorem dl (l:List Slp) (h:l.length≤1048576):eE [sls l]=some (.ret [B (cA l)] []):=by
 rw [PX];simp only [aL,aiX,aiT];refine aG _ (pY l (fun i=>[sls l,sls l,I l.length,I i]) (pS l) (.ret [B false] []) (.ext 0 [sls l]) (fun i hi=>?_) ?_ rfl rfl rfl) ?_
 ·have hw:aiV.wrap ((i:Int)+1)=(i:Int)+1:=ah (by omega) (by omega)
  by_cases h1:1≤l[i].1∧l[i].1≤200
  case neg=>simp -implicitDefEqProofs [hi,bC,h1,pS,okS]
  by_cases h3:0≤l[i].2∧l[i].2≤20
  case neg=>simp -implicitDefEqProofs [hi,bC,h1,h3,pS,okS]
  by_cases h0:0<i
  ·have hw2:aiV.wrap ((i:Int) - 1)=((i - 1:Nat):Int):=by rw [ah (by omega) (by omega)];omega
   have hy:i - 1<l.length:=by omega
   by_cases h2:l[i].1≤l[i - 1].1<;>simp -implicitDefEqProofs [hi,hy,bC,h1,h3,pS,okS,hw,hw2,h0,h2]
  ·simp -implicitDefEqProofs [hi,bC,h1,h3,pS,okS,hw,h0]
 ·simp
 ·by_cases hg:jD (pS l) 0 l=true<;>simp [hg,cA]
  omega
def bo (len:Int):List Slp→Nat
 | []=>0
 | x::l=>if x.1<len then bo len l+1 else 0
theorem Jd (len:Int):∀l:List Slp,bo len l≤l.length
 | []=>ajt _
 | x::l=>by
  have:=Jd len l;simp only [bo];split<;>simp<;>omega
theorem Ob (len:Int):∀(l:List Slp) (i:Nat) (hi:i<l.length),i<bo len l→l[i].1<len
 | x::l,0,_,h=>by
  simp only [bo] at h;split at h
  ·assumption
  ·omega
 | x::l,i+1,hi,h=>by
  simp only [bo] at h;split at h
  ·exact Ob len l i (by simpa using hi) (by omega)
  ·omega
theorem PK (len:Int):∀(l:List Slp) (h:bo len l<l.length),¬l[bo len l].1<len
 | x::l,h=>by
  by_cases hx:x.1<len
  ·have e:bo len (x::l)=bo len l+1:=by simp only [bo,hx,if_true]
   have h':bo len l<l.length:=by rw [e] at h;simpa using h
   have:=PK len l h';simp only [e,List.getElem_cons_succ];exact this
  ·have e:bo len (x::l)=0:=by simp only [bo,hx,if_false]
   simp only [e,List.getElem_cons_zero];exact hx
def tk (l:List Slp) (len cnt:Int):List Slp :=
 if (l.getD (bo len l) (0,0)).1=len∧bo len l<l.length then l.set (bo len l) (len,aiV.wrap ((l.getD (bo len l) (0,0)).2+cnt))
 else l.take (bo len l)++[(len,cnt)]++l.drop (bo len l)
theorem Ax (l:List Slp) (len cnt:Int):(tk l len cnt).length≤l.length+1:=by
 have:=Jd len l;unfold tk;split
 ·simp
 ·simp;omega
theorem wY (l:List Slp) (len cnt:Int) (h:l.length≤1000000):lc [sls l,I len,I cnt]=some (.ret [sls (tk l len cnt)] []):=by
 rw [Ux];have hle:=Jd len l;refine aG (.ext 0 [sls l,I len,I cnt,I (bo len l)]) (aY (bo len l) (fun i=>[sls l,I len,I cnt,I i]) _ (fun i hi=>?_) ?_ rfl rfl) ?_
 ·have hi2:i<l.length:=by omega
  have hi':(i:Int)<(l.length:Int):=by omega
  have hw:aiV.wrap ((i:Int)+1)=((i+1:Nat):Int):=by rw [ah (by omega) (by omega)];omega
  have hlt:=Ob len l i hi2 hi;simp -implicitDefEqProofs only [ak,aE,aL,aiX,aiT,bg,hi',decide_true,eo,if_true,elS hi2,aiW,ej,aiY,bn,aR,bJ,hlt,aP,aH,bv,hw]
 ·by_cases hk:bo len l<l.length
  ·have hi':((bo len l:Nat):Int)<(l.length:Int):=by omega
   have hlt:=PK len l hk;simp -implicitDefEqProofs only [ak,aE,aL,aiX,aiT,bg,hi',decide_true,eo,if_true,elS hk,aiW,ej,aiY,bn,aR,bJ,hlt,decide_false,aP,aH,aiU,if_false]
  ·have hi':¬((bo len l:Nat):Int)<(l.length:Int):=by omega
   simp -implicitDefEqProofs only [ak,aE,aL,aiX,aiT,bg,hi',decide_false,eo,aiU,if_false,aP,aH]
 ·have ha0:=hN (l:=[]) (m:=l) (by simp;omega)
  rw [ajj] at ha0;have hins:¬((l.getD (bo len l) (0,0)).1=len∧bo len l<l.length)→((dH false 2 (sls l) (I ((0:Nat):Int)) (I (bo len l))).bind fun z=>(cR z).bind fun b=>(bB 2 16 (sls []) b).bind fun y=>(dp [(0,1),(1,1)] [I 0,I 0] [I len,I cnt]).bind fun z=>(aA 2 [z]).bind fun a=>(cR a).bind fun b=>(bB 2 16 y b).bind fun y =>
    (cU false 2 (sls l) (I (bo len l))).bind fun z=>(cR z).bind fun b=>(bB 2 16 y b).bind fun y=>some (Out.ret [y] []))=some (.ret [sls (tk l len cnt)] []):=by
   intro hn;have e1:dH false 2 (sls l) (I ((0:Nat):Int)) (I (bo len l))=some (sls (l.take (bo len l))):=by
    rw [mK (by omega) (by simpa using hle),aiY,←List.map_take]
   have e2:cU false 2 (sls l) (I (bo len l))=some (sls (l.drop (bo len l))):=by
    rw [mV (by simpa using hle),←List.map_drop]
   have a1:=hN (l:=[]) (m:=l.take (bo len l)) (by simp;omega);rw [ajj] at a1;have a2:=hN (l:=l.take (bo len l)) (m:=[(len,cnt)]) (by simp;omega);have a3:=hN (l:=l.take (bo len l)++[(len,cnt)]) (m:=l.drop (bo len l)) (by simp;omega);simp -implicitDefEqProofs only [e1,e2,aiT,ia,a1,a2,a3,abB,BV,tk,hn,if_false]
  by_cases hk:bo len l<l.length
  ·have hi':((bo len l:Nat):Int)<(l.length:Int):=by omega
   have eg:l.getD (bo len l) (0,0)=l[bo len l]:=by simp [ajr,hk]
   by_cases heq:l[bo len l].1=len
   ·have hr:fd 2 (sls l) (I (bo len l))=some (.ref (bo len l) 0):=by rw [lI,if_pos (by simpa using hk)]
    have hat:(atD (sls l) (.ref (bo len l) 1)).bind (an false 1)=some (I l[bo len l].2):=by simp [hk]
    have hs:=xf l (bo len l) (aiV.wrap (l[bo len l].2+cnt)) hk;have hp:tk l len cnt=l.set (bo len l) (l[bo len l].1,aiV.wrap (l[bo len l].2+cnt)):=by
     unfold tk;rw [eg,if_pos ⟨heq,hk⟩,heq]
    rw [hp];simp -implicitDefEqProofs only [bF,ai5,ep,if_true,ak,aE,be,pH,ia,ha0,aL,aiX,aiT,bg,hi',decide_true,eo,elS hk,aiW,ej,aiY,bn,aR,bJ,fi,heq,aP,aH,cy,ch,hr,iU,ajZ,hat,bv,hs]
   ·have:=hins (by rw [eg];exact fun g=>heq g.1)
    simp -implicitDefEqProofs only [bF,ai5,ep,if_true,ak,aE,be,pH,ia,ha0,aL,aiX,aiT,bg,hi',decide_true,eo,elS hk,aiW,ej,aiY,bn,aR,bJ,fi,heq,decide_false,aP,aH,aiU,if_false];exact this
  ·have hi':¬((bo len l:Nat):Int)<(l.length:Int):=by omega
   have:=hins (fun g=>hk g.2);simp -implicitDefEqProofs only [bF,ai5,ep,if_true,ak,aE,be,pH,ia,ha0,aL,aiX,aiT,bg,hi',decide_false,eo,aP,aH,aiU,if_false];exact this
theorem tY (l:List Slp) (len cnt:Int) (h:l.length≤1000000):gI [sls l,I len,I cnt]=some (.ret [sls (tk l len cnt)] []):=by
 rw [Ic];have hle:=Jd len l;refine aG (.ext 0 [sls l,I len,I cnt,I (bo len l)]) (aY (bo len l) (fun i=>[sls l,I len,I cnt,I i]) _ (fun i hi=>?_) ?_ rfl rfl) ?_
 ·have hi2:i<l.length:=by omega
  have hi':(i:Int)<(l.length:Int):=by omega
  have hw:aiV.wrap ((i:Int)+1)=((i+1:Nat):Int):=by rw [ah (by omega) (by omega)];omega
  have hlt:=Ob len l i hi2 hi;simp -implicitDefEqProofs only [ak,aE,aL,aiX,aiT,bg,hi',decide_true,eo,if_true,elS hi2,aiW,ej,aiY,bn,aR,bJ,hlt,aP,aH,bv,hw]
 ·by_cases hk:bo len l<l.length
  ·have hi':((bo len l:Nat):Int)<(l.length:Int):=by omega
   have hlt:=PK len l hk;simp -implicitDefEqProofs only [ak,aE,aL,aiX,aiT,bg,hi',decide_true,eo,if_true,elS hk,aiW,ej,aiY,bn,aR,bJ,hlt,decide_false,aP,aH,aiU,if_false]
  ·have hi':¬((bo len l:Nat):Int)<(l.length:Int):=by omega
   simp -implicitDefEqProofs only [ak,aE,aL,aiX,aiT,bg,hi',decide_false,eo,aiU,if_false,aP,aH]
 ·have ha0:=hN (l:=[]) (m:=l) (by simp;omega)
  rw [ajj] at ha0;have hins:¬((l.getD (bo len l) (0,0)).1=len∧bo len l<l.length)→((dH false 2 (sls l) (I ((0:Nat):Int)) (I (bo len l))).bind fun z=>(cR z).bind fun b=>(bB 2 16 (sls []) b).bind fun y=>(dp [(0,1),(1,1)] [I 0,I 0] [I len,I cnt]).bind fun z=>(aA 2 [z]).bind fun a=>(cR a).bind fun b=>(bB 2 16 y b).bind fun y =>
    (cU false 2 (sls l) (I (bo len l))).bind fun z=>(cR z).bind fun b=>(bB 2 16 y b).bind fun y=>some (Out.ret [y] []))=some (.ret [sls (tk l len cnt)] []):=by
   intro hn;have e1:dH false 2 (sls l) (I ((0:Nat):Int)) (I (bo len l))=some (sls (l.take (bo len l))):=by
    rw [mK (by omega) (by simpa using hle),aiY,←List.map_take]
   have e2:cU false 2 (sls l) (I (bo len l))=some (sls (l.drop (bo len l))):=by
    rw [mV (by simpa using hle),←List.map_drop]
   have a1:=hN (l:=[]) (m:=l.take (bo len l)) (by simp;omega);rw [ajj] at a1;have a2:=hN (l:=l.take (bo len l)) (m:=[(len,cnt)]) (by simp;omega);have a3:=hN (l:=l.take (bo len l)++[(len,cnt)]) (m:=l.drop (bo len l)) (by simp;omega);simp -implicitDefEqProofs only [e1,e2,aiT,ia,a1,a2,a3,abB,BV,tk,hn,if_false]
  by_cases hk:bo len l<l.length
  ·have hi':((bo len l:Nat):Int)<(l.length:Int):=by omega
   have eg:l.getD (bo len l) (0,0)=l[bo len l]:=by simp [ajr,hk]
   by_cases heq:l[bo len l].1=len
   ·have hr:fd 2 (sls l) (I (bo len l))=some (.ref (bo len l) 0):=by rw [lI,if_pos (by simpa using hk)]
    have hat:(atD (sls l) (.ref (bo len l) 1)).bind (an false 1)=some (I l[bo len l].2):=by simp [hk]
    have hs:=xf l (bo len l) (aiV.wrap (l[bo len l].2+cnt)) hk;have hp:tk l len cnt=l.set (bo len l) (l[bo len l].1,aiV.wrap (l[bo len l].2+cnt)):=by
     unfold tk;rw [eg,if_pos ⟨heq,hk⟩,heq]
    rw [hp];simp -implicitDefEqProofs only [bF,ai5,ep,if_true,ak,aE,be,pH,ia,ha0,aL,aiX,aiT,bg,hi',decide_true,eo,elS hk,aiW,ej,aiY,bn,aR,bJ,fi,heq,aP,aH,cy,ch,hr,iU,ajZ,hat,bv,hs]
   ·have:=hins (by rw [eg];exact fun g=>heq g.1)
    simp -implicitDefEqProofs only [bF,ai5,ep,if_true,ak,aE,be,pH,ia,ha0,aL,aiX,aiT,bg,hi',decide_true,eo,elS hk,aiW,ej,aiY,bn,aR,bJ,fi,heq,decide_false,aP,aH,aiU,if_false];exact this
  ·have hi':¬((bo len l:Nat):Int)<(l.length:Int):=by omega
   have:=hins (fun g=>hk g.2);simp -implicitDefEqProofs only [bF,ai5,ep,if_true,ak,aE,be,pH,ia,ha0,aL,aiX,aiT,bg,hi',decide_false,eo,aP,aH,aiU,if_false];exact this
theorem Ph {β:Type} {p:Nat→β→Bool}:∀(l:List β) (s:Nat),jD p s l=true→∀(i:Nat) (hi:i<l.length),p (s+i) l[i]=true
 | [],_,_,_,hi=>absurd hi (Nat.not_lt_zero _)
 | x::l,s,h,0,_=>by
  simp only [jD,ajo] at h;exact h.1
 | x::l,s,h,i+1,hi=>by
  simp only [jD,ajo] at h;have:=Ph l (s+1) h.2 i (by simpa using hi);rwa [show s+(i+1)=s+1+i by omega]
theorem dW {l:List Slp} (h:cA l=true):∀x∈l,(1≤x.1∧x.1≤200)∧0≤x.2∧x.2≤20:=by
 intro x hx;obtain⟨i,hi,rfl⟩:=List.getElem_of_mem hx;simp only [cA,ajo] at h;have:=Ph l 0 h.1 i hi;simp only [pS,okS,ajo,decide_eq_true_eq] at this;exact this.1
theorem dE {l:List Slp} (h:cA l=true):l.length≤8:=by
 simp only [cA,ajo,decide_eq_true_eq] at h;exact h.2
theorem Jh (l:List Slp) (h:l.length≤1048576):kj [sls l,sls l]=some (.ret [B true] []):=by
 rw [Hk];simp -implicitDefEqProofs only [aL,aiX,aiT,iO,decide_true,aiZ,aH,aiU,if_false];refine aG (.ext 0 []) (aY l.length (fun i=>[sls l,sls l,I l.length,I i]) _ (fun i hi=>?_) ?_ rfl rfl) ?_
 ·have hi':(i:Int)<(l.length:Int):=by omega
  have hw:aiV.wrap ((i:Int)+1)=((i+1:Nat):Int):=by rw [ah (by omega) (by omega)];omega
  have hn:bin .neq false [1,1] (slp (l[i].1,l[i].2)) (slp (l[i].1,l[i].2))=some (B false):=by simp [bin,zP]
  simp -implicitDefEqProofs only [ak,aE,bg,hi',decide_true,aiT,aH,if_true,elS hi,aiW,ldS,hn,aiU,if_false,bv,hw]
 ·simp
 ·simp
def ckS (l:List Slp):List Slp:=if cA l=true then l else []
theorem CE (l:List Slp) (h:l.length≤1048576):gY [sls l]=some (.ret [sls (ckS l),B (cA l)] []):=by
 rw [CT];unfold ckS;cases hg:cA l
 ·simp -implicitDefEqProofs only [dl l h,hg,am,ak,bj,ai2,aiT,aH,if_true,be,aiU,if_false]
  rfl
 ·simp -implicitDefEqProofs only [dl l h,hg,am,ak,bj,aiZ,aiT,aH,aiU,if_false,if_true]
theorem KQ (l:List Slp) (h:l.length≤1048576):qh [sls l]=some (.ret [sls (ckS l),B (cA l)] []):=by
 rw [VA];unfold ckS;cases hg:cA l
 ·simp -implicitDefEqProofs only [dM l h,hg,am,ak,bj,ai2,aiT,aH,if_true,aiU,if_false]
  rfl
 ·simp -implicitDefEqProofs only [dM l h,hg,am,ak,bj,aiZ,aiT,aH,aiU,if_false,if_true]
theorem agf (l:List Slp) (ds:List D):ao (.tup (sls l::ds)) 0=some (sls l):=rfl
theorem ahd (l:List Slp) (v:Value) (ds:List D):ao (.tup (sls l :: .v v::ds)) 1=some (.v v):=rfl
def cuK (l:List Slp) (u:Nat) (len:Int):List Slp :=
 tk (tk (l.set u ((l.getD u (0,0)).1,(l.getD u (0,0)).2 - 1)) len 1) ((l.getD u (0,0)).1 - len) 1
def cuA (l:List Slp) (i len:Int):Bool:=cA l&&decide (0≤i∧i≤(l.length:Int) - 1) && !decide ((l.getD i.toNat (0,0)).2=0)&&decide (1≤len∧len≤(l.getD i.toNat (0,0)).1 - 1)
def cuB (l:List Slp) (i len:Int):Bool:=cuA l i len&&cA (cuK l i.toNat len)
def cuR (l:List Slp) (i len:Int):List Slp:=if cuB l i len=true then cuK l i.toNat len else []
theorem Qe (l:List Slp) (i len:Int) (h:l.length≤1000):oe [sls l,I i,I len]=some (.ret [sls (cuR l i len),B (cuB l i len)] []):=by
 rw [OU];unfold cuR;cases h1:cA l
 ·have hj:cuB l i len=false:=by simp only [cuB,cuA,h1,ai8]
  rw [hj];simp -implicitDefEqProofs only [dl l (by omega),h1,am,ak,bj,ai2,aiT,bH,if_true,cb,aP,aH,be,aiU,if_false];rfl
 have wl:aiV.wrap ((l.length:Int) - 1)=(l.length:Int) - 1:=ah (by omega) (by omega);by_cases hr:0≤i∧i≤(l.length:Int) - 1
 case neg =>
  have hj:cuB l i len=false:=by simp only [cuB,cuA,hr,decide_false,ajv,ai8]
  rw [hj];simp -implicitDefEqProofs only [dl l (by omega),h1,am,ak,bj,aiZ,ai2,aiT,bH,cb,aL,aiX,cq,wl,bC,hr,decide_false,bz,if_true,aP,aH,be,aiU,if_false];rfl
 obtain⟨u,rfl⟩:=ai4 hr.1;have hu:u<l.length:=by omega
 have eg:l.getD u (0,0)=l[u]:=by simp [ajr,hu]
 have hok:=dW h1 l[u] (ai6 hu);have hcA:cuA l (u:Int) len=(!decide (l[u].2=0)&&decide (1≤len∧len≤l[u].1 - 1)):=by simp only [cuA,h1,hr,and_self,decide_true,ajm,aji,eg]
 by_cases h0:l[u].2=0
 ·have hj:cuB l (u:Int) len=false:=by simp only [cuB,hcA,h0,decide_true,aiZ,ai8]
  rw [hj];simp -implicitDefEqProofs only [dl l (by omega),h1,am,ak,bj,aiZ,ai2,aiT,bH,cb,aL,aiX,cq,wl,bC,hr,and_self,decide_true,bz,if_true,aP,aH,be,aiU,if_false,elS hu,aiW,ej,ai0,aiY,bn,aR,bJ,fi,h0];rfl
 have wu:aiV.wrap (l[u].1 - 1)=l[u].1 - 1:=ah (by omega) (by omega);by_cases h2:1≤len∧len≤l[u].1 - 1
 case neg =>
  have hj:cuB l (u:Int) len=false:=by simp only [cuB,hcA,h2,decide_false,ajv,ai8]
  rw [hj];simp -implicitDefEqProofs only [dl l (by omega),h1,am,ak,bj,aiZ,ai2,aiT,bH,cb,aL,aiX,cq,wl,bC,hr,and_self,decide_true,bz,if_true,aP,aH,be,aiU,if_false,elS hu,aiW,ej,ai0,aiY,bn,aR,bJ,fi,h0,wu,h2,decide_false];rfl
 have hj:cuB l (u:Int) len=cA (cuK l u len):=by simp only [cuB,hcA,h0,h2,and_self,decide_true,decide_false,ai2,ajm,aji]
 have ha0:=hN (l:=[]) (m:=l) (by simp;omega);rw [ajj] at ha0;have hri:fd 2 (sls l) (I (u:Int))=some (.ref u 0):=by rw [lI,if_pos (by simpa using hu)]
 have hat:(atD (sls l) (.ref u 1)).bind (an false 1)=some (I l[u].2):=by simp [hu]
 have w3:aiV.wrap (l[u].2 - 1)=l[u].2 - 1:=ah (by omega) (by omega);have w4:aiV.wrap (l[u].1 - len)=l[u].1 - len:=ah (by omega) (by omega);have hs:=xf l u (l[u].2 - 1) hu;have z1:=Ax (l.set u (l[u].1,l[u].2 - 1)) len 1;rw [ajw] at z1;have z2:=Ax (tk (l.set u (l[u].1,l[u].2 - 1)) len 1) (l[u].1 - len) 1;have p1:=tY (l.set u (l[u].1,l[u].2 - 1)) len 1 (by rw [ajw];omega);have p2:=tY (tk (l.set u (l[u].1,l[u].2 - 1)) len 1) (l[u].1 - len) 1 (by omega);have hk:cuK l u len=tk (tk (l.set u (l[u].1,l[u].2 - 1)) len 1) (l[u].1 - len) 1:=by unfold cuK;rw [eg]
 rw [←hk] at p2 z2;have p3:=CE (cuK l u len) (by omega);rw [hj,aji];simp -implicitDefEqProofs only [dl l (by omega),h1,am,ak,bj,aiZ,aiT,bH,cb,aL,aiX,cq,wl,bC,hr,and_self,decide_true,bz,aP,aH,be,pH,ia,ha0,aiU,if_false,elS hu,aiW,ej,ai0,aiY,bn,aR,bJ,fi,h0,decide_false,wu,h2,cy,ch,hri,iU,ajZ,hat,w3,hs,p1,w4,p2,p3,agf,ahd,ckS]
theorem NX (l:List Slp) (i len:Int) (h:l.length≤1000):nM [sls l,I i,I len]=some (.ret [sls (cuR l i len),B (cuB l i len)] []):=by
 rw [NP];unfold cuR;cases h1:cA l
 ·have hj:cuB l i len=false:=by simp only [cuB,cuA,h1,ai8]
  rw [hj];simp -implicitDefEqProofs only [dM l (by omega),h1,am,ak,bj,ai2,aiT,bH,if_true,cb,aP,aH,be,aiU,if_false];rfl
 have wl:aiV.wrap ((l.length:Int) - 1)=(l.length:Int) - 1:=ah (by omega) (by omega);by_cases hr:0≤i∧i≤(l.length:Int) - 1
 case neg =>
  have hj:cuB l i len=false:=by simp only [cuB,cuA,hr,decide_false,ajv,ai8]
  rw [hj];simp -implicitDefEqProofs only [dM l (by omega),h1,am,ak,bj,aiZ,ai2,aiT,bH,cb,aL,aiX,cq,wl,br,hr,decide_false,bz,if_true,aP,aH,be,aiU,if_false];rfl
 obtain⟨u,rfl⟩:=ai4 hr.1;have hu:u<l.length:=by omega
 have eg:l.getD u (0,0)=l[u]:=by simp [ajr,hu]
 have hok:=dW h1 l[u] (ai6 hu);have hcA:cuA l (u:Int) len=(!decide (l[u].2=0)&&decide (1≤len∧len≤l[u].1 - 1)):=by simp only [cuA,h1,hr,and_self,decide_true,ajm,aji,eg]
 by_cases h0:l[u].2=0
 ·have hj:cuB l (u:Int) len=false:=by simp only [cuB,hcA,h0,decide_true,aiZ,ai8]
  rw [hj];simp -implicitDefEqProofs only [dM l (by omega),h1,am,ak,bj,aiZ,ai2,aiT,bH,cb,aL,aiX,cq,wl,br,hr,and_self,decide_true,bz,if_true,aP,aH,be,aiU,if_false,elS hu,aiW,ej,ai0,aiY,bn,aR,bJ,fi,h0];rfl
 have wu:aiV.wrap (l[u].1 - 1)=l[u].1 - 1:=ah (by omega) (by omega);by_cases h2:1≤len∧len≤l[u].1 - 1
 case neg =>
  have hj:cuB l (u:Int) len=false:=by simp only [cuB,hcA,h2,decide_false,ajv,ai8]
  rw [hj];simp -implicitDefEqProofs only [dM l (by omega),h1,am,ak,bj,aiZ,ai2,aiT,bH,cb,aL,aiX,cq,wl,br,hr,and_self,decide_true,bz,if_true,aP,aH,be,aiU,if_false,elS hu,aiW,ej,ai0,aiY,bn,aR,bJ,fi,h0,wu,h2,decide_false];rfl
 have hj:cuB l (u:Int) len=cA (cuK l u len):=by simp only [cuB,hcA,h0,h2,and_self,decide_true,decide_false,ai2,ajm,aji]
 have ha0:=hN (l:=[]) (m:=l) (by simp;omega);rw [ajj] at ha0;have hri:fd 2 (sls l) (I (u:Int))=some (.ref u 0):=by rw [lI,if_pos (by simpa using hu)]
 have hat:(atD (sls l) (.ref u 1)).bind (an false 1)=some (I l[u].2):=by simp [hu]
 have w3:aiV.wrap (l[u].2 - 1)=l[u].2 - 1:=ah (by omega) (by omega);have w4:aiV.wrap (l[u].1 - len)=l[u].1 - len:=ah (by omega) (by omega);have hs:=xf l u (l[u].2 - 1) hu;have z1:=Ax (l.set u (l[u].1,l[u].2 - 1)) len 1;rw [ajw] at z1;have z2:=Ax (tk (l.set u (l[u].1,l[u].2 - 1)) len 1) (l[u].1 - len) 1;have p1:=wY (l.set u (l[u].1,l[u].2 - 1)) len 1 (by rw [ajw];omega);have p2:=wY (tk (l.set u (l[u].1,l[u].2 - 1)) len 1) (l[u].1 - len) 1 (by omega);have hk:cuK l u len=tk (tk (l.set u (l[u].1,l[u].2 - 1)) len 1) (l[u].1 - len) 1:=by unfold cuK;rw [eg]
 rw [←hk] at p2 z2;have p3:=KQ (cuK l u len) (by omega);rw [hj,aji];simp -implicitDefEqProofs only [dM l (by omega),h1,am,ak,bj,aiZ,aiT,bH,cb,aL,aiX,cq,wl,br,hr,and_self,decide_true,bz,aP,aH,be,pH,ia,ha0,aiU,if_false,elS hu,aiW,ej,ai0,aiY,bn,aR,bJ,fi,h0,decide_false,wu,h2,cy,ch,hri,iU,ajZ,hat,w3,hs,p1,w4,p2,p3,agf,ahd,ckS]
def zD (a b:Option Nat):Option Nat :=
 match a,b with
 | none,b=>b
 | some a,none=>some a
 | some a,some b=>if b<a then some b else some a
def zY (k:Nat):Option Nat:=if k=0 then some 0 else none
def qO (row:Nat→Option Nat) (w k:Nat):Nat→Option Nat
 | 0=>none
 | m+1=>zD (qO row w k m) ((row (k - m*w)).map (·+m))
def iK (w c k:Nat):Nat:=min c (k / w)+1
def na (w c:Nat) (row:Nat→Option Nat) (k:Nat):Option Nat:=qO row w k (iK w c k)
def de (l:List Slp):Nat→Option Nat:=l.foldl (fun row x=>na x.1.toNat x.2.toNat row) zY
theorem BL {l:List Slp} {i:Nat} (hi:i<l.length):de (l.take (i+1))=na l[i].1.toNat l[i].2.toNat (de (l.take i)):=by
 unfold de;rw [ai3 hi,ajV];rfl
def je (o:Option Nat):Int :=
 match o with
 | none=>-1
 | some v=>(v:Int)
def gT (o:Option Nat):Int :=
 match o with
 | none=>1048576
 | some v=>(v:Int)
theorem agy {a b:Option Nat} {z:Nat} (ha:∀v,a=some v→v≤z) (hb:∀v,b=some v→v≤z):∀v,zD a b=some v→v≤z:=by
 intro v h;cases a with
 | none=>exact hb v h
 | some a =>
  cases b with
  | none=>exact ha v h
  | some b =>
   simp only [zD] at h;split at h
   ·exact hb v h
   ·exact ha v h
theorem MN {row:Nat→Option Nat} {w k z c:Nat} (hr:∀j v,row j=some v→v≤z):∀m,m≤c+1→∀v,qO row w k m=some v→v≤z+c
 | 0,_,v,h=>by cases h
 | m+1,hm,v,h=>by
  refine agy (z:=z+c) (MN hr m (by omega)) (fun v h=>?_) v h
  obtain⟨u,h1,rfl⟩:=Option.map_eq_some_iff.1 h;have:=hr _ _ h1;omega
theorem zJ {l:List Slp} (hl:∀x∈l,x.2≤20):∀(i:Nat),i≤l.length→∀k v,de (l.take i) k=some v→v≤20*i
 | 0,_,k,v,h=>by
  simp only [List.take_zero,de,aj5,zY] at h;split at h
  ·cases h;omega
  ·cases h
 | i+1,hi,k,v,h=>by
  have hi':i<l.length:=hi;rw [BL hi'] at h;have hc:=hl l[i] (ai6 hi');have:=MN (c:=l[i].2.toNat) (zJ hl i (by omega)) (iK l[i].1.toNat l[i].2.toNat k) (by unfold iK;omega) v h;omega
theorem GH {w c k m:Nat} (hw:0<w):m<iK w c k↔m≤c∧m*w≤k:=by
 have:=Nat.le_div_iff_mul_le (x:=m) (y:=k) hw;unfold iK;omega
def oJ (f:Nat→Int) (n k:Nat):List Int:=(aka k).map f++ajg (n - k) 0
def ou (f:Nat→Int) (n:Nat):List Int:=(aka n).map f
theorem SH {f:Nat→Int} {n k:Nat} (h:k≤n):(oJ f n k).length=n:=by simp [oJ];omega
theorem Yu (f:Nat→Int) (n:Nat):oJ f n 0=ajg n 0:=by simp [oJ]
theorem NL (f:Nat→Int) (n:Nat):oJ f n n=ou f n:=by simp [oJ,ou]
theorem SX {f:Nat→Int} {n k:Nat} (h:k<n):(oJ f n k).set k (f k)=oJ f n (k+1):=by
 obtain⟨m,hm⟩:∃m,n - k=m+1:=⟨n - k - 1,by omega⟩
 rw [oJ,oJ,hm,show n - (k+1)=m by omega,akd,List.set_append_right _ _ (by simp)];simp [ajO]
abbrev fC (rows:List (List Int)):D:=.arr 1 (rows.map fun r=>ai r)
theorem qr {l:List Int} {i:Nat} (h:i<l.length):fd 1 (ai l) (I (i:Int))=some (.ref i 0):=by rw [lI,if_pos (by simpa using h)]
theorem pN (l:List Int) (i:Nat) (v:Int) (h:i<l.length):stD 1 (ai l) (.ref i 0) (I v)=some (ai (l.set i v)):=by
 rw [ado (w:=.int .i64 l[i]) (by simp [h])];show some (D.arr 1 ((l.map I).set i (I v)))=_
 rw [←List.map_set]
theorem afJ {l:List Int} {i:Nat} (h:i<l.length):(atD (ai l) (.ref i 0)).bind (an false 1)=some (I l[i]):=by simp [h]
theorem hZ {l:List Int} {i:Nat} (h:i<l.length):aq 1 (ai l) (I (i:Int))=some [I l[i]]:=by simp [h]
theorem xr {l:List (List Int)} {i:Nat} (h:i<l.length):fd 1 (fC l) (I (i:Int))=some (.ref i 0):=by rw [lI,if_pos (by simpa using h)]
theorem Ft {l:List (List Int)} {i:Nat} (h:i<l.length):(atD (fC l) (.ref i 0)).bind (an false 1)=some (ai l[i]):=by simp [h]
theorem Bz {l:List (List Int)} {i:Nat} (h:i<l.length):aq 1 (fC l) (I (i:Int))=some [ai l[i]]:=by simp [h]
theorem xA (r:List Int):aA 1 [ai r]=some (fC [r]):=by simp [aA,kx]
theorem IG {l m:List (List Int)} (h:l.length+m.length≤1000000):bB 1 24 (fC l) (fC m)=some (fC (l++m)):=by
 rw [gH,if_pos (by simp;omega),←ai7]
theorem AD {n:Nat} (h:n≤1000000):Nb 1 8 (I 0) (I (n:Int)) (I (n:Int))=some (ai (ajg n 0)):=by
 rw [abU,if_pos (by omega)];show _=some (D.arr 1 ((ajg n (0:Int)).map I))
 rw [List.map_replicate]
theorem wK (l:List Slp) (h:l.length≤1000000):iB [sls l]=some (.ret [ai (l.map (·.1)),ai (l.map (·.2))] []):=by
 rw [Jy];simp -implicitDefEqProofs only [be,aiT,aL,aiX];refine aG (.ext 0 [ai (l.map (·.1)),ai (l.map (·.2))]) (aY l.length (fun i=>[ai ((l.take i).map (·.1)),ai ((l.take i).map (·.2)),sls l,I l.length,I i]) _ (fun i hi=>?_) ?_ rfl rfl) ?_
 ·have hi':(i:Int)<(l.length:Int):=by omega
  have hw:aiV.wrap ((i:Int)+1)=((i+1:Nat):Int):=by rw [ah (by omega) (by omega)];omega
  have a1:=BI (l:=(l.take i).map (·.1)) (n:=l[i].1) (by rw [aiX,ajb];omega);have a2:=BI (l:=(l.take i).map (·.2)) (n:=l[i].2) (by rw [aiX,ajb];omega);have e1:(l.take (i+1)).map (·.1)=(l.take i).map (·.1)++[l[i].1]:=by rw [ai3 hi,ai7];rfl
  have e2:(l.take (i+1)).map (·.2)=(l.take i).map (·.2)++[l[i].2]:=by rw [ai3 hi,ai7];rfl
  rw [←e1] at a1;rw [←e2] at a2;simp -implicitDefEqProofs only [ak,aE,bg,hi',decide_true,aiT,aH,if_true,elS hi,aiW,ldS,ahl,cz,fh,aiY,ai0,aR,Jc,HT,a1,a2,bv,hw]
 ·simp
 ·simp -implicitDefEqProofs only [bF,ai5,ep,if_true,ak,aE]
theorem Oy (i f:Nat) (x:D):WC (.ref i f) x=x:=rfl
def zA (n:Nat) (F:Nat→Option Nat):List Int:=ou (fun k=>je (F k)) (n+1)
def qm (n:Nat) (l:List Slp) (i:Nat):List (List Int):=(aka i).map fun j=>zA n (de (l.take j))
theorem qj (n:Nat) (l:List Slp) (i:Nat):(qm n l i).length=i:=by simp [qm]
theorem AY {n:Nat} {l:List Slp} {i j:Nat} (h:j<i):(qm n l i)[j]'(by rw [qj];exact h)=zA n (de (l.take j)):=by simp [qm]
theorem abL (n:Nat) (l:List Slp) (i:Nat):qm n l i++[zA n (de (l.take i))]=qm n l (i+1):=by simp [qm,ajO]
theorem vJ (n:Nat) (F:Nat→Option Nat):(zA n F).length=n+1:=by simp [zA,ou]
theorem Ab {n:Nat} {F:Nat→Option Nat} {k:Nat} (h:k<n+1):(zA n F)[k]'(by rw [vJ];exact h)=je (F k):=by simp [zA,ou]
theorem Km:je none = -1:=rfl
theorem EX (v:Nat):je (some v)=(v:Int):=rfl
theorem wI {i:Nat} (h:i≤1000000):aiV.wrap ((i:Int)+1)=((i+1:Nat):Int):=by rw [ah (by omega) (by omega)];omega
theorem aeP {l:List Int} {i:Nat} {v:Int} (h:i<l.length):(l.set i v)[i]'(by rw [ajw];exact h)=v:=by simp
theorem Ds (l:List Slp) (n:Nat) (hl:l.length≤8) (hn:n≤400) (hok:∀x∈l,(1≤x.1∧x.1≤200)∧0≤x.2∧x.2≤20) :
  jv [ai (l.map (·.1)),ai (l.map (·.2)),I (n:Int)]=some (.ret [fC (qm n l (l.length+1))] []):=by
 rw [RY];simp -implicitDefEqProofs only [bv,wI (show n≤1000000 by omega),AD (show n+1≤1000000 by omega),cy,aiT];refine aG (.ext 0 [ai (l.map (·.1)),ai (l.map (·.2)),I (n:Int),.ref 0 0,ai (zA n zY)]) (aY n (fun i=>[ai (l.map (·.1)),ai (l.map (·.2)),I (n:Int),.ref 0 0,I ((i+1:Nat):Int),ai (oJ (fun k=>je (zY k)) (n+1) (i+1))]) _ (fun i hi=>?_) ?_ rfl ?_) ?_
 ·have h1:((i+1:Nat):Int)≤(n:Int):=by omega
  have hlen:=SH (f:=fun k=>je (zY k)) (n:=n+1) (k:=i+1) (by omega);have hr:=qr (l:=oJ (fun k=>je (zY k)) (n+1) (i+1)) (i:=i+1) (by omega);have hs:=pN (oJ (fun k=>je (zY k)) (n+1) (i+1)) (i+1) (-1) (by omega);have hf:=SX (f:=fun k=>je (zY k)) (n:=n+1) (k:=i+1) (by omega);have hm:je (zY (i+1)) = -1:=by simp [zY,je]
  simp only [hm] at hf;rw [hf] at hs;simp -implicitDefEqProofs only [ak,aE,gr,h1,decide_true,aiT,aH,if_true,ch,hr,hs,bv,wI (show i+1≤1000000 by omega)]
 ·have h1:¬((n+1:Nat):Int)≤(n:Int):=by omega
  simp -implicitDefEqProofs only [ak,aE,gr,h1,decide_false,aiT,aH,aiU,if_false,NL];rfl
 ·have:oJ (fun k=>je (zY k)) (n+1) (0+1)=ajg (n+1) 0:=by
   simp [oJ,zY,je,akd]
  rw [this];rfl
 have t0:[zA n zY]=qm n l 1:=by simp [qm,de]
 simp -implicitDefEqProofs only [bF,ai5,ep,if_true,ak,aE,Oy,xA,t0,aL,aiX,aiT];refine aG (.ext 2 [fC (qm n l (l.length+1))]) (aY l.length (fun i=>[ai (l.map (·.2)),I (n:Int),fC (qm n l (i+1)),ai (l.map (·.1)),I l.length,I i]) _ (fun i hi=>?_) ?_ rfl rfl) ?_
 case refine_2 =>
  simp
 case refine_3=>simp -implicitDefEqProofs only [bF,ai5,ep,if_true,ak,aE]
 have hi':(i:Int)<(l.length:Int):=by omega
 have ho:=hok l[i] (ai6 hi);obtain⟨w,hw⟩:=ai4 (show 0≤l[i].1 by omega);obtain⟨c,hc⟩:=ai4 ho.2.1;have hwp:0<w:=by omega
 have ew:aq 1 (ai (l.map (·.1))) (I (i:Int))=some [I (w:Int)]:=by rw [hZ (by simpa using hi)];simp [←hw]
 have ec:aq 1 (ai (l.map (·.2))) (I (i:Int))=some [I (c:Int)]:=by rw [hZ (by simpa using hi)];simp [←hc]
 have hstep:de (l.take (i+1))=na w c (de (l.take i)):=by rw [BL hi,hw,hc];rfl
 have hb:=zJ (l:=l) (fun x hx=>(hok x hx).2.2) i (by omega);have htab:=Ft (l:=qm n l (i+1)) (i:=i) (by rw [qj];omega);have hrt:=xr (l:=qm n l (i+1)) (i:=i) (by rw [qj];omega);rw [AY (by omega)] at htab;simp -implicitDefEqProofs only [ak,aE,bg,hi',decide_true,aiT,aH,if_true,ew,aiW,bn,aR,bJ,bv,wI (show n≤1000000 by omega),AD (show n+1≤1000000 by omega),cy,ch,aL,aiX,List.length_replicate];generalize hF:de (l.take i)=F at *;refine aG (.ext 4 [ai (l.map (·.2)),I (n:Int),fC (qm n l (i+1)),.ref 0 0,ai (l.map (·.1)),I l.length,I i,ai (zA n (na w c F))]) (aY (n+1) (fun k=>[ai (l.map (·.2)),I (n:Int),fC (qm n l (i+1)),I i,I (w:Int),.ref 0 0,ai (l.map (·.1)),I l.length,I i,ai (oJ (fun k=>je (na w c F k)) (n+1) k),I ((n+1:Nat):Int),I k]) _ (fun k hk=>?_) ?_ rfl ?_) ?_
 case refine_2 =>
  have h1:¬((n+1:Nat):Int)<((n+1:Nat):Int):=by omega
  simp -implicitDefEqProofs only [ak,aE,bg,h1,decide_false,aiT,aH,aiU,if_false,NL];rfl
 case refine_3 =>
  rw [Yu];rfl
 case refine_4 =>
  have hap:=IG (l:=qm n l (i+1)) (m:=[zA n (na w c F)]) (by rw [qj];simp;omega);have hsn:=abL n l (i+1);rw [hstep] at hsn;rw [hsn] at hap;simp -implicitDefEqProofs only [bF,ai5,ep,if_true,ak,aE,Oy,xA,hap,aiT,bv,wI (show i≤1000000 by omega)]
 have hk':(k:Int)<((n+1:Nat):Int):=by omega
 generalize hL:oJ (fun k=>je (na w c F k)) (n+1) k=L;have hlen:L.length=n+1:=by rw [←hL];exact SH (by omega)
 have hfill:L.set k (je (na w c F k))=oJ (fun k=>je (na w c F k)) (n+1) (k+1):=by rw [←hL];exact SX (by omega)
 have hrf:=qr (l:=L) (i:=k) (by omega);have hst:=pN L k (-1) (by omega);simp -implicitDefEqProofs only [ak,aE,bg,hk',decide_true,aiT,aH,if_true,ch,hrf,hst];refine aG (.ext 6 [ai (l.map (·.2)),I (n:Int),fC (qm n l (i+1)),I i,I (w:Int),.ref 0 0,ai (l.map (·.1)),I l.length,I i,ai (L.set k (je (na w c F k))),I ((n+1:Nat):Int),I k]) (aY (iK w c k) (fun m=>[ai (l.map (·.2)),I (n:Int),fC (qm n l (i+1)),I i,I (w:Int),.ref 0 0,I k,I m,ai (l.map (·.1)),I l.length,I i,ai (L.set k (je (qO F w k m))),I ((n+1:Nat):Int),I k]) _ (fun m hm=>?_) ?_ rfl rfl) ?_
 case refine_2 =>
  have hno:¬(iK w c k≤c∧iK w c k*w≤k):=fun h=>Nat.lt_irrefl _ ((GH hwp).2 h)
  have hM:iK w c k≤21:=by unfold iK;omega
  by_cases h1:((iK w c k:Nat):Int)≤(c:Int)
  ·have h2:¬((iK w c k:Nat):Int)*(w:Int)≤(k:Int):=by
    intro h;exact hno ⟨by omega,by exact_mod_cast h⟩
   have hmb:iK w c k*w≤21*200:=Nat.mul_le_mul hM (by omega);have hwr:aiV.wrap (((iK w c k:Nat):Int)*(w:Int))=((iK w c k:Nat):Int)*(w:Int):=by
    rw [←ajP];exact ah (by omega) (by omega)
   simp -implicitDefEqProofs only [ak,aE,ec,aiW,bn,aR,bJ,aiT,gr,h1,decide_true,eo,if_true,eG,hwr,h2,decide_false,aP,aH,aiU,if_false];rfl
  ·simp -implicitDefEqProofs only [ak,aE,ec,aiW,bn,aR,bJ,aiT,gr,h1,decide_false,eo,aiU,if_false,aP,aH]
   rfl
 case refine_3 =>
  simp -implicitDefEqProofs only [bF,ai5,ep,if_true,ak,aE,aiT,bv,wI (show k≤1000000 by omega),hfill]
 obtain⟨m1,m2⟩:=(GH hwp).1 hm;have h1:(m:Int)≤(c:Int):=by omega
 have h2:(m:Int)*(w:Int)≤(k:Int):=by exact_mod_cast m2
 have hwr:aiV.wrap ((m:Int)*(w:Int))=((m*w:Nat):Int):=by
  rw [←ajP];exact ah (by omega) (by omega)
 have h2':((m*w:Nat):Int)≤(k:Int):=by omega
 have hsub:aiV.wrap ((k:Int) - ((m*w:Nat):Int))=((k - m*w:Nat):Int):=by rw [ah (by omega) (by omega)];omega
 have hel:=hZ (l:=zA n F) (i:=k - m*w) (by rw [vJ];omega);rw [Ab (by omega)] at hel;have hwm:=wI (show m≤1000000 by omega);have hln:(L.set k (je (qO F w k m))).length=n+1:=by rw [ajw,hlen]
 have hrf2:=qr (l:=L.set k (je (qO F w k m))) (i:=k) (by omega);have hat2:=afJ (l:=L.set k (je (qO F w k m))) (i:=k) (by omega);rw [aeP (by omega)] at hat2;have hst2:∀v:Int,stD 1 (ai (L.set k (je (qO F w k m)))) (.ref k 0) (I v)=some (ai (L.set k v)):=fun v=>by rw [pN _ k v (by omega),List.set_set]
 have hbn:qO F w k (m+1)=zD (qO F w k m) ((F (k - m*w)).map (·+m)):=rfl;have hBb:=MN (row:=F) (w:=w) (k:=k) (z:=20*i) (c:=c) hb m (by omega);rw [hbn];have hFb:=hb (k - m*w);generalize hG:F (k - m*w)=o at hel hFb ⊢;generalize hH:qO F w k m=q at *;cases o with
 | none =>
  have hmin:zD q (akb (·+m) none)=q:=by cases q<;>rfl
  rw [hmin];simp -implicitDefEqProofs only [ak,aE,ec,aiW,bn,aR,bJ,aiT,gr,h1,decide_true,eo,if_true,eG,hwr,h2',aP,aH,ch,cy,hrt,htab,cq,hsub,hel,Km,EX,jM,show ¬(0:Int) ≤ -1 by decide,decide_false,aiU,if_false,xi,bH,bv,hwm]
 | some v =>
  have hv:=hFb v rfl;have hvm:aiV.wrap ((v:Int)+(m:Int))=((v+m:Nat):Int):=by rw [ah (by omega) (by omega)];omega
  have hv0:(0:Int)≤(v:Int):=by omega
  cases q with
  | none =>
   simp only [Km] at hrf2 hat2 hst2;have hmin:zD none (akb (·+m) (some v))=some (v+m):=rfl;rw [hmin];simp -implicitDefEqProofs only [ak,aE,ec,aiW,bn,aR,bJ,aiT,gr,h1,decide_true,eo,if_true,eG,hwr,h2',aP,aH,ch,cy,hrt,htab,cq,hsub,hel,Km,EX,jM,hv0,hrf2,hat2,bg,show(-1:Int)<0 by decide,bH,xi,bv,hvm,hst2,hwm]
  | some b =>
   simp only [EX] at hrf2 hat2 hst2;have hnb:¬(b:Int)<0:=by omega
   by_cases hlt:v+m<b
   ·have hlt':((v+m:Nat):Int)<(b:Int):=by omega
    have hmin:zD (some b) (akb (·+m) (some v))=some (v+m):=by simp [zD,hlt]
    rw [hmin];simp -implicitDefEqProofs only [ak,aE,ec,aiW,bn,aR,bJ,aiT,gr,h1,decide_true,eo,if_true,eG,hwr,h2',aP,aH,ch,cy,hrt,htab,cq,hsub,hel,Km,EX,jM,hv0,hrf2,hat2,bg,hnb,hlt',decide_false,aiU,if_false,bH,xi,bv,hvm,hst2,hwm]
   ·have hlt':¬((v+m:Nat):Int)<(b:Int):=by omega
    have hmin:zD (some b) (akb (·+m) (some v))=some b:=by simp [zD,hlt]
    rw [hmin];simp -implicitDefEqProofs only [ak,aE,ec,aiW,bn,aR,bJ,aiT,gr,h1,decide_true,eo,if_true,eG,hwr,h2',aP,aH,ch,cy,hrt,htab,cq,hsub,hel,Km,EX,jM,hv0,hrf2,hat2,bg,hnb,hlt',decide_false,aiU,if_false,bH,xi,bv,hvm,hwm]
theorem agt (a b:Int):(if a<b then a else b)=min a b:=by
 rw [Int.min_def];by_cases h:a<b
 ·rw [if_pos h,if_pos (by omega)]
 ·rw [if_neg h]
  by_cases h2:a≤b
  ·rw [if_pos h2];omega
  ·rw [if_neg h2]
theorem abN {q o:Option Nat} {m:Nat} (hq:∀b,q=some b→b≤1000) (ho:∀v,o=some v→v≤1000) (hm:m≤1000):(if gT q<gT o+(m:Int) then gT q else gT o+(m:Int))=gT (zD q (o.map (·+m))):=by
 rw [agt];cases o with
 | none =>
  cases q with
  | none =>
   simp only [gT,zD,ajG];omega
  | some b =>
   have:=hq b rfl;simp only [gT,zD,ajG];omega
 | some v =>
  have:=ho v rfl;cases q with
  | none =>
   simp only [gT,zD,aiW];omega
  | some b =>
   have:=hq b rfl;simp only [zD,aiW];by_cases h:v+m<b
   ·rw [if_pos h]
    simp only [gT];omega
   ·rw [if_neg h]
    simp only [gT];omega
theorem adM {o:Option Nat} (ho:∀v,o=some v→v≤1000):0≤gT o∧gT o≤1048576:=by
 cases o with
 | none=>simp [gT]
 | some v =>
  have:=ho v rfl;simp only [gT];omega
def yX (n:Nat) (F:Nat→Option Nat):List Int:=ou (fun k=>gT (F k)) (n+1)
def oN (n:Nat) (l:List Slp) (i:Nat):List (List Int):=(aka i).map fun j=>yX n (de (l.take j))
theorem pW (n:Nat) (l:List Slp) (i:Nat):(oN n l i).length=i:=by simp [oN]
theorem Aj {n:Nat} {l:List Slp} {i j:Nat} (h:j<i):(oN n l i)[j]'(by rw [pW];exact h)=yX n (de (l.take j)):=by simp [oN]
theorem abr (n:Nat) (l:List Slp) (i:Nat):oN n l i++[yX n (de (l.take i))]=oN n l (i+1):=by simp [oN,ajO]
theorem vE (n:Nat) (F:Nat→Option Nat):(yX n F).length=n+1:=by simp [yX,ou]
theorem vy {n:Nat} {F:Nat→Option Nat} {k:Nat} (h:k<n+1):(yX n F)[k]'(by rw [vE];exact h)=gT (F k):=by simp [yX,ou]
theorem Zb (f:Nat→Int) (k:Nat):ou f (k+1)=ou f k++[f k]:=by simp [ou,ajO]
theorem abk (f:Nat→Int) (k:Nat):(ou f k).length=k:=by simp [ou]
theorem abu (n:Nat):(ajg (n+1) (1048576:Int)).set 0 0=yX n zY:=by
 refine List.ext_getElem (by simp [yX,ou]) fun i h1 h2=>?_
 rw [vy (by simpa using h1),List.getElem_set];by_cases h:0=i
 ·subst h
  simp [zY,gT]
 ·rw [if_neg h]
  have:¬i=0:=fun e=>h e.symm
  simp [zY,gT,this]
theorem yG (l:List Slp) (n:Nat) (hl:l.length≤8) (hn:n≤400) (hok:∀x∈l,(1≤x.1∧x.1≤200)∧0≤x.2∧x.2≤20) :
  gA [sls l,I (n:Int)]=some (.ret [fC (oN n l (l.length+1))] []):=by
 rw [Mb];refine aG (.ext 0 [sls l,I (n:Int),ai (ajg (n+1) 1048576)]) (aY (n+1) (fun k=>[sls l,I (n:Int),ai (ajg k 1048576),I k]) _ (fun k hk=>?_) ?_ rfl rfl) ?_
 ·have h1:(k:Int)≤(n:Int):=by omega
  have ha:=BI (l:=ajg k 1048576) (n:=1048576) (by simp;omega);rw [←List.replicate_succ'] at ha;simp -implicitDefEqProofs only [ak,aE,gr,h1,decide_true,aiT,aH,if_true,Jc,HT,ha,bv,wI (show k≤1000000 by omega)]
 ·have h1:¬((n+1:Nat):Int)≤(n:Int):=by omega
  simp -implicitDefEqProofs only [ak,aE,gr,h1,decide_false,aiT,aH,aiU,if_false]
 have hr0:fd 1 (ai (ajg (n+1) 1048576)) (I 0)=some (.ref 0 0):=qr (i:=0) (by simp);have hs0:=pN (ajg (n+1) 1048576) 0 0 (by simp);rw [abu] at hs0;have t0:[yX n zY]=oN n l 1:=by simp [oN,de]
 simp -implicitDefEqProofs only [bF,ai5,ep,if_true,ak,aE,cy,ch,hr0,hs0,xA,t0,aL,aiX,aiT];refine aG (.ext 2 [fC (oN n l (l.length+1))]) (aY l.length (fun i=>[I (n:Int),fC (oN n l (i+1)),sls l,I l.length,I i]) _ (fun i hi=>?_) ?_ rfl rfl) ?_
 case refine_2=>simp
 case refine_3=>simp -implicitDefEqProofs only [bF,ai5,ep,if_true,ak,aE]
 have hi':(i:Int)<(l.length:Int):=by omega
 have ho:=hok l[i] (ai6 hi);obtain⟨w,hw⟩:=ai4 (show 0≤l[i].1 by omega);obtain⟨c,hc⟩:=ai4 ho.2.1;have hwp:0<w:=by omega
 have hstep:de (l.take (i+1))=na w c (de (l.take i)):=by rw [BL hi,hw,hc];rfl
 have hb:=zJ (l:=l) (fun x hx=>(hok x hx).2.2) i (by omega);have htab:=Ft (l:=oN n l (i+1)) (i:=i) (by rw [pW];omega);have hrt:=xr (l:=oN n l (i+1)) (i:=i) (by rw [pW];omega);rw [Aj (by omega)] at htab;simp -implicitDefEqProofs only [ak,aE,bg,hi',decide_true,aiT,aH,if_true,elS hi,aiW,ldS,ahl];rw [hw,hc];generalize hF:de (l.take i)=F at *;refine aG (.ext 4 [I (n:Int),fC (oN n l (i+1)),ai (yX n (na w c F)),sls l,I l.length,I i]) (aY (n+1) (fun k=>[I (n:Int),fC (oN n l (i+1)),I i,slp ((w:Int),(c:Int)),ai (ou (fun k=>gT (na w c F k)) k),I k,sls l,I l.length,I i]) _ (fun k hk=>?_) ?_ rfl rfl) ?_
 case refine_2 =>
  have h1:¬((n+1:Nat):Int)≤(n:Int):=by omega
  simp -implicitDefEqProofs only [ak,aE,gr,h1,decide_false,aiT,aH,aiU,if_false];rfl
 case refine_3 =>
  have hap:=IG (l:=oN n l (i+1)) (m:=[yX n (na w c F)]) (by rw [pW];simp;omega);have hsn:=abr n l (i+1);rw [hstep] at hsn;rw [hsn] at hap;simp -implicitDefEqProofs only [bF,ai5,ep,if_true,ak,aE,xA,hap,aiT,bv,wI (show i≤1000000 by omega)]
 have hk':(k:Int)≤(n:Int):=by omega
 simp -implicitDefEqProofs only [ak,aE,gr,hk',decide_true,aiT,aH,if_true];refine aG (.ext 6 [I (n:Int),fC (oN n l (i+1)),I i,slp ((w:Int),(c:Int)),ai (ou (fun k=>gT (na w c F k)) k),I k,I (gT (na w c F k)),sls l,I l.length,I i]) (aY (iK w c k) (fun m=>[I (n:Int),fC (oN n l (i+1)),I i,slp ((w:Int),(c:Int)),ai (ou (fun k=>gT (na w c F k)) k),I k,I (gT (qO F w k m)),I m,sls l,I l.length,I i]) _ (fun m hm=>?_) ?_ rfl rfl) ?_
 case refine_2 =>
  have hno:¬(iK w c k≤c∧iK w c k*w≤k):=fun h=>Nat.lt_irrefl _ ((GH hwp).2 h)
  have hM:iK w c k≤21:=by unfold iK;omega
  by_cases h1:((iK w c k:Nat):Int)≤(c:Int)
  ·have h2:¬((iK w c k:Nat):Int)*(w:Int)≤(k:Int):=by
    intro h;exact hno ⟨by omega,by exact_mod_cast h⟩
   have hmb:iK w c k*w≤21*200:=Nat.mul_le_mul hM (by omega);have hwr:aiV.wrap (((iK w c k:Nat):Int)*(w:Int))=((iK w c k:Nat):Int)*(w:Int):=by
    rw [←ajP];exact ah (by omega) (by omega)
   simp -implicitDefEqProofs only [ak,aE,cz,fh,aiY,ai0,aR,aiT,gr,h1,decide_true,eo,if_true,eG,hwr,h2,decide_false,aP,aH,aiU,if_false];rfl
  ·simp -implicitDefEqProofs only [ak,aE,cz,fh,aiY,ai0,aR,aiT,gr,h1,decide_false,eo,aiU,if_false,aP,aH]
   rfl
 case refine_3 =>
  have ha:=BI (l:=ou (fun k=>gT (na w c F k)) k) (n:=gT (na w c F k)) (by rw [abk];omega);rw [←Zb (fun k=>gT (na w c F k))] at ha;simp -implicitDefEqProofs only [bF,ai5,ep,if_true,ak,aE,Jc,HT,ha,aiT,bv,wI (show k≤1000000 by omega)]
 obtain⟨m1,m2⟩:=(GH hwp).1 hm;have h1:(m:Int)≤(c:Int):=by omega
 have hwr:aiV.wrap ((m:Int)*(w:Int))=((m*w:Nat):Int):=by
  rw [←ajP];exact ah (by omega) (by omega)
 have h2':((m*w:Nat):Int)≤(k:Int):=by omega
 have hsub:aiV.wrap ((k:Int) - ((m*w:Nat):Int))=((k - m*w:Nat):Int):=by rw [ah (by omega) (by omega)];omega
 have hel:=hZ (l:=yX n F) (i:=k - m*w) (by rw [vE];omega);rw [vy (by omega)] at hel;have hwm:=wI (show m≤1000000 by omega);have hBb:=MN (row:=F) (w:=w) (k:=k) (z:=20*i) (c:=c) hb m (by omega);have hFb:=hb (k - m*w);have heb:=adM (o:=F (k - m*w)) fun v hv=>by have:=hFb v hv;omega
 have hadd:aiV.wrap (gT (F (k - m*w))+(m:Int))=gT (F (k - m*w))+(m:Int):=ah (by omega) (by omega);have hls:=zU (gT (qO F w k m)) (gT (F (k - m*w))+(m:Int));rw [abN (fun b hb=>by have:=hBb b hb;omega) (fun v hv=>by have:=hFb v hv;omega) (by omega)] at hls;have hbn:zD (qO F w k m) ((F (k - m*w)).map (·+m))=qO F w k (m+1):=rfl;rw [hbn] at hls;simp -implicitDefEqProofs only [ak,aE,cz,cy,ch,fh,aiY,ai0,aR,aiT,gr,h1,decide_true,eo,if_true,eG,hwr,h2',aP,aH,hrt,htab,cq,hsub,hel,aiW,bn,bJ,bv,hadd,hls,am,hwm]
end Go.Proofs.YtjafgdefcggjcaaGreatDoor

end
