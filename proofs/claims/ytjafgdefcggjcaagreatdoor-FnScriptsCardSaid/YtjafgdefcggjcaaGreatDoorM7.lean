/-
  A part of the proof: contracts and plain forms of functions beneath the statement, made small by a program (names shortened, what is not needed left out).
-/
import Derived.Test.YtjafgdefcggjcaaGreatDoorRows
import Derived.Test.YtjafgdefcggjcaaGreatDoorTie
import Derived.Test.YtjafgdefcggjcaaGreatDoorCards
import Derived.Test.YtjafgdefcggjcaaGreatDoorM6
import Derived.Lib.IndexBytes
import Derived.Laws.RangeString
import Derived.Laws.Bits64b
open Option renaming bind_some → aik, map_some → ain, map_none → ai7, isSome_none → ajl, map → ajC, isSome_some → ajH
open Bool renaming false_eq_true → ail, not_true → air, not_false → ait, false_and → aiz, true_and → aiN, and_eq_true → aiP, and_false → aiW
open Go.IntKind renaming i64 → aim, u64 → ai2, u8 → ajd, bits → ajT
open List renaming length_map → aio, drop_zero → aip, drop_succ_cons → aiq, take_succ_eq_append_getElem → aiu, getElem_mem → aix, map_append → aiy, map_cons → aiA, map_nil → aiB, length_take → aiC, getElem?_eq_getElem → aiF, replicate → aiH, cons_append → aiI, nil_append → aiK, mem_cons → aiM, all_eq_true → aiO, drop_eq_nil_of_le → aiR, getD_eq_getElem?_getD → aiS, length_set → aiX, drop_append_of_le_length → aiZ, map_map → ai0, length_pos_iff → ai4, mem_singleton → ai8, mem_map → aja, not_mem_nil → ajc, mem_append → aje, range_succ → ajf, map_congr_left → ajh, dropLast_concat_getLast → aji, length_append → ajk, foldl_append → ajm, getElem?_eq_some_iff → ajn, drop_eq_getElem_cons → ajo, length_cons → ajp, foldl_cons → ajr, head?_eq_getElem? → aju, take_of_length_le → ajv, foldl_nil → ajw, dropLast_sublist → ajx, length_dropLast → ajz, range → ajB, replicate_succ → ajE, map_id → ajI, take_length → ajK, length_nil → ajM, foldl → ajO, drop_drop → ajP
open Go.Lib renaming decDigits → ais, decDigits_one → aiD, parseUint10 → aiL, goFieldsP → aiQ, spansFromP → aiV, atoiAll → aiY, closeSpans → ai1, cut → ajQ, index → ajR
open Int renaming eq_ofNat_of_zero_le → aiv, tdiv_eq_ediv_of_nonneg → aiG, toNat_natCast → aiJ, le_refl → ai3, add_mul → ajb, natCast_mul → ajg, ediv_nonneg → ajt
open Nat renaming beq_refl → aiw, le_refl → aiU, le_trans → ai9, zero_le → ajj, zero_add → ajq, mod_lt → ajy, pow_le_pow_right → ajA, pow_succ → ajF, lt_or_ge → ajG, succ_le_succ → ajL
open ByteArray renaming size_append → aiE
open UInt8 renaming ofNat → aiT, toNat_inj → ai6
open List.cons renaming injEq → ai5, inj → ajD
open Go.Value renaming int → ajs
open Go.Utf8 renaming decode → ajJ
open Option.some renaming inj → ajN
open Go.BinOp renaming neq → ajS
set_option maxRecDepth 100000
set_option linter.unusedSimpArgs false
set_option linter.unusedVariables false
noncomputable section
namespace Go.Proofs.YtjafgdefcggjcaaGreatDoor
open Go Go.V
theorem bp (a b c:Int):cj [I a,I b,I c]=some (.ret [B (decide (b≤a∧a≤c))] []):=by
 rw [UN];by_cases h:b≤a<;>simp [h]
theorem bB (a b c:Int):bX [I a,I b,I c]=some (.ret [B (decide (b≤a∧a≤c))] []):=by
 rw [PX];by_cases h:b≤a<;>simp [h]
def IZ (u:Nat):ByteArray:=⟨(ais u).toArray⟩
def aI (n:Int):ByteArray:=⟨(Lib.itoa n).toArray⟩
theorem Pi (u:Nat):aI (u:Int)=IZ u:=by
 unfold aI IZ;rw [Lib.itoa_nonneg]
theorem FG {u:Nat} (h:u<10):IZ u=⟨#[aiT (48+u)]⟩:=by
 unfold IZ;rw [aiD h]
theorem Xi {u:Nat} (h:¬u<10):IZ u=IZ (u / 10)++⟨#[aiT (48+u % 10)]⟩:=by
 unfold IZ;rw [ais,dif_neg h];apply ByteArray.ext;simp
theorem vg:∀(k u:Nat),u<10 ^ (k+1)→(IZ u).size≤k+1
 | 0,u,h=>by
  rw [FG (by simpa using h)];exact aiU _
 | k+1,u,h=>by
  by_cases hu:u<10
  ·rw [FG hu]
   show 1≤k+1+1
   omega
  ·rw [Xi hu,aiE]
   have h1:=vg k (u / 10) (by rw [ajF] at h;exact Nat.div_lt_of_lt_mul (by rw [Nat.mul_comm];exact h));have h2:(⟨#[aiT (48+u % 10)]⟩:ByteArray).size=1:=rfl;omega
theorem bY (k:Nat) {n:Int} (h0:0≤n) (h1:n<10 ^ (k+1)):(aI n).size≤k+1:=by
 obtain⟨u,rfl⟩:=aiv h0;rw [Pi];exact vg k u (by exact_mod_cast h1)
theorem ZZ (u:Nat) (h:u<10):tf [.v (.int .u8 (48+(u:Int)))]=some [aiT (48+u)]:=by
 have e:(48+(u:Int)).toNat=48+u:=by omega
 simp only [tf,e,ain]
theorem ZE (a:Int) (h0:0≤a) (h1:a<256):ajd.wrap a=a:=by
 have:=Int.emod_eq_of_lt h0 h1;simpa [IntKind.wrap,ajT,IntKind.signed] using this
theorem VM (a:Int):aB 1 [.v (.int .u8 a)]=some (.arr 1 [.v (.int .u8 a)]):=by simp [aB,kv]
theorem OW (k u:Nat) (hu:u<10 ^ 18) (ih:cV k [I ((u / 10:Nat):Int)]=none∨cV k [I ((u / 10:Nat):Int)]=some (.ret [T (IZ (u / 10))] [])) :
  (cV (k+1) [I (u:Int)]=none∧cV k [I ((u / 10:Nat):Int)]=none∧¬u<10)∨cV (k+1) [I (u:Int)]=some (.ret [T (IZ u)] []):=by
 rw [TP];by_cases h:u<10
 ·right
  have h1:(u:Int)<10:=by omega
  have hw:aim.wrap (48+(u:Int))=48+(u:Int):=ah (by omega) (by omega);have hw8:=ZE (48+(u:Int)) (by omega) (by omega);simp only [bg,h1,decide_true,aik,aH,if_true,bw,hw,nS,hw8,VM,Rg,ZZ u h,ain,FG h]
 ·have h1:¬(u:Int)<10:=by omega
  have hq:aim.wrap ((u:Int).tdiv 10)=((u / 10:Nat):Int):=by
   rw [aiG (by omega),ah (by omega) (by omega)];omega
  have hr:(u:Int).tmod 10=((u % 10:Nat):Int):=by
   rw [Int.tmod_eq_emod_of_nonneg (by omega)];omega
  have hm:u % 10<10:=ajy _ (by decide);have hw:aim.wrap (48+((u % 10:Nat):Int))=48+((u % 10:Nat):Int):=ah (by omega) (by omega);have hw8:=ZE (48+((u % 10:Nat):Int)) (by omega) (by omega);have hs:(IZ (u / 10)).size+(⟨#[aiT (48+u % 10)]⟩:ByteArray).size≤1152921504606846976:=by
   have:=vg 17 (u / 10) (by omega);have h2:(⟨#[aiT (48+u % 10)]⟩:ByteArray).size=1:=rfl;omega
  rcases ih with e | e
  ·left
   refine⟨?_,e,h⟩
   simp only [bg,h1,decide_false,aik,aH,ail,if_false,lO,show ¬(10:Int)=0 by decide,hq,e,ae]
  ·right
   simp only [bg,h1,decide_false,aik,aH,ail,if_false,lO,show ¬(10:Int)=0 by decide,hq,e,am,aaf,hr,bw,hw,nS,hw8,VM,Rg,
    ZZ _ hm,ain,ak,fY,hs,if_true,Xi h]
theorem Uz:∀(k u:Nat),u<10 ^ 18→cV k [I (u:Int)]=none∨cV k [I (u:Int)]=some (.ret [T (IZ u)] [])
 | 0,_,_=>.inl rfl
 | k+1,u,hu=>(OW k u hu (Uz k (u / 10) (by omega))).imp (fun h=>h.1) id
theorem ZU:∀(k u:Nat),u<10 ^ 18→u<10 ^ (k+1)→cV (k+1) [I (u:Int)]=some (.ret [T (IZ u)] [])
 | 0,u,hu,h=>by
  rcases OW 0 u hu (Uz 0 _ (by omega)) with ⟨_,_,h1⟩ | h1
  ·exact absurd (by simpa using h) h1
  ·exact h1
 | k+1,u,hu,h=>by
  rcases OW (k+1) u hu (Uz (k+1) _ (by omega)) with ⟨_,h1,_⟩ | h1
  ·rw [ZU k (u / 10) (by omega) (by rw [ajF] at h;exact Nat.div_lt_of_lt_mul (by rw [Nat.mul_comm];exact h))] at h1
   cases h1
  ·exact h1
theorem bT {n:Int} (h0:0≤n) (h1:n<1000000000000000000):bL [I n]=some (.ret [T (aI n)] []):=by
 obtain⟨u,rfl⟩:=aiv h0;have hu:u<10 ^ 18:=by omega
 rw [Pi];refine afl (fun k o ho=>?_) 18 (ZU 17 u hu hu)
 rcases Uz k u hu with e | e
 ·rw [e] at ho;cases ho
 ·rw [e] at ho;cases ho;rfl
theorem Mg {n:Int} (h0 : -9223372036854775808≤n) (h1:n≤9223372036854775807):KJ [I n]=some (.ret [T (aI n)] []):=by
 simp only [KJ,h0,h1,and_self,if_true];rfl
theorem XT {a b:ByteArray} {bl:Bool} {eq:List Nat} (h:a.size+b.size≤1152921504606846976):bin .add bl eq (T a) (T b)=some (T (a++b)):=by rw [fY,if_pos h]
theorem sz1 (a:UInt8):(⟨#[a]⟩:ByteArray).size=1:=rfl
theorem Sf {α β:Type} {body:List D→Option Out} (l:List β) (st:Nat→α→List D) (Inv:Nat→α→Prop) (p:Nat→β→Bool) (f:α→β→α) (o1:Out) (fin:α→Out) (a:α) (hs:∀(i:Nat) (a:α) (hi:i<l.length),Inv i a→body (st i a)=some (if p i l[i]=true then .nrm (st (i+1) (f a l[i])) else o1)∧(p i l[i]=true→Inv (i+1) (f a l[i])))
  (he:∀a,Inv l.length a→body (st l.length a)=some (fin a)) (h1:o1.ends=true) (h2:∀a,(fin a).ends=true) (h0:Inv 0 a) {s0:List D} (h:s0=st 0 a):aZ body s0=some (if nK p 0 l=true then fin (l.foldl f a) else o1):=by
 have e:∀(m:List β) (i:Nat) (a:α),goL (fun i x (a:α)=>if p i x=true then .inl (f a x) else .inr o1) fin i m a=if nK p i m=true then fin (m.foldl f a) else o1:=by
  intro m;induction m with
  | nil=>intro i a;simp [goL,nK]
  | cons x m ih =>
   intro i a;simp only [goL,nK,ajr];by_cases hp:p i x=true
   ·simp [hp,ih]
   ·simp [hp]
 rw [←e];refine Bs l st Inv _ _ (fun i x a hx hI=>?_) (fun a hI=>⟨he a hI,h2 a⟩) a h0 h
 have hi:i<l.length:=(ajn.1 hx).1;have hxe:l[i]=x:=(ajn.1 hx).2;have:=hs i a hi hI;rw [hxe] at this;by_cases hp:p i x=true
 ·simpa [hp] using this
 ·simpa [hp,h1] using this
def ac (s:ByteArray):List UInt8:=s.data.toList
theorem kI {s:ByteArray} {k:IntKind} {i:Nat}:hZ (T s) (.v (.int k (i:Int)))=((ac s)[i]?).map fun b=>U b.toNat:=by simp [hZ,ac]
theorem cX (s:ByteArray):s.size=(ac s).length:=rfl
theorem bN {a b:ByteArray} (h:ac a=ac b):a=b:=by
 cases a with | mk a=>cases b with | mk b =>
  cases a with | mk a=>cases b with | mk b =>
   simp [ac] at h;rw [h]
theorem eA (s:ByteArray) (i j:Nat):ac (s.extract i j)=((ac s).take j).drop i:=by
 simp [ac,List.drop_take]
theorem cW (l:List UInt8):ac ⟨l.toArray⟩=l:=by simp [ac]
theorem ll (s:ByteArray):(⟨(ac s).toArray⟩:ByteArray)=s:=bN (cW _)
theorem be (a b:ByteArray):ac (a++b)=ac a++ac b:=by simp [ac]
theorem Ya {s:ByteArray} {z i j:Nat} (h1:i≤j) (h2:j≤s.size):dl true z (T s) (I (i:Int)) (I (j:Int))=some (T (s.extract i j)):=by
 simp only [dl,aiJ];rw [if_pos (by omega)]
theorem GV {s:ByteArray} {z i:Nat} (h:i≤s.size):cQ true z (T s) (I (i:Int))=some (T (s.extract i s.size)):=by
 simp only [cQ,aiJ];rw [if_pos (by omega)]
def Bo (x:UInt8):List (List UInt8)→List (List UInt8)
 | []=>[[x]]
 | h::t=>(x::h)::t
def aX (c:UInt8):List UInt8→List (List UInt8)
 | []=>[[]]
 | x::l=>if x=c then []::aX c l else Bo x (aX c l)
theorem ed (c:UInt8) (l:List UInt8):aX c l≠[]:=by
 cases l with
 | nil=>simp [aX]
 | cons x l =>
  simp only [aX];split
  ·simp
  ·cases aX c l<;>simp [Bo]
theorem ke {c:UInt8}:∀{l:List UInt8},c∉l→aX c l=[l]
 | [],_=>rfl
 | x::l,h=>by
  simp only [aiM,not_or] at h;simp only [aX];rw [if_neg (Ne.symm h.1),ke h.2];rfl
theorem fS {c:UInt8} {b:List UInt8}:∀{a:List UInt8},c∉a→aX c (a++c::b)=a::aX c b
 | [],_=>by simp [aX]
 | x::a,h=>by
  simp only [aiM,not_or] at h;rw [aiI];simp only [aX];rw [if_neg (Ne.symm h.1),fS h.2];rfl
theorem mM (c x:UInt8):∀(l:List UInt8) (o:List (List UInt8)) (p:List UInt8),aX c l=o++[p]→aX c (l++[x])=if x=c then(o++[p])++[[]] else o++[p++[x]]
 | [],o,p,h=>by
  have h:[[]]=o++[p]:=h;have:o=[]∧p=[]:=by
   cases o with
   | nil=>simpa using h.symm
   | cons y o=>cases o<;>simp at h
  obtain⟨rfl,rfl⟩:=this;simp only [aiK,aX];split<;>rfl
 | y::l,o,p,h=>by
  simp only [aX] at h;rw [aiI];simp only [aX];by_cases hy:y=c
  ·rw [if_pos hy] at h ⊢
   cases o with
   | nil=>exact absurd (ajD h).2 (ed c l)
   | cons z o =>
    rw [aiI,ai5] at h;obtain⟨rfl,h⟩:=h;rw [mM c x l o p h];split<;>rfl
  ·rw [if_neg hy] at h ⊢
   generalize hs:aX c l=s at h;cases s with
   | nil=>exact absurd hs (ed c l)
   | cons z s =>
    simp only [Bo] at h;cases o with
    | nil =>
     have:s=[]∧p=y::z:=by
      rw [aiK,ai5] at h;exact⟨h.2,h.1.symm⟩
     obtain⟨rfl,rfl⟩:=this;rw [mM c x l [] z hs];split<;>simp [Bo]
    | cons w o =>
     rw [aiI,ai5] at h;obtain⟨rfl,h⟩:=h;rw [mM c x l (z::o) p (by rw [hs,h];rfl)];split<;>simp [Bo]
theorem oo (c:UInt8):∀(l:List UInt8),(ajR l [c] = -1∧c∉l)∨∃a b,l=a++c::b∧c∉a∧ajR l [c]=a.length
 | []=>.inl ⟨by simp [ajR],by simp⟩
 | x::l=>by
  rw [Lib.index_one];simp only [Lib.indexByte];by_cases hx:x=c
  ·subst hx
   exact .inr ⟨[],l,rfl,by simp,by simp⟩
  ·have ih:=oo c l
   rw [Lib.index_one] at ih;rw [if_neg (by simpa using hx)];rcases ih with ⟨h1,h2⟩ | ⟨a,b,rfl,h2,h3⟩
   ·exact .inl ⟨by rw [h1];rfl,by simp [h2,Ne.symm hx]⟩
   ·refine .inr ⟨x::a,b,rfl,by simp [h2,Ne.symm hx],?_⟩
    rw [if_neg (by rw [h3];simp),h3];simp
theorem RY (c:UInt8):∀(n:Nat) (l:List UInt8),l.length≤n→Lib.splitK [c] 0 (Lib.count l [c]) l=aX c l
 | n,l,hn=>by
  rcases oo c l with ⟨h1,h2⟩ | ⟨a,b,rfl,h2,h3⟩
  ·rw [Lib.count_miss h1,ke h2]
   rfl
  ·rw [Lib.count_hit (by simp) h3,fS h2,Nat.add_comm 1]
   have hb:(a++c::b).drop (a.length+[c].length)=b:=by
    rw [←ajP];simp
   cases n with
   | zero=>simp at hn
   | succ n =>
    rw [hb];unfold Lib.splitK;rw [if_neg (by rw [h3];simp),h3];have e:((a.length:Int)).toNat=a.length:=by omega
    rw [e,hb,RY c n b (by simp at hn;omega)];simp
def aC (c:UInt8) (s:ByteArray):List ByteArray:=(aX c (ac s)).map fun l=>⟨l.toArray⟩
theorem XC (c:UInt8) (s:ByteArray):oZ s ⟨#[c]⟩=aC c s:=by
 have h:(oZ s ⟨#[c]⟩).map ac=aX c (ac s):=by
  have:=Lib.splitB_data ⟨#[c]⟩ 0 (Lib.countB s ⟨#[c]⟩) s;rw [show(fun x:ByteArray=>x.data.toList)=ac from rfl] at this;rw [oZ,this];exact RY c _ _ (aiU _)
 have h2:(oZ s ⟨#[c]⟩).map (fun x=>(⟨(ac x).toArray⟩:ByteArray))=aC c s:=by
  rw [aC,←h,ai0];rfl
 rw [←h2];have:(fun x:ByteArray=>(⟨(ac x).toArray⟩:ByteArray))=id:=funext ll;rw [this,ajI]
theorem Zq {c:UInt8} {s:ByteArray} (h:s.size<4294967281):AL [T s,T ⟨#[c]⟩]=some (.ret [.arr 1 ((aC c s).map T)] []):=by
 have h1:1≤(⟨#[c]⟩:ByteArray).size:=aiU 1;simp only [AL,h,h1,and_self,if_true,XC]
theorem Oz {c:UInt8} {l:List UInt8} (h:c∉l):ajQ l [c]=(l,[],false):=by
 rcases oo c l with ⟨h1,_⟩ | ⟨a,b,rfl,_,_⟩
 ·unfold ajQ
  rw [h1,if_neg (by decide)]
 ·simp at h
theorem SS {c:UInt8} {a b:List UInt8} (h:c∉a):ajQ (a++c::b) [c]=(a,b,true):=by
 rcases oo c (a++c::b) with ⟨_,h2⟩ | ⟨a',b',e,h2,h3⟩
 ·simp at h2
 ·have hl:a.length=a'.length:=by
   have key:∀(a a' b b':List UInt8),c∉a→c∉a'→a++c::b=a'++c::b'→a.length=a'.length:=by
    intro a;induction a with
    | nil =>
     intro a' b b' _ h2 e;cases a' with
     | nil=>rfl
     | cons y a' =>
      simp at e;simp [e.1] at h2
    | cons x a ih =>
     intro a' b b' h1 h2 e;cases a' with
     | nil =>
      simp at e;simp [e.1] at h1
     | cons y a' =>
      simp at e h1 h2 ⊢;exact ih a' b b' h1.2 h2.2 e.2
   exact key a a' b b' h h2 e
  unfold ajQ;rw [h3,if_pos (by omega)];have e2:((a'.length:Int)).toNat=a.length:=by omega
  rw [e2];have hb:(a++c::b).drop (a.length+[c].length)=b:=by
   rw [←ajP];simp
  rw [hb];simp
theorem eZ (c:UInt8):∀(l:List UInt8),(aX c l).length≤l.length+1
 | []=>by simp [aX]
 | x::l=>by
  have ih:=eZ c l;simp only [aX];split
  ·simp;omega
  ·generalize aX c l=s at ih
   cases s<;>simp [Bo] at ih ⊢<;>omega
theorem vn (s:ByteArray):aB 1 [T s]=some (.arr 1 [T s]):=by simp [aB,kv]
theorem sk (l:List ByteArray):cT (.arr 1 (l.map T))=some (.arr 1 (l.map T)):=sr fun _=>rfl
theorem fT (s:ByteArray) (c:UInt8) (h:s.size≤4294967296):cg [T s,U c.toNat]=some (.ret [.arr 1 ((aC c s).map T)] []):=by
 rw [Pg]
 let mk:List UInt8→ByteArray:=fun l=>⟨l.toArray⟩
 refine bH (fun r=>r=_) (fun(a:List (List UInt8) × Nat × Nat)=>[T s,U c.toNat,.arr 1 ((a.1.map mk).map T),I (a.2.1:Int),I (a.2.2:Int)])
  (fun a=>a.2.2≤s.size∧a.2.1≤a.2.2∧a.1.length≤a.2.2∧aX c ((ac s).take a.2.2)=a.1++[((ac s).take a.2.2).drop a.2.1])
  (fun a=>s.size - a.2.2) (fun o=>∃(outs:List (List UInt8)) (fr:Nat),o = .ext 0 [T s,.arr 1 ((outs.map mk).map T),I (fr:Int)]∧fr≤s.size∧outs.length≤s.size∧aX c (ac s)=outs++[(ac s).drop fr])
  ?_ ([],0,0) ⟨ajj _,aiU _,aiU _,by simp [aX]⟩ rfl ?_
 ·rintro⟨outs,fr,i⟩ ⟨h1,h2,h3,h4⟩
  simp only at h1 h2 h3 h4;by_cases hi:i<s.size
  ·left
   have hl:i<(ac s).length:=by rw [←cX];exact hi
   have hi':(i:Int)<(s.size:Int):=by omega
   have hw:aim.wrap ((i:Int)+1)=((i+1:Nat):Int):=by rw [ah (by omega) (by omega)];omega
   have hch:hZ (T s) (I (i:Int))=some (U ((ac s)[i].toNat:Int)):=by
    rw [kI,aiF hl];rfl
   have htk:(ac s).take (i+1)=(ac s).take i++[(ac s)[i]]:=aiu hl;have hdr:((ac s).take i++[(ac s)[i]]).drop fr=((ac s).take i).drop fr++[(ac s)[i]]:=by
    rw [aiZ (by rw [aiC];omega)]
   by_cases hc:(ac s)[i]=c
   ·refine⟨(outs++[((ac s).take i).drop fr],i+1,i+1),?_,⟨by simp only;omega,aiU _,by simp;omega,?_⟩,by simp only;omega⟩
    ·have hsl:=Ya (s:=s) (z:=0) (i:=fr) (j:=i) h2 (by omega)
     have hmk:mk (((ac s).take i).drop fr)=s.extract fr i:=bN (by rw [eA];exact cW _);have hap:(outs.length+1)*16≤140737488355328∧outs.length+1≤1152921504606846976:=by omega
     have e2:(outs++[((ac s).take i).drop fr]).map mk=outs.map mk++[s.extract fr i]:=by rw [aiy,aiA,aiB,hmk]
     have e1:((outs.map mk).map T).length+[T (s.extract fr i)].length=outs.length+1:=by simp
     have hck:cT (.arr 1 [T (s.extract fr i)])=some (.arr 1 [T (s.extract fr i)]):=sk [s.extract fr i];simp only [ak,aF,dZ,aik,bg,hi',decide_true,aH,if_true,hch,fk,hc,hsl,vn,hck,hD,e1,hap,and_self,bw,hw,e2,aiy,aiA,aiB]
    ·have:=mM c (ac s)[i] _ _ _ h4
     rw [if_pos hc,←htk] at this;simp only;have hz:((ac s).take (i+1)).drop (i+1)=[]:=aiR (by rw [aiC];omega);rw [this,hz]
   ·refine⟨(outs,fr,i+1),?_,⟨by simp only;omega,by simp only;omega,by simp only;omega,?_⟩,by simp only;omega⟩
    ·have hne:¬((ac s)[i].toNat:Int)=(c.toNat:Int):=fun e=>hc (ai6.1 (by omega))
     simp only [ak,aF,dZ,aik,bg,hi',decide_true,aH,if_true,hch,fk,hne,decide_false,ail,if_false,bw,hw]
    ·have:=mM c (ac s)[i] _ _ _ h4
     rw [if_neg hc,←htk] at this;simp only;rw [this,htk,hdr]
  ·right
   have hi':¬(i:Int)<(s.size:Int):=by omega
   have hie:i=s.size:=by omega
   refine⟨_,?_,rfl,outs,fr,rfl,by omega,by omega,?_⟩
   ·simp only [ak,aF,dZ,aik,bg,hi',decide_false,aH,ail,if_false]
   ·rw [hie,cX,ajK] at h4
    exact h4
 ·rintro o ⟨outs,fr,rfl,h1,h2,h3⟩
  have hsl:=GV (s:=s) (z:=0) (i:=fr) h1;have hmk:mk ((ac s).drop fr)=s.extract fr s.size:=bN (by rw [eA,cX,ajK];exact cW _);have hap:(outs.length+1)*16≤140737488355328∧outs.length+1≤1152921504606846976:=by omega
  have e1:((outs.map mk).map T).length+[T (s.extract fr s.size)].length=outs.length+1:=by simp
  have hck:cT (.arr 1 [T (s.extract fr s.size)])=some (.arr 1 [T (s.extract fr s.size)]):=sk [s.extract fr s.size];have e2:aC c s=outs.map mk++[s.extract fr s.size]:=by rw [aC,h3,aiy,aiA,aiB];exact congrArg _ (congrArg (fun x=>[x]) hmk)
  simp only [bF,aiw,dE,if_true,ak,aF,hsl,aik,vn,hck,hD,e1,hap,and_self,e2,aiy,aiA,aiB]
def dig (b:UInt8):Bool:=decide (48≤b.toNat)&&decide (b.toNat≤57)
theorem pt {b:UInt8}:dig b=true↔48≤b.toNat∧b.toNat≤57:=by simp [dig]
theorem iD {u:Nat} (h:u<10):(aiT (48+u)).toNat=48+u:=by
 simp;omega
theorem RJ {u:Nat} (h:u<10):dig (aiT (48+u))=true:=by
 rw [pt,iD h];omega
theorem iz {u:Nat} (h:¬u<10):ais u=ais (u / 10)++[aiT (48+u % 10)]:=by rw [ais,dif_neg h]
theorem lM {P:Nat→Prop} (h0:∀u,u<10→P u) (h1:∀u,¬u<10→P (u / 10)→P u):∀u,P u:=by
 intro u;induction u using Nat.strongRecOn with
 | _ u ih =>
  by_cases h:u<10
  ·exact h0 u h
  ·exact h1 u h (ih (u / 10) (by omega))
theorem pC:∀u,∀b∈ais u,dig b=true:=by
 refine lM (fun u h b hb=>?_) (fun u h ih b hb=>?_)
 ·rw [aiD h] at hb
  rw [ai8.1 hb];exact RJ h
 ·rw [iz h] at hb
  rcases aje.1 hb with hb | hb
  ·exact ih b hb
  ·rw [ai8.1 hb]
   exact RJ (ajy u (show 10>0 by decide))
theorem kA:∀u,ais u≠[]:=by
 refine lM (fun u h=>?_) (fun u h ih=>?_)
 ·rw [aiD h];simp
 ·rw [iz h];simp
theorem zV:∀u,0<u→∀b t,ais u=b::t→b≠48:=by
 refine lM (fun u h h0 b t e=>?_) (fun u h ih h0 b t e=>?_)
 ·rw [aiD h] at e
  obtain⟨rfl,_⟩:=ajD e;intro e2;have:=congrArg UInt8.toNat e2;rw [iD h] at this;have h48:(48:UInt8).toNat=48:=rfl;omega
 ·rw [iz h] at e
  cases hd:ais (u / 10) with
  | nil=>exact absurd hd (kA _)
  | cons b' t' =>
   rw [hd,aiI] at e;obtain⟨rfl,_⟩:=ajD e;exact ih (by omega) _ _ hd
def mT (a:Nat) (l:List UInt8):Nat:=l.foldl (fun a b=>a*10+(b.toNat - 48)) a
theorem VC:∀u,mT 0 (ais u)=u:=by
 refine lM (fun u h=>?_) (fun u h ih=>?_)
 ·rw [aiD h]
  simp only [mT,ajr,ajw,iD h];omega
 ·rw [iz h]
  simp only [mT] at ih ⊢;rw [ajm,ih];simp only [ajr,ajw,iD (ajy u (show 10>0 by decide))];omega
theorem GX:∀(l r:List UInt8) (a b:Nat),aiL a l = .ok b→aiL a (l++r)=aiL b r
 | [],r,a,b,h=>by
  simp only [aiL] at h;injection h with h;subst h;rfl
 | c::l,r,a,b,h=>by
  simp only [aiL] at h;rw [aiI];simp only [aiL];split at h
  ·rename_i h1
   rw [if_pos h1];split at h
   ·cases h
   ·rename_i h2
    rw [if_neg h2];split at h
    ·cases h
    ·rename_i h3
     rw [if_neg h3];exact GX l r _ b h
  ·cases h
theorem RV:∀u,u<1844674407370955162→aiL 0 (ais u) = .ok u:=by
 refine lM (fun u h hu=>?_) (fun u h ih hu=>?_)
 ·rw [aiD h]
  simp only [aiL,iD h];rw [if_pos (by omega),if_neg (by omega),if_neg (by omega)];congr 1
  omega
 ·have h10:=iD (ajy u (show 10>0 by decide))
  rw [iz h,GX _ _ _ _ (ih (by omega))];simp only [aiL,h10];rw [if_pos (by omega),if_neg (by omega),if_neg (by omega)];congr 1
  omega
theorem Vg {u:Nat} (h:u<1844674407370955162):aiY (ais u) = .ok (u:Int):=by
 have hp:=RV u h;cases hd:ais u with
 | nil=>exact absurd hd (kA u)
 | cons c r =>
  have hc:=pt.1 (pC u c (by rw [hd];simp));rw [hd] at hp;unfold aiY;simp only;rw [if_neg (by omega)];unfold Lib.parseMag;rw [if_neg (by simp),hp];simp only;have h45:¬c.toNat=45:=by omega
  rw [if_neg (by omega),if_neg (by simp [h45]),if_neg h45]
def Wp (b:UInt8):Bool:=sJ b.toNat
theorem Iu (b:UInt8):Wp b = !dig b:=by
 simp only [Wp,sJ,dig];by_cases h1:b.toNat<48<;>by_cases h2:57<b.toNat<;>simp [h1,h2]<;>omega
def oA:Option (List UInt8)→List UInt8→List (List UInt8)
 | none,[]=>[]
 | some c,[]=>[c]
 | none,b::l=>if Wp b=true then oA none l else oA (some [b]) l
 | some c,b::l=>if Wp b=true then c::oA none l else oA (some (c++[b])) l
theorem NS:∀{w:List UInt8} (c l:List UInt8),(∀b∈w,dig b=true)→oA (some c) (w++l)=oA (some (c++w)) l
 | [],c,l,_=>by simp
 | x::w,c,l,h=>by
  rw [aiI];simp only [oA];rw [if_neg (by rw [Iu,h x (by simp)];simp),NS (c++[x]) l fun b hb=>h b (by simp [hb])];simp
theorem rD {w:List UInt8} (hn:w≠[]) (h:∀b∈w,dig b=true) {x:UInt8} (hx:dig x=false) (l:List UInt8):oA none (w++x::l)=w::oA none l:=by
 cases w with
 | nil=>exact absurd rfl hn
 | cons y w =>
  rw [aiI];simp only [oA];rw [if_neg (by rw [Iu,h y (by simp)];simp),NS [y] _ fun b hb=>h b (by simp [hb])];simp only [oA];rw [if_pos (by rw [Iu,hx];rfl)];rfl
theorem Si {w:List UInt8} (hn:w≠[]) (h:∀b∈w,dig b=true):oA none w=[w]:=by
 cases w with
 | nil=>exact absurd rfl hn
 | cons y w =>
  simp only [oA];rw [if_neg (by rw [Iu,h y (by simp)];simp)];have:=NS (w:=w) [y] [] fun b hb=>h b (by simp [hb])
  rw [List.append_nil] at this;rw [this];rfl
theorem Ul (s:ByteArray) (hs:∀b∈ac s,b.toNat<128):∀(f pos:Nat) (st:Option Nat) (acc:List (Nat × Nat)),s.size≤pos+f→pos≤s.size→(∀a,st=some a→a<pos) →
  (ai1 s (aiV sJ s f pos st acc)).map (fun x=>ac (s.extract x.1 x.2))=acc.map (fun x=>ac (s.extract x.1 x.2))++oA (st.map fun a=>((ac s).take pos).drop a) ((ac s).drop pos):=by
 intro f;induction f with
 | zero =>
  intro pos st acc h1 h2 h3;have hp:pos=s.size:=by omega
  have hd:(ac s).drop pos=[]:=aiR (by rw [←cX];omega);rw [hd];cases st with
  | none=>simp [aiV,ai1,oA]
  | some a=>simp only [aiV,ai1,oA,ain,aiy,aiA,aiB,eA,hp]
 | succ f ih =>
  intro pos st acc h1 h2 h3;by_cases hp:pos<s.size
  case neg =>
   have hpe:pos=s.size:=by omega
   have hd:(ac s).drop pos=[]:=aiR (by rw [←cX];omega);rw [hd,Lib.spansFromP_end _ _ _ _ _ _ hp];cases st with
   | none=>simp [ai1,oA]
   | some a=>simp only [ai1,oA,ain,aiy,aiA,aiB,eA,hpe]
  have hl:pos<(ac s).length:=by rw [←cX];exact hp
  have hb:(ac s)[pos].toNat<128:=hs _ (aix hl);have hdec:ajJ s pos=((ac s)[pos].toNat,1):=decode_ascii s pos hp hb;have hcons:(ac s).drop pos=(ac s)[pos]::(ac s).drop (pos+1):=ajo hl;have htk:(ac s).take (pos+1)=(ac s).take pos++[(ac s)[pos]]:=aiu hl;rw [hcons];unfold aiV;rw [if_pos hp,hdec];simp only;by_cases hsep:sJ (ac s)[pos].toNat=true
  ·rw [if_pos hsep]
   cases st with
   | none =>
    simp only [ai7,oA];rw [if_pos (show Wp _=true from hsep)];exact ih (pos+1) none acc (by omega) (by omega) (by simp)
   | some a =>
    simp only [ain,oA];rw [if_pos (show Wp _=true from hsep),ih (pos+1) none (acc++[(a,pos)]) (by omega) (by omega) (by simp)];simp only [aiy,aiA,aiB,List.append_assoc,eA,ai7,aiI,aiK]
  ·rw [if_neg hsep]
   cases st with
   | none =>
    simp only [ai7,oA];rw [if_neg (show ¬Wp _=true from hsep),ih (pos+1) (some pos) acc (by omega) (by omega) (by intro a ha;cases ha;omega)];simp only [ain];rw [htk,aiZ (by rw [aiC];omega),aiR (by rw [aiC];omega)];rfl
   | some a =>
    have ha:=h3 a rfl;simp only [ain,oA];rw [if_neg (show ¬Wp _=true from hsep),ih (pos+1) (some a) acc (by omega) (by omega) (by intro a' ha';cases ha';omega)];simp only [ain];rw [htk,aiZ (by rw [aiC];omega)]
theorem FO (s:ByteArray) (hs:∀b∈ac s,b.toNat<128):(aiQ sJ s).map ac=oA none (ac s):=by
 have:=Ul s hs s.size 0 none [] (by omega) (ajj _) (by simp);simpa [aiQ,Lib.spansOfP,ai0,Function.comp_def] using this
def qP:List ByteArray→List Int→List Int
 | [],acc=>acc
 | w::l,acc=>match aiY (ac w) with
  | .ok v=>qP l (acc++[v])
  | _=>[]
def fu (s:ByteArray):List Int:=qP (aiQ sJ s) []
abbrev nR (l:List Int):D:=.arr 1 (l.map I)
theorem mV (p:Nat→Bool) (s:ByteArray):∀(f pos:Nat) (st:Option Nat) (acc:List (Nat × Nat)),(aiV p s f pos st acc).1.length≤acc.length+f
 | 0,pos,st,acc=>by simp [aiV]
 | f+1,pos,st,acc=>by
  unfold aiV;by_cases hp:pos<s.size
  case neg =>
   rw [if_neg hp];exact Nat.le_add_right _ _
  rw [if_pos hp];by_cases hq:p (ajJ s pos).1=true
  ·rw [if_pos hq]
   cases st with
   | none=>exact ai9 (mV p s f _ none acc) (by omega)
   | some a =>
    have h:=mV p s f (pos+(ajJ s pos).2) none (acc++[(a,pos)]);rw [ajk,List.length_singleton] at h;exact ai9 h (by omega)
  ·rw [if_neg hq]
   cases st with
   | none=>exact ai9 (mV p s f _ _ acc) (by omega)
   | some a=>exact ai9 (mV p s f _ _ acc) (by omega)
theorem Ec (p:Nat→Bool) (s:ByteArray):(aiQ p s).length≤s.size+1:=by
 unfold aiQ Lib.spansOfP;rw [aio];have:=mV p s s.size 0 none [];unfold ai1;split
 ·simp only [ajk,ajp,ajM] at this ⊢;omega
 ·simp only [ajM] at this;omega
theorem Vz (p:Nat→Bool) (s:ByteArray):∀w∈aiQ p s,w.size≤s.size:=by
 intro w hw;unfold aiQ at hw;obtain⟨x,_,rfl⟩:=aja.1 hw;rw [cX,eA,List.length_drop,aiC,←cX];omega
theorem Tn (s:ByteArray) (k:Nat) (p:Nat→Bool) (h:s.size≤4294967296):mO k p [T s,.clo k []]=some (.ret [.arr 1 ((aiQ p s).map T)] []):=by
 simp only [mO,h,and_self,if_true]
theorem aeR (a:Int):aB 1 [I a]=some (nR [a]):=by simp [aB,kv]
theorem kw (l:List Int):cT (nR l)=some (nR l):=sr fun _=>rfl
theorem adm (w:ByteArray) (h:w.size≤4294967296):HK [T w]=some (match aiY (ac w) with
  | .ok v=>Out.ret [I v,.v .nilIface] []
  | .range=>Out.ret [I (Lib.atoiSat (ac w)),.ifc] []
  | _=>Out.ret [I 0,.ifc] []):=by
 have h2:w.size≤281474976710656:=by omega
 simp only [HK,h2,if_true];rw [show w.data.toList=ac w from rfl];cases aiY (ac w)<;>rfl
theorem kQ (s:ByteArray) (h:s.size≤1048576):fR [T s]=some (.ret [nR (fu s)] []):=by
 rw [Iz];have hl:=Ec sJ s;have hz:=Vz sJ s;rw [Tn s _ sJ (by omega)];simp only [bf,aik,am,ak,aK,aio];generalize hw:aiQ sJ s=ws at hl hz;have hnum:fu s=qP ws []:=by rw [fu,hw]
 rw [hnum];refine bH (fun r=>r=_) (fun(a:List Int × Nat)=>[nR a.1,.arr 1 (ws.map T),I ws.length,I (a.2:Int)]) (fun a=>a.2≤ws.length∧a.1.length≤a.2∧qP (ws.drop a.2) a.1=qP ws [])
  (fun a=>ws.length - a.2) (fun o=>o = .ext 0 [nR (qP ws [])]∨o = .ret [nR (qP ws [])] []) ?_ ([],0) ⟨ajj _,aiU _,rfl⟩ rfl ?_
 ·rintro⟨acc,i⟩ ⟨h1,h2,h3⟩
  simp only at h1 h2 h3;by_cases hi:i<ws.length
  ·have hi':(i:Int)<(ws.length:Int):=by omega
   have hw:aim.wrap ((i:Int)+1)=((i+1:Nat):Int):=by rw [ah (by omega) (by omega)];omega
   have hat:=adm ws[i] (by have:=hz ws[i] (aix hi);omega);have hel:ao 1 (.arr 1 (ws.map T)) (I (i:Int))=some [T ws[i]]:=by simp [hi]
   rw [ajo hi] at h3;simp only [qP] at h3;cases ha:aiY (ac ws[i]) with
   | ok v =>
    rw [ha] at h3 hat
    left
    refine⟨(acc++[v],i+1),?_,⟨by simp only;omega,by simp;omega,h3⟩,by simp only;omega⟩
    have e1:(acc.map I).length+([v].map I).length=acc.length+1:=by simp
    have hap:(acc.length+1)*8≤140737488355328∧acc.length+1≤1152921504606846976:=by omega
    simp only [ak,aF,aik,bg,hi',decide_true,aH,if_true,hel,ain,bk,aP,bD,hat,am,show ax (.tup [I v,.v .nilIface]) 0=some (I v) from rfl,
     show ax (.tup [I v,.v .nilIface]) 1=some (.v .nilIface) from rfl,show YC true ajS (.v .nilIface) (.v .nilIface)=some (B false) from rfl,ail,if_false,aeR,kw,hD,e1,hap,and_self,bw,hw]
    rw [←aiy]
   | range =>
    rw [ha] at h3 hat
    right
    refine⟨.ret [nR []] [],?_,rfl,.inr (by rw [←h3])⟩
    simp only [ak,aF,aik,bg,hi',decide_true,aH,if_true,hel,ain,bk,aP,bD,hat,am,show ∀n:Int,ax (.tup [I n,.ifc]) 0=some (I n) from fun _=>rfl,
     show ∀n:Int,ax (.tup [I n,.ifc]) 1=some .ifc from fun _=>rfl,show YC true ajS .ifc (.v .nilIface)=some (B true) from rfl,bf]
    rfl
   | _ =>
    rw [ha] at h3 hat
    right
    refine⟨.ret [nR []] [],?_,rfl,.inr (by rw [←h3])⟩
    simp only [ak,aF,aik,bg,hi',decide_true,aH,if_true,hel,ain,bk,aP,bD,hat,am,show ax (.tup [I 0,.ifc]) 0=some (I 0) from rfl,
     show ax (.tup [I 0,.ifc]) 1=some .ifc from rfl,show YC true ajS .ifc (.v .nilIface)=some (B true) from rfl,bf]
    rfl
  ·right
   have hi':¬(i:Int)<(ws.length:Int):=by omega
   refine⟨.ext 0 [nR acc],?_,rfl,.inl ?_⟩
   ·simp only [ak,aF,aik,bg,hi',decide_false,aH,ail,if_false]
   ·rw [aiR (by omega)] at h3
    rw [←h3];rfl
 ·rintro o (rfl | rfl)
  ·simp only [bF,aiw,dE,if_true,ak]
  ·rfl
def DG (l:List UInt8):Int :=
 if (1≤l.length∧l.length≤6)∧¬(l.head?=some 48∧1<l.length)∧l.all dig=true then(mT 0 l:Int) else -1
def cb (s:ByteArray):Int:=DG (ac s)
theorem BB (l:List UInt8) (x:UInt8) (a:Nat):mT a (l++[x])=mT a l*10+(x.toNat - 48):=by simp [mT,ajm]
theorem Uh:∀(n:Nat) (l:List UInt8),l.length=n→(∀b∈l,dig b=true)→mT 0 l<10 ^ n:=by
 intro n;induction n with
 | zero =>
  intro l hl _;rw [List.eq_nil_of_length_eq_zero hl];decide
 | succ n ih =>
  intro l hl hd;have hne:l≠[]:=fun e=>by rw [e] at hl;simp at hl
  have hsp:=aji hne;have h1:=ih l.dropLast (by rw [ajz];omega) fun b hb=>hd b ((ajx l).subset hb)
  have h2:=pt.1 (hd _ (List.getLast_mem hne));rw [←hsp,BB,ajF];omega
theorem fH (s:ByteArray) (h:s.size≤4294967296):eB [T s]=some (.ret [I (cb s)] []):=by
 rw [PO];have hsz:s.size=(ac s).length:=rfl;by_cases h1:1≤(s.size:Int)∧(s.size:Int)≤6
 case neg =>
  have hr:cb s = -1:=by
   unfold cb DG;rw [if_neg (by rintro⟨⟨g1,g2⟩,_⟩;exact h1 (by omega))]
  rw [hr];simp -implicitDefEqProofs [bp,h1]
 have hpos:0<(ac s).length:=by omega
 have hch0:hZ (T s) (I 0)=some (U ((ac s)[0].toNat:Int)):=by
  have:=kI (s:=s) (k:=.i64) (i:=0);rw [aiF hpos] at this;exact this
 have hhead:(ac s).head?=some (ac s)[0]:=by rw [aju,aiF hpos]
 have h48:(48:UInt8).toNat=48:=rfl;have hc48:((ac s)[0].toNat:Int)=48↔(ac s)[0]=48:=⟨fun e=>ai6.1 (by omega),fun e=>by rw [e];rfl⟩
 by_cases h2:(ac s)[0]=48∧1<(ac s).length
 ·have hr:cb s = -1:=by
   unfold cb DG;rw [if_neg (by rintro⟨_,g,_⟩;exact g ⟨by rw [hhead,h2.1],h2.2⟩)]
  have hl:(1:Int)<(s.size:Int):=by omega
  have hc:=hc48.2 h2.1;rw [hr];simp -implicitDefEqProofs [bp,h1,hch0,hc,hl]
 have hgo:∀(K:D→Option Out),((bin BinOp.eql false [] (U ((ac s)[0].toNat:Int)) (D.v (ajs ajd 48))).bind fun z_3=>(aj (D.tup []) (B false) false (some z_3)).bind fun z_4=>(aj (D.tup []) z_4 true (some (T s))).bind fun z_5 =>
   (aj (D.tup []) z_4 true (lenD true z_5)).bind fun z_6=>(aj (D.tup []) z_4 true (bin BinOp.gtr false [] z_6 (D.v (ajs aim 1)))).bind fun z_7=>(aj (D.tup []) (B false) false (aV z_4 z_7 (D.v (Value.bool false)))).bind K)=K (B false):=by
  intro K;by_cases e:((ac s)[0].toNat:Int)=48
  ·have:¬(1:Int)<(s.size:Int):=fun hl=>h2 ⟨hc48.1 e,by omega⟩
   simp -implicitDefEqProofs [e,this]
  ·simp -implicitDefEqProofs [e]
 simp only [dZ,aik,bp,h1,and_self,decide_true,am,ak,bn,air,bK,ail,if_false,hch0];have hgo':=hgo;simp only [bK,ail,if_false,aik] at hgo';rw [hgo'];simp only [aO,ail,if_false,aik,aH];refine bH (fun r=>r=_) (fun(a:Nat × Nat)=>[T s,I (a.1:Int),I (a.2:Int)]) (fun a=>a.2≤s.size∧a.1=mT 0 ((ac s).take a.2)∧∀b∈(ac s).take a.2,dig b=true) (fun a=>s.size - a.2)
  (fun o=>o=if (ac s).all dig=true then .ext 0 [I (mT 0 (ac s):Int)] else .ret [I (-1)] []) ?_ (0,0) ⟨ajj _,rfl,by simp⟩ rfl ?_
 ·rintro⟨n,i⟩ ⟨g1,g2,g3⟩
  simp only at g1 g2 g3;by_cases hi:i<s.size
  ·have hl:i<(ac s).length:=by rw [←hsz];exact hi
   have hi':(i:Int)<(s.size:Int):=by omega
   have hch:hZ (T s) (I (i:Int))=some (U ((ac s)[i].toNat:Int)):=by
    rw [kI,aiF hl];rfl
   have htk:(ac s).take (i+1)=(ac s).take i++[(ac s)[i]]:=aiu hl;by_cases hd:dig (ac s)[i]=true
   ·left
    have hd':=pt.1 hd;have hn:n<10 ^ i:=by
     rw [g2];exact Uh i _ (by rw [aiC];omega) g3
    have h10:10 ^ i≤10 ^ 6:=ajA (by decide) (by omega);have hw:aim.wrap ((i:Int)+1)=((i+1:Nat):Int):=by rw [ah (by omega) (by omega)];omega
    have hw1:aim.wrap (10*(n:Int))=10*(n:Int):=ah (by omega) (by omega);have hw2:ajd.wrap (((ac s)[i].toNat:Int) - 48)=((ac s)[i].toNat:Int) - 48:=ZE _ (by omega) (by omega);have hw3:aim.wrap (((ac s)[i].toNat:Int) - 48)=((ac s)[i].toNat:Int) - 48:=ah (by omega) (by omega);have hw4:aim.wrap (10*(n:Int)+(((ac s)[i].toNat:Int) - 48))=((n*10+((ac s)[i].toNat - 48):Nat):Int):=by rw [ah (by omega) (by omega)];omega
    have c1:¬((ac s)[i].toNat:Int)<48:=by omega
    have c2:¬(57:Int)<((ac s)[i].toNat:Int):=by omega
    refine⟨(n*10+((ac s)[i].toNat - 48),i+1),?_,⟨by simp only;omega,?_,?_⟩,by simp only;omega⟩
    ·simp only [ak,aF,dZ,aik,bg,hi',decide_true,aH,if_true,hch,c1,decide_false,bK,ail,if_false,eY,c2,aO,eI,hw1,cr,hw2,nS,hw3,bw,hw4,hw]
    ·simp only
     rw [htk,BB,g2]
    ·simp only
     rw [htk];intro b hb;rcases aje.1 hb with hb | hb
     ·exact g3 b hb
     ·rw [ai8.1 hb];exact hd
   ·right
    refine⟨.ret [I (-1)] [],?_,rfl,?_⟩
    ·by_cases c1:((ac s)[i].toNat:Int)<48
     ·simp -implicitDefEqProofs [hi',hch,c1]
     ·have c2:(57:Int)<((ac s)[i].toNat:Int):=by
       have:¬(48≤(ac s)[i].toNat∧(ac s)[i].toNat≤57):=fun e=>hd (pt.2 e)
       omega
      simp -implicitDefEqProofs [hi',hch,c1,c2]
    ·rw [if_neg]
     intro hall;exact hd (aiO.1 hall _ (aix hl))
  ·right
   have hi':¬(i:Int)<(s.size:Int):=by omega
   have hie:(ac s).take i=ac s:=ajv (by omega);rw [hie] at g2 g3;refine⟨.ext 0 [I (n:Int)],?_,rfl,?_⟩
   ·simp -implicitDefEqProofs [hi']
   ·rw [if_pos (aiO.2 g3),g2]
 ·rintro o rfl
  by_cases ha:(ac s).all dig=true
  ·have hr:cb s=(mT 0 (ac s):Int):=by
    unfold cb DG;rw [if_pos ⟨⟨by omega,by omega⟩,fun g=>h2 ⟨by have:=g.1;rw [hhead] at this;exact ajN this,g.2⟩,ha⟩]
   rw [if_pos ha,hr];rfl
  ·have hr:cb s = -1:=by
    unfold cb DG;rw [if_neg (fun g=>ha g.2.2)]
   rw [if_neg ha,hr];rfl
theorem PK {u:Nat} (h:u<1000000):(ais u).length≤6:=vg 5 u (by omega)
theorem aa5 {u:Nat} (h:u<1000000):DG (ais u)=(u:Int):=by
 have h1:=kA u;have h2:=PK h;have h3:1≤(ais u).length:=ai4.2 h1;have hno:¬((ais u).head?=some 48∧1<(ais u).length):=by
  rintro⟨g1,g2⟩;by_cases hu:0<u
  ·cases hd:ais u with
   | nil=>exact h1 hd
   | cons b t =>
    rw [hd] at g1;exact zV u hu b t hd (by simpa using g1)
  ·have:u=0:=by omega
   subst this;rw [aiD (by decide)] at g2;simp at g2
 unfold DG;rw [if_pos ⟨⟨h3,h2⟩,hno,aiO.2 (pC u)⟩,VC]
theorem iU (n:Int) (h:0≤n):ac (aI n)=ais n.toNat:=by
 obtain⟨u,rfl⟩:=aiv h;rw [Pi];exact cW _
theorem oH {n:Int} (h0:0≤n) (h1:n<1000000):cb (aI n)=n:=by
 unfold cb;rw [iU n h0,aa5 (by omega)];omega
theorem ac1 {n:Int} (h0:0≤n) (h1:n<1000000):aiY (ac (aI n)) = .ok n:=by
 rw [iU n h0,Vg (by omega)];congr 1
 omega
theorem iI {n:Int} (h0:0≤n):ac (aI n)≠[]∧∀b∈ac (aI n),dig b=true:=by
 rw [iU n h0];exact⟨kA _,pC _⟩
theorem Fs {b:UInt8} (h:dig b=true):b.toNat<128:=by
 have:=pt.1 h;omega
theorem ab2 {s:ByteArray} (hs:∀b∈ac s,b.toNat<128) {ns:List Int} (hn:∀n∈ns,0≤n∧n<1000000) (h:oA none (ac s)=ns.map fun n=>ac (aI n)):fu s=ns:=by
 unfold fu;have hf:=FO s hs;rw [h] at hf;have key:∀(ws:List ByteArray) (ns:List Int) (acc:List Int),(∀n∈ns,0≤n∧n<1000000)→ws.map ac=ns.map (fun n=>ac (aI n))→qP ws acc=acc++ns:=by
  intro ws;induction ws with
  | nil =>
   intro ns acc _ e;cases ns with
   | nil=>simp [qP]
   | cons _ _=>simp at e
  | cons w ws ih =>
   intro ns acc hn e;cases ns with
   | nil=>simp at e
   | cons n ns =>
    rw [aiA,aiA,ai5] at e;have hr:=hn n (by simp);simp only [qP];rw [e.1,ac1 hr.1 hr.2];simp only;rw [ih ns (acc++[n]) (fun m hm=>hn m (by simp [hm])) e.2];simp
 simpa using key _ ns [] hn hf
theorem xc {b:UInt8} {l:List UInt8} (h:∀x∈l,dig x=true) (hb:dig b=false):b∉l:=fun hm=>by rw [h b hm] at hb;cases hb
theorem fI (c:UInt8) (s:ByteArray):∀w∈aC c s,w.size≤s.size:=by
 intro w hw;unfold aC at hw;obtain⟨l,hl,rfl⟩:=aja.1 hw;have key:∀(m:List UInt8),∀l∈aX c m,l.length≤m.length:=by
  intro m;induction m with
  | nil=>intro l hl;simp [aX] at hl;simp [hl]
  | cons x m ih =>
   intro l hl;simp only [aX] at hl;split at hl
   ·rcases aiM.1 hl with rfl | hl
    ·simp
    ·have:=ih l hl
     simp;omega
   ·generalize hs:aX c m=t at hl ih
    cases t with
    | nil=>exact absurd hs (ed c m)
    | cons y t =>
     simp only [Bo] at hl;rcases aiM.1 hl with rfl | hl
     ·have:=ih y (by simp)
      simp;omega
     ·have:=ih l (by simp [hl])
      simp;omega
 have:=key _ l hl;rw [cX,cW];exact this
theorem ex (c:UInt8) (s:ByteArray):(aC c s).length=(aX c (ac s)).length:=by simp [aC]
def er (c:UInt8):List (List UInt8)→List UInt8
 | []=>[]
 | [a]=>a
 | a::b::l=>a++c::er c (b::l)
theorem GH {c:UInt8}:∀(ws:List (List UInt8)),ws≠[]→(∀w∈ws,c∉w)→aX c (er c ws)=ws
 | [],h,_=>absurd rfl h
 | [a],_,h=>ke (h a (by simp))
 | a::b::l,_,h=>by
  have hj:er c (a::b::l)=a++c::er c (b::l):=rfl;rw [hj,fS (h a (by simp)),GH (b::l) (by simp) fun w hw=>h w (by simp [hw])]
theorem mW (c:UInt8):∀(l:List UInt8),er c (aX c l)=l
 | []=>rfl
 | x::l=>by
  have ih:=mW c l;simp only [aX];split
  ·rename_i hx
   cases hs:aX c l with
   | nil=>exact absurd hs (ed c l)
   | cons y t =>
    rw [hs] at ih;have:er c ([]::y::t)=[]++c::er c (y::t):=rfl;rw [this,ih,hx];rfl
  ·cases hs:aX c l with
   | nil=>exact absurd hs (ed c l)
   | cons y t =>
    rw [hs] at ih;cases t with
    | nil =>
     have e:er c [y]=y:=rfl;rw [e] at ih;show x::y=x::l
     rw [ih]
    | cons z t =>
     have e:er c (y::z::t)=y++c::er c (z::t):=rfl;rw [e] at ih;show(x::y)++c::er c (z::t)=x::l
     rw [←ih];rfl
theorem NC {c:UInt8} (hc:dig c=false):∀(ws:List (List UInt8)),(∀w∈ws,w≠[]∧∀b∈w,dig b=true)→oA none (er c ws)=ws
 | [],_=>rfl
 | [a],h=>Si (h a (by simp)).1 (h a (by simp)).2
 | a::b::l,h=>by
  have hj:er c (a::b::l)=a++c::er c (b::l):=rfl;rw [hj,rD (h a (by simp)).1 (h a (by simp)).2 hc,NC hc (b::l) fun w hw=>h w (by simp [hw])]
theorem Br {c b:UInt8}:∀{ws:List (List UInt8)},b∈er c ws→b=c∨∃w∈ws,b∈w
 | [],h=>by cases h
 | [a],h=>.inr ⟨a,by simp,h⟩
 | a::a'::l,h=>by
  have hj:er c (a::a'::l)=a++c::er c (a'::l):=rfl;rw [hj,aje,aiM] at h;rcases h with h | h | h
  ·exact .inr ⟨a,by simp,h⟩
  ·exact .inl h
  ·rcases Br h with h | ⟨w,hw,hb⟩
   ·exact .inl h
   ·exact .inr ⟨w,by simp only [aiM] at hw ⊢;exact .inr hw,hb⟩
theorem Dq:∀(n:Nat) (l:List UInt8),l.length=n+1→(∀b∈l,dig b=true)→(l.head?=some 48→n=0)→ais (mT 0 l)=l:=by
 intro n;induction n with
 | zero =>
  intro l hl hd _;obtain⟨x,rfl⟩:=List.length_eq_one_iff.1 hl;have hx:=pt.1 (hd x (by simp));have hv:mT 0 [x]=x.toNat - 48:=by simp [mT]
  rw [hv,aiD (by omega)];congr 1
  apply ai6.1;rw [iD (by omega)];omega
 | succ n ih =>
  intro l hl hd hz;have hne:l≠[]:=fun e=>by rw [e] at hl;simp at hl
  have hsp:=aji hne;have hlen:l.dropLast.length=n+1:=by rw [ajz];omega
  have hne2:l.dropLast≠[]:=fun e=>by rw [e] at hlen;simp at hlen
  have hx:=pt.1 (hd _ (List.getLast_mem hne));have hhead:l.head?=l.dropLast.head?:=by
   conv=>lhs;rw [←hsp]
   cases h:l.dropLast with
   | nil=>exact absurd h hne2
   | cons a t=>rfl
  have h48:l.dropLast.head?≠some 48:=fun e=>by have:=hz (hhead.trans e);omega
  have hi:=ih l.dropLast hlen (fun b hb=>hd b ((ajx l).subset hb)) fun e=>absurd e h48
  have hpos:1≤mT 0 l.dropLast:=by
   rcases ajG 0 (mT 0 l.dropLast) with g | g
   ·exact g
   ·have h0:mT 0 l.dropLast=0:=by omega
    rw [h0,aiD (by decide)] at hi;rw [←hi] at h48;exact absurd rfl h48
  have hv:mT 0 l=mT 0 l.dropLast*10+((l.getLast hne).toNat - 48):=by
   conv=>lhs;rw [←hsp]
   exact BB _ _ _
  rw [hv,iz (by omega)];have h1:(mT 0 l.dropLast*10+((l.getLast hne).toNat - 48)) / 10=mT 0 l.dropLast:=by omega
  have h2:(mT 0 l.dropLast*10+((l.getLast hne).toNat - 48)) % 10=(l.getLast hne).toNat - 48:=by omega
  rw [h1,h2,hi]
  conv=>rhs;rw [←hsp]
  congr 1
  congr 1
  apply ai6.1;rw [iD (by omega)];omega
theorem tP {w:ByteArray} {n:Int} (h:cb w=n) (h0:0≤n):w=aI n:=by
 unfold cb DG at h;split at h
 ·rename_i hc
  obtain⟨⟨g1,g2⟩,g3,g4⟩:=hc;subst h;apply bN;rw [iU _ h0];have:((mT 0 (ac w):Int)).toNat=mT 0 (ac w):=by omega
  rw [this];refine(Dq ((ac w).length - 1) (ac w) (by omega) (aiO.1 g4) fun e=>?_).symm
  rcases ajG 1 (ac w).length with g | g
  ·exact absurd ⟨e,g⟩ g3
  ·omega
 ·omega
def cf (c:UInt8) (ns:List Int):ByteArray:=⟨(er c (ns.map fun n=>ac (aI n))).toArray⟩
def acJ (ns:List Int):Prop:=∀n∈ns,0≤n∧n<1000000000000000000
theorem cC (c:UInt8) (ns:List Int):ac (cf c ns)=er c (ns.map fun n=>ac (aI n)):=cW _
theorem RM {n:Int} (h0:0≤n) (h1:n<1000000000000000000):aiY (ac (aI n)) = .ok n:=by
 rw [iU n h0,Vg (by omega)];congr 1
 omega
theorem Rv {s:ByteArray} (hs:∀b∈ac s,b.toNat<128) {ns:List Int} (hn:acJ ns) (h:oA none (ac s)=ns.map fun n=>ac (aI n)):fu s=ns:=by
 unfold fu;have hf:=FO s hs;rw [h] at hf;have key:∀(ws:List ByteArray) (ns:List Int) (acc:List Int),acJ ns→ws.map ac=ns.map (fun n=>ac (aI n))→qP ws acc=acc++ns:=by
  intro ws;induction ws with
  | nil =>
   intro ns acc _ e;cases ns with
   | nil=>simp [qP]
   | cons _ _=>simp at e
  | cons w ws ih =>
   intro ns acc hn e;cases ns with
   | nil=>simp at e
   | cons n ns =>
    rw [aiA,aiA,ai5] at e;have hr:=hn n (by simp);simp only [qP];rw [e.1,RM hr.1 hr.2];simp only;rw [ih ns (acc++[n]) (fun m hm=>hn m (by simp [hm])) e.2];simp
 simpa using key _ ns [] hn hf
theorem aen {c:UInt8} {ns:List Int} (hc:dig c=false) (hb:c.toNat<128) (h:acJ ns):fu (cf c ns)=ns:=by
 have hw:∀w∈ns.map (fun n=>ac (aI n)),w≠[]∧∀b∈w,dig b=true:=by
  intro w hw;obtain⟨n,hn,rfl⟩:=aja.1 hw;exact iI (h n hn).1
 refine Rv (fun b hb'=>?_) h ?_
 ·rw [cC] at hb'
  rcases Br hb' with rfl | ⟨w,hw',hb'⟩
  ·exact hb
  ·exact Fs ((hw w hw').2 b hb')
 ·rw [cC]
  exact NC hc _ hw
theorem acq {c:UInt8} {ns:List Int} (hc:dig c=false) (hne:ns≠[]) (h:acJ ns):aC c (cf c ns)=ns.map aI:=by
 unfold aC;rw [cC,GH _ (by simpa using hne)]
 ·rw [ai0]
  refine ajh fun n _=>?_
  exact ll _
 ·intro w hw
  obtain⟨n,hn,rfl⟩:=aja.1 hw;exact xc (iI (h n hn).1).2 hc
structure Reads (rd:ByteArray→Int) (few:Int):Prop where
 le:few≤1000000000000000000
 of:∀n,0≤n→n<few→rd (aI n)=n
 canon:∀w,0≤rd w→w=aI (rd w)
section
variable {rd:ByteArray→Int} {few:Int} (hr:Reads rd few) {c:UInt8} (hc:dig c=false) (hb:c.toNat<128)
include hr hc
theorem Zj {ns:List Int} (hne:ns≠[]) (h:∀n∈ns,0≤n∧n<few):(aC c (cf c ns)).map rd=ns:=by
 rw [acq hc hne (fun n hn=>⟨(h n hn).1,Int.lt_of_lt_of_le (h n hn).2 hr.le⟩),ai0];have:ns.map (rd ∘ aI)=ns.map id:=ajh fun n hn=>hr.of n (h n hn).1 (h n hn).2
 rw [this,ajI]
omit hc in
theorem XD {s:ByteArray} (h:∀n∈(aC c s).map rd,0≤n):cf c ((aC c s).map rd)=s:=by
 apply bN;rw [cC,ai0];have e:(aC c s).map ((fun n=>ac (aI n)) ∘ rd)=(aC c s).map ac:=ajh fun w hw=>by
  have:=hr.canon w (h _ (List.mem_map_of_mem hw));exact congrArg ac this.symm
 rw [e];have e2:(aC c s).map ac=aX c (ac s):=by
  unfold aC;rw [ai0];have:((ac ∘ fun l:List UInt8=>(⟨l.toArray⟩:ByteArray)))=id:=funext fun l=>cW l
  rw [this,ajI]
 rw [e2,mW]
end
def AE (c:UInt8) (k:Nat) (good:List Int→Bool) (s:ByteArray):Option (List Int) :=
 if (fu s).length=k∧good (fu s)=true∧cf c (fu s)=s then some (fu s) else none
def JA (rd:ByteArray→Int) (c:UInt8) (k:Nat) (good:List Int→Bool) (s:ByteArray):Option (List Int) :=
 if (aC c s).length=k∧good ((aC c s).map rd)=true then some ((aC c s).map rd) else none
section
variable {rd:ByteArray→Int} {few:Int} (hr:Reads rd few) {c:UInt8} (hc:dig c=false) (hb:c.toNat<128) {k:Nat} {good:List Int→Bool} (hg:∀ns,good ns=true→∀n∈ns,0≤n∧n<few)
include hr hc hg
include hb in
theorem Xb {ns:List Int} (h:good ns=true) (hk:ns.length=k):AE c k good (cf c ns)=some ns:=by
 unfold AE;rw [aen hc hb fun n hn=>⟨(hg ns h n hn).1,Int.lt_of_lt_of_le (hg ns h n hn).2 hr.le⟩,if_pos ⟨hk,h,rfl⟩]
theorem WH (hk0:0<k) {ns:List Int} (h:good ns=true) (hk:ns.length=k):JA rd c k good (cf c ns)=some ns:=by
 have hne:ns≠[]:=fun e=>by rw [e] at hk;simp at hk;omega
 unfold JA;rw [Zj hr hc hne (hg ns h),if_pos];refine⟨?_,h⟩
 have:=congrArg List.length (Zj hr hc hne (hg ns h));rw [aio] at this;exact this.trans hk
include hb in
theorem acV (hk0:0<k) (s:ByteArray):AE c k good s=JA rd c k good s:=by
 by_cases h:(fu s).length=k∧good (fu s)=true∧cf c (fu s)=s
 ·obtain⟨h1,h2,h3⟩:=h
  have a:=Xb hr hc hb hg h2 h1;have b:=WH hr hc hg hk0 h2 h1;rw [h3] at a b;rw [a,b]
 ·by_cases h':(aC c s).length=k∧good ((aC c s).map rd)=true
  ·obtain⟨h1,h2⟩:=h'
   have hl:((aC c s).map rd).length=k:=by rw [aio];exact h1
   have a:=Xb hr hc hb hg h2 hl;have b:=WH hr hc hg hk0 h2 hl;have h3:=XD hr (c:=c) (s:=s) fun n hn=>(hg _ h2 n hn).1
   rw [h3] at a b;rw [a,b]
  ·rw [AE,JA,if_neg h,if_neg h']
end
theorem YZ {c:UInt8} {k:Nat} {good:List Int→Bool} {s:ByteArray} {ns:List Int} (h:AE c k good s=some ns):ns.length=k∧good ns=true∧cf c ns=s:=by
 unfold AE at h;split at h
 ·rename_i hc
  cases h;exact hc
 ·cases h
end Go.Proofs.YtjafgdefcggjcaaGreatDoor

namespace Go.Proofs.YtjafgdefcggjcaaGreatDoor
open Go Go.V
structure Cur where
 code:List Int
 at_:Nat
 seed:Int
abbrev rV (l:List Int):D:=.arr 1 (l.map U)
abbrev mq (c:Cur):D:=.agg [rV c.code,I c.at_,.v (.int .u64 c.seed)]
structure Cur.ok (c:Cur) (B:Nat):Prop where
 by_:∀n∈c.code,0≤n∧n≤255
 len:c.code.length≤1048576
 at_:c.at_≤B
 lo:0≤c.seed
 hi:c.seed<18446744073709551616
theorem RN {k:IntKind} {n:Int}:nS (some .i64) false (.v (.int k n))=some (I (aim.wrap n)):=rfl
theorem RH {k:IntKind} {n:Int}:nS (some .u64) false (.v (.int k n))=some (.v (.int .u64 (ai2.wrap n))):=rfl
theorem aa1 {n:Int} {bl:Bool} {eq:List Nat}:bin .shr bl eq (.v (.int .u64 n)) (.v (.int .u64 40))=some (.v (.int .u64 (n.fdiv 1099511627776))):=by
 simp [bin,ajT]
theorem aeo {a b:Int} {bl:Bool} {eq:List Nat}:bin .and bl eq (.v (.int .u64 a)) (.v (.int .u64 b))=some (.v (.int .u64 (bits .and .u64 a b))):=by simp [bin,my]
theorem agh {n:Int} (h0:0≤n) (h1:n<18446744073709551616):0≤bits .and .u64 n 255∧bits .and .u64 n 255≤255:=by
 obtain⟨m,rfl⟩:=aiv h0;have:=bits_and_u64_nat m 255 (by omega) (by omega);rw [show((255:Int))=((255:Nat):Int) from rfl,this];have h2:m &&& 255≤255:=Nat.and_le_right;omega
theorem ag1 (n:Int):0≤ai2.wrap n∧ai2.wrap n<18446744073709551616:=by
 rw [IntKind.wrap_u64];omega
def uq (s n:Int):Int:=ai2.wrap (ai2.wrap (ai2.wrap (s*6364136223846793005)+ai2.wrap n)+1442695040888963407)
def Kt (s:Int):Int:=bits .and .u64 (s.fdiv 1099511627776) 255
theorem mR (s n:Int):0≤uq s n∧uq s n<18446744073709551616:=ag1 _
theorem UJ {s:Int} (h0:0≤s) (h1:s<18446744073709551616):0≤Kt s∧Kt s≤255:=by
 unfold Kt;rw [Int.fdiv_eq_ediv_of_nonneg _ (by omega)];exact agh (by omega) (by omega)
theorem ahq (c:Cur) (B:Nat) (h:c.ok B) (hB:B≤1000000000000) (hc:c.at_<c.code.length):eF [mq c]=some (.ret [I c.code[c.at_]] [mq ⟨c.code,c.at_+1,uq c.seed c.code[c.at_]⟩]):=by
 have hl:=h.len;have ha:=h.at_;have hw:aim.wrap ((c.at_:Int)+1)=(c.at_:Int)+1:=ah (by omega) (by omega);have hn:=h.by_ c.code[c.at_] (aix hc);have hv:aim.wrap c.code[c.at_]=c.code[c.at_]:=ah (by omega) (by omega);have hle:(c.at_:Int)+1≤(c.code.length:Int):=by omega
 rw [tm];simp -implicitDefEqProofs [hc,hw,hv,hle,RN,RH,uq]
theorem ahF (c:Cur) (B:Nat) (h:c.ok B) (hB:B≤1000000000000) (hc:¬c.at_<c.code.length):eF [mq c]=some (.ret [I (Kt (uq c.seed 0))] [mq ⟨c.code,c.at_+1,uq c.seed 0⟩]):=by
 have hl:=h.len;have ha:=h.at_;have hw:aim.wrap ((c.at_:Int)+1)=(c.at_:Int)+1:=ah (by omega) (by omega);have hle:¬(c.at_:Int)+1≤(c.code.length:Int):=by omega
 have hq:=UJ (mR c.seed 0).1 (mR c.seed 0).2;have hv:aim.wrap (Kt (uq c.seed 0))=Kt (uq c.seed 0):=ah (by omega) (by omega);unfold Kt uq at hv;rw [tm];simp -implicitDefEqProofs [hc,hw,hle,RN,RH,aa1,aeo,hv,uq,Kt]
theorem abA (c:Cur) (B:Nat) (h:c.ok B) (hB:B≤1000000000000):∃v c',eF [mq c]=some (.ret [I v] [mq c'])∧0≤v∧v≤255∧c'.ok (B+1):=by
 have ha:=h.at_;by_cases hc:c.at_<c.code.length
 ·have hn:=h.by_ c.code[c.at_] (aix hc)
  exact⟨_,_,ahq c B h hB hc,hn.1,hn.2,⟨h.by_,h.len,ajL ha,(mR _ _).1,(mR _ _).2⟩⟩
 ·have hq:=UJ (mR c.seed 0).1 (mR c.seed 0).2
  exact⟨_,_,ahF c B h hB hc,hq.1,hq.2,⟨h.by_,h.len,ajL ha,(mR _ _).1,(mR _ _).2⟩⟩
theorem ig (c:Cur) (n:Int) (B:Nat) (h:c.ok B) (hB:B≤100000000000) (hn:n≤1000000000):∃v c',aJ [mq c,I n]=some (.ret [I v] [mq c'])∧0≤v∧(v<n∨v=0)∧c'.ok (B+2):=by
 rw [Ga];by_cases h1:n≤1
 ·exact⟨0,c,by simp [h1],by omega,.inr rfl,⟨h.by_,h.len,by have:=h.at_;omega,h.lo,h.hi⟩⟩
 obtain⟨v,c1,e1,l1,u1,k1⟩:=abA c B h (by omega);have hn0:¬n=0:=by omega
 by_cases h2:200<n
 ·obtain⟨v2,c2,e2,l2,u2,k2⟩:=abA c1 (B+1) k1 (by omega)
  have w1:aim.wrap (v*256)=v*256:=ah (by omega) (by omega);have w2:aim.wrap (v*256+v2)=v*256+v2:=ah (by omega) (by omega);refine⟨(v*256+v2).tmod n,c2,by simp [h1,h2,e1,e2,w1,w2,hn0],Int.tmod_nonneg _ (by omega),.inl (Int.tmod_lt_of_pos _ (by omega)),k2⟩
 ·refine⟨v.tmod n,c1,by simp [h1,h2,e1,hn0],Int.tmod_nonneg _ l1,.inl (Int.tmod_lt_of_pos _ (by omega)),⟨k1.by_,k1.len,by have:=k1.at_;omega,k1.lo,k1.hi⟩⟩
theorem afL (c:Cur) (n:Int) (B:Nat) (h:c.ok B) (hB:B≤100000000000) (hn:n≤1000000000):∃(b:Bool) (c':Cur),fQ [mq c,I n]=some (.ret [.v (.bool b)] [mq c'])∧c'.ok (B+2):=by
 rw [Jw];obtain⟨v,c1,e1,l1,u1,k1⟩:=ig c n B h hB hn;exact⟨_,c1,by simp [e1];rfl,k1⟩
abbrev acY (l:List Int):D:=.arr 1 (l.map I)
theorem GA (c:Cur) (l:List Int) (B:Nat) (h:c.ok B) (hB:B≤100000000000) (hl:l≠[]) (hn:l.length≤1000000000):∃v c',de [mq c,acY l]=some (.ret [I v] [mq c'])∧v∈l∧c'.ok (B+2):=by
 rw [EK];have hp:0<l.length:=ai4.2 hl;obtain⟨v,c1,e1,l1,u1,k1⟩:=ig c l.length B h hB (by omega);obtain⟨i,rfl⟩:=aiv l1;have hi:i<l.length:=by omega
 exact⟨l[i],c1,by simp [e1,hi],aix hi,k1⟩
theorem Cur.ok.mono {c:Cur} {B C:Nat} (h:c.ok B) (hBC:B≤C):c.ok C:=⟨h.by_,h.len,ai9 h.at_ hBC,h.lo,h.hi⟩
theorem xt {l:List Int}:aB 1 (l.map I)=some (acY l):=by
 have:kv 1 (l.map I).length (l.map I)=true:=by
  unfold kv;simp
 simp only [aB,this,if_true]
theorem YW (a b:List Int):∃p:Bool,wN [rV a,rV b]=some (.ret [B p] [])∧(p=false→a.length≤1048576∧b.length≤1048576):=by
 rw [YJ];by_cases h1:1048576<(a.length:Int)
 ·exact⟨true,by simp [h1],fun h=>by cases h⟩
 have hw:aim.wrap (1048576 - (a.length:Int))=1048576 - (a.length:Int):=ah (by omega) (by omega);by_cases h2:1048576 - (a.length:Int)<(b.length:Int)
 ·exact⟨true,by simp [h1,h2,hw],fun h=>by cases h⟩
 ·exact⟨false,by simp [h1,h2,hw],fun _=>by omega⟩
theorem ag8 (l:List Int):dp [(0,1)] [D.arr 1 [],I 0,D.v (.int .u64 0)] [rV l]=some (.agg [rV l,I 0,D.v (.int .u64 0)]):=by
 simp [dp,Eb]
structure Bytes (l:List Int):Prop where
 by_:∀n∈l,0≤n∧n≤255
 len:l.length≤1048576
theorem aii {l:List Int} (h:Bytes l):Cur.ok ⟨l,0,0⟩ 0:=⟨h.by_,h.len,aiU _,ai3 0,show(0:Int)<18446744073709551616 by decide⟩
abbrev ahV (l:List Int):D:=.agg [rV l,I 0,.v (.int .u64 0)]
abbrev txs (l:List ByteArray):D:=.arr 1 (l.map T)
theorem qb {l:List ByteArray}:aB 1 (l.map T)=some (txs l):=by
 have:kv 1 (l.map T).length (l.map T)=true:=by
  unfold kv;simp
 simp only [aB,this,if_true]
theorem AX (c:Cur) (l:List ByteArray) (B:Nat) (h:c.ok B) (hB:B≤100000000000) (hl:l≠[]) (hn:l.length≤1000000000):∃v c',bO [mq c,txs l]=some (.ret [T v] [mq c'])∧v∈l∧c'.ok (B+2):=by
 rw [Ll];have hp:0<l.length:=ai4.2 hl;obtain⟨v,c1,e1,l1,u1,k1⟩:=ig c l.length B h hB (by omega);obtain⟨i,rfl⟩:=aiv l1;have hi:i<l.length:=by omega
 exact⟨l[i],c1,by simp [e1,hi],aix hi,k1⟩
theorem BC {a b:ByteArray} (h:a.size+b.size≤100000000):bin .add false [] (T a) (T b)=some (T (a++b)):=by
 rw [fY,if_pos (by omega)]
theorem Wo (c:UInt8):∀(ws:List (List UInt8)),Lib.join ws [c]=er c ws
 | []=>rfl
 | [a]=>by rw [Lib.join_one];rfl
 | a::b::l=>by
  have ih:=Wo c (b::l);rw [Lib.join_cons] at ih ⊢;have hj:er c (a::b::l)=a++c::er c (b::l):=rfl;rw [hj,←ih];simp [Lib.joinTail]
theorem Vc (c:UInt8) (ns:List Int):qm (ns.map aI) ⟨#[c]⟩=cf c ns:=by
 apply bN;rw [cC,←Wo];unfold qm;rw [cW,ai0];rfl
theorem Jh {c:UInt8} {m:Nat}:∀(ws:List (List UInt8)),(∀w∈ws,w.length≤m)→(er c ws).length≤ws.length*(m+1)
 | [],_=>by simp [er]
 | [a],h=>by
  have:=h a (by simp);show a.length≤1*(m+1)
  omega
 | a::b::l,h=>by
  have ih:=Jh (c:=c) (b::l) fun w hw=>h w (by simp [hw])
  have ha:=h a (by simp);have hj:er c (a::b::l)=a++c::er c (b::l):=rfl;rw [hj,ajk,ajp];have e:(a::b::l).length*(m+1)=(b::l).length*(m+1)+(m+1):=by rw [ajp,Nat.succ_mul]
  omega
theorem wZ {c:UInt8} {ns:List Int} (h:∀n∈ns,0≤n∧n<1000000000000000000):(cf c ns).size≤ns.length*19:=by
 have:(cf c ns).size=(er c (ns.map fun n=>ac (aI n))).length:=by rw [cX,cC]
 rw [this];have:=Jh (c:=c) (m:=18) (ns.map fun n=>ac (aI n)) fun w hw=>by
  obtain⟨n,hn,rfl⟩:=aja.1 hw;exact bY 17 (h n hn).1 (by have:=(h n hn).2;omega)
 rwa [aio] at this
abbrev ai (l:List Int):D:=.arr 1 (l.map I)
theorem ZL {l m:List ByteArray} (h:l.length+m.length≤1048577):bC 1 16 (txs l) (txs m)=some (txs (l++m)):=by
 rw [hD,if_pos (by simp only [aio];omega)];simp
theorem Kg (ns:List Int) (c:UInt8) (h:∀n∈ns,0≤n∧n<1000000000000000000) (hl:ns.length≤1000000):dg [ai ns,T ⟨#[c]⟩]=some (.ret [T (cf c ns)] []):=by
 rw [zG];simp only [bf,aK,aio,aik];refine aG _ (aY ns.length (fun i=>[T ⟨#[c]⟩,txs ((ns.take i).map aI),ai ns,I ns.length,I i]) (.ext 0 [T ⟨#[c]⟩,txs (ns.map aI)]) (fun i hi=>?_) ?_ rfl rfl) ?_
 ·have hi':(i:Int)<(ns.length:Int):=by omega
  have hw:aim.wrap ((i:Int)+1)=((i+1:Nat):Int):=by rw [ah (by omega) (by omega)];omega
  have hx:=h ns[i] (aix hi);have hel:ao 1 (ai ns) (I (i:Int))=some [I ns[i]]:=by simp [hi]
  have hit:=Mg (n:=ns[i]) (by omega) (by omega);have hap:=ZL (l:=(ns.take i).map aI) (m:=[aI ns[i]]) (by simp;omega);have htk:(ns.take (i+1)).map aI=(ns.take i).map aI++[aI ns[i]]:=by rw [aiu hi,aiy];rfl
  rw [←htk] at hap;have hck:cT (.arr 1 [T (aI ns[i])])=some (txs [aI ns[i]]):=sk [aI ns[i]];show _=some (Out.nrm [T ⟨#[c]⟩,txs ((ns.take (i+1)).map aI),ai ns,I ns.length,I ((i+1:Nat):Int)])
  simp -implicitDefEqProofs only [ak,aF,bg,hi',decide_true,aik,aH,if_true,hel,ain,bk,aP,bD,hit,am,vn,hck,hap,bw,hw]
 ·simp
 ·have hz:=wZ (c:=c) h
  have hj:Ez [txs (ns.map aI),T ⟨#[c]⟩]=some (.ret [T (cf c ns)] []):=by
   simp only [Ez,Bv,aik,Vc];rw [if_pos ⟨by rw [aio];omega,by omega⟩]
  simp -implicitDefEqProofs only [bF,aiw,dE,if_true,ak,aF,cz,ck,aik,hj,am]
theorem aac {a b:Int}:∀(l:List Int) (i:Nat),nK (fun _ x=>decide (a≤x∧x≤b)) i l=l.all fun x=>decide (a≤x∧x≤b)
 | [],_=>rfl
 | x::l,i=>by simp only [nK,aac l,List.all_cons]
theorem Im (l:List Int) (a b:Int) (h:l.length≤1048577):nq [ai l,I a,I b]=some (.ret [B (l.all fun x=>decide (a≤x∧x≤b))] []):=by
 rw [Ud];simp only [aK,aio,aik];refine aG _ (pX l (fun i=>[I a,I b,ai l,I l.length,I i]) (fun _ x=>decide (a≤x∧x≤b)) (.ret [B false] []) (.ext 0 []) (fun i hi=>?_) ?_ rfl rfl rfl) ?_
 ·have hw:aim.wrap ((i:Int)+1)=(i:Int)+1:=ah (by omega) (by omega)
  by_cases h1:a≤l[i]∧l[i]≤b<;>simp -implicitDefEqProofs [hi,hw,h1,bp]
 ·simp
 ·rw [aac]
  by_cases hm:(l.all fun x=>decide (a≤x∧x≤b))=true
  ·rw [if_pos hm,hm];rfl
  ·rw [if_neg hm]
   rw [Bool.not_eq_true] at hm;rw [hm];rfl
theorem tp1 (a:D) (v:Value) (ds:List D):ax (.tup (a :: .v v::ds)) 1=some (.v v):=rfl
def afc (l:List Int):Prop:=∀n∈l,-9223372036854775808≤n∧n≤9223372036854775807
theorem adW {n:Int} (h0 : -9223372036854775808≤n) (h1:n≤9223372036854775807):(aI n).size≤20:=by
 by_cases h:0≤n
 ·have:=bY 18 (n:=n) h (by omega)
  omega
 ·have e:aI n=⟨#[45]⟩++aI (-n):=by
   obtain⟨u,hu⟩:=aiv (show 0 ≤ -n by omega);have hn:n = -(u:Int):=by omega
   apply bN;rw [be,hn,Int.neg_neg];unfold aI;rw [cW,cW,Lib.itoa_neg u (by omega),Lib.itoa_nonneg];rfl
  have:=bY 18 (n:=-n) (by omega) (by omega);rw [e,aiE];have:(⟨#[45]⟩:ByteArray).size=1:=rfl;omega
theorem oP {c:UInt8} {ns:List Int} (h:afc ns):(cf c ns).size≤ns.length*21:=by
 have:(cf c ns).size=(er c (ns.map fun n=>ac (aI n))).length:=by rw [cX,cC]
 rw [this];have:=Jh (c:=c) (m:=20) (ns.map fun n=>ac (aI n)) fun w hw=>by
  obtain⟨n,hn,rfl⟩:=aja.1 hw;exact adW (h n hn).1 (h n hn).2
 rwa [aio] at this
theorem xf (ns:List Int) (c:UInt8) (h:afc ns) (hl:ns.length≤1000000):dg [ai ns,T ⟨#[c]⟩]=some (.ret [T (cf c ns)] []):=by
 rw [zG];simp only [bf,aK,aio,aik];refine aG _ (aY ns.length (fun i=>[T ⟨#[c]⟩,txs ((ns.take i).map aI),ai ns,I ns.length,I i]) (.ext 0 [T ⟨#[c]⟩,txs (ns.map aI)]) (fun i hi=>?_) ?_ rfl rfl) ?_
 ·have hi':(i:Int)<(ns.length:Int):=by omega
  have hw:aim.wrap ((i:Int)+1)=((i+1:Nat):Int):=by rw [ah (by omega) (by omega)];omega
  have hx:=h ns[i] (aix hi);have hel:ao 1 (ai ns) (I (i:Int))=some [I ns[i]]:=by simp [hi]
  have hit:=Mg (n:=ns[i]) hx.1 hx.2;have hap:=ZL (l:=(ns.take i).map aI) (m:=[aI ns[i]]) (by simp;omega);have htk:(ns.take (i+1)).map aI=(ns.take i).map aI++[aI ns[i]]:=by rw [aiu hi,aiy];rfl
  rw [←htk] at hap;have hck:cT (.arr 1 [T (aI ns[i])])=some (txs [aI ns[i]]):=sk [aI ns[i]];show _=some (Out.nrm [T ⟨#[c]⟩,txs ((ns.take (i+1)).map aI),ai ns,I ns.length,I ((i+1:Nat):Int)])
  simp -implicitDefEqProofs only [ak,aF,bg,hi',decide_true,aik,aH,if_true,hel,ain,bk,aP,bD,hit,am,vn,hck,hap,bw,hw]
 ·simp
 ·have hz:=oP (c:=c) h
  have hj:Ez [txs (ns.map aI),T ⟨#[c]⟩]=some (.ret [T (cf c ns)] []):=by
   simp only [Ez,Bv,aik,Vc];rw [if_pos ⟨by rw [aio];omega,by omega⟩]
  simp -implicitDefEqProofs only [bF,aiw,dE,if_true,ak,aF,cz,ck,aik,hj,am]
abbrev Sk:=Int × Int × Int × Int × Int
abbrev k0:Sk:=(0,0,0,0,0)
theorem zR {l:List Int} {n:Int} (h:l.length≤1048576):bC 1 8 (ai l) (ai [n])=some (ai (l++[n])):=by
 rw [hD,if_pos (by simp;omega)];simp
theorem Hy (n:Int):aB 1 [I n]=some (ai [n]):=xt (l:=[n])
theorem HY (l:List Int):cT (ai l)=some (ai l):=sr (fun _=>rfl)
theorem tpL (l:List Int) (ds:List D):ax (.tup (ai l::ds)) 0=some (ai l):=rfl
theorem yk (l:List Int) (h:l.length≤1048576):lX [ai l,ai l]=some (.ret [B true] []):=by
 rw [Ld];simp only [aK,aio,aik,jC,decide_true,air,aH,ail,if_false];refine aG (.ext 0 []) (aY l.length (fun i=>[ai l,ai l,I l.length,I i]) _ (fun i hi=>?_) ?_ rfl rfl) ?_
 ·have hw:aim.wrap ((i:Int)+1)=(i:Int)+1:=ah (by omega) (by omega)
  simp -implicitDefEqProofs [hi,hw]
 ·simp
 ·simp
theorem zS (a b:Int):ku [I a,I b]=some (.ret [I (if a<b then a else b)] []):=by
 rw [Of];by_cases h:a<b<;>simp [h]
theorem EM (c:UInt8) (w:List UInt8):∀(ws:List (List UInt8)),ws≠[]→er c (ws++[w])=er c ws++c::w
 | [],h=>absurd rfl h
 | [a],_=>rfl
 | a::b::l,_=>by
  have ih:=EM c w (b::l) (by simp);have h1:er c ((a::b::l)++[w])=a++c::er c ((b::l)++[w]):=rfl;have h2:er c (a::b::l)=a++c::er c (b::l):=rfl;rw [h1,h2,ih];simp
theorem Jo (c:UInt8) (n:Int):cf c [n]=aI n:=bN (by rw [cC];rfl)
theorem MY (c:UInt8) (ns:List Int) (n:Int) (h:ns≠[]):cf c (ns++[n])=cf c ns++⟨#[c]⟩++aI n:=by
 apply bN;rw [cC,aiy,aiA,aiB,EM _ _ _ (by simpa using h),be,be,cC,show ac ⟨#[c]⟩=[c] from rfl];simp
def Ka (l:List UInt8):Int :=
 if (1≤l.length∧l.length≤10)∧¬(l.head?=some 48∧1<l.length)∧l.all dig=true then(mT 0 l:Int) else -1
def gA (s:ByteArray):Int:=Ka (ac s)
theorem uK (s:ByteArray) (h:s.size≤4294967296):jr [T s]=some (.ret [I (gA s)] []):=by
 rw [Qb];have hsz:s.size=(ac s).length:=rfl;by_cases h1:1≤(s.size:Int)∧(s.size:Int)≤10
 case neg =>
  have hr:gA s = -1:=by
   unfold gA Ka;rw [if_neg (by rintro⟨⟨g1,g2⟩,_⟩;exact h1 (by omega))]
  rw [hr];simp -implicitDefEqProofs [bp,h1]
 have hpos:0<(ac s).length:=by omega
 have hch0:hZ (T s) (I 0)=some (U ((ac s)[0].toNat:Int)):=by
  have:=kI (s:=s) (k:=.i64) (i:=0);rw [aiF hpos] at this;exact this
 have hhead:(ac s).head?=some (ac s)[0]:=by rw [aju,aiF hpos]
 have h48:(48:UInt8).toNat=48:=rfl;have hc48:((ac s)[0].toNat:Int)=48↔(ac s)[0]=48:=⟨fun e=>ai6.1 (by omega),fun e=>by rw [e];rfl⟩
 by_cases h2:(ac s)[0]=48∧1<(ac s).length
 ·have hr:gA s = -1:=by
   unfold gA Ka;rw [if_neg (by rintro⟨_,g,_⟩;exact g ⟨by rw [hhead,h2.1],h2.2⟩)]
  have hl:(1:Int)<(s.size:Int):=by omega
  have hc:=hc48.2 h2.1;rw [hr];simp -implicitDefEqProofs [bp,h1,hch0,hc,hl]
 have hgo:∀(K:D→Option Out),((bin BinOp.eql false [] (U ((ac s)[0].toNat:Int)) (D.v (ajs ajd 48))).bind fun z_3=>(aj (D.tup []) (B false) false (some z_3)).bind fun z_4=>(aj (D.tup []) z_4 true (some (T s))).bind fun z_5 =>
   (aj (D.tup []) z_4 true (lenD true z_5)).bind fun z_6=>(aj (D.tup []) z_4 true (bin BinOp.gtr false [] z_6 (D.v (ajs aim 1)))).bind fun z_7=>(aj (D.tup []) (B false) false (aV z_4 z_7 (D.v (Value.bool false)))).bind K)=K (B false):=by
  intro K;by_cases e:((ac s)[0].toNat:Int)=48
  ·have:¬(1:Int)<(s.size:Int):=fun hl=>h2 ⟨hc48.1 e,by omega⟩
   simp -implicitDefEqProofs [e,this]
  ·simp -implicitDefEqProofs [e]
 simp only [dZ,aik,bp,h1,and_self,decide_true,am,ak,bn,air,bK,ail,if_false,hch0];have hgo':=hgo;simp only [bK,ail,if_false,aik] at hgo';rw [hgo'];simp only [aO,ail,if_false,aik,aH];refine bH (fun r=>r=_) (fun(a:Nat × Nat)=>[T s,I (a.1:Int),I (a.2:Int)]) (fun a=>a.2≤s.size∧a.1=mT 0 ((ac s).take a.2)∧∀b∈(ac s).take a.2,dig b=true) (fun a=>s.size - a.2)
  (fun o=>o=if (ac s).all dig=true then .ext 0 [I (mT 0 (ac s):Int)] else .ret [I (-1)] []) ?_ (0,0) ⟨ajj _,rfl,by simp⟩ rfl ?_
 ·rintro⟨n,i⟩ ⟨g1,g2,g3⟩
  simp only at g1 g2 g3;by_cases hi:i<s.size
  ·have hl:i<(ac s).length:=by rw [←hsz];exact hi
   have hi':(i:Int)<(s.size:Int):=by omega
   have hch:hZ (T s) (I (i:Int))=some (U ((ac s)[i].toNat:Int)):=by
    rw [kI,aiF hl];rfl
   have htk:(ac s).take (i+1)=(ac s).take i++[(ac s)[i]]:=aiu hl;by_cases hd:dig (ac s)[i]=true
   ·left
    have hd':=pt.1 hd;have hn:n<10 ^ i:=by
     rw [g2];exact Uh i _ (by rw [aiC];omega) g3
    have h10:10 ^ i≤10 ^ 10:=ajA (by decide) (by omega);have hw:aim.wrap ((i:Int)+1)=((i+1:Nat):Int):=by rw [ah (by omega) (by omega)];omega
    have hw1:aim.wrap (10*(n:Int))=10*(n:Int):=ah (by omega) (by omega);have hw2:ajd.wrap (((ac s)[i].toNat:Int) - 48)=((ac s)[i].toNat:Int) - 48:=ZE _ (by omega) (by omega);have hw3:aim.wrap (((ac s)[i].toNat:Int) - 48)=((ac s)[i].toNat:Int) - 48:=ah (by omega) (by omega);have hw4:aim.wrap (10*(n:Int)+(((ac s)[i].toNat:Int) - 48))=((n*10+((ac s)[i].toNat - 48):Nat):Int):=by rw [ah (by omega) (by omega)];omega
    have c1:¬((ac s)[i].toNat:Int)<48:=by omega
    have c2:¬(57:Int)<((ac s)[i].toNat:Int):=by omega
    refine⟨(n*10+((ac s)[i].toNat - 48),i+1),?_,⟨by simp only;omega,?_,?_⟩,by simp only;omega⟩
    ·simp only [ak,aF,dZ,aik,bg,hi',decide_true,aH,if_true,hch,c1,decide_false,bK,ail,if_false,eY,c2,aO,eI,hw1,cr,hw2,nS,hw3,bw,hw4,hw]
    ·simp only
     rw [htk,BB,g2]
    ·simp only
     rw [htk];intro b hb;rcases aje.1 hb with hb | hb
     ·exact g3 b hb
     ·rw [ai8.1 hb];exact hd
   ·right
    refine⟨.ret [I (-1)] [],?_,rfl,?_⟩
    ·by_cases c1:((ac s)[i].toNat:Int)<48
     ·simp -implicitDefEqProofs [hi',hch,c1]
     ·have c2:(57:Int)<((ac s)[i].toNat:Int):=by
       have:¬(48≤(ac s)[i].toNat∧(ac s)[i].toNat≤57):=fun e=>hd (pt.2 e)
       omega
      simp -implicitDefEqProofs [hi',hch,c1,c2]
    ·rw [if_neg]
     intro hall;exact hd (aiO.1 hall _ (aix hl))
  ·right
   have hi':¬(i:Int)<(s.size:Int):=by omega
   have hie:(ac s).take i=ac s:=ajv (by omega);rw [hie] at g2 g3;refine⟨.ext 0 [I (n:Int)],?_,rfl,?_⟩
   ·simp -implicitDefEqProofs [hi']
   ·rw [if_pos (aiO.2 g3),g2]
 ·rintro o rfl
  by_cases ha:(ac s).all dig=true
  ·have hr:gA s=(mT 0 (ac s):Int):=by
    unfold gA Ka;rw [if_pos ⟨⟨by omega,by omega⟩,fun g=>h2 ⟨by have:=g.1;rw [hhead] at this;exact ajN this,g.2⟩,ha⟩]
   rw [if_pos ha,hr];rfl
  ·have hr:gA s = -1:=by
    unfold gA Ka;rw [if_neg (fun g=>ha g.2.2)]
   rw [if_neg ha,hr];rfl
theorem NJ {u:Nat} (h:u<10000000000):(ais u).length≤10:=vg 9 u (by omega)
theorem aa2 {u:Nat} (h:u<10000000000):Ka (ais u)=(u:Int):=by
 have h1:=kA u;have h2:=NJ h;have h3:1≤(ais u).length:=ai4.2 h1;have hno:¬((ais u).head?=some 48∧1<(ais u).length):=by
  rintro⟨g1,g2⟩;by_cases hu:0<u
  ·cases hd:ais u with
   | nil=>exact h1 hd
   | cons b t =>
    rw [hd] at g1;exact zV u hu b t hd (by simpa using g1)
  ·have:u=0:=by omega
   subst this;rw [aiD (by decide)] at g2;simp at g2
 unfold Ka;rw [if_pos ⟨⟨h3,h2⟩,hno,aiO.2 (pC u)⟩,VC]
theorem aax {n:Int} (h0:0≤n) (h1:n<10000000000):gA (aI n)=n:=by
 unfold gA;rw [iU n h0,aa2 (by omega)];omega
theorem VN {w:ByteArray} {n:Int} (h:gA w=n) (h0:0≤n):w=aI n:=by
 unfold gA Ka at h;split at h
 ·rename_i hc
  obtain⟨⟨g1,g2⟩,g3,g4⟩:=hc;subst h;apply bN;rw [iU _ h0];have:((mT 0 (ac w):Int)).toNat=mT 0 (ac w):=by omega
  rw [this];refine(Dq ((ac w).length - 1) (ac w) (by omega) (aiO.1 g4) fun e=>?_).symm
  rcases ajG 1 (ac w).length with g | g
  ·exact absurd ⟨e,g⟩ g3
  ·omega
 ·omega
theorem aeI:Reads gA 10000000000:=⟨by decide,fun _ h0 h1=>aax h0 h1,fun _ h=>VN rfl h⟩
abbrev Me:=Int × Int × Int
abbrev me (m:Me):D:=.agg [I m.1,I m.2.1,I m.2.2]
abbrev mes (l:List Me):D:=.arr 3 (l.map me)
def meL (m:Me):List Int:=[m.1,m.2.1,m.2.2]
def in6 (x:Int):Bool:=decide (0≤x∧x≤1000000)
def ct (m:Me):Bool:=in6 m.1&&in6 m.2.1&&in6 m.2.2
theorem dn {m:Me}:ct m=true↔(0≤m.1∧m.1≤1000000)∧(0≤m.2.1∧m.2.1≤1000000)∧(0≤m.2.2∧m.2.2≤1000000):=by
 simp only [ct,in6,aiP,decide_eq_true_eq,and_assoc]
def gM (m:Me):Int:=m.1+m.2.1+m.2.2
abbrev m0:Me:=(0,0,0)
theorem oz (m:Me):gq 3 (me m)=some (me m):=by simp
theorem ja (m:Me):bh true 3 0 (me m)=some (me m):=by simp
theorem stM (a m:Me):stD 3 (me a) (.ref 0 0) (me m)=some (me m):=by simp
theorem stZ (m:Me):stD 3 (.agg [I 0,I 0,I 0]) (.ref 0 0) (me m)=some (me m):=by simp
theorem Fb (a b c:Int):dp [(0,1),(1,1),(2,1)] [I 0,I 0,I 0] [I a,I b,I c]=some (me (a,b,c)):=by simp [dp,Eb]
theorem jU:dp [] [I 0,I 0,I 0] []=some (me m0):=by simp [dp,Eb]
theorem sM0 (m:Me) (a:Int):stD 1 (me m) (.ref 0 0) (I a)=some (me (a,m.2)):=by simp
theorem sM1 (m:Me) (a:Int):stD 1 (me m) (.ref 0 1) (I a)=some (me (m.1,a,m.2.2)):=by simp
theorem sM2 (m:Me) (a:Int):stD 1 (me m) (.ref 0 2) (I a)=some (me (m.1,m.2.1,a)):=by simp
theorem Nb (n:Int):iy [I n]=some (.ret [B (in6 n)] []):=by
 rw [Pq];simp -implicitDefEqProofs only [bB,am,ak,in6]
theorem dj (m:Me):eC [me m]=some (.ret [B (ct m)] []):=by
 rw [PB];cases h1:in6 m.1<;>cases h2:in6 m.2.1<;>cases h3:in6 m.2.2<;>simp -implicitDefEqProofs [Nb,ct,h1,h2,h3]
theorem Bf (m:Me):kl [me m]=some (.ret [ai (meL m)] []):=by
 rw [Na];have:=xt (l:=[m.1,m.2.1,m.2.2]);simp only [aiA,aiB] at this;simp -implicitDefEqProofs only [oz,aik,cy,fi,aip,aiq,aP,this,meL]
theorem dh (m:Me):gI [me m]=some (.ret [B (ct m)] []):=by
 rw [QY];have ha:=Im (meL m) 0 1000000 (by simp [meL]);have e:((meL m).all fun x=>decide (0≤x∧x≤1000000))=ct m:=by simp [meL,ct,in6,Bool.and_assoc]
 rw [e] at ha;simp -implicitDefEqProofs only [oz,ja,aik,Bf,am,ak,ha]
theorem wC {m:Me} (h:ct m=true):dy [me m]=some (.ret [I (gM m)] []):=by
 rw [Gy];obtain⟨⟨a1,a2⟩,⟨b1,b2⟩,c1,c2⟩:=dn.1 h;have w1:aim.wrap (m.1+m.2.1)=m.1+m.2.1:=ah (by omega) (by omega);have w2:aim.wrap (m.1+m.2.1+m.2.2)=gM m:=ah (by omega) (by omega);simp -implicitDefEqProofs only [oz,aik,cy,fi,aip,aiq,aP,bw,w1,w2]
theorem nL {m:Me} (h:ct m=true):fX [me m]=some (.ret [I (gM m)] []):=by
 rw [MC];obtain⟨⟨a1,a2⟩,⟨b1,b2⟩,c1,c2⟩:=dn.1 h;have w1:aim.wrap (m.1+m.2.1)=m.1+m.2.1:=ah (by omega) (by omega);have w2:aim.wrap (m.1+m.2.1+m.2.2)=gM m:=ah (by omega) (by omega);simp -implicitDefEqProofs only [oz,aik,cy,fi,aip,aiq,aP,bw,w1,w2]
theorem acS {m:Me} (h:ct m=true):0≤gM m∧gM m≤3000000:=by
 obtain⟨⟨a1,a2⟩,⟨b1,b2⟩,c1,c2⟩:=dn.1 h;unfold gM;omega
def bdM (k:Int) (m:Me):Prop:=(0≤m.1∧m.1≤k)∧(0≤m.2.1∧m.2.1≤k)∧(0≤m.2.2∧m.2.2≤k)
def plM (a b:Me):Me:=(a.1+b.1,a.2.1+b.2.1,a.2.2+b.2.2)
theorem Xa {a b:Me} (ha:bdM 1000000000000 a) (hb:bdM 1000000 b):kC [me a,me b]=some (.ret [me (plM a b)] []):=by
 rw [IU];obtain⟨⟨a1,a2⟩,⟨a3,a4⟩,a5,a6⟩:=ha;obtain⟨⟨b1,b2⟩,⟨b3,b4⟩,b5,b6⟩:=hb;have w1:aim.wrap (a.1+b.1)=a.1+b.1:=ah (by omega) (by omega);have w2:aim.wrap (a.2.1+b.2.1)=a.2.1+b.2.1:=ah (by omega) (by omega);have w3:aim.wrap (a.2.2+b.2.2)=a.2.2+b.2.2:=ah (by omega) (by omega);simp -implicitDefEqProofs only [oz,aik,cy,fi,aip,aiq,aP,bw,w1,w2,w3,Fb,stZ,ja,plM]
theorem Rl {a b:Me} (ha:bdM 1000000000000 a) (hb:bdM 1000000 b):pw [me a,me b]=some (.ret [me (plM a b)] []):=by
 rw [Qd];obtain⟨⟨a1,a2⟩,⟨a3,a4⟩,a5,a6⟩:=ha;obtain⟨⟨b1,b2⟩,⟨b3,b4⟩,b5,b6⟩:=hb;have w1:aim.wrap (a.1+b.1)=a.1+b.1:=ah (by omega) (by omega);have w2:aim.wrap (a.2.1+b.2.1)=a.2.1+b.2.1:=ah (by omega) (by omega);have w3:aim.wrap (a.2.2+b.2.2)=a.2.2+b.2.2:=ah (by omega) (by omega);simp -implicitDefEqProofs only [oz,aik,cy,fi,aip,aiq,aP,bw,w1,w2,w3,Fb,stZ,ja,plM]
theorem afP {a b:Me} {k j:Int} (ha:bdM k a) (hb:bdM j b):bdM (k+j) (plM a b):=by
 obtain⟨⟨a1,a2⟩,⟨a3,a4⟩,a5,a6⟩:=ha;obtain⟨⟨b1,b2⟩,⟨b3,b4⟩,b5,b6⟩:=hb;unfold bdM plM;dsimp only;omega
theorem LZ {a:Me} {k j:Int} (ha:bdM k a) (h:k≤j):bdM j a:=by
 obtain⟨⟨a1,a2⟩,⟨a3,a4⟩,a5,a6⟩:=ha;unfold bdM;omega
def LI (l:List Me):Me:=l.foldl plM m0
def joB (l:List Me):Bool:=l.all ct&&decide (l.length≤20)&&ct (LI l)
def joR (l:List Me):Me:=if joB l=true then LI l else m0
theorem uZ {β:Type} (p:β→Bool):∀(l:List β) (i:Nat),nK (fun _ x=>p x) i l=l.all p
 | [],_=>rfl
 | x::l,i=>by simp only [nK,uZ p l,List.all_cons]
theorem elM {l:List Me} {i:Nat} (h:i<l.length):ao 3 (mes l) (I (i:Int))=some [I l[i].1,I l[i].2.1,I l[i].2.2]:=by simp [h]
theorem ldM (a b c:Int):(ldD true 3 (.ptr [I a,I b,I c])).bind aL=some (me (a,b,c)):=rfl
theorem JQ (l:List Me) (hl:l.length≤1000):kz [mes l]=some (.ret [me (joR l),B (joB l)] []):=by
 rw [JD];simp -implicitDefEqProofs only [jU,stZ,aik,aK,aio];refine aG _ (Sf l (fun i a=>[mes l,me m0,me a,mes l,I l.length,I i]) (fun i a=>bdM ((i:Int)*1000000) a) (fun _ x=>ct x) plM (.ret [me m0,B false] []) (fun a=>.ext 0 [mes l,me m0,me a]) m0 (fun i a hi ha=>⟨?_,fun hg=>?_⟩) (fun a _=>?_) rfl (fun _=>rfl) ⟨⟨ai3 _,by simp⟩,⟨ai3 _,by simp⟩,ai3 _,by simp⟩ rfl) ?_
 ·have hi':(i:Int)<(l.length:Int):=by omega
  have hw:aim.wrap ((i:Int)+1)=((i+1:Nat):Int):=by rw [ah (by omega) (by omega)];omega
  have hel:=elM hi;cases hg:ct l[i]
  ·simp -implicitDefEqProofs only [ak,aF,bg,hi',decide_true,aik,aH,if_true,hel,ain,ldM,stZ,ja,dj,hg,am,bn,ait,jU,stM,ail,if_false]
  ·have hp:=Xa (a:=a) (b:=l[i]) (LZ ha (by omega)) (dn.1 hg)
   simp -implicitDefEqProofs only [ak,aF,bg,hi',decide_true,aik,aH,if_true,hel,ain,ldM,stZ,ja,dj,hg,am,bn,air,stM,ail,if_false,hp,bw,hw]
 ·have:=afP ha (dn.1 hg:bdM 1000000 l[i])
  exact LZ this (by omega)
 ·simp
 ·rw [uZ]
  cases hg:l.all ct
  ·have hb:joB l=false:=by simp only [joB,hg,aiz]
   have hr:joR l=m0:=by simp only [joR,hb,ail,if_false]
   rw [hb,hr];rfl
  ·by_cases h20:l.length≤20
   ·have hn:¬(20:Int)<(l.length:Int):=by omega
    have hb:joB l=ct (LI l):=by simp only [joB,hg,h20,decide_true,aiN]
    have hr:joR l=if ct (LI l)=true then LI l else m0:=by simp only [joR,hb]
    rw [hb,hr];cases hs:ct (LI l)
    ·simp -implicitDefEqProofs only [if_true,bF,aiw,dE,ak,aF,aK,aio,aik,eY,hn,decide_false,bK,ail,if_false,ja,bZ,dj,show ajO plM m0 l=LI l from rfl,hs,am,bz,bn,ait,aO,aH,jU,stM]
    ·simp -implicitDefEqProofs only [if_true,bF,aiw,dE,ak,aF,aK,aio,aik,eY,hn,decide_false,bK,ail,if_false,ja,bZ,dj,show ajO plM m0 l=LI l from rfl,hs,am,bz,bn,air,aO,aH,stM]
   ·have hn:(20:Int)<(l.length:Int):=by omega
    have hb:joB l=false:=by simp only [joB,h20,decide_false,aiW,aiz]
    have hr:joR l=m0:=by simp only [joR,hb,ail,if_false]
    rw [hb,hr];simp -implicitDefEqProofs only [if_true,bF,aiw,dE,ak,aF,aK,aio,aik,eY,hn,decide_true,bK,en,wE,ail,if_false,bZ,Tp,bz,aO,aH,jU,stM,ja]
theorem KE (m:Me):pO [me m]=some (.ret [me (if ct m=true then m else m0),B (ct m)] []):=by
 rw [Vl];cases h:ct m
 ·simp -implicitDefEqProofs only [oz,ja,aik,dh,h,am,ak,bn,ait,aH,if_true,jU,stZ,ail,if_false]
 ·simp -implicitDefEqProofs only [oz,ja,aik,dh,h,am,ak,bn,air,aH,if_true,stZ,ail,if_false]
theorem tpM (m:Me) (ds:List D):ax (.tup (me m::ds)) 0=some (me m):=rfl
theorem ag4 (m:Me) (v:Value) (ds:List D):ax (.tup (me m :: .v v::ds)) 1=some (.v v):=rfl
theorem JE (l:List Me) (hl:l.length≤1000):kU [mes l]=some (.ret [me (joR l),B (joB l)] []):=by
 rw [IP];by_cases h20:l.length≤20
 case neg =>
  have hn:(20:Int)<(l.length:Int):=by omega
  have hb:joB l=false:=by simp only [joB,h20,decide_false,aiW,aiz]
  have hr:joR l=m0:=by simp only [joR,hb,ail,if_false]
  rw [hb,hr];simp -implicitDefEqProofs only [aK,aio,aik,eY,hn,decide_true,aH,if_true,jU,stZ,ja]
 have hn:¬(20:Int)<(l.length:Int):=by omega
 simp -implicitDefEqProofs only [aK,aio,aik,eY,hn,decide_false,aH,ail,if_false];refine aG _ (Sf l (fun i a=>[me m0,me a,mes l,I l.length,I i]) (fun i a=>bdM ((i:Int)*1000000) a) (fun _ x=>ct x) plM (.ret [me m0,B false] []) (fun a=>.ext 0 [me m0,me a]) m0 (fun i a hi ha=>⟨?_,fun hg=>?_⟩) (fun a _=>?_) rfl (fun _=>rfl) ⟨⟨ai3 _,by simp⟩,⟨ai3 _,by simp⟩,ai3 _,by simp⟩ rfl) ?_
 ·have hi':(i:Int)<(l.length:Int):=by omega
  have hw:aim.wrap ((i:Int)+1)=((i+1:Nat):Int):=by rw [ah (by omega) (by omega)];omega
  have hel:=elM hi;cases hg:ct l[i]
  ·simp -implicitDefEqProofs only [ak,aF,bg,hi',decide_true,aik,aH,if_true,hel,ain,ldM,stZ,ja,dh,hg,am,bn,ait,jU,stM,ail,if_false]
  ·have hp:=Rl (a:=a) (b:=l[i]) (LZ ha (by omega)) (dn.1 hg)
   simp -implicitDefEqProofs only [ak,aF,bg,hi',decide_true,aik,aH,if_true,hel,ain,ldM,stZ,ja,dh,hg,am,bn,air,stM,ail,if_false,hp,bw,hw]
 ·have:=afP ha (dn.1 hg:bdM 1000000 l[i])
  exact LZ this (by omega)
 ·simp
 ·rw [uZ]
  cases hg:l.all ct
  ·have hb:joB l=false:=by simp only [joB,hg,aiz]
   have hr:joR l=m0:=by simp only [joR,hb,ail,if_false]
   rw [hb,hr];rfl
  ·have hb:joB l=ct (LI l):=by simp only [joB,hg,h20,decide_true,aiN]
   have hr:joR l=if ct (LI l)=true then LI l else m0:=by simp only [joR,hb]
   rw [hb,hr];simp -implicitDefEqProofs only [if_true,bF,aiw,dE,ak,aF,aik,ja,show ajO plM m0 l=LI l from rfl,KE,am,tpM,ag4,stM]
theorem aab {x g a b:Int} (h1:0≤x) (h2:x≤a) (h3:0≤g) (h4:g≤b):0≤x*g∧x*g≤a*b :=
 ⟨Int.mul_nonneg h1 h3,Int.mul_le_mul h2 h4 h3 (Int.le_trans h1 h2)⟩
theorem TY {t g k:Int} (h1:0≤t) (h2:0<g) (h3:g≤k):0≤t*g / k∧t*g / k≤t∧t*g / k*k≤t*g:=by
 have hk:0<k:=by omega
 refine⟨ajt (Int.mul_nonneg h1 (by omega)) (by omega),?_,Int.ediv_mul_le _ (by omega)⟩
 exact Int.ediv_le_of_le_mul hk (Int.mul_le_mul_of_nonneg_left h3 h1)
theorem af8 {t a g k:Int} (h1:0≤t) (h1':0≤a) (hs:t+a≤k) (h2:0<g) (h3:g≤k):t*g / k+a*g / k≤g:=by
 have hk:0<k:=by omega
 have e1:=(TY h1 h2 h3).2.2;have e2:=(TY h1' h2 h3).2.2;have e3:(t+a)*g≤k*g:=Int.mul_le_mul_of_nonneg_right hs (by omega);have e4:(t*g / k+a*g / k)*k≤g*k:=by
  rw [ajb] at e3 ⊢;rw [Int.mul_comm g k];omega
 exact Int.le_of_mul_le_mul_right e4 hk
def tT (m:Me) (g:Int):Int:=m.2.1*g / gM m
def tA (m:Me) (g:Int):Int:=m.2.2*g / gM m
def paM (m:Me) (g:Int):Me:=if 0<g then(g - tT m g - tA m g,tT m g,tA m g) else m0
def reM (m:Me) (g:Int):Me:=(m.1 - (paM m g).1,m.2.1 - (paM m g).2.1,m.2.2 - (paM m g).2.2)
def asB (m:Me) (g:Int):Bool:=ct m&&decide (0≤g∧g≤gM m)
def tkB (m:Me) (g:Int):Bool:=asB m g&&decide ((paM m g).1≤m.1)
def tkP (m:Me) (g:Int):Me:=if tkB m g=true then paM m g else m0
def tkR (m:Me) (g:Int):Me:=if tkB m g=true then reM m g else m0
theorem GL {m:Me} {g:Int} (h:ct m=true) (h0:0≤g) (h1:g≤gM m):0≤(paM m g).1∧(paM m g).1≤g∧(0≤(paM m g).2.1∧(paM m g).2.1≤m.2.1)∧(0≤(paM m g).2.2∧(paM m g).2.2≤m.2.2)∧(paM m g).1+(paM m g).2.1+(paM m g).2.2=g:=by
 obtain⟨⟨a1,a2⟩,⟨b1,b2⟩,c1,c2⟩:=dn.1 h;unfold paM;by_cases hg:0<g
 ·rw [if_pos hg]
  have e1:=TY b1 hg h1;have e2:=TY c1 hg h1;have e3:=af8 b1 c1 (k:=gM m) (by unfold gM;omega) hg h1;dsimp only [tT,tA];omega
 ·rw [if_neg hg]
  dsimp only;omega
theorem aeU {m:Me} {g:Int} (h:ct m=true) (h0:0≤g) (h1:g≤gM m):ct (reM m g)=decide ((paM m g).1≤m.1):=by
 have hf:=GL h h0 h1;have hm:=dn.1 h;rw [Bool.eq_iff_iff,dn,decide_eq_true_eq];unfold reM;dsimp only;omega
theorem Zw {m:Me} {g:Int} (h:ct m=true) (hr:¬(0≤g∧g≤gM m)):tkB m g=false:=by simp only [tkB,asB,h,hr,decide_false,aiW,aiz]
theorem Zt {m:Me} {g:Int} (h:ct m=true) (hr:0≤g∧g≤gM m):tkB m g=decide ((paM m g).1≤m.1):=by simp only [tkB,asB,h,hr,and_self,decide_true,aiN]
theorem LK (m:Me) (g:Int):ma [me m,I g]=some (.ret [me (tkP m g),me (tkR m g),B (tkB m g)] []):=by
 rw [Lo];unfold tkP tkR;cases h:ct m
 ·have hb:tkB m g=false:=by simp only [tkB,asB,h,aiz]
  rw [hb];simp -implicitDefEqProofs only [oz,ja,aik,dj,h,am,ak,bn,ait,bK,if_true,bZ,aO,aH,jU,stZ,ail,if_false]
 have hG:=wC h;by_cases hr:0≤g∧g≤gM m
 case neg =>
  rw [Zw h hr];simp -implicitDefEqProofs only [oz,ja,aik,dj,h,am,ak,bn,air,ait,bK,bZ,hG,bz,bB,hr,decide_false,if_true,aO,aH,jU,stZ,ail,if_false]
 rw [Zt h hr];have hf:=GL h hr.1 hr.2;have hre:=aeU h hr.1 hr.2;obtain⟨⟨a1,a2⟩,⟨b1,b2⟩,c1,c2⟩:=dn.1 h;have hgb:=acS h;have v1:aim.wrap (m.1 - (paM m g).1)=(reM m g).1:=ah (by omega) (by omega);have v2:aim.wrap (m.2.1 - (paM m g).2.1)=(reM m g).2.1:=ah (by omega) (by omega);have v3:aim.wrap (m.2.2 - (paM m g).2.2)=(reM m g).2.2:=ah (by omega) (by omega);by_cases hg:0<g
 ·have hp:paM m g=(g - tT m g - tA m g,tT m g,tA m g):=by unfold paM;rw [if_pos hg]
  have m1:=aab b1 b2 (Int.le_of_lt hg) (show g≤3000000 by omega);have m2:=aab c1 c2 (Int.le_of_lt hg) (show g≤3000000 by omega);have w1:aim.wrap (m.2.1*g)=m.2.1*g:=ah (by omega) (by omega);have w2:aim.wrap (m.2.2*g)=m.2.2*g:=ah (by omega) (by omega);rw [hp] at hf v1 v2 v3 hre;dsimp only at hf v1 v2 v3 hre;have q1:aim.wrap ((m.2.1*g).tdiv (gM m))=tT m g:=by
   rw [aiG m1.1];exact ah (by unfold tT at hf;omega) (by unfold tT at hf;omega)
  have q2:aim.wrap ((m.2.2*g).tdiv (gM m))=tA m g:=by
   rw [aiG m2.1];exact ah (by unfold tA at hf;omega) (by unfold tA at hf;omega)
  have w3:aim.wrap (g - tT m g)=g - tT m g:=ah (by omega) (by omega);have w4:aim.wrap (g - tT m g - tA m g)=g - tT m g - tA m g:=ah (by omega) (by omega);have hn:¬gM m=0:=by omega
  have hpr:me (reM m g) = .agg [I (reM m g).1,I (reM m g).2.1,I (reM m g).2.2]:=rfl;rw [hp];dsimp only;by_cases hle:g - tT m g - tA m g≤m.1
  ·rw [decide_eq_true hle] at hre ⊢
   simp -implicitDefEqProofs only [oz,ja,aik,dj,h,am,ak,bn,air,bK,bZ,hG,bz,bB,hr,and_self,decide_true,aO,aH,jU,stZ,ail,if_false,eY,hg,if_true,cy,fi,aip,aiq,aP,eI,w1,w2,lO,hn,q1,q2,sM0,sM1,sM2,cr,w3,w4,v1,v2,v3,Fb,hre]
  ·rw [decide_eq_false hle] at hre ⊢
   simp -implicitDefEqProofs only [oz,ja,aik,dj,h,am,ak,bn,air,ait,bK,bZ,hG,bz,bB,hr,and_self,decide_true,aO,aH,jU,stZ,ail,if_false,eY,hg,if_true,cy,fi,aip,aiq,aP,eI,w1,w2,lO,hn,q1,q2,sM0,sM1,sM2,cr,w3,w4,v1,v2,v3,Fb,hre]
 ·have hp:paM m g=m0:=by unfold paM;rw [if_neg hg]
  rw [hp] at v1 v2 v3 hre ⊢;have hle:m0.1≤m.1:=a1;rw [decide_eq_true hle] at hre ⊢;dsimp only at v1 v2 v3;simp -implicitDefEqProofs only [oz,ja,aik,dj,h,am,ak,bn,air,bK,bZ,hG,bz,bB,hr,and_self,decide_true,aO,aH,jU,stZ,ail,if_false,eY,hg,decide_false,if_true,cy,fi,aip,aiq,aP,cr,v1,v2,v3,Fb,hre]
theorem Lj (m:Me) (g:Int):lP [me m,I g]=some (.ret [me (tkP m g),me (tkR m g),B (tkB m g)] []):=by
 rw [KX];unfold tkP tkR;cases h:ct m
 ·have hb:tkB m g=false:=by simp only [tkB,asB,h,aiz]
  rw [hb];simp -implicitDefEqProofs only [oz,ja,aik,dh,h,am,ak,bn,ait,bK,if_true,bZ,aO,aH,jU,stZ,ail,if_false]
 have hG:=nL h;by_cases hr:0≤g∧g≤gM m
 case neg =>
  rw [Zw h hr];simp -implicitDefEqProofs only [oz,ja,aik,dh,h,am,ak,bn,air,ait,bK,bZ,hG,bz,bp,hr,decide_false,if_true,aO,aH,jU,stZ,ail,if_false]
 rw [Zt h hr];have hf:=GL h hr.1 hr.2;obtain⟨⟨a1,a2⟩,⟨b1,b2⟩,c1,c2⟩:=dn.1 h;have hgb:=acS h;have v1:aim.wrap (m.1 - (paM m g).1)=(reM m g).1:=ah (by omega) (by omega);have v2:aim.wrap (m.2.1 - (paM m g).2.1)=(reM m g).2.1:=ah (by omega) (by omega);have v3:aim.wrap (m.2.2 - (paM m g).2.2)=(reM m g).2.2:=ah (by omega) (by omega);have s1:∀a:Int,stD 1 (.agg [I 0,I 0,I 0]) (.ref 0 1) (I a)=some (me (0,a,0)):=fun a=>sM1 m0 a
 have s0:∀a:Int,stD 1 (.agg [I 0,I 0,I 0]) (.ref 0 0) (I a)=some (me (a,0,0)):=fun a=>sM0 m0 a
 by_cases hg:0<gM m
 ·have hp:paM m g=(g - tT m g - tA m g,tT m g,tA m g):=by
   unfold paM;by_cases g0:0<g
   ·rw [if_pos g0]
   ·rw [if_neg g0]
    have:g=0:=by omega
    subst this;simp [tT,tA]
  have m1:=aab b1 b2 hr.1 (show g≤3000000 by omega);have m2:=aab c1 c2 hr.1 (show g≤3000000 by omega);have w1:aim.wrap (m.2.1*g)=m.2.1*g:=ah (by omega) (by omega);have w2:aim.wrap (m.2.2*g)=m.2.2*g:=ah (by omega) (by omega);rw [hp] at hf v1 v2 v3;dsimp only at hf v1 v2 v3;have q1:aim.wrap ((m.2.1*g).tdiv (gM m))=tT m g:=by
   rw [aiG m1.1];exact ah (by unfold tT at hf;omega) (by unfold tT at hf;omega)
  have q2:aim.wrap ((m.2.2*g).tdiv (gM m))=tA m g:=by
   rw [aiG m2.1];exact ah (by unfold tA at hf;omega) (by unfold tA at hf;omega)
  have w3:aim.wrap (g - tT m g)=g - tT m g:=ah (by omega) (by omega);have w4:aim.wrap (g - tT m g - tA m g)=g - tT m g - tA m g:=ah (by omega) (by omega);have hn:¬gM m=0:=by omega
  rw [hp];dsimp only;by_cases hle:g - tT m g - tA m g≤m.1
  ·have hgt:¬m.1<g - tT m g - tA m g:=by omega
   rw [decide_eq_true hle];simp -implicitDefEqProofs only [oz,ja,aik,dh,h,am,ak,bn,air,bK,bZ,hG,bz,bp,hr,and_self,decide_true,decide_false,aO,aH,jU,stZ,ail,if_false,eY,hg,hgt,if_true,cy,fi,aip,aiq,aP,eI,w1,w2,lO,hn,q1,q2,s1,sM0,sM1,sM2,cr,w3,w4,v1,v2,v3,Fb]
  ·have hgt:m.1<g - tT m g - tA m g:=by omega
   rw [decide_eq_false hle];simp -implicitDefEqProofs only [oz,ja,aik,dh,h,am,ak,bn,air,ait,bK,bZ,hG,bz,bp,hr,and_self,decide_true,aO,aH,jU,stZ,ail,if_false,eY,hg,hgt,if_true,cy,fi,aip,aiq,aP,eI,w1,w2,lO,hn,q1,q2,s1,sM0,sM1,sM2,cr,w3,w4,v1,v2,v3,Fb]
 ·have g0:g=0:=by omega
  subst g0;have hp:paM m 0=m0:=by unfold paM;rw [if_neg (by decide)]
  rw [hp] at v1 v2 v3 ⊢;have hle:m0.1≤m.1:=a1;have hgt:¬m.1<0:=by omega
  rw [decide_eq_true hle];dsimp only at v1 v2 v3;have w0:aim.wrap (0 - 0)=0:=rfl;simp -implicitDefEqProofs only [oz,ja,aik,dh,h,am,ak,bn,air,bK,bZ,hG,bz,bp,hr,and_self,decide_true,aO,aH,jU,stZ,ail,if_false,eY,hg,hgt,decide_false,if_true,cy,fi,aip,aiq,aP,cr,w0,s0,v1,v2,v3,Fb]
def shB (m:Me):Bool:=ct m&&decide (0<gM m)
def shL (m:Me):List Int:=[1000*m.1 / gM m,1000*m.2.1 / gM m,1000*m.2.2 / gM m]
def shR (m:Me):List Int:=if shB m=true then shL m else []
theorem Ty {x k:Int} (h0:0≤x) (h1:x≤1000000) (h2:0<k):aim.wrap (1000*x)=1000*x∧aim.wrap ((1000*x).tdiv k)=1000*x / k:=by
 refine⟨ah (by omega) (by omega),?_⟩
 have e1:0≤1000*x / k:=ajt (by omega) (by omega);have e2:1000*x / k≤1000*x:=Int.ediv_le_self _ (by omega);rw [aiG (by omega)];exact ah (by omega) (by omega)
theorem AZ (m:Me):nC [me m]=some (.ret [B (shB m)] []):=by
 rw [MM];cases h:ct m
 ·simp -implicitDefEqProofs only [oz,ja,aik,dj,h,am,ak,en,LU,ail,if_false,wE,aO,shB,aiz]
 ·simp -implicitDefEqProofs only [oz,ja,aik,dj,h,am,ak,en,LU,if_true,bz,wC h,eY,aO,shB,aiN]
theorem KO (m:Me):lS [me m]=some (.ret [ai (shR m),B (shB m)] []):=by
 rw [LL];unfold shR;cases hb:shB m
 ·simp -implicitDefEqProofs only [oz,ja,aik,AZ,hb,am,ak,bn,ait,aH,if_true,bf,ail,if_false,aiB]
  rfl
 ·have h:=hb
  simp only [shB,aiP,decide_eq_true_eq] at h;obtain⟨⟨a1,a2⟩,⟨b1,b2⟩,c1,c2⟩:=dn.1 h.1;obtain⟨w1,q1⟩:=Ty a1 a2 h.2;obtain⟨w2,q2⟩:=Ty b1 b2 h.2;obtain⟨w3,q3⟩:=Ty c1 c2 h.2;have hn:¬gM m=0:=by omega
  have hm:=xt (l:=shL m);simp only [shL,aiA,aiB] at hm;simp -implicitDefEqProofs only [oz,ja,aik,AZ,hb,am,ak,bn,air,aH,ail,if_false,if_true,wC h.1,cy,fi,aip,aiq,aP,eI,w1,w2,w3,lO,hn,q1,q2,q3,hm,shL]
theorem LA (m:Me):mb [me m]=some (.ret [ai (shR m),B (shB m)] []):=by
 rw [LN];unfold shR;cases h:ct m
 ·have hb:shB m=false:=by simp only [shB,h,aiz]
  rw [hb];simp -implicitDefEqProofs only [oz,ja,aik,dh,h,am,ak,bn,ait,bK,bZ,aH,if_true,aO,ail,if_false,aiB];rfl
 have hgb:=acS h;by_cases h0:gM m=0
 ·have hb:shB m=false:=by simp only [shB,h,h0,aiN];decide
  rw [hb];simp -implicitDefEqProofs only [oz,ja,aik,dh,h,am,ak,bn,air,bK,bZ,nL h,bz,fk,h0,decide_true,aH,if_true,aO,ail,if_false,aiB];rfl
 have hpos:0<gM m:=by omega
 have hb:shB m=true:=by simp only [shB,h,hpos,decide_true,aiN]
 obtain⟨⟨a1,a2⟩,⟨b1,b2⟩,c1,c2⟩:=dn.1 h;have hin:∀n∈meL m,0≤n∧n≤1000000:=by
  intro n hn;simp only [meL,aiM,ajc,or_false] at hn;rcases hn with rfl | rfl | rfl<;>omega
 have hl:(meL m).length=3:=rfl;have hsl:shL m=(meL m).map fun x=>1000*x / gM m:=rfl
 rw [hb];simp -implicitDefEqProofs only [oz,ja,aik,dh,h,am,ak,bn,air,bK,bZ,nL h,bz,fk,h0,decide_false,aH,if_true,aO,ail,if_false,Bf,aK,aio];rw [hsl];generalize meL m=ns at hin hl;refine aG (.ext 0 [ai (ns.map fun x=>1000*x / gM m)]) (aY ns.length (fun i=>[me m,ai ((ns.take i).map fun x=>1000*x / gM m),ai ns,I ns.length,I i]) _ (fun i hi=>?_) ?_ rfl rfl) ?_
 ·have hi':(i:Int)<(ns.length:Int):=by omega
  have hw:aim.wrap ((i:Int)+1)=((i+1:Nat):Int):=by rw [ah (by omega) (by omega)];omega
  have hx:=hin ns[i] (aix hi);obtain⟨w1,q1⟩:=Ty hx.1 hx.2 hpos;have e1:ao 1 (ai ns) (I (i:Int))=some [I ns[i]]:=by simp [hi]
  have hap:=zR (l:=(ns.take i).map fun x=>1000*x / gM m) (n:=1000*ns[i] / gM m) (by rw [aio,aiC];omega);have htk:(ns.take (i+1)).map (fun x=>1000*x / gM m)=(ns.take i).map (fun x=>1000*x / gM m)++[1000*ns[i] / gM m]:=by rw [aiu hi,aiy];rfl
  rw [←htk] at hap;simp -implicitDefEqProofs only [ak,aF,bg,hi',decide_true,aik,aH,if_true,e1,ain,bk,aP,bD,eI,w1,ja,nL h,am,lO,h0,if_false,q1,Hy,HY,hap,bw,hw]
 ·simp
 ·simp -implicitDefEqProofs only [bF,aiw,dE,if_true,ak,aF]
theorem Ua {m:Me} (h:shB m=true):998≤(shL m).sum∧(shL m).sum≤1000∧∀n∈shL m,0≤n∧n≤1000:=by
 simp only [shB,aiP,decide_eq_true_eq] at h;obtain⟨hg,hk⟩:=h;obtain⟨⟨a1,a2⟩,⟨b1,b2⟩,c1,c2⟩:=dn.1 hg;have ee:m.1+m.2.1+m.2.2=gM m:=rfl;generalize gM m=k at hk ee;have f:∀x:Int,0≤x→0≤1000*x / k∧1000*x / k*k≤1000*x∧1000*x<1000*x / k*k+k:=fun x hx=>by
  have h1:0≤1000*x / k:=ajt (by omega) (by omega);have h2:=Int.ediv_mul_le (1000*x) (show k≠0 by omega);have h3:=Int.lt_ediv_add_one_mul_self (1000*x) hk;rw [ajb,Int.one_mul] at h3;exact⟨h1,h2,h3⟩
 obtain⟨f1,f2,f3⟩:=f m.1 a1;obtain⟨g1,g2,g3⟩:=f m.2.1 b1;obtain⟨j1,j2,j3⟩:=f m.2.2 c1;have es:(shL m).sum=1000*m.1 / gM m+1000*m.2.1 / gM m+1000*m.2.2 / gM m:=by
  simp only [shL,List.sum_cons,List.sum_nil];omega
 have eg:gM m=k:=ee;have ek:∀n∈shL m,n=1000*m.1 / k∨n=1000*m.2.1 / k∨n=1000*m.2.2 / k:=by
  intro n hn;simp only [shL,eg,aiM,ajc,or_false] at hn;exact hn
 rw [es,eg];generalize 1000*m.1 / k=x at *;generalize 1000*m.2.1 / k=y at *;generalize 1000*m.2.2 / k=z at *;have up:(x+y+z)*k≤1000*k:=by
  rw [ajb,ajb];omega
 have lo:997*k<(x+y+z)*k:=by
  rw [ajb,ajb];omega
 have u1:=Int.le_of_mul_le_mul_right up hk;have u2:=Int.lt_of_mul_lt_mul_right lo (by omega);refine⟨by omega,by omega,fun n hn=>?_⟩
 rcases ek n hn with rfl | rfl | rfl<;>omega
theorem QG (a b:Int):oV [I a,I b]=some (.ret [I (if b<a then a else b)] []):=by
 rw [PM];by_cases h:b<a<;>simp [h]
def mtT (m:Me):ByteArray:=cf 45 (meL m)
theorem Nz {m:Me} (h:ct m=true):∀n∈meL m,0≤n∧n<1000001:=by
 have:=dn.1 h;intro n hn;simp only [meL,aiM,ajc,or_false] at hn;rcases hn with rfl | rfl | rfl<;>omega
theorem UK {m:Me} (h:ct m=true):(mtT m).size≤100:=by
 have:=wZ (c:=45) (ns:=meL m) fun n hn=>by have:=Nz h n hn;omega
 exact ai9 this (by simp [meL])
theorem ql {m:Me} (h:ct m=true):gu [me m]=some (.ret [T (mtT m)] []):=by
 rw [Lb];have hm:=xt (l:=meL m);simp only [meL,aiA,aiB] at hm;have hj:=Kg (meL m) 45 (fun n hn=>by have:=Nz h n hn;omega) (by simp [meL]);have e:(D.v (Value.string {data:={toList:=[45]}}))=T ⟨#[45]⟩:=rfl;have hq:acY (meL m)=ai (meL m):=rfl;simp only [meL] at hj hq;simp -implicitDefEqProofs only [oz,aik,cy,fi,aip,aiq,aP,hm,hq,e,hj,am,ak,mtT,meL]
theorem agQ (m:Me):mtT m=aI m.1++⟨#[45]⟩++aI m.2.1++⟨#[45]⟩++aI m.2.2:=by
 have e1:meL m=[m.1]++[m.2.1]++[m.2.2]:=rfl;unfold mtT;rw [e1,MY _ _ _ (by simp),MY _ _ _ (by simp),Jo]
theorem px {m:Me} (h:ct m=true):fM [me m]=some (.ret [T (mtT m)] []):=by
 rw [QV,agQ];obtain⟨⟨a1,a2⟩,⟨b1,b2⟩,c1,c2⟩:=dn.1 h;have n1:=bT (n:=m.1) (by omega) (by omega);have n2:=bT (n:=m.2.1) (by omega) (by omega);have n3:=bT (n:=m.2.2) (by omega) (by omega);have z1:=bY 9 (n:=m.1) (by omega) (by omega);have z2:=bY 9 (n:=m.2.1) (by omega) (by omega);have z3:=bY 9 (n:=m.2.2) (by omega) (by omega);have s1:(⟨#[45]⟩:ByteArray).size=1:=rfl;have e:(D.v (Value.string {data:={toList:=[45]}}))=T ⟨#[45]⟩:=rfl;have p1:=XT (a:=aI m.1) (b:=⟨#[45]⟩) (bl:=false) (eq:=[]) (by omega);have p2:=XT (a:=aI m.1++⟨#[45]⟩) (b:=aI m.2.1) (bl:=false) (eq:=[]) (by rw [aiE];omega);have p3:=XT (a:=aI m.1++⟨#[45]⟩++aI m.2.1) (b:=⟨#[45]⟩) (bl:=false) (eq:=[]) (by rw [aiE,aiE];omega);have p4:=XT (a:=aI m.1++⟨#[45]⟩++aI m.2.1++⟨#[45]⟩) (b:=aI m.2.2) (bl:=false) (eq:=[]) (by rw [aiE,aiE,aiE];omega);simp -implicitDefEqProofs only [oz,aik,cy,fi,aip,aiq,aP,n1,n2,n3,am,ak,e,p1,p2,p3,p4]
def okM (ns:List Int):Bool :=
 match ns with
 | [a,b,c]=>ct (a,b,c)
 | _=>false
theorem agt (ns:List Int) (h:okM ns=true):∀n∈ns,0≤n∧n<10000000000:=by
 unfold okM at h;split at h
 ·intro n hn
  have:=Nz h n hn;omega
 ·cases h
def meO (o:Option (List Int)):Me :=
 match o with
 | some [a,b,c]=>(a,b,c)
 | _=>m0
abbrev pM (s:ByteArray):Option (List Int):=AE 45 3 okM s
theorem ahE (s:ByteArray):JA gA 45 3 okM s=pM s:=(acV aeI (by decide) (by decide) agt (by decide) s).symm
theorem uV (s:ByteArray) (h:s.size≤1048576):im [T s]=some (.ret [me (meO (pM s)),B (pM s).isSome] []):=by
 rw [JC,kQ s h];unfold pM AE;generalize fu s=ns;rcases ns with _ | ⟨a,_ | ⟨b,_ | ⟨c,_ | ⟨d,ns⟩⟩⟩⟩
 ·simp -implicitDefEqProofs [meO,jU]
 ·simp -implicitDefEqProofs [meO,jU]
 ·simp -implicitDefEqProofs [meO,jU]
 ·have hi:=dj (a,b,c)
  have hk:okM [a,b,c]=ct (a,b,c):=rfl;have hq:(([a,b,c].map I).length:Int)=3:=rfl;have l0:ao 1 (nR [a,b,c]) (I 0)=some [I a]:=rfl;have l1:ao 1 (nR [a,b,c]) (I 1)=some [I b]:=rfl;have l2:ao 1 (nR [a,b,c]) (I 2)=some [I c]:=rfl;have hl:[a,b,c].length=3:=rfl;cases h1:ct (a,b,c)
  ·rw [h1] at hi hk
   simp -implicitDefEqProofs only [am,ak,aK,hq,jC,decide_true,air,aik,aH,ail,if_false,l0,l1,l2,ain,bk,aP,bD,Fb,stZ,ja,hi,bn,ait,bK,if_true,bZ,aO,jU,hk,false_and,and_false,meO,ajl]
  ·rw [h1] at hi hk
   have ht:=ql h1;have hmt:mtT (a,b,c)=cf 45 [a,b,c]:=rfl;rw [hmt] at ht;by_cases h2:cf 45 [a,b,c]=s
   ·subst h2
    have hne:bin .neq false [] (T (cf 45 [a,b,c])) (T (cf 45 [a,b,c]))=some (B false):=by simp
    simp -implicitDefEqProofs only [am,ak,aK,hq,jC,decide_true,air,aik,aH,ail,if_false,l0,l1,l2,ain,bk,aP,bD,Fb,stZ,ja,hi,bn,bK,bZ,ht,bz,hne,aO,hk,hl,and_self,if_true,meO,ajH]
   ·have hne:bin .neq false [] (T (cf 45 [a,b,c])) (T s)=some (B true):=by simp [h2]
    simp -implicitDefEqProofs only [am,ak,aK,hq,jC,decide_true,air,aik,aH,ail,if_false,l0,l1,l2,ain,bk,aP,bD,Fb,stZ,ja,hi,bn,bK,bZ,ht,bz,hne,aO,if_true,jU,h2,and_false,meO,ajl]
 ·have hl:¬((ns.length:Int)+1+1+1+1=3):=by omega
  have hl2:¬(ns.length+1+1+1+1=3):=by omega
  simp -implicitDefEqProofs [meO,jU,hl,hl2]
theorem we (s:ByteArray) (h:s.size≤1048576):kJ [T s]=some (.ret [me (meO (pM s)),B (pM s).isSome] []):=by
 rw [Jd,←ahE];have hs:cg [T s,D.v (ajs ajd 45)]=some (.ret [.arr 1 ((aC 45 s).map T)] []):=fT s 45 (by omega);have hz:=fI 45 s;rw [hs];unfold JA;generalize aC 45 s=ws at hz;by_cases h5:ws.length=3
 case neg =>
  have h5':¬(ws.length:Int)=3:=by omega
  simp -implicitDefEqProofs [meO,jU,h5,h5']
 have:∃a b c,ws=[a,b,c]:=by
  match ws,h5 with
  | [a,b,c],_=>exact⟨a,b,c,rfl⟩
 obtain⟨a,b,c,rfl⟩:=this;have hq:(([a,b,c].map T).length:Int)=3:=rfl;have l0:ao 1 (.arr 1 ([a,b,c].map T)) (I 0)=some [T a]:=rfl;have l1:ao 1 (.arr 1 ([a,b,c].map T)) (I 1)=some [T b]:=rfl;have l2:ao 1 (.arr 1 ([a,b,c].map T)) (I 2)=some [T c]:=rfl;have r0:=uK a (by have:=hz a (by simp);omega);have r1:=uK b (by have:=hz b (by simp);omega);have r2:=uK c (by have:=hz c (by simp);omega);have hi:=KE (gA a,gA b,gA c);have hk:okM ([a,b,c].map gA)=ct (gA a,gA b,gA c):=rfl;have hm:[a,b,c].map gA=[gA a,gA b,gA c]:=rfl;have hl:[a,b,c].length=3:=rfl;rw [hk,hm];cases h1:ct (gA a,gA b,gA c)
 ·rw [h1] at hi
  simp -implicitDefEqProofs only [am,ak,aK,hq,jC,decide_true,air,aik,aH,ail,if_false,l0,l1,l2,ain,bk,aP,bD,r0,r1,r2,Fb,hi,tpM,ag4,stZ,ja,and_false,meO,ajl]
 ·rw [h1] at hi
  simp -implicitDefEqProofs only [am,ak,aK,hq,jC,decide_true,air,aik,aH,ail,if_false,l0,l1,l2,ain,bk,aP,bD,r0,r1,r2,Fb,hi,tpM,ag4,stZ,ja,hl,and_self,if_true,meO,ajH]
theorem ab5 (c:Cur) (B:Nat) (h:c.ok B) (hB:B≤3000000):∃(m:Me) (c':Cur),jP [mq c]=some (.ret [me m] [mq c'])∧ct m=true∧c'.ok (B+10):=by
 obtain⟨v1,c1,e1,l1,u1,k1⟩:=ig c 100 B h (by omega) (by omega);obtain⟨v2,c2,e2,l2,u2,k2⟩:=ig c1 20 _ k1 (by omega) (by omega);obtain⟨v3,c3,e3,l3,u3,k3⟩:=ig c2 30 _ k2 (by omega) (by omega);obtain⟨b,c4,e4,k4⟩:=afL c3 8 _ k3 (by omega) (by omega);rw [Ip];cases b
 ·refine⟨(v1,v2,v3),c4,?_,dn.2 (by dsimp only;omega),k4.mono (by omega)⟩
  simp -implicitDefEqProofs only [cy,ck,LX,aik,e1,e2,e3,e4,am,ak,Fb,stZ,ja,aH,ail,if_false]
 ·obtain⟨v5,c5,e5,l5,k5⟩:=GA c4 [1000000,0,500000] _ k4 (by omega) (by simp) (by simp)
  have m1:=xt (l:=[1000000,0,500000]);simp only [aiA,aiB] at m1;have hv:0≤v5∧v5≤1000000:=by
   simp only [aiM,ajc,or_false] at l5;omega
  refine⟨(v5,v2,v3),c5,?_,dn.2 (by dsimp only;omega),k5.mono (by omega)⟩
  simp -implicitDefEqProofs only [cy,ck,LX,aik,e1,e2,e3,e4,m1,e5,am,ak,Fb,stZ,sM0,ja,aH,if_true]
abbrev Slp:=Int × Int
abbrev slp (x:Slp):D:=.agg [I x.1,I x.2]
abbrev sls (l:List Slp):D:=.arr 2 (l.map slp)
def okS (x:Slp):Bool:=decide (1≤x.1∧x.1≤200)&&decide (0≤x.2∧x.2≤20)
def pS (l:List Slp) (i:Nat) (x:Slp):Bool:=okS x && !(decide (0<i)&&decide (x.1≤(l.getD (i - 1) (0,0)).1))
def cB (l:List Slp):Bool:=nK (pS l) 0 l&&decide (l.length≤8)
theorem agV (m:Slp):stD 2 (.agg [I 0,I 0]) (.ref 0 0) (slp m)=some (slp m):=by simp
theorem aag (a b:Int):dp [(0,1),(1,1)] [I 0,I 0] [I a,I b]=some (slp (a,b)):=by simp [dp,Eb]
theorem elS {l:List Slp} {i:Nat} (h:i<l.length):ao 2 (sls l) (I (i:Int))=some [I l[i].1,I l[i].2]:=by simp [h]
theorem ldS (a b:Int):(ldD true 2 (.ptr [I a,I b])).bind aL=some (slp (a,b)):=rfl
theorem BF (m:Slp):aB 2 [slp m]=some (sls [m]):=by simp [aB,kv]
theorem gP (l:List Slp):cT (sls l)=some (sls l):=sr (fun _=>rfl)
theorem gX {l m:List Slp} (h:l.length+m.length≤1048576):bC 2 16 (sls l) (sls m)=some (sls (l++m)):=by
 rw [hD,if_pos (by simp;omega),←aiy]
theorem oR:(D.arr 2 [])=sls []:=rfl
theorem wJ (l:List Slp) (i:Nat) (v:Int) (hi:i<l.length):stD 1 (sls l) (.ref i 1) (I v)=some (sls (l.set i (l[i].1,v))):=by
 have:=adu (z:=2) (i:=i) (f:=1) (L:=l.map slp) (c:=[I l[i].1,I l[i].2]) (v:=.int .i64 v) (by simp [hi]) (by simp);rw [this];show some (D.arr 2 ((l.map slp).set i (slp (l[i].1,v))))=_
 rw [←List.map_set]
theorem uO (x:Slp):pi [slp x]=some (.ret [B (okS x)] []):=by
 rw [Pv];by_cases h1:1≤x.1∧x.1≤200<;>simp -implicitDefEqProofs [bp,okS,h1]
theorem dG (l:List Slp) (h:l.length≤1048576):fJ [sls l]=some (.ret [B (cB l)] []):=by
 rw [PP];simp only [aK,aio,aik];refine aG _ (pX l (fun i=>[sls l,sls l,I l.length,I i]) (pS l) (.ret [B false] []) (.ext 0 [sls l]) (fun i hi=>?_) ?_ rfl rfl rfl) ?_
 ·have hw:aim.wrap ((i:Int)+1)=(i:Int)+1:=ah (by omega) (by omega)
  cases h1:okS l[i]
  ·simp -implicitDefEqProofs [hi,uO,h1,pS]
  ·by_cases h0:0<i
   ·have hw2:aim.wrap ((i:Int) - 1)=((i - 1:Nat):Int):=by rw [ah (by omega) (by omega)];omega
    have hy:i - 1<l.length:=by omega
    by_cases h2:l[i].1≤l[i - 1].1<;>simp -implicitDefEqProofs [hi,hy,uO,h1,pS,hw,hw2,h0,h2]
   ·simp -implicitDefEqProofs [hi,uO,h1,pS,hw,h0]
 ·simp
 ·by_cases hg:nK (pS l) 0 l=true<;>simp [hg,cB]
  omega
theorem dI (l:List Slp) (h:l.length≤1048576):fg [sls l]=some (.ret [B (cB l)] []):=by
 rw [Mr];simp only [aK,aio,aik];refine aG _ (pX l (fun i=>[sls l,sls l,I l.length,I i]) (pS l) (.ret [B false] []) (.ext 0 [sls l]) (fun i hi=>?_) ?_ rfl rfl rfl) ?_
 ·have hw:aim.wrap ((i:Int)+1)=(i:Int)+1:=ah (by omega) (by omega)
  by_cases h1:1≤l[i].1∧l[i].1≤200
  case neg=>simp -implicitDefEqProofs [hi,bB,h1,pS,okS]
  by_cases h3:0≤l[i].2∧l[i].2≤20
  case neg=>simp -implicitDefEqProofs [hi,bB,h1,h3,pS,okS]
  by_cases h0:0<i
  ·have hw2:aim.wrap ((i:Int) - 1)=((i - 1:Nat):Int):=by rw [ah (by omega) (by omega)];omega
   have hy:i - 1<l.length:=by omega
   by_cases h2:l[i].1≤l[i - 1].1<;>simp -implicitDefEqProofs [hi,hy,bB,h1,h3,pS,okS,hw,hw2,h0,h2]
  ·simp -implicitDefEqProofs [hi,bB,h1,h3,pS,okS,hw,h0]
 ·simp
 ·by_cases hg:nK (pS l) 0 l=true<;>simp [hg,cB]
  omega
def bo (len:Int):List Slp→Nat
 | []=>0
 | x::l=>if x.1<len then bo len l+1 else 0
theorem Ia (len:Int):∀l:List Slp,bo len l≤l.length
 | []=>aiU _
 | x::l=>by
  have:=Ia len l;simp only [bo];split<;>simp<;>omega
theorem Ow (len:Int):∀(l:List Slp) (i:Nat) (hi:i<l.length),i<bo len l→l[i].1<len
 | x::l,0,_,h=>by
  simp only [bo] at h;split at h
  ·assumption
  ·omega
 | x::l,i+1,hi,h=>by
  simp only [bo] at h;split at h
  ·exact Ow len l i (by simpa using hi) (by omega)
  ·omega
theorem Oh (len:Int):∀(l:List Slp) (h:bo len l<l.length),¬l[bo len l].1<len
 | x::l,h=>by
  by_cases hx:x.1<len
  ·have e:bo len (x::l)=bo len l+1:=by simp only [bo,hx,if_true]
   have h':bo len l<l.length:=by rw [e] at h;simpa using h
   have:=Oh len l h';simp only [e,List.getElem_cons_succ];exact this
  ·have e:bo len (x::l)=0:=by simp only [bo,hx,if_false]
   simp only [e,List.getElem_cons_zero];exact hx
def su (l:List Slp) (len cnt:Int):List Slp :=
 if (l.getD (bo len l) (0,0)).1=len∧bo len l<l.length then l.set (bo len l) (len,aim.wrap ((l.getD (bo len l) (0,0)).2+cnt))
 else l.take (bo len l)++[(len,cnt)]++l.drop (bo len l)
theorem Ap (l:List Slp) (len cnt:Int):(su l len cnt).length≤l.length+1:=by
 have:=Ia len l;unfold su;split
 ·simp
 ·simp;omega
theorem xo (l:List Slp) (len cnt:Int) (h:l.length≤1000000):kK [sls l,I len,I cnt]=some (.ret [sls (su l len cnt)] []):=by
 rw [TN];have hle:=Ia len l;refine aG (.ext 0 [sls l,I len,I cnt,I (bo len l)]) (aY (bo len l) (fun i=>[sls l,I len,I cnt,I i]) _ (fun i hi=>?_) ?_ rfl rfl) ?_
 ·have hi2:i<l.length:=by omega
  have hi':(i:Int)<(l.length:Int):=by omega
  have hw:aim.wrap ((i:Int)+1)=((i+1:Nat):Int):=by rw [ah (by omega) (by omega)];omega
  have hlt:=Ow len l i hi2 hi;simp -implicitDefEqProofs only [ak,aF,aK,aio,aik,bg,hi',decide_true,en,if_true,elS hi2,ain,ej,aip,bk,aP,bD,hlt,aO,aH,bw,hw]
 ·by_cases hk:bo len l<l.length
  ·have hi':((bo len l:Nat):Int)<(l.length:Int):=by omega
   have hlt:=Oh len l hk;simp -implicitDefEqProofs only [ak,aF,aK,aio,aik,bg,hi',decide_true,en,if_true,elS hk,ain,ej,aip,bk,aP,bD,hlt,decide_false,aO,aH,ail,if_false]
  ·have hi':¬((bo len l:Nat):Int)<(l.length:Int):=by omega
   simp -implicitDefEqProofs only [ak,aF,aK,aio,aik,bg,hi',decide_false,en,ail,if_false,aO,aH]
 ·have ha0:=gX (l:=[]) (m:=l) (by simp;omega)
  rw [aiK] at ha0;have hins:¬((l.getD (bo len l) (0,0)).1=len∧bo len l<l.length)→((dl false 2 (sls l) (I ((0:Nat):Int)) (I (bo len l))).bind fun z=>(cT z).bind fun b=>(bC 2 16 (sls []) b).bind fun y=>(dp [(0,1),(1,1)] [I 0,I 0] [I len,I cnt]).bind fun z=>(aB 2 [z]).bind fun a=>(cT a).bind fun b=>(bC 2 16 y b).bind fun y =>
    (cQ false 2 (sls l) (I (bo len l))).bind fun z=>(cT z).bind fun b=>(bC 2 16 y b).bind fun y=>some (Out.ret [y] []))=some (.ret [sls (su l len cnt)] []):=by
   intro hn;have e1:dl false 2 (sls l) (I ((0:Nat):Int)) (I (bo len l))=some (sls (l.take (bo len l))):=by
    rw [mn (by omega) (by simpa using hle),aip,←List.map_take]
   have e2:cQ false 2 (sls l) (I (bo len l))=some (sls (l.drop (bo len l))):=by
    rw [mQ (by simpa using hle),←List.map_drop]
   have a1:=gX (l:=[]) (m:=l.take (bo len l)) (by simp;omega);rw [aiK] at a1;have a2:=gX (l:=l.take (bo len l)) (m:=[(len,cnt)]) (by simp;omega);have a3:=gX (l:=l.take (bo len l)++[(len,cnt)]) (m:=l.drop (bo len l)) (by simp;omega);simp -implicitDefEqProofs only [e1,e2,aik,gP,a1,a2,a3,aag,BF,su,hn,if_false]
  by_cases hk:bo len l<l.length
  ·have hi':((bo len l:Nat):Int)<(l.length:Int):=by omega
   have eg:l.getD (bo len l) (0,0)=l[bo len l]:=by simp [aiS,hk]
   by_cases heq:l[bo len l].1=len
   ·have hr:fd 2 (sls l) (I (bo len l))=some (.ref (bo len l) 0):=by rw [lu,if_pos (by simpa using hk)]
    have hat:(atD (sls l) (.ref (bo len l) 1)).bind (an false 1)=some (I l[bo len l].2):=by simp [hk]
    have hs:=wJ l (bo len l) (aim.wrap (l[bo len l].2+cnt)) hk;have hp:su l len cnt=l.set (bo len l) (l[bo len l].1,aim.wrap (l[bo len l].2+cnt)):=by
     unfold su;rw [eg,if_pos ⟨heq,hk⟩,heq]
    rw [hp];simp -implicitDefEqProofs only [bF,aiw,dE,if_true,ak,aF,bf,oR,gP,ha0,aK,aio,aik,bg,hi',decide_true,en,elS hk,ain,ej,aip,bk,aP,bD,fk,heq,aO,aH,cz,ck,hr,mf,ajq,hat,bw,hs]
   ·have:=hins (by rw [eg];exact fun g=>heq g.1)
    simp -implicitDefEqProofs only [bF,aiw,dE,if_true,ak,aF,bf,oR,gP,ha0,aK,aio,aik,bg,hi',decide_true,en,elS hk,ain,ej,aip,bk,aP,bD,fk,heq,decide_false,aO,aH,ail,if_false];exact this
  ·have hi':¬((bo len l:Nat):Int)<(l.length:Int):=by omega
   have:=hins (fun g=>hk g.2);simp -implicitDefEqProofs only [bF,aiw,dE,if_true,ak,aF,bf,oR,gP,ha0,aK,aio,aik,bg,hi',decide_false,en,aO,aH,ail,if_false];exact this
theorem tv (l:List Slp) (len cnt:Int) (h:l.length≤1000000):gw [sls l,I len,I cnt]=some (.ret [sls (su l len cnt)] []):=by
 rw [GW];have hle:=Ia len l;refine aG (.ext 0 [sls l,I len,I cnt,I (bo len l)]) (aY (bo len l) (fun i=>[sls l,I len,I cnt,I i]) _ (fun i hi=>?_) ?_ rfl rfl) ?_
 ·have hi2:i<l.length:=by omega
  have hi':(i:Int)<(l.length:Int):=by omega
  have hw:aim.wrap ((i:Int)+1)=((i+1:Nat):Int):=by rw [ah (by omega) (by omega)];omega
  have hlt:=Ow len l i hi2 hi;simp -implicitDefEqProofs only [ak,aF,aK,aio,aik,bg,hi',decide_true,en,if_true,elS hi2,ain,ej,aip,bk,aP,bD,hlt,aO,aH,bw,hw]
 ·by_cases hk:bo len l<l.length
  ·have hi':((bo len l:Nat):Int)<(l.length:Int):=by omega
   have hlt:=Oh len l hk;simp -implicitDefEqProofs only [ak,aF,aK,aio,aik,bg,hi',decide_true,en,if_true,elS hk,ain,ej,aip,bk,aP,bD,hlt,decide_false,aO,aH,ail,if_false]
  ·have hi':¬((bo len l:Nat):Int)<(l.length:Int):=by omega
   simp -implicitDefEqProofs only [ak,aF,aK,aio,aik,bg,hi',decide_false,en,ail,if_false,aO,aH]
 ·have ha0:=gX (l:=[]) (m:=l) (by simp;omega)
  rw [aiK] at ha0;have hins:¬((l.getD (bo len l) (0,0)).1=len∧bo len l<l.length)→((dl false 2 (sls l) (I ((0:Nat):Int)) (I (bo len l))).bind fun z=>(cT z).bind fun b=>(bC 2 16 (sls []) b).bind fun y=>(dp [(0,1),(1,1)] [I 0,I 0] [I len,I cnt]).bind fun z=>(aB 2 [z]).bind fun a=>(cT a).bind fun b=>(bC 2 16 y b).bind fun y =>
    (cQ false 2 (sls l) (I (bo len l))).bind fun z=>(cT z).bind fun b=>(bC 2 16 y b).bind fun y=>some (Out.ret [y] []))=some (.ret [sls (su l len cnt)] []):=by
   intro hn;have e1:dl false 2 (sls l) (I ((0:Nat):Int)) (I (bo len l))=some (sls (l.take (bo len l))):=by
    rw [mn (by omega) (by simpa using hle),aip,←List.map_take]
   have e2:cQ false 2 (sls l) (I (bo len l))=some (sls (l.drop (bo len l))):=by
    rw [mQ (by simpa using hle),←List.map_drop]
   have a1:=gX (l:=[]) (m:=l.take (bo len l)) (by simp;omega);rw [aiK] at a1;have a2:=gX (l:=l.take (bo len l)) (m:=[(len,cnt)]) (by simp;omega);have a3:=gX (l:=l.take (bo len l)++[(len,cnt)]) (m:=l.drop (bo len l)) (by simp;omega);simp -implicitDefEqProofs only [e1,e2,aik,gP,a1,a2,a3,aag,BF,su,hn,if_false]
  by_cases hk:bo len l<l.length
  ·have hi':((bo len l:Nat):Int)<(l.length:Int):=by omega
   have eg:l.getD (bo len l) (0,0)=l[bo len l]:=by simp [aiS,hk]
   by_cases heq:l[bo len l].1=len
   ·have hr:fd 2 (sls l) (I (bo len l))=some (.ref (bo len l) 0):=by rw [lu,if_pos (by simpa using hk)]
    have hat:(atD (sls l) (.ref (bo len l) 1)).bind (an false 1)=some (I l[bo len l].2):=by simp [hk]
    have hs:=wJ l (bo len l) (aim.wrap (l[bo len l].2+cnt)) hk;have hp:su l len cnt=l.set (bo len l) (l[bo len l].1,aim.wrap (l[bo len l].2+cnt)):=by
     unfold su;rw [eg,if_pos ⟨heq,hk⟩,heq]
    rw [hp];simp -implicitDefEqProofs only [bF,aiw,dE,if_true,ak,aF,bf,oR,gP,ha0,aK,aio,aik,bg,hi',decide_true,en,elS hk,ain,ej,aip,bk,aP,bD,fk,heq,aO,aH,cz,ck,hr,mf,ajq,hat,bw,hs]
   ·have:=hins (by rw [eg];exact fun g=>heq g.1)
    simp -implicitDefEqProofs only [bF,aiw,dE,if_true,ak,aF,bf,oR,gP,ha0,aK,aio,aik,bg,hi',decide_true,en,elS hk,ain,ej,aip,bk,aP,bD,fk,heq,decide_false,aO,aH,ail,if_false];exact this
  ·have hi':¬((bo len l:Nat):Int)<(l.length:Int):=by omega
   have:=hins (fun g=>hk g.2);simp -implicitDefEqProofs only [bF,aiw,dE,if_true,ak,aF,bf,oR,gP,ha0,aK,aio,aik,bg,hi',decide_false,en,aO,aH,ail,if_false];exact this
theorem MD {β:Type} {p:Nat→β→Bool}:∀(l:List β) (s:Nat),nK p s l=true→∀(i:Nat) (hi:i<l.length),p (s+i) l[i]=true
 | [],_,_,_,hi=>absurd hi (Nat.not_lt_zero _)
 | x::l,s,h,0,_=>by
  simp only [nK,aiP] at h;exact h.1
 | x::l,s,h,i+1,hi=>by
  simp only [nK,aiP] at h;have:=MD l (s+1) h.2 i (by simpa using hi);rwa [show s+(i+1)=s+1+i by omega]
theorem dW {l:List Slp} (h:cB l=true):∀x∈l,(1≤x.1∧x.1≤200)∧0≤x.2∧x.2≤20:=by
 intro x hx;obtain⟨i,hi,rfl⟩:=List.getElem_of_mem hx;simp only [cB,aiP] at h;have:=MD l 0 h.1 i hi;simp only [pS,okS,aiP,decide_eq_true_eq] at this;exact this.1
theorem dT {l:List Slp} (h:cB l=true):l.length≤8:=by
 simp only [cB,aiP,decide_eq_true_eq] at h;exact h.2
def ckS (l:List Slp):List Slp:=if cB l=true then l else []
theorem BX (l:List Slp) (h:l.length≤1048576):gY [sls l]=some (.ret [sls (ckS l),B (cB l)] []):=by
 rw [Cz];unfold ckS;cases hg:cB l
 ·simp -implicitDefEqProofs only [dI l h,hg,am,ak,bn,ait,aik,aH,if_true,bf,ail,if_false]
  rfl
 ·simp -implicitDefEqProofs only [dI l h,hg,am,ak,bn,air,aik,aH,ail,if_false,if_true]
theorem JU (l:List Slp) (h:l.length≤1048576):qe [sls l]=some (.ret [sls (ckS l),B (cB l)] []):=by
 rw [Wg];unfold ckS;cases hg:cB l
 ·simp -implicitDefEqProofs only [dG l h,hg,am,ak,bn,ait,aik,aH,if_true,ail,if_false]
  rfl
 ·simp -implicitDefEqProofs only [dG l h,hg,am,ak,bn,air,aik,aH,ail,if_false,if_true]
theorem agM (l:List Slp) (ds:List D):ax (.tup (sls l::ds)) 0=some (sls l):=rfl
theorem ago (l:List Slp) (v:Value) (ds:List D):ax (.tup (sls l :: .v v::ds)) 1=some (.v v):=rfl
def cuK (l:List Slp) (u:Nat) (len:Int):List Slp :=
 su (su (l.set u ((l.getD u (0,0)).1,(l.getD u (0,0)).2 - 1)) len 1) ((l.getD u (0,0)).1 - len) 1
def cuA (l:List Slp) (i len:Int):Bool:=cB l&&decide (0≤i∧i≤(l.length:Int) - 1) && !decide ((l.getD i.toNat (0,0)).2=0)&&decide (1≤len∧len≤(l.getD i.toNat (0,0)).1 - 1)
def cuB (l:List Slp) (i len:Int):Bool:=cuA l i len&&cB (cuK l i.toNat len)
def cuR (l:List Slp) (i len:Int):List Slp:=if cuB l i len=true then cuK l i.toNat len else []
theorem Pn (l:List Slp) (i len:Int) (h:l.length≤1000):nf [sls l,I i,I len]=some (.ret [sls (cuR l i len),B (cuB l i len)] []):=by
 rw [OX];unfold cuR;cases h1:cB l
 ·have hj:cuB l i len=false:=by simp only [cuB,cuA,h1,aiz]
  rw [hj];simp -implicitDefEqProofs only [dI l (by omega),h1,am,ak,bn,ait,aik,bK,if_true,bZ,aO,aH,bf,ail,if_false];rfl
 have wl:aim.wrap ((l.length:Int) - 1)=(l.length:Int) - 1:=ah (by omega) (by omega);by_cases hr:0≤i∧i≤(l.length:Int) - 1
 case neg =>
  have hj:cuB l i len=false:=by simp only [cuB,cuA,hr,decide_false,aiW,aiz]
  rw [hj];simp -implicitDefEqProofs only [dI l (by omega),h1,am,ak,bn,air,ait,aik,bK,bZ,aK,aio,cr,wl,bB,hr,decide_false,bz,if_true,aO,aH,bf,ail,if_false];rfl
 obtain⟨u,rfl⟩:=aiv hr.1;have hu:u<l.length:=by omega
 have eg:l.getD u (0,0)=l[u]:=by simp [aiS,hu]
 have hok:=dW h1 l[u] (aix hu);have hcA:cuA l (u:Int) len=(!decide (l[u].2=0)&&decide (1≤len∧len≤l[u].1 - 1)):=by simp only [cuA,h1,hr,and_self,decide_true,aiN,aiJ,eg]
 by_cases h0:l[u].2=0
 ·have hj:cuB l (u:Int) len=false:=by simp only [cuB,hcA,h0,decide_true,air,aiz]
  rw [hj];simp -implicitDefEqProofs only [dI l (by omega),h1,am,ak,bn,air,ait,aik,bK,bZ,aK,aio,cr,wl,bB,hr,and_self,decide_true,bz,if_true,aO,aH,bf,ail,if_false,elS hu,ain,ej,aiq,aip,bk,aP,bD,fk,h0];rfl
 have wu:aim.wrap (l[u].1 - 1)=l[u].1 - 1:=ah (by omega) (by omega);by_cases h2:1≤len∧len≤l[u].1 - 1
 case neg =>
  have hj:cuB l (u:Int) len=false:=by simp only [cuB,hcA,h2,decide_false,aiW,aiz]
  rw [hj];simp -implicitDefEqProofs only [dI l (by omega),h1,am,ak,bn,air,ait,aik,bK,bZ,aK,aio,cr,wl,bB,hr,and_self,decide_true,bz,if_true,aO,aH,bf,ail,if_false,elS hu,ain,ej,aiq,aip,bk,aP,bD,fk,h0,wu,h2,decide_false];rfl
 have hj:cuB l (u:Int) len=cB (cuK l u len):=by simp only [cuB,hcA,h0,h2,and_self,decide_true,decide_false,ait,aiN,aiJ]
 have ha0:=gX (l:=[]) (m:=l) (by simp;omega);rw [aiK] at ha0;have hri:fd 2 (sls l) (I (u:Int))=some (.ref u 0):=by rw [lu,if_pos (by simpa using hu)]
 have hat:(atD (sls l) (.ref u 1)).bind (an false 1)=some (I l[u].2):=by simp [hu]
 have w3:aim.wrap (l[u].2 - 1)=l[u].2 - 1:=ah (by omega) (by omega);have w4:aim.wrap (l[u].1 - len)=l[u].1 - len:=ah (by omega) (by omega);have hs:=wJ l u (l[u].2 - 1) hu;have z1:=Ap (l.set u (l[u].1,l[u].2 - 1)) len 1;rw [aiX] at z1;have z2:=Ap (su (l.set u (l[u].1,l[u].2 - 1)) len 1) (l[u].1 - len) 1;have p1:=tv (l.set u (l[u].1,l[u].2 - 1)) len 1 (by rw [aiX];omega);have p2:=tv (su (l.set u (l[u].1,l[u].2 - 1)) len 1) (l[u].1 - len) 1 (by omega);have hk:cuK l u len=su (su (l.set u (l[u].1,l[u].2 - 1)) len 1) (l[u].1 - len) 1:=by unfold cuK;rw [eg]
 rw [←hk] at p2 z2;have p3:=BX (cuK l u len) (by omega);rw [hj,aiJ];simp -implicitDefEqProofs only [dI l (by omega),h1,am,ak,bn,air,aik,bK,bZ,aK,aio,cr,wl,bB,hr,and_self,decide_true,bz,aO,aH,bf,oR,gP,ha0,ail,if_false,elS hu,ain,ej,aiq,aip,bk,aP,bD,fk,h0,decide_false,wu,h2,cz,ck,hri,mf,ajq,hat,w3,hs,p1,w4,p2,p3,agM,ago,ckS]
theorem OB (l:List Slp) (i len:Int) (h:l.length≤1000):nM [sls l,I i,I len]=some (.ret [sls (cuR l i len),B (cuB l i len)] []):=by
 rw [NA];unfold cuR;cases h1:cB l
 ·have hj:cuB l i len=false:=by simp only [cuB,cuA,h1,aiz]
  rw [hj];simp -implicitDefEqProofs only [dG l (by omega),h1,am,ak,bn,ait,aik,bK,if_true,bZ,aO,aH,bf,ail,if_false];rfl
 have wl:aim.wrap ((l.length:Int) - 1)=(l.length:Int) - 1:=ah (by omega) (by omega);by_cases hr:0≤i∧i≤(l.length:Int) - 1
 case neg =>
  have hj:cuB l i len=false:=by simp only [cuB,cuA,hr,decide_false,aiW,aiz]
  rw [hj];simp -implicitDefEqProofs only [dG l (by omega),h1,am,ak,bn,air,ait,aik,bK,bZ,aK,aio,cr,wl,bp,hr,decide_false,bz,if_true,aO,aH,bf,ail,if_false];rfl
 obtain⟨u,rfl⟩:=aiv hr.1;have hu:u<l.length:=by omega
 have eg:l.getD u (0,0)=l[u]:=by simp [aiS,hu]
 have hok:=dW h1 l[u] (aix hu);have hcA:cuA l (u:Int) len=(!decide (l[u].2=0)&&decide (1≤len∧len≤l[u].1 - 1)):=by simp only [cuA,h1,hr,and_self,decide_true,aiN,aiJ,eg]
 by_cases h0:l[u].2=0
 ·have hj:cuB l (u:Int) len=false:=by simp only [cuB,hcA,h0,decide_true,air,aiz]
  rw [hj];simp -implicitDefEqProofs only [dG l (by omega),h1,am,ak,bn,air,ait,aik,bK,bZ,aK,aio,cr,wl,bp,hr,and_self,decide_true,bz,if_true,aO,aH,bf,ail,if_false,elS hu,ain,ej,aiq,aip,bk,aP,bD,fk,h0];rfl
 have wu:aim.wrap (l[u].1 - 1)=l[u].1 - 1:=ah (by omega) (by omega);by_cases h2:1≤len∧len≤l[u].1 - 1
 case neg =>
  have hj:cuB l (u:Int) len=false:=by simp only [cuB,hcA,h2,decide_false,aiW,aiz]
  rw [hj];simp -implicitDefEqProofs only [dG l (by omega),h1,am,ak,bn,air,ait,aik,bK,bZ,aK,aio,cr,wl,bp,hr,and_self,decide_true,bz,if_true,aO,aH,bf,ail,if_false,elS hu,ain,ej,aiq,aip,bk,aP,bD,fk,h0,wu,h2,decide_false];rfl
 have hj:cuB l (u:Int) len=cB (cuK l u len):=by simp only [cuB,hcA,h0,h2,and_self,decide_true,decide_false,ait,aiN,aiJ]
 have ha0:=gX (l:=[]) (m:=l) (by simp;omega);rw [aiK] at ha0;have hri:fd 2 (sls l) (I (u:Int))=some (.ref u 0):=by rw [lu,if_pos (by simpa using hu)]
 have hat:(atD (sls l) (.ref u 1)).bind (an false 1)=some (I l[u].2):=by simp [hu]
 have w3:aim.wrap (l[u].2 - 1)=l[u].2 - 1:=ah (by omega) (by omega);have w4:aim.wrap (l[u].1 - len)=l[u].1 - len:=ah (by omega) (by omega);have hs:=wJ l u (l[u].2 - 1) hu;have z1:=Ap (l.set u (l[u].1,l[u].2 - 1)) len 1;rw [aiX] at z1;have z2:=Ap (su (l.set u (l[u].1,l[u].2 - 1)) len 1) (l[u].1 - len) 1;have p1:=xo (l.set u (l[u].1,l[u].2 - 1)) len 1 (by rw [aiX];omega);have p2:=xo (su (l.set u (l[u].1,l[u].2 - 1)) len 1) (l[u].1 - len) 1 (by omega);have hk:cuK l u len=su (su (l.set u (l[u].1,l[u].2 - 1)) len 1) (l[u].1 - len) 1:=by unfold cuK;rw [eg]
 rw [←hk] at p2 z2;have p3:=JU (cuK l u len) (by omega);rw [hj,aiJ];simp -implicitDefEqProofs only [dG l (by omega),h1,am,ak,bn,air,aik,bK,bZ,aK,aio,cr,wl,bp,hr,and_self,decide_true,bz,aO,aH,bf,oR,gP,ha0,ail,if_false,elS hu,ain,ej,aiq,aip,bk,aP,bD,fk,h0,decide_false,wu,h2,cz,ck,hri,mf,ajq,hat,w3,hs,p1,w4,p2,p3,agM,ago,ckS]
def yM (a b:Option Nat):Option Nat :=
 match a,b with
 | none,b=>b
 | some a,none=>some a
 | some a,some b=>if b<a then some b else some a
def Ao (k:Nat):Option Nat:=if k=0 then some 0 else none
def qG (row:Nat→Option Nat) (w k:Nat):Nat→Option Nat
 | 0=>none
 | m+1=>yM (qG row w k m) ((row (k - m*w)).map (·+m))
def iC (w c k:Nat):Nat:=min c (k / w)+1
def mL (w c:Nat) (row:Nat→Option Nat) (k:Nat):Option Nat:=qG row w k (iC w c k)
def cY (l:List Slp):Nat→Option Nat:=l.foldl (fun row x=>mL x.1.toNat x.2.toNat row) Ao
theorem BP {l:List Slp} {i:Nat} (hi:i<l.length):cY (l.take (i+1))=mL l[i].1.toNat l[i].2.toNat (cY (l.take i)):=by
 unfold cY;rw [aiu hi,ajm];rfl
def iV (o:Option Nat):Int :=
 match o with
 | none=>-1
 | some v=>(v:Int)
def gL (o:Option Nat):Int :=
 match o with
 | none=>1048576
 | some v=>(v:Int)
theorem agf {a b:Option Nat} {z:Nat} (ha:∀v,a=some v→v≤z) (hb:∀v,b=some v→v≤z):∀v,yM a b=some v→v≤z:=by
 intro v h;cases a with
 | none=>exact hb v h
 | some a =>
  cases b with
  | none=>exact ha v h
  | some b =>
   simp only [yM] at h;split at h
   ·exact hb v h
   ·exact ha v h
theorem LY {row:Nat→Option Nat} {w k z c:Nat} (hr:∀j v,row j=some v→v≤z):∀m,m≤c+1→∀v,qG row w k m=some v→v≤z+c
 | 0,_,v,h=>by cases h
 | m+1,hm,v,h=>by
  refine agf (z:=z+c) (LY hr m (by omega)) (fun v h=>?_) v h
  obtain⟨u,h1,rfl⟩:=Option.map_eq_some_iff.1 h;have:=hr _ _ h1;omega
theorem Bg {l:List Slp} (hl:∀x∈l,x.2≤20):∀(i:Nat),i≤l.length→∀k v,cY (l.take i) k=some v→v≤20*i
 | 0,_,k,v,h=>by
  simp only [List.take_zero,cY,ajw,Ao] at h;split at h
  ·cases h;omega
  ·cases h
 | i+1,hi,k,v,h=>by
  have hi':i<l.length:=hi;rw [BP hi'] at h;have hc:=hl l[i] (aix hi');have:=LY (c:=l[i].2.toNat) (Bg hl i (by omega)) (iC l[i].1.toNat l[i].2.toNat k) (by unfold iC;omega) v h;omega
theorem Gu {w c k m:Nat} (hw:0<w):m<iC w c k↔m≤c∧m*w≤k:=by
 have:=Nat.le_div_iff_mul_le (x:=m) (y:=k) hw;unfold iC;omega
def nV (f:Nat→Int) (n k:Nat):List Int:=(ajB k).map f++aiH (n - k) 0
def nY (f:Nat→Int) (n:Nat):List Int:=(ajB n).map f
theorem Sl {f:Nat→Int} {n k:Nat} (h:k≤n):(nV f n k).length=n:=by simp [nV];omega
theorem Yh (f:Nat→Int) (n:Nat):nV f n 0=aiH n 0:=by simp [nV]
theorem ML (f:Nat→Int) (n:Nat):nV f n n=nY f n:=by simp [nV,nY]
theorem SF {f:Nat→Int} {n k:Nat} (h:k<n):(nV f n k).set k (f k)=nV f n (k+1):=by
 obtain⟨m,hm⟩:∃m,n - k=m+1:=⟨n - k - 1,by omega⟩
 rw [nV,nV,hm,show n - (k+1)=m by omega,ajE,List.set_append_right _ _ (by simp)];simp [ajf]
abbrev fA (rows:List (List Int)):D:=.arr 1 (rows.map fun r=>ai r)
theorem pF {l:List Int} {i:Nat} (h:i<l.length):fd 1 (ai l) (I (i:Int))=some (.ref i 0):=by rw [lu,if_pos (by simpa using h)]
theorem oT (l:List Int) (i:Nat) (v:Int) (h:i<l.length):stD 1 (ai l) (.ref i 0) (I v)=some (ai (l.set i v)):=by
 rw [abY (w:=.int .i64 l[i]) (by simp [h])];show some (D.arr 1 ((l.map I).set i (I v)))=_
 rw [←List.map_set]
theorem ae9 {l:List Int} {i:Nat} (h:i<l.length):(atD (ai l) (.ref i 0)).bind (an false 1)=some (I l[i]):=by simp [h]
theorem gT {l:List Int} {i:Nat} (h:i<l.length):ao 1 (ai l) (I (i:Int))=some [I l[i]]:=by simp [h]
theorem wQ {l:List (List Int)} {i:Nat} (h:i<l.length):fd 1 (fA l) (I (i:Int))=some (.ref i 0):=by rw [lu,if_pos (by simpa using h)]
theorem EI {l:List (List Int)} {i:Nat} (h:i<l.length):(atD (fA l) (.ref i 0)).bind (an false 1)=some (ai l[i]):=by simp [h]
theorem zW {l:List (List Int)} {i:Nat} (h:i<l.length):ao 1 (fA l) (I (i:Int))=some [ai l[i]]:=by simp [h]
theorem wR (r:List Int):aB 1 [ai r]=some (fA [r]):=by simp [aB,kv]
theorem Gb {l m:List (List Int)} (h:l.length+m.length≤1000000):bC 1 24 (fA l) (fA m)=some (fA (l++m)):=by
 rw [hD,if_pos (by simp;omega),←aiy]
theorem zY {n:Nat} (h:n≤1000000):Nm 1 8 (I 0) (I (n:Int)) (I (n:Int))=some (ai (aiH n 0)):=by
 rw [acb,if_pos (by omega)];show _=some (D.arr 1 ((aiH n (0:Int)).map I))
 rw [List.map_replicate]
theorem uX (l:List Slp) (h:l.length≤1000000):ij [sls l]=some (.ret [ai (l.map (·.1)),ai (l.map (·.2))] []):=by
 rw [Jy];simp -implicitDefEqProofs only [bf,aik,aK,aio];refine aG (.ext 0 [ai (l.map (·.1)),ai (l.map (·.2))]) (aY l.length (fun i=>[ai ((l.take i).map (·.1)),ai ((l.take i).map (·.2)),sls l,I l.length,I i]) _ (fun i hi=>?_) ?_ rfl rfl) ?_
 ·have hi':(i:Int)<(l.length:Int):=by omega
  have hw:aim.wrap ((i:Int)+1)=((i+1:Nat):Int):=by rw [ah (by omega) (by omega)];omega
  have a1:=zR (l:=(l.take i).map (·.1)) (n:=l[i].1) (by rw [aio,aiC];omega);have a2:=zR (l:=(l.take i).map (·.2)) (n:=l[i].2) (by rw [aio,aiC];omega);have e1:(l.take (i+1)).map (·.1)=(l.take i).map (·.1)++[l[i].1]:=by rw [aiu hi,aiy];rfl
  have e2:(l.take (i+1)).map (·.2)=(l.take i).map (·.2)++[l[i].2]:=by rw [aiu hi,aiy];rfl
  rw [←e1] at a1;rw [←e2] at a2;simp -implicitDefEqProofs only [ak,aF,bg,hi',decide_true,aik,aH,if_true,elS hi,ain,ldS,agV,cy,fi,aip,aiq,aP,Hy,HY,a1,a2,bw,hw]
 ·simp
 ·simp -implicitDefEqProofs only [bF,aiw,dE,if_true,ak,aF]
theorem MJ (i f:Nat) (x:D):Xf (.ref i f) x=x:=rfl
def yO (n:Nat) (F:Nat→Option Nat):List Int:=nY (fun k=>iV (F k)) (n+1)
def qg (n:Nat) (l:List Slp) (i:Nat):List (List Int):=(ajB i).map fun j=>yO n (cY (l.take j))
theorem qf (n:Nat) (l:List Slp) (i:Nat):(qg n l i).length=i:=by simp [qg]
theorem zy {n:Nat} {l:List Slp} {i j:Nat} (h:j<i):(qg n l i)[j]'(by rw [qf];exact h)=yO n (cY (l.take j)):=by simp [qg]
theorem aaX (n:Nat) (l:List Slp) (i:Nat):qg n l i++[yO n (cY (l.take i))]=qg n l (i+1):=by simp [qg,ajf]
theorem vW (n:Nat) (F:Nat→Option Nat):(yO n F).length=n+1:=by simp [yO,nY]
theorem Bn {n:Nat} {F:Nat→Option Nat} {k:Nat} (h:k<n+1):(yO n F)[k]'(by rw [vW];exact h)=iV (F k):=by simp [yO,nY]
theorem Jv:iV none = -1:=rfl
theorem EG (v:Nat):iV (some v)=(v:Int):=rfl
theorem wI {i:Nat} (h:i≤1000000):aim.wrap ((i:Int)+1)=((i+1:Nat):Int):=by rw [ah (by omega) (by omega)];omega
theorem afa {l:List Int} {i:Nat} {v:Int} (h:i<l.length):(l.set i v)[i]'(by rw [aiX];exact h)=v:=by simp
theorem Dp (l:List Slp) (n:Nat) (hl:l.length≤8) (hn:n≤400) (hok:∀x∈l,(1≤x.1∧x.1≤200)∧0≤x.2∧x.2≤20) :
  js [ai (l.map (·.1)),ai (l.map (·.2)),I (n:Int)]=some (.ret [fA (qg n l (l.length+1))] []):=by
 rw [QJ];simp -implicitDefEqProofs only [bw,wI (show n≤1000000 by omega),zY (show n+1≤1000000 by omega),cz,aik];refine aG (.ext 0 [ai (l.map (·.1)),ai (l.map (·.2)),I (n:Int),.ref 0 0,ai (yO n Ao)]) (aY n (fun i=>[ai (l.map (·.1)),ai (l.map (·.2)),I (n:Int),.ref 0 0,I ((i+1:Nat):Int),ai (nV (fun k=>iV (Ao k)) (n+1) (i+1))]) _ (fun i hi=>?_) ?_ rfl ?_) ?_
 ·have h1:((i+1:Nat):Int)≤(n:Int):=by omega
  have hlen:=Sl (f:=fun k=>iV (Ao k)) (n:=n+1) (k:=i+1) (by omega);have hr:=pF (l:=nV (fun k=>iV (Ao k)) (n+1) (i+1)) (i:=i+1) (by omega);have hs:=oT (nV (fun k=>iV (Ao k)) (n+1) (i+1)) (i+1) (-1) (by omega);have hf:=SF (f:=fun k=>iV (Ao k)) (n:=n+1) (k:=i+1) (by omega);have hm:iV (Ao (i+1)) = -1:=by simp [Ao,iV]
  simp only [hm] at hf;rw [hf] at hs;simp -implicitDefEqProofs only [ak,aF,gg,h1,decide_true,aik,aH,if_true,ck,hr,hs,bw,wI (show i+1≤1000000 by omega)]
 ·have h1:¬((n+1:Nat):Int)≤(n:Int):=by omega
  simp -implicitDefEqProofs only [ak,aF,gg,h1,decide_false,aik,aH,ail,if_false,ML];rfl
 ·have:nV (fun k=>iV (Ao k)) (n+1) (0+1)=aiH (n+1) 0:=by
   simp [nV,Ao,iV,ajE]
  rw [this];rfl
 have t0:[yO n Ao]=qg n l 1:=by simp [qg,cY]
 simp -implicitDefEqProofs only [bF,aiw,dE,if_true,ak,aF,MJ,wR,t0,aK,aio,aik];refine aG (.ext 2 [fA (qg n l (l.length+1))]) (aY l.length (fun i=>[ai (l.map (·.2)),I (n:Int),fA (qg n l (i+1)),ai (l.map (·.1)),I l.length,I i]) _ (fun i hi=>?_) ?_ rfl rfl) ?_
 case refine_2 =>
  simp
 case refine_3=>simp -implicitDefEqProofs only [bF,aiw,dE,if_true,ak,aF]
 have hi':(i:Int)<(l.length:Int):=by omega
 have ho:=hok l[i] (aix hi);obtain⟨w,hw⟩:=aiv (show 0≤l[i].1 by omega);obtain⟨c,hc⟩:=aiv ho.2.1;have hwp:0<w:=by omega
 have ew:ao 1 (ai (l.map (·.1))) (I (i:Int))=some [I (w:Int)]:=by rw [gT (by simpa using hi)];simp [←hw]
 have ec:ao 1 (ai (l.map (·.2))) (I (i:Int))=some [I (c:Int)]:=by rw [gT (by simpa using hi)];simp [←hc]
 have hstep:cY (l.take (i+1))=mL w c (cY (l.take i)):=by rw [BP hi,hw,hc];rfl
 have hb:=Bg (l:=l) (fun x hx=>(hok x hx).2.2) i (by omega);have htab:=EI (l:=qg n l (i+1)) (i:=i) (by rw [qf];omega);have hrt:=wQ (l:=qg n l (i+1)) (i:=i) (by rw [qf];omega);rw [zy (by omega)] at htab;simp -implicitDefEqProofs only [ak,aF,bg,hi',decide_true,aik,aH,if_true,ew,ain,bk,aP,bD,bw,wI (show n≤1000000 by omega),zY (show n+1≤1000000 by omega),cz,ck,aK,aio,List.length_replicate];generalize hF:cY (l.take i)=F at *;refine aG (.ext 4 [ai (l.map (·.2)),I (n:Int),fA (qg n l (i+1)),.ref 0 0,ai (l.map (·.1)),I l.length,I i,ai (yO n (mL w c F))]) (aY (n+1) (fun k=>[ai (l.map (·.2)),I (n:Int),fA (qg n l (i+1)),I i,I (w:Int),.ref 0 0,ai (l.map (·.1)),I l.length,I i,ai (nV (fun k=>iV (mL w c F k)) (n+1) k),I ((n+1:Nat):Int),I k]) _ (fun k hk=>?_) ?_ rfl ?_) ?_
 case refine_2 =>
  have h1:¬((n+1:Nat):Int)<((n+1:Nat):Int):=by omega
  simp -implicitDefEqProofs only [ak,aF,bg,h1,decide_false,aik,aH,ail,if_false,ML];rfl
 case refine_3 =>
  rw [Yh];rfl
 case refine_4 =>
  have hap:=Gb (l:=qg n l (i+1)) (m:=[yO n (mL w c F)]) (by rw [qf];simp;omega);have hsn:=aaX n l (i+1);rw [hstep] at hsn;rw [hsn] at hap;simp -implicitDefEqProofs only [bF,aiw,dE,if_true,ak,aF,MJ,wR,hap,aik,bw,wI (show i≤1000000 by omega)]
 have hk':(k:Int)<((n+1:Nat):Int):=by omega
 generalize hL:nV (fun k=>iV (mL w c F k)) (n+1) k=L;have hlen:L.length=n+1:=by rw [←hL];exact Sl (by omega)
 have hfill:L.set k (iV (mL w c F k))=nV (fun k=>iV (mL w c F k)) (n+1) (k+1):=by rw [←hL];exact SF (by omega)
 have hrf:=pF (l:=L) (i:=k) (by omega);have hst:=oT L k (-1) (by omega);simp -implicitDefEqProofs only [ak,aF,bg,hk',decide_true,aik,aH,if_true,ck,hrf,hst];refine aG (.ext 6 [ai (l.map (·.2)),I (n:Int),fA (qg n l (i+1)),I i,I (w:Int),.ref 0 0,ai (l.map (·.1)),I l.length,I i,ai (L.set k (iV (mL w c F k))),I ((n+1:Nat):Int),I k]) (aY (iC w c k) (fun m=>[ai (l.map (·.2)),I (n:Int),fA (qg n l (i+1)),I i,I (w:Int),.ref 0 0,I k,I m,ai (l.map (·.1)),I l.length,I i,ai (L.set k (iV (qG F w k m))),I ((n+1:Nat):Int),I k]) _ (fun m hm=>?_) ?_ rfl rfl) ?_
 case refine_2 =>
  have hno:¬(iC w c k≤c∧iC w c k*w≤k):=fun h=>Nat.lt_irrefl _ ((Gu hwp).2 h)
  have hM:iC w c k≤21:=by unfold iC;omega
  by_cases h1:((iC w c k:Nat):Int)≤(c:Int)
  ·have h2:¬((iC w c k:Nat):Int)*(w:Int)≤(k:Int):=by
    intro h;exact hno ⟨by omega,by exact_mod_cast h⟩
   have hmb:iC w c k*w≤21*200:=Nat.mul_le_mul hM (by omega);have hwr:aim.wrap (((iC w c k:Nat):Int)*(w:Int))=((iC w c k:Nat):Int)*(w:Int):=by
    rw [←ajg];exact ah (by omega) (by omega)
   simp -implicitDefEqProofs only [ak,aF,ec,ain,bk,aP,bD,aik,gg,h1,decide_true,en,if_true,eI,hwr,h2,decide_false,aO,aH,ail,if_false];rfl
  ·simp -implicitDefEqProofs only [ak,aF,ec,ain,bk,aP,bD,aik,gg,h1,decide_false,en,ail,if_false,aO,aH]
   rfl
 case refine_3 =>
  simp -implicitDefEqProofs only [bF,aiw,dE,if_true,ak,aF,aik,bw,wI (show k≤1000000 by omega),hfill]
 obtain⟨m1,m2⟩:=(Gu hwp).1 hm;have h1:(m:Int)≤(c:Int):=by omega
 have h2:(m:Int)*(w:Int)≤(k:Int):=by exact_mod_cast m2
 have hwr:aim.wrap ((m:Int)*(w:Int))=((m*w:Nat):Int):=by
  rw [←ajg];exact ah (by omega) (by omega)
 have h2':((m*w:Nat):Int)≤(k:Int):=by omega
 have hsub:aim.wrap ((k:Int) - ((m*w:Nat):Int))=((k - m*w:Nat):Int):=by rw [ah (by omega) (by omega)];omega
 have hel:=gT (l:=yO n F) (i:=k - m*w) (by rw [vW];omega);rw [Bn (by omega)] at hel;have hwm:=wI (show m≤1000000 by omega);have hln:(L.set k (iV (qG F w k m))).length=n+1:=by rw [aiX,hlen]
 have hrf2:=pF (l:=L.set k (iV (qG F w k m))) (i:=k) (by omega);have hat2:=ae9 (l:=L.set k (iV (qG F w k m))) (i:=k) (by omega);rw [afa (by omega)] at hat2;have hst2:∀v:Int,stD 1 (ai (L.set k (iV (qG F w k m)))) (.ref k 0) (I v)=some (ai (L.set k v)):=fun v=>by rw [oT _ k v (by omega),List.set_set]
 have hbn:qG F w k (m+1)=yM (qG F w k m) ((F (k - m*w)).map (·+m)):=rfl;have hBb:=LY (row:=F) (w:=w) (k:=k) (z:=20*i) (c:=c) hb m (by omega);rw [hbn];have hFb:=hb (k - m*w);generalize hG:F (k - m*w)=o at hel hFb ⊢;generalize hH:qG F w k m=q at *;cases o with
 | none =>
  have hmin:yM q (ajC (·+m) none)=q:=by cases q<;>rfl
  rw [hmin];simp -implicitDefEqProofs only [ak,aF,ec,ain,bk,aP,bD,aik,gg,h1,decide_true,en,if_true,eI,hwr,h2',aO,aH,ck,cz,hrt,htab,cr,hsub,hel,Jv,EG,jN,show ¬(0:Int) ≤ -1 by decide,decide_false,ail,if_false,wE,bK,bw,hwm]
 | some v =>
  have hv:=hFb v rfl;have hvm:aim.wrap ((v:Int)+(m:Int))=((v+m:Nat):Int):=by rw [ah (by omega) (by omega)];omega
  have hv0:(0:Int)≤(v:Int):=by omega
  cases q with
  | none =>
   simp only [Jv] at hrf2 hat2 hst2;have hmin:yM none (ajC (·+m) (some v))=some (v+m):=rfl;rw [hmin];simp -implicitDefEqProofs only [ak,aF,ec,ain,bk,aP,bD,aik,gg,h1,decide_true,en,if_true,eI,hwr,h2',aO,aH,ck,cz,hrt,htab,cr,hsub,hel,Jv,EG,jN,hv0,hrf2,hat2,bg,show(-1:Int)<0 by decide,bK,wE,bw,hvm,hst2,hwm]
  | some b =>
   simp only [EG] at hrf2 hat2 hst2;have hnb:¬(b:Int)<0:=by omega
   by_cases hlt:v+m<b
   ·have hlt':((v+m:Nat):Int)<(b:Int):=by omega
    have hmin:yM (some b) (ajC (·+m) (some v))=some (v+m):=by simp [yM,hlt]
    rw [hmin];simp -implicitDefEqProofs only [ak,aF,ec,ain,bk,aP,bD,aik,gg,h1,decide_true,en,if_true,eI,hwr,h2',aO,aH,ck,cz,hrt,htab,cr,hsub,hel,Jv,EG,jN,hv0,hrf2,hat2,bg,hnb,hlt',decide_false,ail,if_false,bK,wE,bw,hvm,hst2,hwm]
   ·have hlt':¬((v+m:Nat):Int)<(b:Int):=by omega
    have hmin:yM (some b) (ajC (·+m) (some v))=some b:=by simp [yM,hlt]
    rw [hmin];simp -implicitDefEqProofs only [ak,aF,ec,ain,bk,aP,bD,aik,gg,h1,decide_true,en,if_true,eI,hwr,h2',aO,aH,ck,cz,hrt,htab,cr,hsub,hel,Jv,EG,jN,hv0,hrf2,hat2,bg,hnb,hlt',decide_false,ail,if_false,bK,wE,bw,hvm,hwm]
theorem agN (a b:Int):(if a<b then a else b)=min a b:=by
 rw [Int.min_def];by_cases h:a<b
 ·rw [if_pos h,if_pos (by omega)]
 ·rw [if_neg h]
  by_cases h2:a≤b
  ·rw [if_pos h2];omega
  ·rw [if_neg h2]
theorem aa8 {q o:Option Nat} {m:Nat} (hq:∀b,q=some b→b≤1000) (ho:∀v,o=some v→v≤1000) (hm:m≤1000):(if gL q<gL o+(m:Int) then gL q else gL o+(m:Int))=gL (yM q (o.map (·+m))):=by
 rw [agN];cases o with
 | none =>
  cases q with
  | none =>
   simp only [gL,yM,ai7];omega
  | some b =>
   have:=hq b rfl;simp only [gL,yM,ai7];omega
 | some v =>
  have:=ho v rfl;cases q with
  | none =>
   simp only [gL,yM,ain];omega
  | some b =>
   have:=hq b rfl;simp only [yM,ain];by_cases h:v+m<b
   ·rw [if_pos h]
    simp only [gL];omega
   ·rw [if_neg h]
    simp only [gL];omega
theorem aed {o:Option Nat} (ho:∀v,o=some v→v≤1000):0≤gL o∧gL o≤1048576:=by
 cases o with
 | none=>simp [gL]
 | some v =>
  have:=ho v rfl;simp only [gL];omega
def yN (n:Nat) (F:Nat→Option Nat):List Int:=nY (fun k=>gL (F k)) (n+1)
def oh (n:Nat) (l:List Slp) (i:Nat):List (List Int):=(ajB i).map fun j=>yN n (cY (l.take j))
theorem pH (n:Nat) (l:List Slp) (i:Nat):(oh n l i).length=i:=by simp [oh]
theorem Bp {n:Nat} {l:List Slp} {i j:Nat} (h:j<i):(oh n l i)[j]'(by rw [pH];exact h)=yN n (cY (l.take j)):=by simp [oh]
theorem aak (n:Nat) (l:List Slp) (i:Nat):oh n l i++[yN n (cY (l.take i))]=oh n l (i+1):=by simp [oh,ajf]
theorem uY (n:Nat) (F:Nat→Option Nat):(yN n F).length=n+1:=by simp [yN,nY]
theorem vI {n:Nat} {F:Nat→Option Nat} {k:Nat} (h:k<n+1):(yN n F)[k]'(by rw [uY];exact h)=gL (F k):=by simp [yN,nY]
theorem YG (f:Nat→Int) (k:Nat):nY f (k+1)=nY f k++[f k]:=by simp [nY,ajf]
theorem aaq (f:Nat→Int) (k:Nat):(nY f k).length=k:=by simp [nY]
theorem aap (n:Nat):(aiH (n+1) (1048576:Int)).set 0 0=yN n Ao:=by
 refine List.ext_getElem (by simp [yN,nY]) fun i h1 h2=>?_
 rw [vI (by simpa using h1),List.getElem_set];by_cases h:0=i
 ·subst h
  simp [Ao,gL]
 ·rw [if_neg h]
  have:¬i=0:=fun e=>h e.symm
  simp [Ao,gL,this]
theorem yF (l:List Slp) (n:Nat) (hl:l.length≤8) (hn:n≤400) (hok:∀x∈l,(1≤x.1∧x.1≤200)∧0≤x.2∧x.2≤20) :
  gr [sls l,I (n:Int)]=some (.ret [fA (oh n l (l.length+1))] []):=by
 rw [Le];refine aG (.ext 0 [sls l,I (n:Int),ai (aiH (n+1) 1048576)]) (aY (n+1) (fun k=>[sls l,I (n:Int),ai (aiH k 1048576),I k]) _ (fun k hk=>?_) ?_ rfl rfl) ?_
 ·have h1:(k:Int)≤(n:Int):=by omega
  have ha:=zR (l:=aiH k 1048576) (n:=1048576) (by simp;omega);rw [←List.replicate_succ'] at ha;simp -implicitDefEqProofs only [ak,aF,gg,h1,decide_true,aik,aH,if_true,Hy,HY,ha,bw,wI (show k≤1000000 by omega)]
 ·have h1:¬((n+1:Nat):Int)≤(n:Int):=by omega
  simp -implicitDefEqProofs only [ak,aF,gg,h1,decide_false,aik,aH,ail,if_false]
 have hr0:fd 1 (ai (aiH (n+1) 1048576)) (I 0)=some (.ref 0 0):=pF (i:=0) (by simp);have hs0:=oT (aiH (n+1) 1048576) 0 0 (by simp);rw [aap] at hs0;have t0:[yN n Ao]=oh n l 1:=by simp [oh,cY]
 simp -implicitDefEqProofs only [bF,aiw,dE,if_true,ak,aF,cz,ck,hr0,hs0,wR,t0,aK,aio,aik];refine aG (.ext 2 [fA (oh n l (l.length+1))]) (aY l.length (fun i=>[I (n:Int),fA (oh n l (i+1)),sls l,I l.length,I i]) _ (fun i hi=>?_) ?_ rfl rfl) ?_
 case refine_2=>simp
 case refine_3=>simp -implicitDefEqProofs only [bF,aiw,dE,if_true,ak,aF]
 have hi':(i:Int)<(l.length:Int):=by omega
 have ho:=hok l[i] (aix hi);obtain⟨w,hw⟩:=aiv (show 0≤l[i].1 by omega);obtain⟨c,hc⟩:=aiv ho.2.1;have hwp:0<w:=by omega
 have hstep:cY (l.take (i+1))=mL w c (cY (l.take i)):=by rw [BP hi,hw,hc];rfl
 have hb:=Bg (l:=l) (fun x hx=>(hok x hx).2.2) i (by omega);have htab:=EI (l:=oh n l (i+1)) (i:=i) (by rw [pH];omega);have hrt:=wQ (l:=oh n l (i+1)) (i:=i) (by rw [pH];omega);rw [Bp (by omega)] at htab;simp -implicitDefEqProofs only [ak,aF,bg,hi',decide_true,aik,aH,if_true,elS hi,ain,ldS,agV];rw [hw,hc];generalize hF:cY (l.take i)=F at *;refine aG (.ext 4 [I (n:Int),fA (oh n l (i+1)),ai (yN n (mL w c F)),sls l,I l.length,I i]) (aY (n+1) (fun k=>[I (n:Int),fA (oh n l (i+1)),I i,slp ((w:Int),(c:Int)),ai (nY (fun k=>gL (mL w c F k)) k),I k,sls l,I l.length,I i]) _ (fun k hk=>?_) ?_ rfl rfl) ?_
 case refine_2 =>
  have h1:¬((n+1:Nat):Int)≤(n:Int):=by omega
  simp -implicitDefEqProofs only [ak,aF,gg,h1,decide_false,aik,aH,ail,if_false];rfl
 case refine_3 =>
  have hap:=Gb (l:=oh n l (i+1)) (m:=[yN n (mL w c F)]) (by rw [pH];simp;omega);have hsn:=aak n l (i+1);rw [hstep] at hsn;rw [hsn] at hap;simp -implicitDefEqProofs only [bF,aiw,dE,if_true,ak,aF,wR,hap,aik,bw,wI (show i≤1000000 by omega)]
 have hk':(k:Int)≤(n:Int):=by omega
 simp -implicitDefEqProofs only [ak,aF,gg,hk',decide_true,aik,aH,if_true];refine aG (.ext 6 [I (n:Int),fA (oh n l (i+1)),I i,slp ((w:Int),(c:Int)),ai (nY (fun k=>gL (mL w c F k)) k),I k,I (gL (mL w c F k)),sls l,I l.length,I i]) (aY (iC w c k) (fun m=>[I (n:Int),fA (oh n l (i+1)),I i,slp ((w:Int),(c:Int)),ai (nY (fun k=>gL (mL w c F k)) k),I k,I (gL (qG F w k m)),I m,sls l,I l.length,I i]) _ (fun m hm=>?_) ?_ rfl rfl) ?_
 case refine_2 =>
  have hno:¬(iC w c k≤c∧iC w c k*w≤k):=fun h=>Nat.lt_irrefl _ ((Gu hwp).2 h)
  have hM:iC w c k≤21:=by unfold iC;omega
  by_cases h1:((iC w c k:Nat):Int)≤(c:Int)
  ·have h2:¬((iC w c k:Nat):Int)*(w:Int)≤(k:Int):=by
    intro h;exact hno ⟨by omega,by exact_mod_cast h⟩
   have hmb:iC w c k*w≤21*200:=Nat.mul_le_mul hM (by omega);have hwr:aim.wrap (((iC w c k:Nat):Int)*(w:Int))=((iC w c k:Nat):Int)*(w:Int):=by
    rw [←ajg];exact ah (by omega) (by omega)
   simp -implicitDefEqProofs only [ak,aF,cy,fi,aip,aiq,aP,aik,gg,h1,decide_true,en,if_true,eI,hwr,h2,decide_false,aO,aH,ail,if_false];rfl
  ·simp -implicitDefEqProofs only [ak,aF,cy,fi,aip,aiq,aP,aik,gg,h1,decide_false,en,ail,if_false,aO,aH]
   rfl
 case refine_3 =>
  have ha:=zR (l:=nY (fun k=>gL (mL w c F k)) k) (n:=gL (mL w c F k)) (by rw [aaq];omega);rw [←YG (fun k=>gL (mL w c F k))] at ha;simp -implicitDefEqProofs only [bF,aiw,dE,if_true,ak,aF,Hy,HY,ha,aik,bw,wI (show k≤1000000 by omega)]
 obtain⟨m1,m2⟩:=(Gu hwp).1 hm;have h1:(m:Int)≤(c:Int):=by omega
 have hwr:aim.wrap ((m:Int)*(w:Int))=((m*w:Nat):Int):=by
  rw [←ajg];exact ah (by omega) (by omega)
 have h2':((m*w:Nat):Int)≤(k:Int):=by omega
 have hsub:aim.wrap ((k:Int) - ((m*w:Nat):Int))=((k - m*w:Nat):Int):=by rw [ah (by omega) (by omega)];omega
 have hel:=gT (l:=yN n F) (i:=k - m*w) (by rw [uY];omega);rw [vI (by omega)] at hel;have hwm:=wI (show m≤1000000 by omega);have hBb:=LY (row:=F) (w:=w) (k:=k) (z:=20*i) (c:=c) hb m (by omega);have hFb:=hb (k - m*w);have heb:=aed (o:=F (k - m*w)) fun v hv=>by have:=hFb v hv;omega
 have hadd:aim.wrap (gL (F (k - m*w))+(m:Int))=gL (F (k - m*w))+(m:Int):=ah (by omega) (by omega);have hls:=zS (gL (qG F w k m)) (gL (F (k - m*w))+(m:Int));rw [aa8 (fun b hb=>by have:=hBb b hb;omega) (fun v hv=>by have:=hFb v hv;omega) (by omega)] at hls;have hbn:yM (qG F w k m) ((F (k - m*w)).map (·+m))=qG F w k (m+1):=rfl;rw [hbn] at hls;simp -implicitDefEqProofs only [ak,aF,cy,cz,ck,fi,aip,aiq,aP,aik,gg,h1,decide_true,en,if_true,eI,hwr,h2',aO,aH,hrt,htab,cr,hsub,hel,ain,bk,bD,bw,hadd,hls,am,hwm]
end Go.Proofs.YtjafgdefcggjcaaGreatDoor

end
