/-
  A part of the proof: contracts and plain forms of functions beneath the statement, made small by a program (names shortened, what is not needed left out).
-/
import Derived.Test.YtkcojipciiakdaaDoorRows
import Derived.Test.YtkcojipciiakdaaDoorTie
import Derived.Test.YtkcojipciiakdaaDoorCards
import Derived.Test.YtkcojipciiakdaaDoorM3
import Derived.ProofKit
import Derived.ChangeArms
import Derived.Stop.LaidErr
import Derived.Deep.DeepHandedRow
import Derived.Deep.DeepWitnessRowRef
import Derived.LaidMore
import Derived.MakeChecks
import Derived.Shelf.Vars
import Derived.Maps.AppendAt
import Derived.Lib.Builder
import Derived.OwnWalk
import Derived.Shelf.Abstract
import Derived.WalkKit
import Derived.Handy
open Bool renaming and_eq_true → JI, false_eq_true → JP, not_false → KM
open Go.IntKind renaming i64 → JJ, u8 → Kz
open List renaming getElem?_eq_some_iff → JK, length_map → JN, map_take → JT, getElem?_eq_getElem → JV, eq_nil_of_length_eq_zero → JX, getElem_mem → JY, getElem?_append_right → JZ, length_take → Kc, mem_append → Ke, getD_eq_getElem?_getD → Kl, getElem?_append_left → Km, take_length → Ko, all_eq_true → Kp, append_nil → Ku, length_eq_one_iff → Kw, drop_zero → Kx, mem_of_getElem? → KA, getD_cons_zero → KB, length_cons → KH, length_nil → KI, map_append → KJ, replicate → KL
open Option.some renaming injEq → JL
open Option renaming map → JM, bind_some → JU, isSome_iff_exists → Kq, bind_eq_some_iff → Kt
open Array renaming getElem?_eq_some_iff → JO, replicate → Kg
open Int renaming reduceLT → JQ, reduceLE → JR, reduceEq → JS, not_lt → Ki, natCast_add → Kj, natCast_one → Kk, not_le → Kn, toNat_natCast → KE
open Nat renaming le_refl → JW, mul → Kb, zero_add → Kh, le_trans → KD, add → KN
open Go.DataW renaming TrodAll → Ka
open Go.Value renaming okWide → Kf, int → KC, ownBlock → KO
open Classical renaming choose → Kr
open Go.Op renaming bytesLess → Ks
open Go.Oper renaming upon_enter → Kv
open Go.Calls renaming mono → Ky
open Go.Value.slice renaming injEq → KF
open Go.Addr renaming add → KG
open Go.Act renaming put → KK
open Go.Addr.mk renaming injEq → KP
set_option maxRecDepth 100000
set_option linter.unusedSimpArgs false
set_option linter.unusedVariables false
noncomputable section
namespace Go.V
open Go.RowKit Go.WideShapes Go.ChangeShapes
set_option maxRecDepth 100000
mutual
inductive Sh where
 | int (k:IntKind)
 | bool
 | str
 | sl (e:Sh)
 | st (l:ShL)
inductive ShL where
 | nil
 | cons (h:Sh) (t:ShL)
end
mutual
def Sh.size:Sh→Nat
 | .int _=>1
 | .bool=>1
 | .str=>1
 | .sl _=>1
 | .st l=>l.size
def ShL.size:ShL→Nat
 | .nil=>0
 | .cons h t=>h.size+t.size
end
def Sh.isSt:Sh→Bool
 | .st _=>true
 | _=>false
mutual
def Sh.flat:Sh→Bool
 | .int _=>true
 | .bool=>true
 | .str=>true
 | .sl _=>false
 | .st l=>l.flat
def ShL.flat:ShL→Bool
 | .nil=>true
 | .cons h t=>h.flat&&t.flat
end
def wrap (ag:Bool) (m:List D):D:=if ag then .agg m else nth m 0
mutual
def Sh.Is:Sh→List D→Prop
 | .int k,l=>∃n,l=[.v (.int k n)]∧k.min≤n∧n≤k.max
 | .bool,l=>∃b,l=[B b]
 | .str,l=>∃s,l=[T s]∧s.size≤maxLen
 | .sl e,l=>∃ds,l=[.arr e.size ds]∧ds.length≤maxLen∧∀d∈ds,∃m,e.Is m∧d=wrap e.isSt m
 | .st fs,l=>fs.Is l
def ShL.Is:ShL→List D→Prop
 | .nil,l=>l=[]
 | .cons h t,l=>∃a b,l=a++b∧h.Is a∧t.Is b
end
mutual
def Sh.ok (P:Program):Sh→TypeId→Bool
 | .int k,t=>match P.underlying t with
  | some (.int k')=>decide (k'=k)
  | _=>false
 | .bool,t=>match P.underlying t with
  | some .bool=>true
  | _=>false
 | .str,t=>match P.underlying t with
  | some .string=>true
  | _=>false
 | .sl e,t=>match P.underlying t with
  | some (.slice u)=>e.ok P u&&decide (P.cellsOf u=e.size)&&decide (0<e.size)
  | _=>false
 | .st l,t=>match P.underlying t with
  | some (.struct fs)=>l.ok P 0 fs.toList&&decide (P.cellsOf t=l.size)
  | _=>false
def ShL.ok (P:Program):ShL→Nat→List Field→Bool
 | .nil,_,[]=>true
 | .cons h t,off,f::fs=>decide (f.offset=off)&&h.ok P f.type&&decide (P.cellsOf f.type=h.size)&&t.ok P (off+h.size) fs
 | _,_,_=>false
end
section
variable {H:Type} {enc:TypeId × Value→H} {P:Program} {W:World}
theorem Sh.len_one {sh:Sh} (h:sh.isSt=false):sh.size=1:=by
 cases sh<;>simp_all [Sh.isSt,Sh.size]
theorem Fy {a:Addr} {n:Nat} {vs:List Value} (h:W.cells? 0 a n=some vs):vs.length=n∧∀i u,vs[i]?=some u→W.cell? (a.add i)=some u:=by
 simp only [World.cells?,Nat.zero_le,if_true] at h;have hl:=mapM_some_length h;rw [List.length_range] at hl;refine⟨hl,fun i u hu=>?_⟩
 have hi:i<n:=by
  rw [←hl];exact(JK.1 hu).1
 rw [mapM_some_get h i i (by simp [hi]),hu]
theorem FZ (a:Addr) (i j:Nat):(a.add i).add j=a.add (i+j):=by
 unfold KG;by_cases hi:i=0<;>by_cases hj:j=0<;>simp [hi,hj,Nat.add_assoc]
theorem Dv {a:Addr} {u:Value} (h:W.cell? a=some u):a.spot=none∧a.block<W.heap.size:=by
 unfold World.cell? at h;split at h
 case h_2=>cases h
 rename_i hb;split at h
 ·cases h
 rename_i hs;refine⟨by simpa using hs,?_⟩
 rcases Nat.lt_or_ge a.block W.heap.size with h' | h'
 ·exact h'
 ·rw [Array.getElem?_eq_none h'] at hb;cases hb
theorem iZ {F:Nat→Prop} {d:D} {vs:List Value}:bs W F [d] vs↔RepC W F d vs:=by
 rw [aw];constructor
 ·rintro⟨v1,v2,rfl,h1,h2⟩
  rw [aJ.1 h2,Ku];exact h1
 ·intro h
  exact⟨vs,[],by simp,h,aJ.2 rfl⟩
theorem CV {F:Nat→Prop} {sh:Sh} {L:List D} {vs:List Value} (hr:bs W F L vs) (hs:L.all D.single=true) (hl:L.length=sh.size):RepC W F (wrap sh.isSt L) vs∧(wrap sh.isSt L).width=sh.size:=by
 cases hb:sh.isSt
 ·have h1:=Sh.len_one hb
  match L,hl.trans h1 with
  | [d],_ =>
   simp only [wrap,JP,if_false,nth];refine⟨iZ.1 hr,?_⟩
   rw [h1];exact(dE (by simpa using hs)).1
 ·simp only [wrap,if_true]
  refine⟨by rw [RepC];exact⟨hr,hs⟩,?_⟩
  simpa [D.width,D.cells] using hl
mutual
theorem Sh.opened:∀(sh:Sh) (t:TypeId) (fuel:Nat) (cs:List Value) (x:DataW H × List MemPlace),sh.ok P t=true→DataW.trod enc P W 0 (fun _=>true) true fuel t cs=some x →
  ∃L,sh.Is L∧bs W (·<W.heap.size) L cs∧L.all D.single=true∧L.length=sh.size
 | .int k,t,fuel,cs,x,hok,h=>by
  simp only [Sh.ok] at hok;split at hok
  case h_2=>cases hok
  rename_i k' hu;have hk:=of_decide_eq_true hok;subst hk;obtain⟨n,rfl,-,hw⟩:=DataW.trod_int hu h;simp only [Lit.wf,JI,decide_eq_true_eq] at hw;refine⟨[.v (.int k' n)],⟨n,rfl,hw⟩,iZ.2 ?_,rfl,rfl⟩
  simp [RepC,V.flat]
 | .bool,t,fuel,cs,x,hok,h=>by
  simp only [Sh.ok] at hok;split at hok
  case h_2=>cases hok
  rename_i hu;obtain⟨n,rfl,-⟩:=DataW.trod_bool hu h;refine⟨[B n],⟨n,rfl⟩,iZ.2 ?_,rfl,rfl⟩
  simp [RepC,V.flat]
 | .str,t,fuel,cs,x,hok,h=>by
  simp only [Sh.ok] at hok;split at hok
  case h_2=>cases hok
  rename_i hu;obtain⟨s,rfl,-,hw⟩:=DataW.trod_string hu h;refine⟨[T s],⟨s,rfl,hw⟩,iZ.2 ?_,rfl,rfl⟩
  simp [RepC,V.flat]
 | .sl e,t,fuel,cs,x,hok,h=>by
  simp only [Sh.ok] at hok;split at hok
  case h_2=>cases hok
  rename_i u hu;simp only [JI,decide_eq_true_eq] at hok;obtain⟨⟨hok,hz⟩,hpos⟩:=hok;rcases DataW.trod_slice hu h with ⟨rfl,-⟩ | ⟨a,len,cap,elems,rest,n,rfl,rfl,-,-,hle,hcap,hlen,hel,-⟩
  ·refine⟨[.arr e.size []],⟨[],rfl,by simp,by simp⟩,iZ.2 ?_,rfl,rfl⟩
   rw [RepC];exact⟨none,0,[],rfl,JW _,aJ.2 rfl,by simp,by simp⟩
  ·have key:∀k,k≤len→∃ds us,ds.length=k∧us.length=k*e.size∧bs W (·<W.heap.size) ds us∧(∀d∈ds,d.width=e.size)∧(∀d∈ds,∃m,e.Is m∧d=wrap e.isSt m)∧∀i v,us[i]?=some v→W.cell? (a.add i)=some v:=by
    intro k;induction k with
    | zero=>exact fun _=>⟨[],[],rfl,by simp,aJ.2 rfl,by simp,by simp,by simp⟩
    | succ k ih =>
     intro hk;obtain⟨ds,us,h1,h2,h3,h4,h5,h6⟩:=ih (by omega);have hi:=hel k (by omega);rw [JV (by omega)] at hi;obtain⟨vs,hc,hd⟩:=Kt.1 hi;obtain⟨L,g1,g2,g3,g4⟩:=Sh.opened e u n vs _ hok hd;obtain⟨g5,g6⟩:=Fy hc;obtain⟨g7,g8⟩:=CV g2 g3 g4;rw [hz] at g5 g6;refine⟨ds++[wrap e.isSt L],us++vs,by simp [h1],by simp [h2,g5,Nat.succ_mul],(cC _ _ _).2 ⟨us,vs,rfl,h3,iZ.2 g7⟩,?_,?_,fun i v hv=>?_⟩
     ·intro d hd
      rcases Ke.1 hd with hd | hd
      ·exact h4 d hd
      ·simp at hd;subst hd;exact g8
     ·intro d hd
      rcases Ke.1 hd with hd | hd
      ·exact h5 d hd
      ·simp at hd;subst hd;exact⟨L,g1,rfl⟩
     ·rcases Nat.lt_or_ge i us.length with hlt | hge
      ·rw [Km hlt] at hv
       exact h6 i v hv
      ·rw [JZ hge] at hv
       have:=g6 _ v hv;rw [FZ,←h2] at this;rw [show us.length+(i - us.length)=i from by omega] at this;exact this
   obtain⟨ds,us,h1,h2,h3,h4,h5,h6⟩:=key len (JW _);refine⟨[.arr e.size ds],⟨ds,rfl,by omega,h5⟩,iZ.2 ?_,rfl,rfl⟩
   rw [RepC];refine⟨some a,cap,us,by rw [h1],by omega,h3,h4,fun hne=>?_⟩
   have hpl:0<us.length:=by
    rw [h2,←h1];exact Nat.mul_pos (List.length_pos_iff.2 hne) hpos
   have h0:=h6 0 _ (JV hpl);have ha0:a.add 0=a:=by simp [KG]
   rw [ha0] at h0;obtain⟨hsp,hbl⟩:=Dv h0;have ea:a=⟨a.block,a.off,none⟩:=by
    rw [←hsp]
   refine⟨a.block,a.off,by rw [←ea],hbl,fun i v hv=>?_⟩
   have:=h6 i v hv;unfold KG at this;split at this
   ·rename_i hi0
    subst hi0;rw [Nat.add_zero,←ea];exact this
   ·rw [←hsp]
    rw [hsp];exact this
 | .st l,t,fuel,cs,x,hok,h=>by
  simp only [Sh.ok] at hok;split at hok
  case h_2=>cases hok
  rename_i fs hu;simp only [JI,decide_eq_true_eq] at hok;obtain⟨xs,n,rfl,-,hlen,hxl,hf⟩:=DataW.trod_struct hu h;obtain⟨L,g1,g2,g3,g4⟩:=ShL.opened l 0 fs.toList n cs hok.1 (fun f hf'=>by
   obtain⟨i,hi,he⟩:=List.mem_iff_getElem.1 hf';have:=hf i f (by rw [←he];simp at hi ⊢);rw [JV (by simp at hi;omega)] at this;exact⟨_,this⟩)
  rw [Kx,←hok.2,←hlen,Ko] at g2;exact⟨L,g1,g2,g3,g4⟩
theorem ShL.opened:∀(l:ShL) (off:Nat) (fs:List Field) (fuel:Nat) (cs:List Value),l.ok P off fs=true→(∀f∈fs,∃x,DataW.trod enc P W 0 (fun _=>true) true fuel f.type ((cs.drop f.offset).take (P.cellsOf f.type))=some x) →
  ∃L,l.Is L∧bs W (·<W.heap.size) L ((cs.drop off).take l.size)∧L.all D.single=true∧L.length=l.size
 | .nil,off,[],fuel,cs,hok,h=>⟨[],rfl,by simp [ShL.size,aJ],rfl,rfl⟩
 | .nil,off,_::_,fuel,cs,hok,h=>by simp [ShL.ok] at hok
 | .cons a t,off,[],fuel,cs,hok,h=>by simp [ShL.ok] at hok
 | .cons a t,off,f::fs,fuel,cs,hok,h=>by
  simp only [ShL.ok,JI,decide_eq_true_eq] at hok;obtain⟨⟨⟨h1,h2⟩,h3⟩,h4⟩:=hok;obtain⟨x,hx⟩:=h f (by simp);obtain⟨L,g1,g2,g3,g4⟩:=Sh.opened a f.type fuel _ x h2 hx;obtain⟨M,k1,k2,k3,k4⟩:=ShL.opened t (off+a.size) fs fuel cs h4 (fun f hf=>h f (by simp [hf]));refine⟨L++M,⟨L,M,rfl,g1,k1⟩,(cC _ _ _).2 ⟨_,_,?_,g2,k2⟩,by simp [g3,k3],by simp [ShL.size,g4,k4]⟩
  rw [h1,h3,ShL.size,←List.drop_drop,←List.take_add]
end
def yF:D→Bool
 | .v _=>true
 | _=>false
theorem Gg {L:List D} (h:L.all yF=true):(D.agg L).isV=true:=by
 simp only [D.isV];refine Kp.2 fun d hd=>?_
 have:=Kp.1 h d hd;cases d<;>simp_all [yF]
mutual
theorem Sh.isV_of:∀(sh:Sh) (L:List D),sh.flat=true→sh.Is L→L.all yF=true
 | .int k,L,_,h=>by obtain⟨n,rfl,_⟩:=h;rfl
 | .bool,L,_,h=>by obtain⟨n,rfl⟩:=h;rfl
 | .str,L,_,h=>by obtain⟨n,rfl,_⟩:=h;rfl
 | .sl _,L,h,_=>by simp [Sh.flat] at h
 | .st l,L,h,hl=>ShL.isV_of l L (by simpa [Sh.flat] using h) hl
theorem ShL.isV_of:∀(sh:ShL) (L:List D),sh.flat=true→sh.Is L→L.all yF=true
 | .nil,L,_,h=>by cases h;rfl
 | .cons a t,L,h,hl=>by
  obtain⟨x,y,rfl,h1,h2⟩:=hl;simp only [ShL.flat,JI] at h;rw [List.all_append,Sh.isV_of a x h.1 h1,ShL.isV_of t y h.2 h2];rfl
end
def Sh.IsV (sh:Sh) (d:D):Prop:=∃m,sh.Is m∧d=wrap sh.isSt m
theorem Sh.arg {sh:Sh} {t:TypeId} {v:Value} {d:DataW H} {ps:List MemPlace} {base:Nat} (hok:sh.ok P t=true) (hv:Kf P W .any base t v) (h:DataW.Trod enc P W 0 (fun _=>true) true t v d ps) :
  ∃x,sh.IsV x∧aT W (·<W.heap.size) x v∧(sh.flat=true→x.isV=true):=by
 obtain⟨fuel,h⟩:=h;obtain⟨L,h1,h2,h3,h4⟩:=Sh.opened sh t fuel _ _ hok h;refine⟨_,⟨L,h1,rfl⟩,?_,fun hf=>?_⟩
 ·cases hb:sh.isSt
  ·have h1':=Sh.len_one hb
   have hone:v.cells.toList=[v]:=by
    cases sh<;>simp only [Sh.isSt,Bool.true_eq_false] at hb<;>simp only [Sh.ok] at hok<;>split at hok<;>rename_i hu
    ·obtain⟨n,rfl⟩:=okWide_int hu hv;rfl
    ·cases hok
    ·obtain⟨n,rfl⟩:=okWide_bool hu hv;rfl
    ·cases hok
    ·obtain⟨n,rfl⟩:=okWide_string hu hv;rfl
    ·cases hok
    ·obtain⟨_,_,_,rfl⟩:=okWide_slice hu hv;rfl
    ·cases hok
   match L,h4.trans h1' with
   | [e],_ =>
    simp only [wrap,JP,if_false,nth];have hs:e.single=true:=by simpa using h3
    rw [hone] at h2;exact(gB hs).2 (iZ.1 h2)
  ·simp only [wrap,if_true]
   have:∃cs,v = .agg cs:=by
    cases sh<;>simp only [Sh.isSt,JP] at hb;simp only [Sh.ok] at hok;split at hok
    case h_2=>cases hok
    rename_i hu;simp only [Kf,hu] at hv;obtain⟨cs,h,_⟩:=hv;exact⟨cs,h⟩
   obtain⟨cs,rfl⟩:=this;refine⟨cs.toList,by simp,?_⟩
   rw [RepC];exact⟨by simpa [Value.cells] using h2,h3⟩
 ·have:=Sh.isV_of sh L hf h1
  cases hb:sh.isSt
  ·match L,h4.trans (Sh.len_one hb) with
   | [e],_ =>
    simp only [wrap,JP,if_false,nth];cases e<;>simp [yF] at this;rfl
  ·simp only [wrap,if_true]
   exact Gg this
theorem HA {k:IntKind} {x:D} (h:(Sh.int k).IsV x):∃n,x = .v (.int k n)∧k.min≤n∧n≤k.max:=by
 obtain⟨_,⟨n,rfl,h⟩,rfl⟩:=h;exact⟨n,rfl,h⟩
theorem Iz {e:Sh} {x:D} (h:(Sh.sl e).IsV x):∃ds,x = .arr e.size ds∧ds.length≤maxLen∧∀d∈ds,e.IsV d:=by
 obtain⟨_,⟨n,rfl,h,h'⟩,rfl⟩:=h;exact⟨n,rfl,h,h'⟩
def tg (P:Program):List Sh→List TypeId→List Kd→Bool
 | [],[],[]=>true
 | sh::shs,t::ts,.dat lv::ks=>sh.ok P t&&(Nat.beq lv 2||(Nat.beq lv 0&&sh.flat))&&tg P shs ts ks
 | _,_,_=>false
def Ae:List Sh→List D→Prop
 | [],[]=>True
 | sh::shs,d::ds=>sh.IsV d∧Ae shs ds
 | _,_=>False
theorem GZ {a b:Sh} {ds:List D} (h:Ae [a,b] ds):∃x y,ds=[x,y]∧a.IsV x∧b.IsV y:=by
 match ds,h with
 | [x,y],⟨h1,h2,_⟩=>exact⟨x,y,rfl,h1,h2⟩
theorem BW {base:Nat}:∀(shs:List Sh) (ts:List TypeId) (ks:List Kd) (vs:List Value) (ds:List (DataW H)) (ps:List MemPlace) (i:Nat),tg P shs ts ks=true→Ka enc P W 0 (fun _=>true) true ts vs ds ps →
  (∀(j:Nat) t v,ts[j]?=some t→vs[j]?=some v→Kf P W .any base t v)→∃xs,Ae shs xs∧cM W (·<W.heap.size) (fun _=>none) i ks xs vs
 | [],[],[],[],_,_,_,_,_,_=>⟨[],trivial,trivial⟩
 | [],[],[],_::_,[],_,_,_,h,_=>h.elim
 | [],[],[],_::_,_::_,_,_,_,h,_=>h.elim
 | sh::shs,t::ts,k::ks,[],[],_,_,_,h,_=>h.elim
 | sh::shs,t::ts,k::ks,[],_::_,_,_,_,h,_=>h.elim
 | sh::shs,t::ts,k::ks,_::_,[],_,_,_,h,_=>h.elim
 | sh::shs,t::ts,k::ks,v::vs,d::ds,ps,i,hok,h,hv=>by
  cases k<;>simp only [tg,JP] at hok;rename_i lv;simp only [JI,Bool.or_eq_true] at hok;obtain⟨⟨hok1,hlv⟩,hok2⟩:=hok;obtain⟨p,q,h1,h2,rfl⟩:=h;obtain⟨x,g1,g2,g3⟩:=Sh.arg hok1 (hv 0 t v rfl rfl) h1;obtain⟨xs,k1,k2⟩:=BW shs ts ks vs ds q (i+1) hok2 h2 (fun j t v ht hv'=>hv (j+1) t v ht hv');refine⟨x::xs,⟨g1,k1⟩,.inr ?_,k2⟩
  rcases hlv with h' | ⟨h',hf⟩
  ·rw [aL] at h'
   subst h';exact g2
  ·exact lL (g3 hf) g2
 | [],[],_::_,_,_,_,_,hok,_,_=>by simp [tg] at hok
 | [],_::_,_,_,_,_,_,hok,_,_=>by simp [tg] at hok
 | _::_,[],_,_,_,_,_,hok,_,_=>by simp [tg] at hok
 | _::_,_::_,[],_,_,_,_,hok,_,_=>by simp [tg] at hok
theorem pK {W':World} (hl:laidOutB P=true):∀(ts:List TypeId) (vs:List Value) (ds:List (DataW H)) (ps:List MemPlace),(ts.all fun t=>P.readableRec t&&decide (t<P.types.size))=true →
  Ka enc P W 0 (fun _=>true) true ts vs ds ps→Below W.heap.size W W'→(∀x∈ps,x.block<W.heap.size)→∀sp:Nat→Bool,(∀x∈ps,sp x.block=true)→Ka enc P W' 0 sp true ts vs ds ps
 | [],[],[],_,_,h,_,_,_,_=>h
 | [],_::_,[],_,_,h,_,_,_,_=>h.elim
 | [],[],_::_,_,_,h,_,_,_,_=>h.elim
 | [],_::_,_::_,_,_,h,_,_,_,_=>h.elim
 | _::_,[],[],_,_,h,_,_,_,_=>h.elim
 | _::_,[],_::_,_,_,h,_,_,_,_=>h.elim
 | _::_,_::_,[],_,_,h,_,_,_,_=>h.elim
 | t::ts,v::vs,d::ds,ps,hr,h,hb,hlt,sp,hsp=>by
  obtain⟨p,q,h1,h2,rfl⟩:=h;simp only [List.all_cons,JI,decide_eq_true_eq] at hr;refine⟨p,q,?_,pK hl ts vs ds q hr.2 h2 hb (fun x hx=>hlt x (by simp [hx])) sp (fun x hx=>hsp x (by simp [hx])),rfl⟩
  exact WideElems.Trod_stays hl hr.1.1 hr.1.2 h1 (fun x hx=>hb.same (hlt x (by simp [hx]))) (fun x hx=>hsp x (by simp [hx]))
end
section
variable {H:Type} {enc:TypeId × Value→H} {P:Program}
theorem wt {f:Func} {s:ChangeSpec} {apart fresh handsOn again:Bool} {W W':World} {args:Array Value} {v:Value} {ds gs:List (DataW H)} {before pa pv:List MemPlace}
  (hW:DataW.Whole enc P f.params.toList s.vars apart W args.toList ds gs before)
  (hres:∀(b:Nat) (sp:Nat→Bool) (hd:Bool),Ka enc P W' b sp hd f.resultTypes.toList (v.resultList f.resultTypes.size) (s.fn H (ds++gs)).results [])
  (hargs:∀sp:Nat→Bool,(∀p∈before,sp p.block=true)→Ka enc P W' 0 sp true f.params.toList args.toList (s.fn H (ds++gs)).args pa)
  (hvars:∀sp:Nat→Bool,(∀p∈before,sp p.block=true)→DataW.TrodVars enc P W' sp s.vars (s.fn H (ds++gs)).vars pv)
  (hps:before=pa++pv) (hb:Below W.heap.size W W')
  (hok:∀(j:Nat) (t:TypeId) (r:Value),f.resultTypes[j]?=some t→(v.resultList f.resultTypes.size)[j]?=some r→Kf P W' .any 0 t r) :
  s.post enc P f apart fresh handsOn again W args v W':=by
 have hlt:∀p∈before,p.block<W.heap.size:=fun p hp=>hW.lt p hp
 have hold:∀p∈before,(fun b=>decide (b<W.heap.size)) p.block=true:=fun p hp=>by simpa using hlt p hp
 refine⟨ds,gs,before,[],pa,pv,hW,hres _ _ _,hargs _ hold,hvars _ hold,World.keptBut_mono (fun p hp=>⟨hp,?_⟩) (hb.frame (·∈before)),fun _=>?_⟩
 ·rw [hps,Ke] at hp
  exact Or.inr hp
 ·obtain⟨_,_,_,_,_,hz,hn⟩:=hW
  refine⟨hok,_,_,([]++pa)++pv,⟨[]++pa,pv,trodAll_append (hargs _ (fun _ _=>rfl)) (hres _ _ _),hvars _ (fun _ _=>rfl),rfl,?_,?_⟩,?_⟩
  ·intro b off hp
   have hin:MemPlace.cell b off∈before:=by rw [hps];simpa using hp
   rw [hb.frozen (hlt _ hin)];exact hz b off hin
  ·intro ha
   have:=hn ha;rw [hps] at this;simpa using this
  ·intro p hp _
   rw [hps];simpa using hp
theorem uA {G:List (Nat × (Obj→Prop))} {f:FuncId} {S:FS} (hm:aF G P f S) {fn:Func} (hf:P.funcs[f]?=some fn) (hname:(fn.name== "runtime.NumGoroutine")=false) (hb:fn.body.isSome=true) {ds rs us:List D} (hd:S.f ds=some (.ret rs us)) {args:Array Value} {w:World} {F:Nat→Prop} {ow:Nat→Option Nat}
  (hgl:gOk G w F) (ha:cM w F ow 0 S.pm ds args.toList) (hF:∀b,F b→b<w.heap.size∧ow b=none) (hO:∀b i,ow b=some i→b<w.heap.size) :
  Calls P f args w fun e w'=>∃v,e = .returned v∧∃F' R vs,v=iw vs∧CallPost S args rs us w F ow F' R vs w':=by
 obtain⟨b,hb⟩:=Kq.1 hb;have h1:¬fn.name= "runtime.NumGoroutine":=by simpa using hname
 have hrun:(callFunc f args).run P w = .ok (.enter f args) w:=by simp [callFunc,hf,h1,hb]
 have h2:=hm ds rs us hd args w F ow hgl ha hF hO {(default:Oper) with dst:=some 0} {tmps:=#[undef],defers:=[]} (fun a w'=>∃F' R vs,a.tmps.getD 0 undef=iw vs∧CallPost S args rs us w F ow F' R vs w') (fun _ _ _=>False) (fun v w' h=>by
  obtain⟨F',R,vs,rfl,h⟩:=h;exact⟨F',R,vs,by simp [KK],h⟩)
 rw [hrun,Kv] at h2;refine Ky h2 fun e w' he=>?_
 cases e with
 | returned v =>
  obtain⟨F',R,vs,h3,h4⟩:=he;exact⟨v,rfl,F',R,vs,by simpa [KK] using h3,h4⟩
 | panicked c=>exact he.elim
 | outgrown=>obtain⟨_,_,h⟩:=he;exact h.elim
theorem Fb {G:List (Nat × (Obj→Prop))} {f:FuncId} {S:FS} (hm:aF G P f S) {fn:Func} (hf:P.funcs[f]?=some fn) (hname:(fn.name== "runtime.NumGoroutine")=false) (hbd:fn.body.isSome=true) (shs:List Sh) {rt:TypeId}
  (hl:laidOutB P=true) (hsh:tg P shs fn.params.toList S.pm=true) (hrd:(fn.params.toList.all fun t=>P.readableRec t&&decide (t<P.types.size))=true)
  (hrm:S.rm=[.dat 0]) (hrt:fn.resultTypes=#[rt]) (hbool:P.underlying rt=some .bool)
  (hd:∀ds,Ae shs ds→S.f ds=some (.ret [B true] [])) {s:ChangeSpec} (hvars:s.vars=[])
  (hs:∀ds:List (DataW H),ds.length=fn.params.size→s.fn H (ds++[])={results:=[.lit (.bool true)],args:=ds})
  {W:World} {base:Nat} {args:Array Value} {ds gs:List (DataW H)} {before:List MemPlace}
  (hval:∀(j:Nat) t v,fn.params[j]?=some t→args[j]?=some v→Kf P W .any base t v) (hW:DataW.Whole enc P fn.params.toList s.vars false W args.toList ds gs before) (hgl:gOk G W fun b=>b<W.heap.size) {fresh handsOn again:Bool} :
  Calls P f args W fun e W'=>∃v,e = .returned v∧s.post enc P fn false fresh handsOn again W args v W':=by
 have hW':=hW;have hlt:∀p∈before,p.block<W.heap.size:=fun p hp=>hW.lt p hp
 obtain⟨p,q,hA,hV,rfl,hfz,hnd⟩:=hW;rw [hvars] at hV;have hgs:gs=[]∧q=[]:=by
  cases gs with
  | nil=>exact⟨rfl,hV⟩
  | cons _ _=>exact hV.elim
 obtain⟨rfl,rfl⟩:=hgs;obtain⟨xs,h1,h2⟩:=BW (base:=base) shs fn.params.toList S.pm args.toList ds p 0 hsh hA (fun j t v ht hv=>hval j t v (by simpa using ht) (by simpa using hv));refine Ky (uA hm hf hname hbd (hd xs h1) hgl h2 (fun b hb=>⟨hb,rfl⟩) (fun b i hi=>by cases hi)) fun e W' he=>?_
 obtain⟨v,rfl,F',R,vs,rfl,hp⟩:=he;refine⟨_,rfl,?_⟩
 have hlen:ds.length=fn.params.size:=by
  have:∀(ts:List TypeId) (vs:List Value) (ds:List (DataW H)) (ps:List MemPlace),Ka enc P W 0 (fun _=>true) true ts vs ds ps→ds.length=ts.length:=by
   intro ts;induction ts with
   | nil =>
    intro vs ds ps h;cases ds with
    | nil=>rfl
    | cons _ _=>cases vs<;>exact h.elim
   | cons t ts ih =>
    intro vs ds ps h;cases vs with
    | nil=>exact h.elim
    | cons v vs =>
     cases ds with
     | nil=>exact h.elim
     | cons d ds =>
      obtain⟨_,_,_,h2,_⟩:=h;simp [ih _ _ _ h2]
  simpa using this _ _ _ _ hA
 have hB:Below W.heap.size W W':=⟨hp.os,hp.tape,hp.output,hp.size,fun b hb=>hp.keep b hb rfl⟩
 have hres:iw vs = .bool true:=by
  have hl1:=hp.len;rw [hrm] at hl1
  match vs,hl1 with
  | [y],_ =>
   have h0:=hp.res 0;rw [hrm] at h0;simp only [an,nth,KB] at h0;rcases h0 with h0 | h0
   ·cases h0
   ·exact(eT.1 h0).1
 rw [hres];have hsd:=hs ds hlen;refine wt (pa:=p) (pv:=[]) hW' (fun b sp hd'=>?_) (fun sp hsp=>?_) (fun sp _=>?_) rfl hB ?_
 ·rw [hsd,hrt]
  exact trodAll_mk1 (shut_bool hbool true)
 ·rw [hsd]
  exact pK hl _ _ _ _ hrd hA hB (fun x hx=>hlt x (by simp [hx])) sp (fun x hx=>hsp x (by simp [hx]))
 ·rw [hsd,hvars]
  rfl
 ·exact ok_one hrt rfl (okWide_bool_mk hbool true)
end
end Go.V

namespace Go.Proofs.YtkcojipciiakdaaDoor
open Go Go.V Go.RowKit Go.WideShapes Go.ChangeShapes
set_option maxRecDepth 100000
theorem own:ownKnob Tryd.prog.godebug=none:=by kernel_rfl
theorem GG:laidOutB Tryd.prog=true:=by kernel_rfl
theorem BB {w:World} {g:Nat} {p:Obj→Prop} (h:∃o,w.heap[g]?=some o∧p o):g<w.heap.size∧∃o,w.heap[g]?=some o∧p o:=by
 obtain⟨o,ho,hp⟩:=h;exact⟨(JO.1 ho).1,o,ho,hp⟩
theorem Hu {W:World} (hsh:W.ShapedOpen Tryd.prog):gOk gl0 W fun b=>b<W.heap.size:=by
 intro p hp;cases hp
theorem Jl:Tryd.prog.globalNamed "internal/strconv.uint64pow10"=some 0:=by kernel_rfl
theorem HN {W:World} {rest:List (String × DataW Unit)} (h:laidMet Tryd.prog (("internal/strconv.uint64pow10",Rows.laid_internal_strconv_uint64pow10)::rest) W):Lib.TabIs Tryd.prog W "internal/strconv.uint64pow10" .u64 Lib.pow10Tab :=
 Lib.tabIs_of_head (rest:=rest) Jl (by kernel_rfl) Tryd.underlying115 Tryd.underlying62 (by kernel_rfl) (by kernel_rfl) h
theorem HG {W:World} (hsh:W.ShapedOpen Tryd.prog) (hp:Lib.TabIs Tryd.prog W "internal/strconv.uint64pow10" .u64 Lib.pow10Tab):gOk gl1 W fun b=>b<W.heap.size:=by
 intro p hq;rcases Ke.1 hq with hq | hq
 ·exact Hu hsh p hq
 ·simp only [List.mem_cons,List.not_mem_nil,or_false] at hq
  subst hq;exact BB (BJ Jl hp)
end Go.Proofs.YtkcojipciiakdaaDoor

namespace Go.V
open Go.RowKit
set_option maxRecDepth 100000
section
variable {P:Program} {c:Cx} {B:Nat} {X:Nat→Prop} {w0:World} {F0 F:Nat→Prop} {O:Nat→Option (Nat × Nat)} {a:Act} {w:World} {δ:List D} {fz:List Nat}
end
end Go.V

namespace Go.V
open Go.RowKit
set_option maxRecDepth 100000
section
variable {P:Program} {c:Cx} {B:Nat} {X:Nat→Prop} {w0:World} {F0 F:Nat→Prop} {O:Nat→Option (Nat × Nat)} {a:Act} {w:World} {δ:List D} {fz:List Nat}
end
end Go.V

namespace Go.V
set_option maxRecDepth 100000
section
variable {k:IntKind} {a b:Int} {bl:Bool} {eq:List Nat}
@[simp] theorem fG:bin .add bl eq (.v (.int k a)) (.v (.int k b))=some (.v (.int k (k.wrap (a+b)))):=by simp [bin,gf]
@[simp] theorem Cr:bin .sub bl eq (.v (.int k a)) (.v (.int k b))=some (.v (.int k (k.wrap (a - b)))):=by simp [bin,gf]
@[simp] theorem Ch:bin .mul bl eq (.v (.int k a)) (.v (.int k b))=some (.v (.int k (k.wrap (a*b)))):=by simp [bin,gf]
@[simp] theorem Cz:bin .quo bl eq (.v (.int k a)) (.v (.int k b))=if b=0 then none else some (.v (.int k (k.wrap (a.tdiv b)))):=by simp [bin,gf]
@[simp] theorem FU:bin .rem bl eq (.v (.int k a)) (.v (.int k b))=if b=0 then none else some (.v (.int k (a.tmod b))):=by simp [bin,gf]
@[simp] theorem dU:bin .lss bl eq (.v (.int k a)) (.v (.int k b))=some (B (decide (a<b))):=by simp [bin,gf]
@[simp] theorem Ct:bin .leq bl eq (.v (.int k a)) (.v (.int k b))=some (B (decide (a≤b))):=by simp [bin,gf]
@[simp] theorem og:bin .gtr bl eq (.v (.int k a)) (.v (.int k b))=some (B (decide (b<a))):=by simp [bin,gf]
@[simp] theorem Cv:bin .geq bl eq (.v (.int k a)) (.v (.int k b))=some (B (decide (b≤a))):=by simp [bin,gf]
@[simp] theorem mf:bin .eql bl eq (.v (.int k a)) (.v (.int k b))=some (B (decide (a=b))):=by
 have:(a==b)=decide (a=b):=rfl;simp [bin,gf,this]
@[simp] theorem iK:bin .neq bl eq (.v (.int k a)) (.v (.int k b))=some (B (!decide (a=b))):=by
 have:(a != b) = !decide (a=b):=rfl;simp [bin,gf,this]
@[simp] theorem ID {a b:Bool}:bin .eql true eq (B a) (B b)=some (B (a==b)):=by simp [bin]
@[simp] theorem vO {a b:Bool}:bin .neq true eq (B a) (B b)=some (B !(a==b)):=by simp [bin]
@[simp] theorem fW {a b:ByteArray}:bin .add bl eq (T a) (T b)=if a.size+b.size≤1152921504606846976 then some (T (a++b)) else none:=by simp [bin,qb]
@[simp] theorem Fg {a b:ByteArray}:bin .eql bl eq (T a) (T b)=some (B (decide (a=b))):=by
 have:(a.toList==b.toList)=decide (a=b):=by
  rw [Bool.eq_iff_iff,beq_iff_eq,decide_eq_true_eq];constructor
  ·intro h
   have h1:∀s:ByteArray,s.toList=s.data.toList:=fun s=>by simp [ByteArray.toList_eq]
   rw [h1,h1] at h;cases a;cases b;simp at h;simp [h]
  ·rintro rfl;rfl
 simp [bin,qb,this]
@[simp] theorem AX {a b:ByteArray}:bin .neq bl eq (T a) (T b)=some (B (!decide (a=b))):=by
 have h:=Fg (a:=a) (b:=b) (bl:=bl) (eq:=eq);simp only [bin,qb,JL,D.v.injEq,Value.bool.injEq] at h ⊢;rw [h]
@[simp] theorem fj {b:Bool}:un .not (B b)=some (B !b):=rfl
@[simp] theorem Jv:un .neg (.v (.int k a))=some (.v (.int k (k.wrap (-a)))):=by simp [un]
theorem ax (h1 : -9223372036854775808≤a) (h2:a<9223372036854775808):JJ.wrap a=a:=by
 simp [IntKind.wrap,IntKind.bits,IntKind.signed];split<;>omega
end
@[simp] theorem cF {c:Bool} {t e:Option Out}:ifD (B c) t e=if c=true then t else e:=by cases c<;>rfl
@[simp] theorem zE {c:Bool} {t e:Option Out}:ifN c t e=if c=true then t else e:=by cases c<;>rfl
@[simp] theorem EM {v:D} {c:Bool} {r:Option D}:ae v (B c) true r=if c=true then r else some v:=by cases c<;>rfl
@[simp] theorem ip {v:D} {c:Bool} {r:Option D}:ae v (B c) false r=if c=true then some v else r:=by cases c<;>rfl
@[simp] theorem Fo {v:D} {p:Bool} {l:List D} {r:Option D}:ae v (.tup l) p r=some v:=rfl
@[simp] theorem CA {p:Bool} {l:List D} {r:Option Out} {alt:List D} {k:List D→Option Out}:dF (.tup l) p r alt k=k alt:=rfl
def HY (r:Option Out) (k:List D→Option Out):Option Out :=
 match r with
 | some (.nrm l)=>k l
 | _=>none
@[simp] theorem jO {l:List D} {k:List D→Option Out}:HY (some (.nrm l)) k=k l:=rfl
@[simp] theorem CB {c:Bool} {r:Option Out} {alt:List D} {k:List D→Option Out}:dF (B c) true r alt k=if c=true then HY r k else k alt:=by cases c<;>rfl
@[simp] theorem oD {c:Bool} {r:Option Out} {alt:List D} {k:List D→Option Out}:dF (B c) false r alt k=if c=true then k alt else HY r k:=by cases c<;>rfl
@[simp] theorem fF {c:Bool} {a b:D}:aR (B c) a b=some (if c=true then a else b):=by cases c<;>rfl
@[simp] theorem aA {rs us:List D} {k:List D→List D→Option Out}:ao (some (.ret rs us)) k=k rs us:=rfl
@[simp] theorem nJ {i:Nat} {s:List D} {x:Nat→List D→Option Out} {r:List D→List D→Option Out}:dw (.ext i s) x r=x i s:=rfl
@[simp] theorem II {a b:List D} {x:Nat→List D→Option Out} {r:List D→List D→Option Out}:dw (.ret a b) x r=r a b:=rfl
@[simp] theorem Jo {v:Value} {x:D}:aa (.v v) x=some x:=rfl
@[simp] theorem xg {z:Nat} {l:List D} {x:D}:aa (.arr z l) x=some x:=rfl
@[simp] theorem aI {l:List D} {x:D}:aa (.agg l) x=some x:=rfl
@[simp] theorem oC {i f:Nat} {x:D}:aa (.ref i f) x=some x:=rfl
@[simp] theorem Ix {l:List D} {x:D}:aa (.tup l) x=some x:=rfl
@[simp] theorem bw {z:Nat} {l:List D}:lenD false (.arr z l)=some (I l.length):=rfl
@[simp] theorem lF {s:ByteArray}:lenD true (T s)=some (I s.size):=rfl
@[simp] theorem aG {a:D} {l:List D}:sl (a::l) 0=a:=rfl
@[simp] theorem fe {a:D} {l:List D} {n:Nat}:sl (a::l) (n+1)=sl l n:=rfl
@[simp] theorem IF {ag:Bool} {n off:Nat} {l:List D}:bF ag n off (.agg l)=ak ag n (l.drop off):=rfl
@[simp] theorem ia {ag:Bool} {n:Nat} {l:List D}:ldD ag n (.ptr l)=ak ag n l:=rfl
@[simp] theorem rE {off:Nat} {l:List D}:sE off (.ptr l)=some (.ptr (l.drop off)):=rfl
@[simp] theorem Jq {n:Nat} {l:List D}:ak true n l=if n≤l.length then some (.agg (l.take n)) else none:=rfl
@[simp] theorem gb {n:Nat} {a:D} {l:List D}:ak false n (a::l)=some a:=rfl
@[simp] theorem gW {l:List D} {i f:Nat}:atD (.agg l) (.ref i f)=some (l.drop f):=rfl
@[simp] theorem Jp {z:Nat} {l:List D} {i f:Nat}:atD (.arr z l) (.ref i f)=(l[i]?).map fun d=>d.cells.drop f:=rfl
@[simp] theorem Ip {off i f:Nat}:cQ off (.ref i f)=some (.ref i (f+off)):=rfl
@[simp] theorem xD {z:Nat} {l:List D} {k:IntKind} {i:Nat}:bm z (.arr z l) (.v (.int k (i:Int)))=(l[i]?).map D.cells:=by simp [bm]
theorem CR {z:Nat} {l:List D} {k:IntKind} {n:Int} (h:0≤n):bm z (.arr z l) (.v (.int k n))=(l[n.toNat]?).map D.cells:=by simp [bm,h]
@[simp] theorem IX {z:Nat} {l:List D} {k:IntKind} {i:Nat}:tV z (.arr z l) (.v (.int k (i:Int)))=if i<l.length then some (.ref i 0) else none:=by simp [tV]
@[simp] theorem Hl {l:List D}:(D.agg l).cells=l:=rfl
@[simp] theorem Iv {v:Value}:(D.v v).cells=[.v v]:=rfl
@[simp] theorem Hk {z:Nat} {l:List D}:(D.arr z l).cells=[.arr z l]:=rfl
@[simp] theorem lS {v:Value}:aV (.v v)=some (.v v):=rfl
@[simp] theorem IE {l:List D}:aV (.agg l)=if l.all yF=true then some (.agg l) else none:=by
 have:(D.agg l).isV=l.all yF:=by
  simp only [D.isV];congr 1
 simp [aV,this]
@[simp] theorem Jx {v:Value}:yF (.v v)=true:=rfl
@[simp] theorem Jb {z:Nat} {l:List D}:yF (.arr z l)=false:=rfl
@[simp] theorem IA {v:Value}:(D.v v).single=true:=rfl
@[simp] theorem HQ {z:Nat} {l:List D}:(D.arr z l).single=true:=rfl
@[simp] theorem Iy {l:List D}:(D.agg l).width=l.length:=rfl
@[simp] theorem Jm {v:Value}:(D.v v).width=1:=rfl
@[simp] theorem Iu {z:Nat} {l:List D}:(D.arr z l).width=1:=rfl
@[simp] theorem Jr {n:Nat} {x:D}:fy n x=if x.cells.length=n∧x.cells.all D.single=true then some (.agg x.cells) else none:=rfl
@[simp] theorem Jn {n i f:Nat} {l:List D} {x:D}:stD n (.agg l) (.ref i f) x=if x.cells.length=n∧f+n≤l.length∧x.cells.all D.single=true then some (.agg (bO l f x.cells)) else none:=rfl
@[simp] theorem Ht {l:List D} {f:Nat} {vs:List D}:bO l f vs=l.take f++vs++l.drop (f+vs.length):=rfl
@[simp] theorem Iw {l:List D} {i:Nat}:bU (.tup l) i=match l[i]? with
  | some .bad=>none
  | some (.tup _)=>none
  | r=>r:=rfl
@[simp] theorem Ie {l:List D} {i:Nat}:qh (.tup l) i = .tup (l.set i .bad):=rfl
@[simp] theorem gd {x:D}:cY (.ref 0 0) x=some x:=rfl
@[simp] theorem ew {z eb:Nat} {l m:List D}:iq z eb (.arr z l) (.arr z m)=if (l.length+m.length)*eb≤140737488355328∧l.length+m.length≤1152921504606846976 then some (.arr z (l++m)) else none:=by simp [iq]
@[simp] theorem Ic {z:Nat} {l:List D} {k:IntKind} {i:Nat}:bm z (.arr z l) (.v (.int k ((i:Int)+1)))=(l[i+1]?).map D.cells:=xD (i:=i+1)
@[simp] theorem Io {z:Nat} {l:List D} {k:IntKind}:bm z (.arr z l) (.v (.int k 0))=(l[0]?).map D.cells:=xD (i:=0)
@[simp] theorem IP {z eb:Nat} {x:D} {k k':IntKind} {n m:Nat}:Ga z eb x (.v (.int k (n:Int))) (.v (.int k' (m:Int)))=if n≤m∧m*eb≤140737488355328∧m≤140737488355328 then some (.arr z (KL n x)) else none:=by
 have h:((n:Int)≤m∧(m:Int)*(eb:Int)≤140737488355328∧(m:Int)≤140737488355328)↔(n≤m∧m*eb≤140737488355328∧m≤140737488355328):=by
  rw [←Int.natCast_mul];omega
 simp only [Ga,Int.natCast_nonneg,true_and,h,KE]
def Hn {β:Type} (f:β→D) (z:D) (l:List β) (i:Nat):List D:=(l.take i).map f++KL (l.length - i) z
section
variable {β:Type} {f:β→D} {z:D} {l:List β} {i:Nat}
@[simp] theorem GY (h:i≤l.length):(Hn f z l i).length=l.length:=by simp [Hn];omega
end
theorem EO {z i f:Nat} {L c:List D} {v:Value} (h:L[i]?=some (.agg c)) (hf:f<c.length):stD 1 (.arr z L) (.ref i f) (.v v)=some (.arr z (L.set i (.agg (bO c f [.v v])))):=by
 have h2:(D.v v).cells=[.v v]:=rfl;have h3:f+1≤c.length:=hf;simp [stD,h,h2,h3,D.ofCells]
def Hr {β:Type} (g:Nat→D) (f:β→D) (l:List β) (i:Nat):List D:=(List.range i).map g++(l.drop i).map f
section
variable {β:Type} {g:Nat→D} {f:β→D} {l:List β} {i:Nat}
@[simp] theorem FO (h:i≤l.length):(Hr g f l i).length=l.length:=by simp [Hr];omega
end
theorem il {z:Nat}:bj z []=some (.arr z []):=rfl
@[simp] theorem kb {β:Type} {z:Nat} {l:List β} {f:β→D} (h:∀x,(f x).isV=true):jU (.arr z (l.map f))=some (.arr z (l.map f)):=by
 have:(l.map f).all D.isV=true:=by simp [h]
 simp only [jU,this,if_true]
theorem BQ {z i j:Nat} {l:List D} {k k':IntKind} (h1:i≤j) (h2:j≤l.length):hD false z (.arr z l) (.v (.int k (i:Int))) (.v (.int k' (j:Int)))=some (.arr z ((l.take j).drop i)):=by
 simp only [hD,KE,true_and];rw [if_pos];omega
@[simp] theorem JH {p:Prop} [Decidable p] {a b:Bool}:(if p then D.v (.bool a) else D.v (.bool b))=D.v (.bool (if p then a else b)):=by split<;>rfl
theorem sJ {body:List D→Option Out}:∀(n:Nat) (s:List D) (o:Out),iter body n s=some o→∀m,n≤m→iter body m s=some o
 | 0,_,_,h,_,_=>by simp [iter] at h
 | n+1,s,o,h,m,hm=>by
  obtain⟨m,rfl⟩:∃q,m=q+1:=⟨m - 1,by omega⟩
  simp only [iter] at h ⊢;split at h
  ·rename_i s' hb
   exact sJ n s' o h m (by omega)
  ·exact h
theorem FC {body:List D→Option Out} {s:List D} {o:Out} (n:Nat) (h:iter body n s=some o):bq body s=some o:=by
 have hex:∃n,(iter body n s).isSome=true:=⟨n,by rw [h];rfl⟩
 unfold bq;rw [dif_pos hex];obtain⟨o',ho⟩:=Kq.1 (Classical.choose_spec hex);rw [ho];have h1:=sJ _ _ _ ho (max n (Kr hex)) (by omega);have h2:=sJ _ _ _ h (max n (Kr hex)) (by omega);rw [h1] at h2;exact h2
inductive Runs (body:List D→Option Out):List D→Out→Prop where
 | ext {s:List D} {i:Nat} {δ:List D}:body s=some (.ext i δ)→Runs body s (.ext i δ)
 | ret {s:List D} {rs us:List D}:body s=some (.ret rs us)→Runs body s (.ret rs us)
 | nrm {s s':List D} {o:Out}:body s=some (.nrm s')→Runs body s' o→Runs body s o
theorem Runs.iter {body:List D→Option Out} {s:List D} {o:Out} (h:Runs body s o):∃n,V.iter body n s=some o:=by
 induction h with
 | ext h=>exact⟨1,by simp [V.iter,h]⟩
 | ret h=>exact⟨1,by simp [V.iter,h]⟩
 | nrm h _ ih =>
  obtain⟨n,hn⟩:=ih;exact⟨n+1,by simp [V.iter,h,hn]⟩
theorem Runs.loop {body:List D→Option Out} {s:List D} {o:Out} (h:Runs body s o):bq body s=some o:=by
 obtain⟨n,hn⟩:=h.iter;exact FC n hn
def goL {α β:Type} (g:Nat→β→α→α ⊕ Out) (fin:α→Out):Nat→List β→α→Out
 | _,[],a=>fin a
 | i,x::l,a=>match g i x a with
  | .inl a'=>goL g fin (i+1) l a'
  | .inr o=>o
def Out.ends:Out→Bool
 | .nrm _=>false
 | _=>true
theorem Runs.one {body:List D→Option Out} {s:List D} {o:Out} (h:body s=some o) (ho:o.ends=true):Runs body s o:=by
 cases o with
 | nrm _=>simp [Out.ends] at ho
 | ext _ _=>exact .ext h
 | ret _ _=>exact .ret h
theorem Runs.list {α β:Type} {body:List D→Option Out} (l:List β) (st:Nat→α→List D) (Inv:Nat→α→Prop) (g:Nat→β→α→α ⊕ Out) (fin:α→Out)
  (hs:∀i x a,l[i]?=some x→Inv i a→match g i x a with
   | .inl a'=>body (st i a)=some (.nrm (st (i+1) a'))∧Inv (i+1) a'
   | .inr o=>body (st i a)=some o∧o.ends=true)
  (he:∀a,Inv l.length a→body (st l.length a)=some (fin a)∧(fin a).ends=true) (a:α) (h0:Inv 0 a):Runs body (st 0 a) (goL g fin 0 l a):=by
 have key:∀(n i:Nat) (a:α),i+n=l.length→Inv i a→Runs body (st i a) (goL g fin i (l.drop i) a):=by
  intro n;induction n with
  | zero =>
   intro i a hi hI;have:i=l.length:=by omega
   subst this;rw [List.drop_length];exact Runs.one (he a hI).1 (he a hI).2
  | succ n ih =>
   intro i a hi hI;have hlt:i<l.length:=by omega
   rw [List.drop_eq_getElem_cons hlt];have h:=hs i l[i] a (JV hlt) hI;simp only [goL];split at h
   ·exact .nrm h.1 (ih (i+1) _ (by omega) h.2)
   ·exact Runs.one h.1 h.2
 simpa using key l.length 0 a (by omega) h0
theorem oG {α β:Type} {body:List D→Option Out} (l:List β) (st:Nat→α→List D) (Inv:Nat→α→Prop) (g:Nat→β→α→α ⊕ Out) (fin:α→Out)
  (hs:∀i x a,l[i]?=some x→Inv i a→match g i x a with
   | .inl a'=>body (st i a)=some (.nrm (st (i+1) a'))∧Inv (i+1) a'
   | .inr o=>body (st i a)=some o∧o.ends=true)
  (he:∀a,Inv l.length a→body (st l.length a)=some (fin a)∧(fin a).ends=true) (a:α) (h0:Inv 0 a) {s0:List D} (h:s0=st 0 a):bq body s0=some (goL g fin 0 l a):=by
 rw [h];exact(Runs.list l st Inv g fin hs he a h0).loop
theorem du {body:List D→Option Out} (n:Nat) (st:Nat→List D) (o:Out) (hs:∀i,i<n→body (st i)=some (.nrm (st (i+1)))) (he:body (st n)=some o) (ho:o.ends=true) {s0:List D} (h:s0=st 0):bq body s0=some o:=by
 rw [h];have key:∀(m i:Nat),i+m=n→Runs body (st i) o:=by
  intro m;induction m with
  | zero =>
   intro i hi;have:i=n:=by omega
   subst this;exact Runs.one he ho
  | succ m ih=>exact fun i hi=>.nrm (hs i (by omega)) (ih (i+1) (by omega))
 exact(key n 0 (by omega)).loop
def cW {β:Type} (p:Nat→β→Bool):Nat→List β→Bool
 | _,[]=>true
 | i,x::l=>p i x&&cW p (i+1) l
theorem gP {β:Type} {body:List D→Option Out} (l:List β) (st:Nat→List D) (p:Nat→β→Bool) (o1 o2:Out) (hs:∀(i:Nat) (hi:i<l.length),body (st i)=some (if p i l[i]=true then .nrm (st (i+1)) else o1)) (he:body (st l.length)=some o2)
  (h1:o1.ends=true) (h2:o2.ends=true) {s0:List D} (h:s0=st 0):bq body s0=some (if cW p 0 l=true then o2 else o1):=by
 have e:∀(m:List β) (i:Nat),goL (fun i x (_:Unit)=>if p i x=true then .inl () else .inr o1) (fun _=>o2) i m ()=if cW p i m=true then o2 else o1:=by
  intro m;induction m with
  | nil=>intro i;simp [goL,cW]
  | cons x m ih =>
   intro i;simp only [goL,cW];by_cases hp:p i x=true
   ·simp [hp,ih]
   ·simp [hp]
 rw [←e];refine oG l (fun i _=>st i) (fun _ _=>True) _ _ (fun i x a hx _=>?_) (fun _ _=>⟨he,h2⟩) () trivial h
 have hi:i<l.length:=(JK.1 hx).1;have hxe:l[i]=x:=(JK.1 hx).2;have:=hs i hi;rw [hxe] at this;by_cases hp:p i x=true
 ·simpa [hp] using this
 ·simpa [hp,h1] using this
def vx {α β:Type} (f:Nat→α→β→α):Nat→List β→α→α
 | _,[],a=>a
 | i,x::l,a=>vx f (i+1) l (f i a x)
theorem Bw {α β:Type} {body:List D→Option Out} (l:List β) (st:Nat→α→List D) (Inv:Nat→α→Prop) (f:Nat→α→β→α) (fin:α→Out) (a:α) (hs:∀(i:Nat) (a:α) (hi:i<l.length),Inv i a→body (st i a)=some (.nrm (st (i+1) (f i a l[i])))∧Inv (i+1) (f i a l[i]))
  (he:∀a,Inv l.length a→body (st l.length a)=some (fin a)) (h1:∀a,(fin a).ends=true) (h0:Inv 0 a) {s0:List D} (h:s0=st 0 a):bq body s0=some (fin (vx f 0 l a)):=by
 have e:∀(m:List β) (i:Nat) (a:α),goL (fun i x a=>.inl (f i a x)) fin i m a=fin (vx f i m a):=by
  intro m;induction m with
  | nil=>intro i a;rfl
  | cons x m ih=>intro i a;simp only [goL,vx];exact ih (i+1) (f i a x)
 rw [←e l 0 a];refine oG l st Inv (fun i x a=>.inl (f i a x)) _ (fun i x a hx hI=>?_) (fun a hI=>⟨he a hI,h1 a⟩) a h0 h
 have hi:i<l.length:=(JK.1 hx).1;have hxe:l[i]=x:=(JK.1 hx).2;rw [←hxe];exact hs i a hi hI
theorem aO {body:List D→Option Out} {s0:List D} {K:Out→Option Out} {r:Option Out} (o:Out) (h:bq body s0=some o) (hk:K o=r):(bq body s0).bind K=r:=by
 rw [h];exact hk
theorem Gb {α:Type} {body:List D→Option Out} (st:α→List D) (Inv:α→Prop) (μ:α→Nat) (Q:α→Out→Prop)
  (hs:∀a,Inv a→(∃a',body (st a)=some (.nrm (st a'))∧Inv a'∧μ a'<μ a∧∀o,Q a' o→Q a o)∨∃o,body (st a)=some o∧o.ends=true∧Q a o) (a:α) (h:Inv a) {s0:List D} (h0:s0=st a):∃o,bq body s0=some o∧Q a o:=by
 rw [h0];have key:∀(n:Nat) (a:α),μ a<n→Inv a→∃o,Runs body (st a) o∧Q a o:=by
  intro n;induction n with
  | zero=>exact fun a h=>by omega
  | succ n ih =>
   intro a hn hI;rcases hs a hI with ⟨a',h1,h2,h3,h4⟩ | ⟨o,h1,h2,h3⟩
   ·obtain⟨o,h5,h6⟩:=ih a' (by omega) h2
    exact⟨o,.nrm h1 h5,h4 o h6⟩
   ·exact⟨o,Runs.one h1 h2,h3⟩
 obtain⟨o,h1,h2⟩:=key (μ a+1) a (by omega) h;exact⟨o,h1.loop,h2⟩
theorem fx {α:Type} {body:List D→Option Out} {K:Out→Option Out} (R:Option Out→Prop) (st:α→List D) (Inv:α→Prop) (μ:α→Nat) (Q:Out→Prop)
  (hs:∀a,Inv a→(∃a',body (st a)=some (.nrm (st a'))∧Inv a'∧μ a'<μ a)∨∃o,body (st a)=some o∧o.ends=true∧Q o) (a:α) (h:Inv a) {s0:List D} (h0:s0=st a) (hk:∀o,Q o→R (K o)):R ((bq body s0).bind K):=by
 obtain⟨o,h1,h2⟩:=Gb st Inv μ (fun _ o=>Q o) (fun a ha=>by
  rcases hs a ha with ⟨a',g1,g2,g3⟩ | h
  ·exact .inl ⟨a',g1,g2,g3,fun _ h=>h⟩
  ·exact .inr h) a h h0
 rw [h1];exact hk o h2
theorem wW:(type_of% @aG)∧(type_of% @fe)∧(type_of% @aI)∧(type_of% @oC)∧(type_of% @xg)∧(type_of% @gd)∧(∀{α β:Type} (a:α) (f:α→Option β),(some a).bind f=f a)∧(∀{α β:Type} (a:α) (f:α→β),(some a).map f=some (f a))∧(type_of% @aA)∧(type_of% @EM)∧(type_of% @ip)∧(type_of% @Fo)∧(type_of% @CB)∧(type_of% @oD)∧(type_of% @CA)∧(type_of% @jO)∧(type_of% @fF)∧(type_of% @cF)∧(type_of% @zE)∧(∀{α:Type} {_h:Decidable True} (t e:α),(if True then t else e)=t)∧(∀{α:Type} {_h:Decidable False} (t e:α),(if False then t else e)=e)∧(type_of% @JP)∧(type_of% @fj)∧(type_of% @Bool.not_true)∧(type_of% @KM)∧(type_of% @decide_true)∧(type_of% @decide_false)∧(type_of% @and_self)∧(type_of% @nJ)∧(type_of% @Nat.beq_refl)∧(type_of% @dU)∧(type_of% @og)∧(type_of% @Ct)∧(type_of% @Cv)∧(type_of% @mf)∧(type_of% @iK)∧(type_of% @fG)∧(type_of% @Cr)∧(type_of% @Ch)∧(type_of% @bw)∧(type_of% @lF)∧(∀{α β:Type} {l:List α} (f:α→β),(l.map f).length=l.length)∧(type_of% @ia)∧(type_of% @gb)∧(type_of% @lS)∧(type_of% @rE)∧(∀{α:Type} {l:List α},l.drop 0=l)∧(∀{α:Type} {a:α} {l:List α} {i:Nat},(a::l).drop (i+1)=l.drop i)∧(type_of% @gW)∧(type_of% @il) :=
 ⟨@aG,⟨@fe,⟨@aI,⟨@oC,⟨@xg,⟨@gd,⟨@JU,⟨@Option.map_some,⟨@aA,⟨@EM,⟨@ip,⟨@Fo,⟨@CB,⟨@oD,⟨@CA,⟨@jO,⟨@fF,⟨@cF,⟨@zE,⟨@if_true,⟨@if_false,⟨@JP,⟨@fj,⟨@Bool.not_true,⟨@KM,⟨@decide_true,⟨@decide_false,⟨@and_self,⟨@nJ,⟨@Nat.beq_refl,⟨@dU,⟨@og,⟨@Ct,⟨@Cv,⟨@mf,⟨@iK,⟨@fG,⟨@Cr,⟨@Ch,⟨@bw,⟨@lF,⟨@JN,⟨@ia,⟨@gb,⟨@lS,⟨@rE,⟨@Kx,⟨@List.drop_succ_cons,⟨@gW,@il⟩⟩⟩⟩⟩⟩⟩⟩⟩⟩⟩⟩⟩⟩⟩⟩⟩⟩⟩⟩⟩⟩⟩⟩⟩⟩⟩⟩⟩⟩⟩⟩⟩⟩⟩⟩⟩⟩⟩⟩⟩⟩⟩⟩⟩⟩⟩⟩⟩
end Go.V

namespace Go.V
open Go.RowKit
set_option maxRecDepth 100000
def An (f:(List D→Option Out)→Option Out) (k:List D→Option Out):Option Out:=f k
@[reducible] def mL (c:Cx) (J:List (Nat × List Nat)):Nat→Nat→Code→List D→(Out→Option Out)→Option Out
 | _,_,.skip,δ,k=>k (.nrm δ)
 | _,_,.region _ ops _,δ,k=>iE c ops.toList ops.toList δ fun δ'=>k (.nrm δ')
 | p,bid,.seq a b,δ,k=>match cR J p with
  | none=>mL c J (Kb 2 p) bid a δ fun o=>Gu o (fun δ'=>mL c J (KN (Kb 2 p) 1) bid b δ' k) k
  | some hl=>An (fun j=>mL c J (Kb 2 p) bid a δ fun o=>Gu o (fun δ'=>mI δ' hl fun s=>j s) k) (fun s=>gQ (iD c.K) hl s fun δ'=>mL c J (KN (Kb 2 p) 1) bid b δ' k)
 | p,bid,.cond x t e,δ,k=>opC δ x fun q=>ifD q (mL c J (Kb 2 p) bid t δ k) (mL c J (KN (Kb 2 p) 1) bid e δ k)
 | p,_,.block id b,δ,k=>mL c J (Kb 2 p) id b δ fun o=>Aq id o k
 | p,bid,.loop b,δ,k=>match cR c.H bid with
  | none=>none
  | some (hl,xl) =>
   mI δ hl fun s=>(bq (fun s=>gQ (iD c.K) hl s fun δ=>mL c J (Kb 2 p) bid b δ (cq hl xl)) s).bind fun o =>
    dw o (fun i s=>gQ (iD c.K) xl s fun δ=>k (.ext i δ)) (fun a b=>k (.ret a b))
 | _,_,.exit id,δ,k=>k (.ext id δ)
 | _,_,.ret,δ,k=>kM c δ c.res fun rs=>mI δ c.ios fun us=>usK us (k (.ret rs us))
 | _,_,_,_,_=>none
@[reducible] def tr (c:Cx) (J:List (Nat × List Nat)) (fn:Func) (ds:List D):Option Out :=
 match fn.body with
 | none=>none
 | some b=>mL c J 1 0 b (ny fn.ntmps ds) fun o=>match o with
  | .nrm δ=>kM c δ c.res fun rs=>mI δ c.ios fun us=>usK us (some (.ret rs us))
  | .ext _ _=>none
  | .ret rs us=>some (.ret rs us)
def okJ (c:Cx) (J:List (Nat × List Nat)):Bool:=J.all fun p=>kK c.K p.2
theorem DK {c:Cx}:∀{J:List (Nat × List Nat)} {p:Nat} {hl:List Nat},okJ c J=true→cR J p=some hl→kK c.K hl=true
 | [],_,_,_,h=>by cases h
 | (q,l)::J,p,hl,hJ,h=>by
  unfold okJ at hJ;rw [List.all_cons,JI] at hJ;simp only [cR] at h;split at h
  ·cases h
   exact hJ.1
  ·exact DK (J:=J) hJ.2 h
section
variable {P:Program} {c:Cx} {B:Nat} {X:Nat→Prop} {w0:World} {F0 F:Nat→Prop} {O:Nat→Option (Nat × Nat)} {a:Act} {w:World} {δ:List D}
theorem rP {V:Nat→Value} {J:List (Nat × List Nat)} {p:Nat} {b:Code} {bid:Nat} {hl xl:List Nat} (h1:kK c.K hl=true) (h2:kK c.K xl=true)
  (ih:∀(F:Nat→Prop) (O:Nat→Option (Nat × Nat)) (a:Act) (w:World) (δ:List D),Inv c B X w0 F0 F O a w δ→IoV c V a→∀(k:Out→Option Out) (r:Out),mL c J p bid b δ k=some r→∀Q,(∀e a w,Da c B X w0 F0 V k r e a w→Q e a w)→b.wp P Q a w)
  {k:Out→Option Out} {r:Out} {Q:Exit→Act→World→Prop} (hQ:∀e a w,Da c B X w0 F0 V k r e a w→Q e a w) {o:Out}
  (ho:dw o (fun i s=>gQ (iD c.K) xl s fun δ=>k (.ext i δ)) (fun x y=>k (.ret x y))=some r):∀(n:Nat) (F:Nat→Prop) (O:Nat→Option (Nat × Nat)) (a:Act) (w:World) (δ:List D),Inv c B X w0 F0 F O a w δ→IoV c V a →
  iter (fun s=>gQ (iD c.K) hl s fun δ=>mL c J p bid b δ (cq hl xl)) n (ah δ hl)=some o→Code.rounds P b Q n a w
 | 0,_,_,_,_,_,_,_,h=>by cases h
 | n+1,F,O,a,w,δ,hI,hV,h=>by
  simp only [iter,kl] at h;rw [rounds_succ];have hI':=hI.carry h1;cases hb:mL c J p bid b (carry (iD c.K) hl δ) (cq hl xl) with
  | none=>rw [hb] at h;cases h
  | some ob =>
   rw [hb] at h;refine ih F O a w _ hI' hV _ ob hb _ (fun e a' w' hp=>?_)
   cases ob with
   | nrm s' =>
    simp only at h;cases e with
    | normal =>
     obtain⟨⟨F',O',δ',g1,g2⟩,g3⟩:=hp;simp only [cq,bG,JL,Out.nrm.injEq] at g2;rw [←g2] at h;exact rP h1 h2 ih hQ ho n F' O' a' w' δ' g1 g3 h
    | exit i =>
     obtain⟨⟨F',O',δ',g1,g2⟩,g3⟩:=hp;simp [cq,bG] at g2
    | ret =>
     obtain⟨⟨F',O',δ',g1,g2⟩,g3⟩:=hp;obtain⟨rs,_,_,g4⟩:=iS g2;simp [cq] at g4
    | _=>exact hp.elim
   | ext i l =>
    simp only [JL] at h;subst h;cases e with
    | normal =>
     obtain⟨⟨F',O',δ',g1,g2⟩,g3⟩:=hp;simp [cq,bG] at g2
    | exit j =>
     obtain⟨⟨F',O',δ',g1,g2⟩,g3⟩:=hp;simp only [cq,bG,JL,Out.ext.injEq] at g2;obtain⟨rfl,rfl⟩:=g2;simp only [dw,kl] at ho;exact hQ (.exit j) _ _ ⟨⟨F',O',_,g1.carry h2,ho⟩,g3⟩
    | ret =>
     obtain⟨⟨F',O',δ',g1,g2⟩,g3⟩:=hp;obtain⟨rs,_,_,g4⟩:=iS g2;simp [cq] at g4
    | _=>exact hp.elim
   | ret x y =>
    simp only [JL] at h;subst h;cases e with
    | normal =>
     obtain⟨⟨F',O',δ',g1,g2⟩,g3⟩:=hp;simp [cq,bG] at g2
    | exit j =>
     obtain⟨⟨F',O',δ',g1,g2⟩,g3⟩:=hp;simp [cq,bG] at g2
    | ret =>
     obtain⟨⟨F',O',δ',g1,g2⟩,g3⟩:=hp;obtain⟨rs,g5,g6,g4⟩:=iS g2;simp only [cq,JL,Out.ret.injEq] at g4;obtain⟨rfl,rfl⟩:=g4;exact hQ .ret _ _ ⟨⟨F',O',δ',g1,ud g5 g6 ho⟩,g3⟩
    | _=>exact hp.elim
theorem eC (hT:okT P c.T=true) (hS:∀f S,cR c.S f=some S→aF c.G P f S) (hm:P.follows .mixedOrders=true) {V:Nat→Value} {J:List (Nat × List Nat)} (hJ:okJ c J=true):∀(b:Code) (p bid:Nat),cV c bid b=true→∀(F:Nat→Prop) (O:Nat→Option (Nat × Nat)) (a:Act) (w:World) (δ:List D),
  Inv c B X w0 F0 F O a w δ→IoV c V a→∀(k:Out→Option Out) (r:Out),mL c J p bid b δ k=some r→∀Q,(∀e a w,Da c B X w0 F0 V k r e a w→Q e a w)→b.wp P Q a w
 | .skip,p,bid,_,F,O,a,w,δ,hI,hV,k,r,hg,Q,hQ=>wp_skip (hQ _ _ _ ⟨⟨F,O,δ,hI,hg⟩,hV⟩)
 | .region id ops d,p,bid,hok,F,O,a,w,δ,hI,hV,k,r,hg,Q,hQ=>by
  simp only [cV,JI,Kp] at hok;have hq:∀a w,fQ c B X w0 F0 V (fun δ=>k (.nrm δ)) r a w→Q .normal a w:=fun a w h=>hQ _ _ _ h
  cases d
  ·exact wp_region_list (pP hT hS hq ops.toList hok.1 F O a w δ hI hV hg)
  ·exact xE hT hS (by simpa using hok.2) hm hq hok.1 hI hV hg id
 | .seq x y,p,bid,hok,F,O,a,w,δ,hI,hV,k,r,hg,Q,hQ=>by
  simp only [cV,JI] at hok;simp only [mL] at hg;cases hH:cR J p with
  | none =>
   rw [hH] at hg;refine wp_seq (eC hT hS hm hJ x _ bid hok.1 F O a w δ hI hV _ r hg _ (fun e a' w' hp=>?_))
   cases e with
   | normal =>
    obtain⟨⟨F',O',δ',hI',hk'⟩,hV'⟩:=hp;exact eC hT hS hm hJ y _ bid hok.2 F' O' a' w' δ' hI' hV' k r hk' Q hQ
   | exit id=>exact hQ _ _ _ hp
   | ret=>exact hQ _ _ _ hp
   | _=>exact hp.elim
  | some hl =>
   rw [hH] at hg;simp only [An] at hg;have hlive:=DK hJ hH;refine wp_seq (eC hT hS hm hJ x _ bid hok.1 F O a w δ hI hV _ r hg _ (fun e a' w' hp=>?_))
   cases e with
   | normal =>
    obtain⟨⟨F',O',δ',hI',hk'⟩,hV'⟩:=hp;simp only [Gu,bG,kl] at hk';exact eC hT hS hm hJ y _ bid hok.2 F' O' a' w' _ (hI'.carry hlive) hV' k r hk' Q hQ
   | exit id=>exact hQ _ _ _ hp
   | ret=>exact hQ _ _ _ hp
   | _=>exact hp.elim
 | .cond x t e,p,bid,hok,F,O,a,w,δ,hI,hV,k,r,hg,Q,hQ=>by
  simp only [cV,JI] at hok;obtain⟨⟨hlv,hok1⟩,hok2⟩:=hok;have hop:=hI.opd (bI.1 hlv);have key:ifD (opD δ x) (mL c J (Kb 2 p) bid t δ k) (mL c J (KN (Kb 2 p) 1) bid e δ k)=some r:=by
   simp only [mL] at hg;cases x with
   | tmp s=>simpa only [opC,dI,opD] using hg
   | const v=>simpa only [opC,opD] using hg
   | func f=>simpa only [opC,opD] using hg
   | global g=>simp [opC] at hg
  unfold ifD at key;split at key
  ·rename_i hd
   rw [hd] at hop;exact wp_cond_true (ba hop).1 (eC hT hS hm hJ t _ bid hok1 F O a w δ hI hV k r key Q hQ)
  ·rename_i hd
   rw [hd] at hop;exact wp_cond_false (ba hop).1 (eC hT hS hm hJ e _ bid hok2 F O a w δ hI hV k r key Q hQ)
  ·cases key
 | .block id b,p,bid,hok,F,O,a,w,δ,hI,hV,k,r,hg,Q,hQ=>by
  simp only [cV] at hok;refine wp_block (eC hT hS hm hJ b _ id hok F O a w δ hI hV _ r hg _ (fun e a' w' hp=>?_))
  cases e with
  | normal=>exact hQ .normal _ _ hp
  | exit i =>
   simp only [Exit.inBlock];have hp':fQ c B X w0 F0 V (fun δ=>Aq id (.ext i δ) k) r a' w':=hp;split
   ·rename_i hi
    refine hQ .normal _ _ (ir hp' fun δ F O _ h=>?_)
    simp only [Aq] at h;rw [aL.2 (by simpa using hi)] at h;exact h
   ·rename_i hi
    refine hQ (.exit i) _ _ (ir hp' fun δ F O _ h=>?_)
    simp only [Aq] at h;cases hb:Nat.beq i id
    ·rw [hb] at h;exact h
    ·exact absurd (by simpa using aL.1 hb) hi
  | ret=>exact hQ .ret _ _ hp
  | _=>exact hp.elim
 | .loop b,p,bid,hok,F,O,a,w,δ,hI,hV,k,r,hg,Q,hQ=>by
  simp only [cV,JI] at hok;obtain⟨hok1,hok2⟩:=hok;simp only [mL] at hg;cases hH:cR c.H bid with
  | none=>rw [hH] at hg;cases hg
  | some hx =>
   obtain⟨hl,xl⟩:=hx;rw [hH] at hg hok2;simp only [JI] at hok2;simp only [bG] at hg;obtain⟨o',h1,h2⟩:=Kt.1 hg;unfold bq at h1;split at h1
   case isFalse=>cases h1
   rename_i hex;refine wp_loop_rounds (Kr hex) ?_
   refine rP (hl:=hl) (xl:=xl) hok2.1 hok2.2 (fun F O a w δ hI hV k r hg Q hQ=>eC hT hS hm hJ b _ bid hok1 F O a w δ hI hV k r hg Q hQ) hQ h2 _ F O a w δ hI hV h1
 | .exit id,p,bid,_,F,O,a,w,δ,hI,hV,k,r,hg,Q,hQ=>wp_exit (hQ _ _ _ ⟨⟨F,O,δ,hI,hg⟩,hV⟩)
 | .ret,p,bid,_,F,O,a,w,δ,hI,hV,k,r,hg,Q,hQ=>wp_ret (hQ _ _ _ ⟨⟨F,O,δ,hI,hg⟩,hV⟩)
 | .label _,_,_,hok,_,_,_,_,_,_,_,_,_,_,_,_=>by simp [cV] at hok
 | .goto _,_,_,hok,_,_,_,_,_,_,_,_,_,_,_,_=>by simp [cV] at hok
 | .scope _,_,_,hok,_,_,_,_,_,_,_,_,_,_,_,_=>by simp [cV] at hok
theorem CS (hT:okT P c.T=true) (hS:∀f S,cR c.S f=some S→aF c.G P f S) (hm:P.follows .mixedOrders=true) {J:List (Nat × List Nat)} (hJ:okJ c J=true) {f:FuncId} {fn:Func} (hf:P.funcs[f]?=some fn) {pm rm:List Kd} (hok:BL c fn pm rm=true) (hres:c.res=fn.results.toList)
  {ds rs us:List D} (hd:tr c J fn ds=some (.ret rs us)) {args:Array Value} {w:World} {F:Nat→Prop} {ow:Nat→Option Nat} (hgl:gOk c.G w F) (ha:cM w F ow 0 pm ds args.toList) (hF:∀b,F b→b<w.heap.size∧ow b=none) (hO:∀b i,ow b=some i→b<w.heap.size) :
  Calls P f args w fun e w'=>∃v,e = .returned v∧∃F' R vs,v=iw vs∧CallPost {pm:=pm,rm:=rm,f:=tr c J fn} args rs us w F ow F' R vs w':=by
 unfold BL at hok;simp only [JI,decide_eq_true_eq] at hok;obtain⟨⟨⟨⟨⟨hcode,hlenK⟩,hpre⟩,hpm⟩,hokr⟩,hios⟩:=hok;rw [aL,jz] at hlenK;obtain⟨hpl,hpn⟩:=rW hpre;obtain⟨hdl,hal,hargs⟩:=rV pm ds args.toList 0 ha;have hasz:args.size=pm.length:=by simpa using hal
 unfold tr at hd;cases hb:fn.body with
 | none=>rw [hb] at hd;cases hd
 | some b =>
  rw [hb] at hd hcode;simp only at hd hcode;refine calls_of_wp hf hb ?_
  have hav:∀s,s<pm.length→av ({tmps:=args++Kg (fn.ntmps - args.size) undef,defers:=[]}:Act) s=args.toList.getD s undef:=fun s hs=>by
   have h1:s<args.size:=by omega
   simp only [av,Array.getD_eq_getD_getElem?,Kl,Array.getElem?_toList];rw [Array.getElem?_append_left h1]
  have hinit:Inv c w.heap.size (fun b=>ow b≠none) w F F (fun b=>(ow b).map fun i=>(i,0)) {tmps:=args++Kg (fn.ntmps - args.size) undef,defers:=[]} w (ny fn.ntmps ds):=by
   refine⟨by simp;omega,by rw [oE,hlenK],rfl,fun s=>?_,fun b hb=>⟨(hF b hb).1,by simp [(hF b hb).2]⟩,fun b p hp=>?_,fun _ h=>h,fun _ h=>.inl h,JW _,rfl,rfl,rfl,fun _ _ _=>rfl,hgl⟩
   ·unfold sG
    rw [nZ _ _ _ (by rw [hdl];omega)];by_cases hs:s<pm.length
    ·rw [hpn s hs,hav s hs]
     rcases hargs s hs with hbad | harg
     ·exact .inl hbad
     refine .inr ?_
     have hlv:∀lv,lv≠1→∀b,FB F 0 lv b→FB F w.heap.size lv b:=fun lv h1 b hb=>by
      match lv,h1 with
      | 0,_=>exact hb
      | _+2,_=>exact hb
     rcases qV hpm s hs with ⟨lv,hk,h1⟩ | ⟨z,lv,hk,h1⟩ | ⟨n,lv,hk,h1⟩
     ·rw [hk] at harg ⊢
      exact .inr (aQ (hlv lv h1) (fun _ _=>rfl) harg)
     ·rw [hk] at harg ⊢
      exact .inr (cI (hlv lv h1) (fun _ _=>rfl) (fun g _ hg=>⟨⟨by simp only [Kh] at hg;simp [hg],fun h=>by cases h⟩,rfl⟩) harg)
     ·rw [hk] at harg ⊢
      exact .inr (gi (hlv lv h1) (fun _ _=>rfl) (fun g _ hg=>⟨⟨by simp only [Kh] at hg;simp [hg],fun h=>by cases h⟩,rfl⟩) harg)
    ·refine .inl ?_
     rw [eX,Kl,List.getElem?_eq_none (by omega)];rfl
   ·obtain⟨i,hi,rfl⟩:=Option.map_eq_some_iff.1 hp
    exact⟨hO b i hi,.inr (by rw [hi];simp)⟩
  refine eC hT hS hm hJ b 1 0 hcode F _ _ w _ hinit (V:=av {tmps:=args++Kg (fn.ntmps - args.size) undef,defers:=[]}) (fun _ _=>rfl) _ _ hd _ (fun e a' w' hp=>?_)
  have fin:fQ c w.heap.size (fun b=>ow b≠none) w F (av {tmps:=args++Kg (fn.ntmps - args.size) undef,defers:=[]}) (fun δ=>Bf c δ some) (.ret rs us) a' w'→a'.defers=[]∧∃v,(results fn a'.tmps).run P w' = .ok v w'∧∃v',Ending.returned v = .returned v'∧∃F' R vs,v'=iw vs∧CallPost {pm:=pm,rm:=rm,f:=tr c J fn} args rs us w F ow F' R vs w':=by
   rintro⟨⟨F',O',δ',hI',hk⟩,hV'⟩;obtain⟨rs',h1,h2,h3⟩:=iS hk;simp only [JL,Out.ret.injEq] at h3;obtain⟨rfl,rfl⟩:=h3;obtain⟨vs,g1,g2,g3,g4⟩:=rI (P:=P) hT hI' c.res rm rs' hokr h1;refine⟨hI'.df,iw vs,?_,_,rfl,F',fun b=>if w.heap.size≤b then(match O' b with
    | some (t,0)=>rk c.res t 0
    | _=>none) else none,vs,rfl,?_⟩
   ·have hrun:(fn.results.mapM (mu a'.tmps)).run P w' = .ok vs.toArray w':=by
     rw [Array.mapM_eq_mapM_toList,←hres];simp [g1]
    have hrw:results fn a'.tmps=(do
      let vs ←fn.results.mapM (mu a'.tmps)
      pure (if h:vs.size=1 then vs[0] else .tuple vs)):=by
     unfold results;congr 1
    rw [hrw];simp only [Sem.run_bind,hrun,Result.andThen_ok,Sem.run_pure];congr 1
    rcases vs with _ | ⟨y,_ | ⟨y',vs⟩⟩
    ·simp [iw]
    ·simp [iw]
    ·simp [iw]
   ·refine⟨hI'.os,hI'.tape,hI'.output,hI'.bb,fun b hb ho=>hI'.keep b hb (by simp [ho]),hI'.f0,fun b hb=>⟨hI'.fn b hb,(hI'.fl b hb).1,by simp only [(hI'.fl b hb).2];split<;>rfl⟩,fun b j hj=>?_,g2,g3,fun j=>?_,?_⟩
    ·split at hj
     case isFalse=>cases hj
     rename_i hB;refine⟨hB,?_⟩
     split at hj
     ·rename_i t he;exact(hI'.ol b _ he).1
     ·cases hj
    ·refine jY (fun hk g hg=>?_) (g4 j)
     obtain⟨z,lv,hk⟩:=hk;obtain⟨e1,t,e2,e3⟩:=hg;rw [if_pos e1];simp only [e3];have:=(lP c.res rm hokr j t 0 z lv hk e2).1;simpa using this
    ·rw [hios]
     refine xX pm args.toList 0 hal (fun j hj hio=>?_)
     rw [Kh];have hkj:=hpn j hj;have hbj:nth δ' j ≠ .bad:=by
      refine h2 _ ?_
      rw [hios,lV];exact List.mem_map_of_mem (by simpa using sV pm 0 j hj hio)
     have havj:av a' j=args.toList.getD j undef:=(hV' j (by rw [hkj];exact hio)).trans (hav j hj);have hlv:∀lv,lv≠1→∀b,FB F' w.heap.size lv b→FB F' 0 lv b:=fun lv h1 b hb=>by
      match lv,h1 with
      | 0,_=>exact hb
      | _+2,_=>exact hb
     refine⟨hbj,.inr ?_⟩
     rcases qV hpm j hj with ⟨lv,hk,h1⟩ | ⟨z,lv,hk,h1⟩ | ⟨n,lv,hk,h1⟩
     ·rw [hk] at hio;cases hio
     ·have h5:=hI'.own (hkj.trans hk) hbj
      rw [havj] at h5;rw [hk];exact cI (hlv lv h1) (fun _ _=>rfl) (fun _ _ _=>⟨trivial,rfl⟩) h5
     ·have h5:=hI'.box (hkj.trans hk) hbj
      rw [havj] at h5;rw [hk];exact gi (hlv lv h1) (fun _ _=>rfl) (fun _ _ _=>⟨trivial,rfl⟩) h5
  cases e with
  | normal=>exact fin hp
  | exit i =>
   obtain⟨⟨_,_,_,_,h⟩,_⟩:=hp;cases h
  | ret =>
   refine fin (ir hp fun δ F O _ h=>?_)
   obtain⟨rs',h1,h2,h3⟩:=iS h;exact ud h1 h2 h3
  | _=>exact hp.elim
theorem Dq (hT:okT P c.T=true) (hS:∀f S,cR c.S f=some S→aF c.G P f S) (hm:P.follows .mixedOrders=true) {J:List (Nat × List Nat)} (hJ:okJ c J=true) {f:FuncId} {fn:Func} (hf:P.funcs[f]?=some fn) (hname:(fn.name== "runtime.NumGoroutine")=false) {pm rm:List Kd} (hok:BL c fn pm rm=true) (hres:c.res=fn.results.toList) :
  aF c.G P f {pm:=pm,rm:=rm,f:=tr c J fn}:=by
 intro ds rs us hd args w F ow hgl ha hF hO o a next Q hn
 have hbody:∃b,fn.body=some b:=by
  have hd':tr c J fn ds=some (.ret rs us):=hd;unfold tr at hd';cases hb:fn.body with
  | none=>rw [hb] at hd';cases hd'
  | some b=>exact⟨b,rfl⟩
 obtain⟨b,hb⟩:=hbody;have hrun:(callFunc f args).run P w = .ok (.enter f args) w:=by
  have h1:¬fn.name= "runtime.NumGoroutine":=by simpa using hname
  simp [callFunc,hf,h1,hb]
 rw [hrun,Kv];refine Ky (CS hT hS hm hJ hf hok hres hd hgl ha hF hO) (fun e w' he=>?_)
 obtain⟨v,rfl,F',R,vs,h1,h2⟩:=he;exact hn v w' ⟨F',R,vs,h1,h2⟩
end
theorem zx {f:(List D→Option Out)→Option Out} {k:List D→Option Out} {r:Option Out} (p:List D→Prop) (hk:∀s,p s→k s=r) (hf:∀j:List D→Option Out,(∀s,p s→j s=r)→f j=r):An f k=r:=hf k hk
end Go.V

namespace Go.Proofs.YtkcojipciiakdaaDoor
open Go.V
set_option maxRecDepth 100000
theorem kQ:Tryd.prog.follows .mixedOrders=true:=by kernel_rfl
theorem aS {c:Cx} {S:FS} {f:FuncId} {fn:Func} (hS:∀f S,cR c.S f=some S→aF c.G Tryd.prog f S) (hf:Tryd.prog.funcs[f]?=some fn) (hres:c.res=fn.results.toList) (hF:S.f=bW c fn)
  (hb:(okT Tryd.prog c.T&&(!(fn.name== "runtime.NumGoroutine")&&BL c fn S.pm S.rm))=true):aF c.G Tryd.prog f S:=by
 obtain⟨pm,rm,g⟩:=S;cases hF;simp only [JI,Bool.not_eq_true'] at hb;exact AR hb.1 hS kQ hf hb.2.1 hb.2.2 hres
@[reducible] def ty3:TI:={n:=1,zero:=[.v (.int .i64 0)],ik:=some .i64}
@[reducible] def ty4:TI:={n:=1,zero:=[.v (.bool false)],bl:=true}
@[reducible] def ty5:TI:={n:=1,zero:=[.v (.int .u8 0)],ik:=some .u8}
@[reducible] def ty9:TI:={n:=1,zero:=[.v (.string ⟨#[]⟩)],str:=true}
@[reducible] def ic:TI:={n:=1,zero:=[.arr 4 []],elem:=70,ez:=4,eb:=40}
@[reducible] def oK:TI:={n:=1,zero:=[.arr 4 []],elem:=42,ez:=4,eb:=48}
@[reducible] def oQ:TI:={agg:=true,n:=4,zero:=[.arr 4 [],.arr 4 [],.v (.int .i64 0),.v (.int .i64 0)],fs:=[(0,23),(1,24),(2,3),(3,3)]}
@[reducible] def wT:TI:={n:=1,zero:=[.arr 1 []],elem:=3,ez:=1,eb:=8}
@[reducible] def iu:TI:={n:=1,zero:=[.arr 1 []],elem:=9,ez:=1,eb:=16}
@[reducible] def qe:TI:={agg:=true,n:=4,zero:=[.v (.int .i64 0),.arr 1 [],.v (.bool false),.v (.int .i64 0)],fs:=[(0,3),(1,40),(2,4),(3,3)]}
@[reducible] def nr:TI:={agg:=true,n:=4,zero:=[.v (.string ⟨#[]⟩),.v (.int .i64 0),.v (.int .i64 0),.v (.int .i64 0)],fs:=[(0,9),(1,3),(2,3),(3,3)],eq:=[3,1,1,1]}
@[reducible] def tf:Cx:={K:=[Y,Y,Y,.no,.no,.no,Y,Y,Y,Y,Y,Y,Y,Y,Y],T:=[(3,ty3)],S:=[],H:=[],res:=[.tmp 6],ios:=[],G:=gl0}
def cd:List D→Option Out:=bW tf Tryd.f42
@[reducible] def fq:FS:={pm:=[Y,Y,Y],rm:=[Y],f:=cd}
theorem gn:aF gl0 Tryd.prog 42 fq:=aS (c:=tf) aH Tryd.func42 rfl rfl (by kernel_rfl)
@[reducible] def pB:Cx:={K:=[Yc,Y,.no,.no,Y,Y,.box 4 0 false,Yc,Y,Y,Y,Y,Yc,Y,Yr 6,Y,Y,Y,Y,Y],T:=[(3,ty3),(9,ty9),(23,ic),(70,nr)],S:=[],H:=[(0,([1,7,8,9],[]))],res:=[.tmp 4],ios:=[],G:=gl0}
def fS:List D→Option Out:=bW pB Tryd.f44
@[reducible] def kS:FS:={pm:=[Yc,Y],rm:=[Y],f:=fS}
theorem pt:aF gl0 Tryd.prog 44 kS:=aS (c:=pB) aH Tryd.func44 rfl rfl (by kernel_rfl)
@[reducible] def nw:Cx:={K:=[Yc,Yc,.no,.box 4 2 false,Y,.no,Y,Yr 3,Y,Y,Y,Y,Yr 3,Yc,Y,Y,Y,Y,Yr 3,Y,Y,Y,Y,Y,Yr 3,Y,Y,Yr 3,Yc,Y,Y,Y,Y,Yr 3,Yc,Y,Y,Y,Yc,Y,Yc,Y,Y,Y,Y],T:=[(3,ty3),(4,ty4),(9,ty9),(40,iu),(42,qe)],S:=[(42,fq),(44,kS)],H:=[(0,([0,34,35,36],[]))],res:=[.tmp 4],ios:=[],G:=gl0}
def gG:List D→Option Out:=bW nw Tryd.f40
@[reducible] def nj:FS:={pm:=[Yc,Yc],rm:=[Y],f:=gG}
theorem vm:aF gl0 Tryd.prog 40 nj:=aS (c:=nw) (af gn (af pt aH)) Tryd.func40 rfl rfl (by kernel_rfl)
@[reducible] def lf:Cx:={K:=[Y,Y,.no,.no,Y,Y,Y,Y,Y,Y,Y,Y,Y,Y,Y,Y,Y,Y,Y,Y,Y,Y,Y,Y,Y,Y],T:=[(3,ty3),(5,ty5),(9,ty9)],S:=[(42,fq)],H:=[(0,([0,1,5],[0,1]))],res:=[.tmp 4],ios:=[],G:=gl0}
def dZ:List D→Option Out:=bW lf Tryd.f71
@[reducible] def iv:FS:={pm:=[Y,Y],rm:=[Y],f:=dZ}
theorem lC:aF gl0 Tryd.prog 71 iv:=aS (c:=lf) (af gn aH) Tryd.func71 rfl rfl (by kernel_rfl)
@[reducible] def qH:Cx:={K:=[Y,.box 4 0 false,Y,Yr 1,Y,Y,Y,Yr 1,Y,Y,Y,Y,Yr 1,Y,Y,Y,Y,Yr 1,Y,Y,Y],T:=[(3,ty3),(9,ty9),(70,nr)],S:=[(42,fq),(71,iv)],H:=[],res:=[.tmp 2],ios:=[],G:=gl0}
def jG:List D→Option Out:=bW qH Tryd.f60
@[reducible] def rq:FS:={pm:=[Y],rm:=[Y],f:=jG}
theorem yz:aF gl0 Tryd.prog 60 rq:=aS (c:=qH) (af gn (af lC aH)) Tryd.func60 rfl rfl (by kernel_rfl)
@[reducible] def pf:Cx:={K:=[Yc,.no,Y,Y,.box 4 0 false,.no,.box 4 0 false,Yc,Y,Y,Y,Y,Yc,Y,Y,Y,Y,Y,Y,Y,Y,Yc,Y,Y,Yc,Yc,Y,Yr 4,Y,Y,Y,Y,Yc,Y,Yc,Y,Y,Y,Yc,Y,Yr 6,Y,Yr 4,Y,Y,Y,Yr 6,Y,Yr 4,Y,Y,Y,Y,Y,Yc,Y,Y],T:=[(3,ty3),(9,ty9),(23,ic),(70,nr)],S:=[(42,fq),(60,rq)],H:=[(0,([0,7,8,9],[0])),(2,([0,4,7,8,9,34,35,36],[0,7,8,9]))],res:=[.tmp 2],ios:=[],G:=gl0}
def fT:List D→Option Out:=bW pf Tryd.f41
@[reducible] def kP:FS:={pm:=[Yc],rm:=[Y],f:=fT}
theorem pl:aF gl0 Tryd.prog 41 kP:=aS (c:=pf) (af gn (af yz aH)) Tryd.func41 rfl rfl (by kernel_rfl)
@[reducible] def pD:Cx:={K:=[Yc,.box 4 2 false,Y,Y,Y,.box 4 2 false,Yr 1,Yc,Y,Y,Y,Y,Yc,Yc,Yr 1,Yc,Yc,Y,Y,Y,Y,Y,Y,Yr 1,Yc,Y,Y,Yc,Yc,Y,Yr 5,Y,Y,Y,Y,Y,Yr 5,Y,Y,Y,Yr 1,Yc,Y,Y,Yr 1,Yc,Y,Y,Y,Y,Yr 1,Y,Y,Y,Y,Yr 1,Y,Y,Y,Y],T:=[(3,ty3),(4,ty4),(23,ic),(24,oK),(26,oQ),(40,iu),(42,qe),(70,nr)],S:=[(40,nj),(41,kP),(42,fq)],H:=[(0,([1,3,7,8,9],[1,3]))],res:=[.tmp 2],ios:=[],G:=gl0}
def eQ:List D→Option Out:=bW pD Tryd.f23
@[reducible] def iO:FS:={pm:=[Yc],rm:=[Y],f:=eQ}
theorem iQ:aF gl0 Tryd.prog 23 iO:=aS (c:=pD) (af vm (af pl (af gn aH))) Tryd.func23 rfl rfl (by kernel_rfl)
@[reducible] def ju:Cx:={K:=[Yc,.box 4 2 false,Yo 1 0,Y,Yo 1 0,.no,.box 4 2 false,Yc,Y,Y,Yr 1,Yc,Y,Y,Y,Yc,Yc,Yr 6,Y,Yo 1 0,Yr 6,Y,Yb,Yo 1 0,Y,Yo 1 0],T:=[(3,ty3),(4,ty4),(23,ic),(24,oK),(26,oQ),(30,wT),(40,iu),(42,qe)],S:=[(23,iO)],H:=[(0,([4,11,12,13],[4]))],res:=[.tmp 2,.tmp 3],ios:=[],G:=gl0}
def dT:List D→Option Out:=bW ju Tryd.f8
@[reducible] def jq:FS:={pm:=[Yc],rm:=[Yo 1 0,Y],f:=dT}
theorem oI:aF gl0 Tryd.prog 8 jq:=aS (c:=ju) (af iQ aH) Tryd.func8 rfl rfl (by kernel_rfl)
@[reducible] def pg:Cx:={K:=[Y,Y,Y,.no,.no,.no,Y,Y,Y,Y,Y,Y,Y,Y,Y],T:=[(3,ty3)],S:=[],H:=[],res:=[.tmp 6],ios:=[],G:=gl0}
def ch:List D→Option Out:=bW pg Tryd.f32
@[reducible] def cZ:FS:={pm:=[Y,Y,Y],rm:=[Y],f:=ch}
theorem dJ:aF gl0 Tryd.prog 32 cZ:=aS (c:=pg) aH Tryd.func32 rfl rfl (by kernel_rfl)
@[reducible] def lu:Cx:={K:=[Y,.no,Y,Y,Y],T:=[],S:=[(32,cZ)],H:=[],res:=[.tmp 2],ios:=[],G:=gl0}
def fE:List D→Option Out:=bW lu Tryd.f46
@[reducible] def lz:FS:={pm:=[Y],rm:=[Y],f:=fE}
theorem sM:aF gl0 Tryd.prog 46 lz:=aS (c:=lu) (af dJ aH) Tryd.func46 rfl rfl (by kernel_rfl)
@[reducible] def rC:Cx:={K:=[Yc,Y,.no,.no,Y,Y,.box 4 0 false,Yc,Y,Y,Y,Y,Yc,Y,Yr 6,Y,Y,Y,Y,Y],T:=[(3,ty3),(9,ty9),(23,ic),(70,nr)],S:=[],H:=[(0,([1,7,8,9],[]))],res:=[.tmp 4],ios:=[],G:=gl0}
def gE:List D→Option Out:=bW rC Tryd.f59
@[reducible] def lZ:FS:={pm:=[Yc,Y],rm:=[Y],f:=gE}
theorem qR:aF gl0 Tryd.prog 59 lZ:=aS (c:=rC) aH Tryd.func59 rfl rfl (by kernel_rfl)
@[reducible] def kC:Cx:={K:=[Y,Y,Y,.no,.no,.no,Y,Y,Y,Y,Y,Y,Y,Y,Y,Y,Y,Y,Y,Y,Y,Y,Y,Y,Y,Y,Y,Y,Y],T:=[(3,ty3),(5,ty5),(9,ty9)],S:=[(32,cZ)],H:=[(0,([0,1,2,7],[0,1,2]))],res:=[.tmp 6],ios:=[],G:=gl0}
def fd:List D→Option Out:=bW kC Tryd.f76
@[reducible] def kA:FS:={pm:=[Y,Y,Y],rm:=[Y],f:=fd}
theorem qI:aF gl0 Tryd.prog 76 kA:=aS (c:=kC) (af dJ aH) Tryd.func76 rfl rfl (by kernel_rfl)
@[reducible] def pe:Cx:={K:=[Y,.no,Y,Y,Y],T:=[],S:=[(76,kA)],H:=[],res:=[.tmp 2],ios:=[],G:=gl0}
def iH:List D→Option Out:=bW pe Tryd.f62
@[reducible] def pF:FS:={pm:=[Y],rm:=[Y],f:=iH}
theorem wI:aF gl0 Tryd.prog 62 pF:=aS (c:=pe) (af qI aH) Tryd.func62 rfl rfl (by kernel_rfl)
@[reducible] def mR:Cx:={K:=[Y,.no,Y,Y,Y],T:=[],S:=[(32,cZ)],H:=[],res:=[.tmp 2],ios:=[],G:=gl0}
def fh:List D→Option Out:=bW mR Tryd.f63
@[reducible] def nS:FS:={pm:=[Y],rm:=[Y],f:=fh}
theorem vK:aF gl0 Tryd.prog 63 nS:=aS (c:=mR) (af dJ aH) Tryd.func63 rfl rfl (by kernel_rfl)
@[reducible] def rf:Cx:={K:=[Y,.box 4 0 false,Y,Yr 1,Y,Y,Y,Yr 1,Y,Y,Y,Y,Yr 1,Y,Y,Y,Y,Yr 1,Y,Y,Y],T:=[(3,ty3),(9,ty9),(70,nr)],S:=[(32,cZ),(62,pF),(63,nS)],H:=[],res:=[.tmp 2],ios:=[],G:=gl0}
def jK:List D→Option Out:=bW rf Tryd.f48
@[reducible] def qN:FS:={pm:=[Y],rm:=[Y],f:=jK}
theorem yG:aF gl0 Tryd.prog 48 qN:=aS (c:=rf) (af dJ (af wI (af vK aH))) Tryd.func48 rfl rfl (by kernel_rfl)
@[reducible] def nK:Cx:={K:=[Yc,Y,Y,.no,.no,.no,Y,.no,.box 4 0 false,Yc,Y,Y,Y,Yc,Y,Yr 8,Y,Y,Y,Y,Yr 8,Y,Y,Y,Y,Y],T:=[(3,ty3),(9,ty9),(23,ic),(70,nr)],S:=[],H:=[(0,([1,2,9,10,11],[]))],res:=[.tmp 6],ios:=[],G:=gl0}
def hY:List D→Option Out:=bW nK Tryd.f49
@[reducible] def nH:FS:={pm:=[Yc,Y,Y],rm:=[Y],f:=hY}
theorem uE:aF gl0 Tryd.prog 49 nH:=aS (c:=nK) aH Tryd.func49 rfl rfl (by kernel_rfl)
@[reducible] def px:Cx:={K:=[Yc,.no,Y,Y,.box 4 0 false,Yc,Y,Y,Y,Y,Yc,Y,Y,Y,Y,Y,Y,Y,Y,Yc,Y,Y,Yc,Yc,Y,Yr 4,Y,Y,Y,Y,Y,Yc,Y,Yc,Yr 4,Y,Yr 4,Y,Y,Y,Y,Yc,Y,Y],T:=[(3,ty3),(9,ty9),(23,ic),(70,nr)],S:=[(32,cZ),(48,qN),(49,nH)],H:=[(0,([0,5,6,7],[0]))],res:=[.tmp 2],ios:=[],G:=gl0}
def dN:List D→Option Out:=bW px Tryd.f31
@[reducible] def fU:FS:={pm:=[Yc],rm:=[Y],f:=dN}
theorem iR:aF gl0 Tryd.prog 31 fU:=aS (c:=px) (af dJ (af yG (af uE aH))) Tryd.func31 rfl rfl (by kernel_rfl)
@[reducible] def mv:Cx:={K:=[Yc,Yc,.no,.no,Y,.no,Y,Yc,Y,Y,Y,Yc,Y,Yc,Y,Y,Y,Y,Yc,Y,Y,Yc,Y,Y,Y],T:=[(3,ty3),(9,ty9),(40,iu)],S:=[(31,fU),(59,lZ)],H:=[(0,([0,1,7,8,9],[0,1]))],res:=[.tmp 4],ios:=[],G:=gl0}
def eG:List D→Option Out:=bW mv Tryd.f47
@[reducible] def ji:FS:={pm:=[Yc,Yc],rm:=[Y],f:=eG}
theorem mE:aF gl0 Tryd.prog 47 ji:=aS (c:=mv) (af iR (af qR aH)) Tryd.func47 rfl rfl (by kernel_rfl)
@[reducible] def nk:Cx:={K:=[Yc,Yc,.no,.box 4 2 false,Y,Yr 3,Y,Y,Y,Yc,Yr 3,Yc,Y,Y,Y,Yr 3,Yc,Y,Y,Y,Y,Yr 3,Y,Y,Y,Y,Yr 3,Y,Y,Y,Yr 3,Yc,Y,Y,Y,Y],T:=[(3,ty3),(4,ty4),(9,ty9),(40,iu),(42,qe)],S:=[(32,cZ),(46,lz),(47,ji)],H:=[],res:=[.tmp 4],ios:=[],G:=gl0}
def gO:List D→Option Out:=bW nk Tryd.f30
@[reducible] def nM:FS:={pm:=[Yc,Yc],rm:=[Y],f:=gO}
theorem uy:aF gl0 Tryd.prog 30 nM:=aS (c:=nk) (af dJ (af sM (af mE aH))) Tryd.func30 rfl rfl (by kernel_rfl)
@[reducible] def pr:Cx:={K:=[Yc,.box 4 2 false,Y,Y,Y,.box 4 2 false,Yr 1,Yc,Y,Y,Y,Y,Yc,Yc,Yr 1,Yc,Yc,Y,Y,Y,Y,Y,Y,Yr 1,Yc,Y,Y,Yc,Yc,Y,Yr 5,Y,Y,Y,Y,Y,Yr 5,Y,Y,Y,Yr 1,Yc,Y,Y,Yr 1,Yc,Y,Y,Y,Y,Yr 1,Y,Y,Y,Y,Yr 1,Y,Y,Y,Y,Yr 1,Y,Y,Y,Y],T:=[(3,ty3),(4,ty4),(23,ic),(24,oK),(26,oQ),(40,iu),(42,qe),(70,nr)],S:=[(30,nM),(31,fU),(32,cZ)],H:=[(0,([1,3,7,8,9],[1,3]))],res:=[.tmp 2],ios:=[],G:=gl0}
def de:List D→Option Out:=bW pr Tryd.f13
@[reducible] def eR:FS:={pm:=[Yc],rm:=[Y],f:=de}
theorem eL:aF gl0 Tryd.prog 13 eR:=aS (c:=pr) (af uy (af iR (af dJ aH))) Tryd.func13 rfl rfl (by kernel_rfl)
@[reducible] def jm:Cx:={K:=[Yc,.box 4 2 false,Yo 1 0,Y,Yo 1 0,.no,.box 4 2 false,Yc,Y,Y,Yo 1 0,Yo 1 0,Yr 1,Yc,Y,Y,Y,Yc,Yc,Yr 6,Y,Yo 1 0,Yr 6,Y,Yb,Yo 1 0,Y,Yo 1 0],T:=[(3,ty3),(4,ty4),(23,ic),(24,oK),(26,oQ),(30,wT),(40,iu),(42,qe)],S:=[(13,eR)],H:=[(0,([4,13,14,15],[4]))],res:=[.tmp 2,.tmp 3],ios:=[],G:=gl0}
def dS:List D→Option Out:=bW jm Tryd.f7
@[reducible] def js:FS:={pm:=[Yc],rm:=[Yo 1 0,Y],f:=dS}
theorem oV:aF gl0 Tryd.prog 7 js:=aS (c:=jm) (af eL aH) Tryd.func7 rfl rfl (by kernel_rfl)
@[reducible] def pC:Cx:={K:=[Yc,.no,Yo 1 0,Yo 1 0,Yc,Yo 1 0],T:=[(9,ty9),(40,iu)],S:=[],H:=[],res:=[.tmp 2],ios:=[],G:=gl0}
def kR:List D→Option Out:=bW pC Tryd.f43
@[reducible] def wl:FS:={pm:=[Yc],rm:=[Yo 1 0],f:=kR}
theorem wF:aF gl0 Tryd.prog 43 wl:=aS (c:=pC) aH Tryd.func43 rfl rfl (by kernel_rfl)
@[reducible] def pA:Cx:={K:=[Yc,Yc,Y,.no,.no,.no,Yo 4 0,Y,Yo 4 0,.no,Y,Yo 4 0,Yc,Yo 4 0,Yc,Y,Y,Y,Yc,Y,.via 8,.via 8,Y,Y,Yr 8,Yr 8,Y,Y,Y,Yr 8,Yr 8,Y,.via 8,Y,Y,Yo 4 0],T:=[(3,ty3),(9,ty9),(23,ic),(40,iu),(70,nr)],S:=[(41,kP),(44,kS)],H:=[(0,([2,8,14,15,16],[8]))],res:=[.tmp 6,.tmp 7],ios:=[],G:=gl0}
def kL:List D→Option Out:=bW pA Tryd.f25
@[reducible] def xd:FS:={pm:=[Yc,Yc,Y],rm:=[Yo 4 0,Y],f:=kL}
theorem wz:aF gl0 Tryd.prog 25 xd:=aS (c:=pA) (af pl (af pt aH)) Tryd.func25 rfl rfl (by kernel_rfl)
open Go Go.V
set_option maxRecDepth 100000
theorem Ad (x0 x1 x2:D):cd [x0,x1,x2]=((bin .geq false [] x0 x1).bind fun z=>(ae (.tup []) z true (some x0)).bind fun c=>(ae (.tup []) z true (some x2)).bind fun d=>(ae (.tup []) z true (bin .leq false [] c d)).bind fun e=>(aR z e (B false)).bind fun z=>some (.ret [z] [])):=by kernel_rfl
theorem wm (x0 x1:D):fS [x0,x1]=((lenD false x0).bind fun z=>(bq (fun s=>(bin .lss false [] (sl s 3) (sl s 2)).bind fun z=>ifD z ((JM D.ptr (bm 4 (sl s 1) (sl s 3))).bind fun z=>((ldD true 4 z).bind aV).bind fun z=>(stD 4 (.agg [.v (.string ⟨⟨[]⟩⟩),I 0,I 0,I 0]) (.ref 0 0) z).bind fun b=>(aa b (.ref 0 0)).bind fun z=>((atD b z).bind (ak false 1)).bind fun z=>(bin .eql false [] z (sl s 0)).bind fun z=>ifD z (some (.ret [sl s 3] [])) ((bin .add false [] (sl s 3) (I 1)).bind fun z=>some (.nrm [sl s 0,sl s 1,sl s 2,z]))) (some (.ext 0 []))) [x1,x0,z,I 0]).bind fun o=>dw o (fun i _=>ifN (i.beq 0) (some (.ret [I (-1)] [])) none) fun a b=>some (.ret a b)):=by kernel_rfl
theorem vX (x0 x1:D):gG [x0,x1]=((fy 4 x1).bind fun y=>(aa y (.ref 0 0)).bind fun z=>(((atD y z).bind (ak false 1)).bind aV).bind fun z=>ao (cd [z,I 1,I 99]) fun c _=>(un .not (sl c 0)).bind fun z=>(ae D.bad z false (aa y (.ref 0 1))).bind fun e=>(ae (.tup []) z false ((atD y e).bind (ak false 1))).bind fun f=>(ae (.tup []) z false (lenD false f)).bind fun g=>(ae (.tup []) z false (bin .gtr false [] g (I 40))).bind fun h=>(aR z (B true) h).bind fun z=>(ae D.bad z false (aa y (.ref 0 3))).bind fun j=>(ae (.tup []) z false (((atD y j).bind (ak false 1)).bind aV)).bind fun k=>dF z false (ao (cd [k,I 0,I 100000]) fun c _=>some (.nrm [sl c 0])) [.tup []] fun l=>(ae (.tup []) z false (un .not (sl l 0))).bind fun m=>(aR z (B true) m).bind fun z=>(ae D.bad z false (aa y (.ref 0 2))).bind fun n=>(ae (.tup []) z false (((atD y n).bind (ak false 1)).bind aV)).bind fun p=>(ae (.tup []) z false (some p)).bind fun d=>(ae D.bad d true (aa y (.ref 0 1))).bind fun q=>(ae (.tup []) d true ((atD y q).bind (ak false 1))).bind fun r=>(ae (.tup []) d true (lenD false r)).bind fun t=>(ae (.tup []) d true (bin .eql false [] t (I 0))).bind fun u=>(ae (.tup []) z false (aR d u (B false))).bind fun v=>(aR z (B true) v).bind fun z=>ifD z (some (.ret [B false] [])) ((aa y (.ref 0 1)).bind fun z=>((atD y z).bind (ak false 1)).bind fun z=>(lenD false z).bind fun w=>(bq (fun s=>(bin .lss false [] (sl s 3) (sl s 2)).bind fun z=>ifD z ((JM D.ptr (bm 1 (sl s 1) (sl s 3))).bind fun z=>((ldD false 1 z).bind aV).bind fun z=>ao (fS [sl s 0,z]) fun c _=>(bin .lss false [] (sl c 0) (I 0)).bind fun z=>ifD z (some (.ret [B false] [])) ((bin .add false [] (sl s 3) (I 1)).bind fun z=>some (.nrm [sl s 0,sl s 1,sl s 2,z]))) (some (.ext 0 []))) [x0,z,w,I 0]).bind fun o=>dw o (fun i _=>ifN (i.beq 0) (some (.ret [B true] [])) none) fun a b=>some (.ret a b))):=by kernel_rfl
theorem sR (x0 x1:D):dZ [x0,x1]=((bq (fun s=>(lenD true (sl s 0)).bind fun z=>(bin .lss false [] (sl s 2) z).bind fun z=>ifD z ((qY (sl s 0) (sl s 2)).bind fun z=>(bin .lss false [] z (.v (KC Kz 97))).bind fun z=>(ae (.tup []) z false (some (sl s 0))).bind fun c=>(ae (.tup []) z false (some (sl s 2))).bind fun d=>(ae (.tup []) z false (qY c d)).bind fun e=>(ae (.tup []) z false (bin .gtr false [] e (.v (KC Kz 122)))).bind fun f=>(aR z (B true) f).bind fun z=>ifD z (some (.ret [B false] [])) ((bin .add false [] (sl s 2) (I 1)).bind fun z=>some (.nrm [sl s 0,sl s 1,z]))) (some (.ext 0 [sl s 0,sl s 1]))) [x0,x1,I 0]).bind fun o=>dw o (fun i s=>ifN (i.beq 0) ((lenD true (sl s 0)).bind fun z=>ao (cd [z,I 1,sl s 1]) fun g _=>some (.ret [sl g 0] [])) none) fun a b=>some (.ret a b)):=by kernel_rfl
theorem yL (x0:D):jG [x0]=((fy 4 x0).bind fun y=>(aa y (.ref 0 0)).bind fun z=>((atD y z).bind (ak false 1)).bind fun z=>ao (dZ [z,I 3]) fun c _=>(ae D.bad (sl c 0) true (aa y (.ref 0 1))).bind fun z=>(ae (.tup []) (sl c 0) true ((atD y z).bind (ak false 1))).bind fun z=>dF (sl c 0) true (ao (cd [z,I 0,I 9]) fun c _=>some (.nrm [sl c 0])) [.tup []] fun d=>(aR (sl c 0) (sl d 0) (B false)).bind fun z=>(ae D.bad z true (aa y (.ref 0 2))).bind fun e=>(ae (.tup []) z true ((atD y e).bind (ak false 1))).bind fun f=>dF z true (ao (cd [f,I 0,I 9]) fun c _=>some (.nrm [sl c 0])) [.tup []] fun d=>(aR z (sl d 0) (B false)).bind fun z=>(ae D.bad z true (aa y (.ref 0 3))).bind fun g=>(ae (.tup []) z true ((atD y g).bind (ak false 1))).bind fun h=>dF z true (ao (cd [h,I 0,I 9999]) fun c _=>some (.nrm [sl c 0])) [.tup []] fun d=>(aR z (sl d 0) (B false)).bind fun z=>some (.ret [z] [])):=by kernel_rfl
theorem wY (x0:D):fT [x0]=((lenD false x0).bind fun z=>(bq (fun s=>(bin .lss false [] (sl s 3) (sl s 2)).bind fun z=>ifD z ((JM D.ptr (bm 4 (sl s 1) (sl s 3))).bind fun z=>((ldD true 4 z).bind aV).bind fun z=>(stD 4 (.agg [.v (.string ⟨⟨[]⟩⟩),I 0,I 0,I 0]) (.ref 0 0) z).bind fun b=>(bF true 4 0 b).bind fun z=>ao (jG [z]) fun d _=>(un .not (sl d 0)).bind fun z=>(ae (.tup []) z false (some (sl s 3))).bind fun e=>(ae (.tup []) z false (bin .gtr false [] e (I 0))).bind fun f=>(ae (.tup []) z false (some f)).bind fun c=>(ae (.tup []) c true (some (sl s 0))).bind fun g=>(ae (.tup []) c true (some (sl s 3))).bind fun h=>(ae (.tup []) c true (bin .sub false [] h (I 1))).bind fun j=>(ae (.tup []) c true (JM D.ptr (bm 4 g j))).bind fun k=>(ae (.tup []) c true (sE 0 k)).bind fun l=>(ae (.tup []) c true ((ldD false 1 l).bind aV)).bind fun m=>(ae D.bad c true (aa b (.ref 0 0))).bind fun n=>(ae (.tup []) c true ((atD b n).bind (ak false 1))).bind fun p=>(ae (.tup []) c true (bin .geq false [] m p)).bind fun q=>(ae (.tup []) z false (aR c q (B false))).bind fun r=>(aR z (B true) r).bind fun z=>ifD z (some (.ret [B false] [])) ((hD false 4 (sl s 0) (I 0) (sl s 3)).bind fun z=>(lenD false z).bind fun t=>(bq (fun s=>(bin .lss false [] (sl s 7) (sl s 6)).bind fun z=>ifD z ((JM D.ptr (bm 4 (sl s 5) (sl s 7))).bind fun z=>((ldD true 4 z).bind aV).bind fun z=>(stD 4 (.agg [.v (.string ⟨⟨[]⟩⟩),I 0,I 0,I 0]) (.ref 0 0) z).bind fun b=>(aa b (.ref 0 1)).bind fun z=>((atD b z).bind (ak false 1)).bind fun z=>(aa (sl s 1) (.ref 0 1)).bind fun u=>((atD (sl s 1) u).bind (ak false 1)).bind fun v=>(bin .eql false [] z v).bind fun z=>(ae D.bad z true (aa b (.ref 0 2))).bind fun w=>(ae (.tup []) z true ((atD b w).bind (ak false 1))).bind fun za=>(ae D.bad z true (aa (sl s 1) (.ref 0 2))).bind fun zb=>(ae (.tup []) z true ((atD (sl s 1) zb).bind (ak false 1))).bind fun zc=>(ae (.tup []) z true (bin .eql false [] za zc)).bind fun zd=>(aR z zd (B false)).bind fun z=>ifD z (some (.ret [B false] [])) ((bin .add false [] (sl s 7) (I 1)).bind fun z=>some (.nrm [sl s 0,sl s 1,sl s 2,sl s 3,sl s 4,sl s 5,sl s 6,z]))) (some (.ext 2 [sl s 0,sl s 2,sl s 3,sl s 4]))) [sl s 0,b,sl s 1,sl s 2,sl s 3,z,t,I 0]).bind fun o=>dw o (fun i s=>ifN (i.beq 2) ((bin .add false [] (sl s 3) (I 1)).bind fun z=>some (.nrm [sl s 0,sl s 1,sl s 2,z])) (ifN (i.beq 1) ((bin .add false [] (sl s 3) (I 1)).bind fun z=>some (.nrm [sl s 0,sl s 1,sl s 2,z])) (some (.ext i [sl s 0])))) fun a b=>some (.ret a b))) (some (.ext 0 [sl s 0]))) [x0,x0,z,I 0]).bind fun o=>dw o (fun i s=>ifN (i.beq 0) ((lenD false (sl s 0)).bind fun z=>ao (cd [z,I 1,I 32]) fun d _=>some (.ret [sl d 0] [])) none) fun a b=>some (.ret a b)):=by kernel_rfl
theorem wJ (x0:D):eQ [x0]=((fy 4 x0).bind fun y=>(aa y (.ref 0 1)).bind fun z=>((atD y z).bind (ak false 1)).bind fun z=>(lenD false z).bind fun k=>(bq (fun s=>(bin .lss false [] (sl s 4) (sl s 3)).bind fun z=>ifD z ((JM D.ptr (bm 4 (sl s 2) (sl s 4))).bind fun z=>(ldD true 4 z).bind fun z=>(stD 4 (.agg [I 0,.arr 1 [],B false,I 0]) (.ref 0 0) z).bind fun b=>(aa (sl s 0) (.ref 0 0)).bind fun z=>((atD (sl s 0) z).bind (ak false 1)).bind fun z=>(bF true 4 0 b).bind fun e=>ao (gG [z,e]) fun d _=>(un .not (sl d 0)).bind fun z=>(ae (.tup []) z false (some (sl s 4))).bind fun f=>(ae (.tup []) z false (bin .gtr false [] f (I 0))).bind fun g=>(ae (.tup []) z false (some g)).bind fun c=>(ae D.bad c true (aa (sl s 0) (.ref 0 1))).bind fun h=>(ae (.tup []) c true ((atD (sl s 0) h).bind (ak false 1))).bind fun l=>(ae (.tup []) c true (some (sl s 4))).bind fun m=>(ae (.tup []) c true (bin .sub false [] m (I 1))).bind fun n=>(ae (.tup []) c true (JM D.ptr (bm 4 l n))).bind fun p=>(ae (.tup []) c true (sE 0 p)).bind fun q=>(ae (.tup []) c true ((ldD false 1 q).bind aV)).bind fun r=>(ae D.bad c true (aa b (.ref 0 0))).bind fun t=>(ae (.tup []) c true (((atD b t).bind (ak false 1)).bind aV)).bind fun u=>(ae (.tup []) c true (bin .geq false [] r u)).bind fun v=>(ae (.tup []) z false (aR c v (B false))).bind fun w=>(aR z (B true) w).bind fun z=>ifD z (some (.ret [B false] [])) ((aa b (.ref 0 3)).bind fun z=>(((atD b z).bind (ak false 1)).bind aV).bind fun z=>(bin .add false [] (sl s 1) z).bind fun z=>(bin .add false [] (sl s 4) (I 1)).bind fun za=>some (.nrm [sl s 0,z,sl s 2,sl s 3,za]))) (some (.ext 0 [sl s 0,sl s 1]))) [y,I 0,z,k,I 0]).bind fun o=>dw o (fun i s=>ifN (i.beq 0) ((aa (sl s 0) (.ref 0 0)).bind fun z=>((atD (sl s 0) z).bind (ak false 1)).bind fun z=>ao (fT [z]) fun d _=>(ae D.bad (sl d 0) true (aa (sl s 0) (.ref 0 1))).bind fun z=>(ae (.tup []) (sl d 0) true ((atD (sl s 0) z).bind (ak false 1))).bind fun z=>(ae (.tup []) (sl d 0) true (lenD false z)).bind fun z=>(ae (.tup []) (sl d 0) true (bin .leq false [] z (I 5))).bind fun z=>(aR (sl d 0) z (B false)).bind fun z=>(ae D.bad z true (aa (sl s 0) (.ref 0 2))).bind fun e=>(ae (.tup []) z true (((atD (sl s 0) e).bind (ak false 1)).bind aV)).bind fun f=>dF z true (ao (cd [f,I 0,I 9999]) fun d _=>some (.nrm [sl d 0])) [.tup []] fun j=>(aR z (sl j 0) (B false)).bind fun z=>(ae D.bad z true (aa (sl s 0) (.ref 0 3))).bind fun g=>(ae (.tup []) z true (((atD (sl s 0) g).bind (ak false 1)).bind aV)).bind fun c=>(ae (.tup []) z true (some (sl s 1))).bind fun h=>dF z true (ao (cd [c,h,I 1000000]) fun d _=>some (.nrm [sl d 0])) [.tup []] fun j=>(aR z (sl j 0) (B false)).bind fun z=>some (.ret [z] [])) none) fun a b=>some (.ret a b)):=by kernel_rfl
theorem oT (x0:D):dT [x0]=((fy 4 x0).bind fun y=>(bF true 4 0 y).bind fun z=>ao (eQ [z]) fun c _=>(un .not (sl c 0)).bind fun z=>ifD z (some (.ret [.arr 1 [],B false] [])) ((aa y (.ref 0 1)).bind fun z=>((atD y z).bind (ak false 1)).bind fun z=>(lenD false z).bind fun d=>(bq (fun s=>(bin .lss false [] (sl s 3) (sl s 2)).bind fun z=>ifD z ((JM D.ptr (bm 4 (sl s 1) (sl s 3))).bind fun z=>(ldD true 4 z).bind fun z=>(stD 4 (.agg [I 0,.arr 1 [],B false,I 0]) (.ref 0 0) z).bind fun b=>(aa b (.ref 0 2)).bind fun z=>(((atD b z).bind (ak false 1)).bind aV).bind fun z=>ifD z ((aa b (.ref 0 0)).bind fun z=>(((atD b z).bind (ak false 1)).bind aV).bind fun z=>(bj 1 [z]).bind fun a=>(jU a).bind fun b=>(iq 1 8 (sl s 0) b).bind fun y=>(bin .add false [] (sl s 3) (I 1)).bind fun z=>some (.nrm [y,sl s 1,sl s 2,z])) ((bin .add false [] (sl s 3) (I 1)).bind fun z=>some (.nrm [sl s 0,sl s 1,sl s 2,z]))) (some (.ext 0 [sl s 0]))) [.arr 1 [],z,d,I 0]).bind fun o=>dw o (fun i s=>ifN (i.beq 0) (some (.ret [sl s 0,B true] [])) none) fun a b=>some (.ret a b))):=by kernel_rfl
theorem wv (x0 x1 x2:D):ch [x0,x1,x2]=((bin .geq false [] x0 x1).bind fun z=>(ae (.tup []) z true (some x0)).bind fun c=>(ae (.tup []) z true (some x2)).bind fun d=>(ae (.tup []) z true (bin .leq false [] c d)).bind fun e=>(aR z e (B false)).bind fun z=>some (.ret [z] [])):=by kernel_rfl
theorem rY (x0:D):fE [x0]=(ao (ch [x0,I 1,I 99]) fun c _=>some (.ret [sl c 0] [])):=by kernel_rfl
theorem xS (x0 x1:D):gE [x0,x1]=((lenD false x0).bind fun z=>(bq (fun s=>(bin .lss false [] (sl s 3) (sl s 2)).bind fun z=>ifD z ((JM D.ptr (bm 4 (sl s 1) (sl s 3))).bind fun z=>((ldD true 4 z).bind aV).bind fun z=>(stD 4 (.agg [.v (.string ⟨⟨[]⟩⟩),I 0,I 0,I 0]) (.ref 0 0) z).bind fun b=>(aa b (.ref 0 0)).bind fun z=>((atD b z).bind (ak false 1)).bind fun z=>(bin .eql false [] z (sl s 0)).bind fun z=>ifD z (some (.ret [sl s 3] [])) ((bin .add false [] (sl s 3) (I 1)).bind fun z=>some (.nrm [sl s 0,sl s 1,sl s 2,z]))) (some (.ext 0 []))) [x1,x0,z,I 0]).bind fun o=>dw o (fun i _=>ifN (i.beq 0) (some (.ret [I (-1)] [])) none) fun a b=>some (.ret a b)):=by kernel_rfl
theorem rN (x0 x1 x2:D):fd [x0,x1,x2]=((bq (fun s=>(lenD true (sl s 0)).bind fun z=>(bin .lss false [] (sl s 3) z).bind fun z=>ifD z ((qY (sl s 0) (sl s 3)).bind fun z=>(bin .lss false [] z (.v (KC Kz 97))).bind fun z=>(ae (.tup []) z false (some (sl s 0))).bind fun c=>(ae (.tup []) z false (some (sl s 3))).bind fun d=>(ae (.tup []) z false (qY c d)).bind fun e=>(ae (.tup []) z false (bin .gtr false [] e (.v (KC Kz 122)))).bind fun f=>(aR z (B true) f).bind fun z=>ifD z (some (.ret [B false] [])) ((bin .add false [] (sl s 3) (I 1)).bind fun z=>some (.nrm [sl s 0,sl s 1,sl s 2,z]))) (some (.ext 0 [sl s 0,sl s 1,sl s 2]))) [x0,x1,x2,I 0]).bind fun o=>dw o (fun i s=>ifN (i.beq 0) ((lenD true (sl s 0)).bind fun z=>ao (ch [z,sl s 1,sl s 2]) fun g _=>some (.ret [sl g 0] [])) none) fun a b=>some (.ret a b)):=by kernel_rfl
theorem wd (x0:D):iH [x0]=(ao (fd [x0,I 1,I 3]) fun c _=>some (.ret [sl c 0] [])):=by kernel_rfl
theorem vS (x0:D):fh [x0]=(ao (ch [x0,I 0,I 9]) fun c _=>some (.ret [sl c 0] [])):=by kernel_rfl
theorem yu (x0:D):jK [x0]=((fy 4 x0).bind fun y=>(aa y (.ref 0 0)).bind fun z=>((atD y z).bind (ak false 1)).bind fun z=>ao (iH [z]) fun c _=>(ae D.bad (sl c 0) true (aa y (.ref 0 1))).bind fun z=>(ae (.tup []) (sl c 0) true ((atD y z).bind (ak false 1))).bind fun z=>dF (sl c 0) true (ao (fh [z]) fun c _=>some (.nrm [sl c 0])) [.tup []] fun d=>(aR (sl c 0) (sl d 0) (B false)).bind fun z=>(ae D.bad z true (aa y (.ref 0 2))).bind fun e=>(ae (.tup []) z true ((atD y e).bind (ak false 1))).bind fun f=>dF z true (ao (fh [f]) fun c _=>some (.nrm [sl c 0])) [.tup []] fun d=>(aR z (sl d 0) (B false)).bind fun z=>(ae D.bad z true (aa y (.ref 0 3))).bind fun g=>(ae (.tup []) z true ((atD y g).bind (ak false 1))).bind fun h=>dF z true (ao (ch [h,I 0,I 9999]) fun c _=>some (.nrm [sl c 0])) [.tup []] fun d=>(aR z (sl d 0) (B false)).bind fun z=>some (.ret [z] [])):=by kernel_rfl
theorem uK (x0 x1 x2:D):hY [x0,x1,x2]=((lenD false x0).bind fun z=>(bq (fun s=>(bin .lss false [] (sl s 4) (sl s 3)).bind fun z=>ifD z ((JM D.ptr (bm 4 (sl s 2) (sl s 4))).bind fun z=>((ldD true 4 z).bind aV).bind fun z=>(stD 4 (.agg [.v (.string ⟨⟨[]⟩⟩),I 0,I 0,I 0]) (.ref 0 0) z).bind fun b=>(aa b (.ref 0 1)).bind fun z=>((atD b z).bind (ak false 1)).bind fun z=>(bin .eql false [] z (sl s 0)).bind fun z=>(ae D.bad z true (aa b (.ref 0 2))).bind fun c=>(ae (.tup []) z true ((atD b c).bind (ak false 1))).bind fun d=>(ae (.tup []) z true (some (sl s 1))).bind fun e=>(ae (.tup []) z true (bin .eql false [] d e)).bind fun f=>(aR z f (B false)).bind fun z=>ifD z (some (.ret [B true] [])) ((bin .add false [] (sl s 4) (I 1)).bind fun z=>some (.nrm [sl s 0,sl s 1,sl s 2,sl s 3,z]))) (some (.ext 0 []))) [x1,x2,x0,z,I 0]).bind fun o=>dw o (fun i _=>ifN (i.beq 0) (some (.ret [B false] [])) none) fun a b=>some (.ret a b)):=by kernel_rfl
theorem wq (x0:D):dN [x0]=((lenD false x0).bind fun z=>(bq (fun s=>(bin .lss false [] (sl s 3) (sl s 2)).bind fun z=>ifD z ((JM D.ptr (bm 4 (sl s 1) (sl s 3))).bind fun z=>((ldD true 4 z).bind aV).bind fun z=>(stD 4 (.agg [.v (.string ⟨⟨[]⟩⟩),I 0,I 0,I 0]) (.ref 0 0) z).bind fun b=>(bF true 4 0 b).bind fun z=>ao (jK [z]) fun d _=>(un .not (sl d 0)).bind fun z=>(ae (.tup []) z false (some (sl s 3))).bind fun e=>(ae (.tup []) z false (bin .gtr false [] e (I 0))).bind fun f=>(ae (.tup []) z false (some f)).bind fun c=>(ae (.tup []) c true (some (sl s 0))).bind fun g=>(ae (.tup []) c true (some (sl s 3))).bind fun h=>(ae (.tup []) c true (bin .sub false [] h (I 1))).bind fun j=>(ae (.tup []) c true (JM D.ptr (bm 4 g j))).bind fun k=>(ae (.tup []) c true (sE 0 k)).bind fun l=>(ae (.tup []) c true ((ldD false 1 l).bind aV)).bind fun m=>(ae D.bad c true (aa b (.ref 0 0))).bind fun n=>(ae (.tup []) c true ((atD b n).bind (ak false 1))).bind fun p=>(ae (.tup []) c true (bin .geq false [] m p)).bind fun q=>(ae (.tup []) z false (aR c q (B false))).bind fun r=>(aR z (B true) r).bind fun z=>(ae (.tup []) z false (some (sl s 0))).bind fun t=>(ae (.tup []) z false (some (sl s 3))).bind fun u=>(ae (.tup []) z false (hD false 4 t (I 0) u)).bind fun v=>(ae D.bad z false (aa b (.ref 0 1))).bind fun w=>(ae (.tup []) z false ((atD b w).bind (ak false 1))).bind fun za=>(ae D.bad z false (aa b (.ref 0 2))).bind fun zb=>(ae (.tup []) z false ((atD b zb).bind (ak false 1))).bind fun zc=>dF z false (ao (hY [v,za,zc]) fun d _=>some (.nrm [sl d 0])) [.tup []] fun zd=>(aR z (B true) (sl zd 0)).bind fun z=>ifD z (some (.ret [B false] [])) ((bin .add false [] (sl s 3) (I 1)).bind fun z=>some (.nrm [sl s 0,sl s 1,sl s 2,z]))) (some (.ext 0 [sl s 0]))) [x0,x0,z,I 0]).bind fun o=>dw o (fun i s=>ifN (i.beq 0) ((lenD false (sl s 0)).bind fun z=>ao (ch [z,I 1,I 32]) fun d _=>some (.ret [sl d 0] [])) none) fun a b=>some (.ret a b)):=by kernel_rfl
theorem tP (x0 x1:D):eG [x0,x1]=((lenD false x1).bind fun z=>(bq (fun s=>(bin .lss false [] (sl s 4) (sl s 3)).bind fun z=>ifD z ((JM D.ptr (bm 1 (sl s 2) (sl s 4))).bind fun z=>((ldD false 1 z).bind aV).bind fun z=>ao (gE [sl s 0,z]) fun c _=>(bin .lss false [] (sl c 0) (I 0)).bind fun z=>ifD z (some (.ret [B false] [])) ((bin .add false [] (sl s 4) (I 1)).bind fun z=>some (.nrm [sl s 0,sl s 1,sl s 2,sl s 3,z]))) (some (.ext 0 [sl s 0,sl s 1]))) [x0,x1,x1,z,I 0]).bind fun o=>dw o (fun i s=>ifN (i.beq 0) (ao (dN [sl s 0]) fun c _=>(ae (.tup []) (sl c 0) true (some (sl s 1))).bind fun z=>(ae (.tup []) (sl c 0) true (lenD false z)).bind fun z=>(ae (.tup []) (sl c 0) true (bin .leq false [] z (I 60))).bind fun z=>(aR (sl c 0) z (B false)).bind fun z=>some (.ret [z] [])) none) fun a b=>some (.ret a b)):=by kernel_rfl
theorem vt (x0 x1:D):gO [x0,x1]=((fy 4 x1).bind fun y=>(aa y (.ref 0 0)).bind fun z=>(((atD y z).bind (ak false 1)).bind aV).bind fun z=>ao (fE [z]) fun c _=>(ae (.tup []) (sl c 0) true (some x0)).bind fun z=>(ae D.bad (sl c 0) true (aa y (.ref 0 1))).bind fun f=>(ae (.tup []) (sl c 0) true ((atD y f).bind (ak false 1))).bind fun g=>dF (sl c 0) true (ao (eG [z,g]) fun c _=>some (.nrm [sl c 0])) [.tup []] fun e=>(aR (sl c 0) (sl e 0) (B false)).bind fun z=>(ae D.bad z true (aa y (.ref 0 1))).bind fun h=>(ae (.tup []) z true ((atD y h).bind (ak false 1))).bind fun j=>(ae (.tup []) z true (lenD false j)).bind fun k=>(ae (.tup []) z true (bin .leq false [] k (I 40))).bind fun l=>(aR z l (B false)).bind fun z=>(ae D.bad z true (aa y (.ref 0 3))).bind fun m=>(ae (.tup []) z true (((atD y m).bind (ak false 1)).bind aV)).bind fun n=>dF z true (ao (ch [n,I 0,I 100000]) fun c _=>some (.nrm [sl c 0])) [.tup []] fun e=>(aR z (sl e 0) (B false)).bind fun z=>(ae D.bad z true (aa y (.ref 0 2))).bind fun p=>(ae (.tup []) z true (((atD y p).bind (ak false 1)).bind aV)).bind fun q=>(ae (.tup []) z true (un .not q)).bind fun r=>(ae (.tup []) z true (some r)).bind fun d=>(ae D.bad d false (aa y (.ref 0 1))).bind fun t=>(ae (.tup []) d false ((atD y t).bind (ak false 1))).bind fun u=>(ae (.tup []) d false (lenD false u)).bind fun v=>(ae (.tup []) d false (bin .gtr false [] v (I 0))).bind fun w=>(ae (.tup []) z true (aR d (B true) w)).bind fun za=>(aR z za (B false)).bind fun z=>some (.ret [z] [])):=by kernel_rfl
theorem wL (x0:D):de [x0]=((fy 4 x0).bind fun y=>(aa y (.ref 0 1)).bind fun z=>((atD y z).bind (ak false 1)).bind fun z=>(lenD false z).bind fun n=>(bq (fun s=>(bin .lss false [] (sl s 4) (sl s 3)).bind fun z=>ifD z ((JM D.ptr (bm 4 (sl s 2) (sl s 4))).bind fun z=>(ldD true 4 z).bind fun z=>(stD 4 (.agg [I 0,.arr 1 [],B false,I 0]) (.ref 0 0) z).bind fun b=>(aa (sl s 0) (.ref 0 0)).bind fun z=>((atD (sl s 0) z).bind (ak false 1)).bind fun z=>(bF true 4 0 b).bind fun e=>ao (gO [z,e]) fun d _=>(un .not (sl d 0)).bind fun z=>(ae (.tup []) z false (some (sl s 4))).bind fun f=>(ae (.tup []) z false (bin .gtr false [] f (I 0))).bind fun g=>(ae (.tup []) z false (some g)).bind fun c=>(ae D.bad c true (aa (sl s 0) (.ref 0 1))).bind fun h=>(ae (.tup []) c true ((atD (sl s 0) h).bind (ak false 1))).bind fun j=>(ae (.tup []) c true (some (sl s 4))).bind fun k=>(ae (.tup []) c true (bin .sub false [] k (I 1))).bind fun l=>(ae (.tup []) c true (JM D.ptr (bm 4 j l))).bind fun p=>(ae (.tup []) c true (sE 0 p)).bind fun q=>(ae (.tup []) c true ((ldD false 1 q).bind aV)).bind fun r=>(ae D.bad c true (aa b (.ref 0 0))).bind fun t=>(ae (.tup []) c true (((atD b t).bind (ak false 1)).bind aV)).bind fun u=>(ae (.tup []) c true (bin .geq false [] r u)).bind fun v=>(ae (.tup []) z false (aR c v (B false))).bind fun w=>(aR z (B true) w).bind fun z=>ifD z (some (.ret [B false] [])) ((aa b (.ref 0 3)).bind fun z=>(((atD b z).bind (ak false 1)).bind aV).bind fun z=>(bin .add false [] (sl s 1) z).bind fun z=>(bin .add false [] (sl s 4) (I 1)).bind fun za=>some (.nrm [sl s 0,z,sl s 2,sl s 3,za]))) (some (.ext 0 [sl s 0,sl s 1]))) [y,I 0,z,n,I 0]).bind fun o=>dw o (fun i s=>ifN (i.beq 0) ((aa (sl s 0) (.ref 0 0)).bind fun z=>((atD (sl s 0) z).bind (ak false 1)).bind fun z=>ao (dN [z]) fun d _=>(ae D.bad (sl d 0) true (aa (sl s 0) (.ref 0 1))).bind fun z=>(ae (.tup []) (sl d 0) true ((atD (sl s 0) z).bind (ak false 1))).bind fun z=>(ae (.tup []) (sl d 0) true (lenD false z)).bind fun z=>(ae (.tup []) (sl d 0) true (bin .leq false [] z (I 5))).bind fun z=>(aR (sl d 0) z (B false)).bind fun z=>(ae D.bad z true (aa (sl s 0) (.ref 0 2))).bind fun e=>(ae (.tup []) z true (((atD (sl s 0) e).bind (ak false 1)).bind aV)).bind fun f=>dF z true (ao (ch [f,I 0,I 9999]) fun d _=>some (.nrm [sl d 0])) [.tup []] fun m=>(aR z (sl m 0) (B false)).bind fun z=>(ae D.bad z true (aa (sl s 0) (.ref 0 3))).bind fun g=>(ae (.tup []) z true (((atD (sl s 0) g).bind (ak false 1)).bind aV)).bind fun c=>dF z true (ao (ch [c,I 0,I 1000000]) fun d _=>some (.nrm [sl d 0])) [.tup []] fun m=>(aR z (sl m 0) (B false)).bind fun z=>(ae D.bad z true (aa (sl s 0) (.ref 0 3))).bind fun h=>(ae (.tup []) z true (((atD (sl s 0) h).bind (ak false 1)).bind aV)).bind fun j=>(ae (.tup []) z true (some (sl s 1))).bind fun k=>(ae (.tup []) z true (bin .geq false [] j k)).bind fun l=>(aR z l (B false)).bind fun z=>some (.ret [z] [])) none) fun a b=>some (.ret a b)):=by kernel_rfl
theorem oL (x0:D):dS [x0]=((fy 4 x0).bind fun y=>(bF true 4 0 y).bind fun z=>ao (de [z]) fun c _=>(un .not (sl c 0)).bind fun z=>ifD z ((bj 1 []).bind fun a=>some (.ret [a,B false] [])) ((bj 1 []).bind fun a=>(aa y (.ref 0 1)).bind fun z=>((atD y z).bind (ak false 1)).bind fun z=>(lenD false z).bind fun d=>(bq (fun s=>(bin .lss false [] (sl s 3) (sl s 2)).bind fun z=>ifD z ((JM D.ptr (bm 4 (sl s 1) (sl s 3))).bind fun z=>(ldD true 4 z).bind fun z=>(stD 4 (.agg [I 0,.arr 1 [],B false,I 0]) (.ref 0 0) z).bind fun b=>(aa b (.ref 0 2)).bind fun z=>(((atD b z).bind (ak false 1)).bind aV).bind fun z=>ifD z ((aa b (.ref 0 0)).bind fun z=>(((atD b z).bind (ak false 1)).bind aV).bind fun z=>(bj 1 [z]).bind fun a=>(jU a).bind fun b=>(iq 1 8 (sl s 0) b).bind fun y=>(bin .add false [] (sl s 3) (I 1)).bind fun z=>some (.nrm [y,sl s 1,sl s 2,z])) ((bin .add false [] (sl s 3) (I 1)).bind fun z=>some (.nrm [sl s 0,sl s 1,sl s 2,z]))) (some (.ext 0 [sl s 0]))) [a,z,d,I 0]).bind fun o=>dw o (fun i s=>ifN (i.beq 0) (some (.ret [sl s 0,B true] [])) none) fun a b=>some (.ret a b))):=by kernel_rfl
theorem ww (x0:D):kR [x0]=((bj 1 []).bind fun a=>(jU x0).bind fun b=>(iq 1 16 a b).bind fun y=>some (.ret [y] [])):=by kernel_rfl
theorem wi (x0 x1 x2:D):kL [x0,x1,x2]=((bj 4 []).bind fun a=>(jU x0).bind fun b=>(iq 4 40 a b).bind fun y=>(lenD false x1).bind fun z=>(bq (fun s=>(bin .lss false [] (sl s 4) (sl s 3)).bind fun z=>ifD z ((JM D.ptr (bm 1 (sl s 2) (sl s 4))).bind fun z=>((ldD false 1 z).bind aV).bind fun z=>(aa (sl s 1) (.ref 0 0)).bind fun d=>(aa (sl s 1) (.ref 0 0)).bind fun e=>(aa e (sl s 1)).bind fun i=>ao (fS [i,z]) fun c _=>((aa d (sl s 1)).bind fun b=>tV 4 b (sl c 0)).bind fun z=>(cQ 3 z).bind fun z=>((atD (sl s 1) z).bind (ak false 1)).bind fun z=>(bin .add false [] z (sl s 0)).bind fun z=>((aa d (sl s 1)).bind fun b=>tV 4 b (sl c 0)).bind fun f=>(cQ 3 f).bind fun g=>(stD 1 (sl s 1) g z).bind fun b=>(bin .add false [] (sl s 4) (I 1)).bind fun z=>some (.nrm [sl s 0,b,sl s 2,sl s 3,z])) (some (.ext 0 [sl s 1]))) [x2,y,x1,z,I 0]).bind fun o=>dw o (fun i s=>ifN (i.beq 0) ((aa (sl s 0) (.ref 0 0)).bind fun z=>(aa z (sl s 0)).bind fun i=>ao (fT [i]) fun c _=>(un .not (sl c 0)).bind fun z=>ifD z (some (.ret [.arr 4 [],B false] [])) (some (.ret [sl s 0,B true] []))) none) fun a b=>some (.ret a b)):=by kernel_rfl
set_option maxRecDepth 100000
theorem bt (a b c:Int):cd [I a,I b,I c]=some (.ret [B (decide (b≤a∧a≤c))] []):=by
 rw [Ad];by_cases h:b≤a<;>simp [h]
theorem bS (a b c:Int):ch [I a,I b,I c]=some (.ret [B (decide (b≤a∧a≤c))] []):=by
 rw [wv];by_cases h:b≤a<;>simp [h]
set_option maxRecDepth 100000
def dv {β:Type} (p:β→Bool):Nat→List β→Option Nat
 | _,[]=>none
 | i,x::l=>if p x=true then some i else dv p (i+1) l
theorem lM {β:Type} {body:List D→Option Out} (l:List β) (st:Nat→List D) (p:β→Bool) (o1:Nat→Out) (o2:Out) (hs:∀(i:Nat) (hi:i<l.length),body (st i)=some (if p l[i]=true then o1 i else .nrm (st (i+1)))) (he:body (st l.length)=some o2)
  (h1:∀i,(o1 i).ends=true) (h2:o2.ends=true) {s0:List D} (h:s0=st 0):bq body s0=some ((dv p 0 l).elim o2 o1):=by
 have e:∀(m:List β) (i:Nat),goL (fun i x (_:Unit)=>if p x=true then .inr (o1 i) else .inl ()) (fun _=>o2) i m ()=(dv p i m).elim o2 o1:=by
  intro m;induction m with
  | nil=>intro i;simp [goL,dv]
  | cons x m ih =>
   intro i;simp only [goL,dv];by_cases hp:p x=true
   ·simp [hp]
   ·simp [hp,ih]
 rw [←e];refine oG l (fun i _=>st i) (fun _ _=>True) _ _ (fun i x a hx _=>?_) (fun _ _=>⟨he,h2⟩) () trivial h
 have hi:i<l.length:=(JK.1 hx).1;have hxe:l[i]=x:=(JK.1 hx).2;have:=hs i hi;rw [hxe] at this;by_cases hp:p x=true
 ·simpa [hp,h1] using this
 ·simpa [hp] using this
theorem sg {α β:Type} {body:List D→Option Out} (l:List β) (st:Nat→α→List D) (Inv:Nat→α→Prop) (p:Nat→β→Bool) (f:α→β→α) (o1:Out) (fin:α→Out) (a:α) (hs:∀(i:Nat) (a:α) (hi:i<l.length),Inv i a→body (st i a)=some (if p i l[i]=true then .nrm (st (i+1) (f a l[i])) else o1)∧(p i l[i]=true→Inv (i+1) (f a l[i])))
  (he:∀a,Inv l.length a→body (st l.length a)=some (fin a)) (h1:o1.ends=true) (h2:∀a,(fin a).ends=true) (h0:Inv 0 a) {s0:List D} (h:s0=st 0 a):bq body s0=some (if cW p 0 l=true then fin (l.foldl f a) else o1):=by
 have e:∀(m:List β) (i:Nat) (a:α),goL (fun i x (a:α)=>if p i x=true then .inl (f a x) else .inr o1) fin i m a=if cW p i m=true then fin (m.foldl f a) else o1:=by
  intro m;induction m with
  | nil=>intro i a;simp [goL,cW]
  | cons x m ih =>
   intro i a;simp only [goL,cW,List.foldl_cons];by_cases hp:p i x=true
   ·simp [hp,ih]
   ·simp [hp]
 rw [←e];refine oG l st Inv _ _ (fun i x a hx hI=>?_) (fun a hI=>⟨he a hI,h2 a⟩) a h0 h
 have hi:i<l.length:=(JK.1 hx).1;have hxe:l[i]=x:=(JK.1 hx).2;have:=hs i a hi hI;rw [hxe] at this;by_cases hp:p i x=true
 ·simpa [hp] using this
 ·simpa [hp,h1] using this
def bd (s:ByteArray):List UInt8:=s.data.toList
theorem jQ {s:ByteArray} {k:IntKind} {i:Nat}:qY (T s) (.v (.int k (i:Int)))=((bd s)[i]?).map fun b=>U b.toNat:=by simp [qY,bd]
theorem ee (s:ByteArray):s.size=(bd s).length:=rfl
theorem ln {a b:ByteArray} {bl:Bool} {eq:List Nat}:bin .geq bl eq (T a) (T b)=some (B (!Ks a.toList b.toList)):=by simp [bin,qb]
def az (b:UInt8):Bool:=decide (97≤(b.toNat:Int))&&decide ((b.toNat:Int)≤122)
def ex (s:ByteArray) (lo hi:Int):Bool:=cW (fun _ b=>az b) 0 (bd s)&&decide (lo≤(s.size:Int)∧(s.size:Int)≤hi)
theorem lH (s:ByteArray) (n:Int) (h:s.size≤9223372036854775807):dZ [T s,I n]=some (.ret [B (ex s 1 n)] []):=by
 rw [sR];rw [ee] at h;refine aO _ (gP (bd s) (fun i=>[T s,I n,I i]) (fun _ b=>az b) (.ret [B false] []) (.ext 0 [T s,I n]) (fun i hi=>?_) ?_ rfl rfl rfl) ?_
 ·have hw:JJ.wrap ((i:Int)+1)=(i:Int)+1:=ax (by omega) (by omega)
  by_cases h1:97≤(((bd s)[i]).toNat:Int)
  ·by_cases h2:(((bd s)[i]).toNat:Int)≤122
   ·simp -implicitDefEqProofs [ee,jQ,hi,hw,az,h1,h2,Ki.2 h1,Ki.2 h2]
   ·simp -implicitDefEqProofs [ee,jQ,hi,hw,az,h1,h2,Ki.2 h1,Kn.1 h2]
  ·simp -implicitDefEqProofs [ee,jQ,hi,hw,az,h1,Kn.1 h1]
 ·simp -implicitDefEqProofs [ee]
 ·by_cases hg:cW (fun _ b=>az b) 0 (bd s)=true<;>simp -implicitDefEqProofs [hg,ex,bt]
theorem rL (s:ByteArray) (m n:Int) (h:s.size≤9223372036854775807):fd [T s,I m,I n]=some (.ret [B (ex s m n)] []):=by
 rw [rN];rw [ee] at h;refine aO _ (gP (bd s) (fun i=>[T s,I m,I n,I i]) (fun _ b=>az b) (.ret [B false] []) (.ext 0 [T s,I m,I n]) (fun i hi=>?_) ?_ rfl rfl rfl) ?_
 ·have hw:JJ.wrap ((i:Int)+1)=(i:Int)+1:=ax (by omega) (by omega)
  by_cases h1:97≤(((bd s)[i]).toNat:Int)
  ·by_cases h2:(((bd s)[i]).toNat:Int)≤122
   ·simp -implicitDefEqProofs [ee,jQ,hi,hw,az,h1,h2,Ki.2 h1,Ki.2 h2]
   ·simp -implicitDefEqProofs [ee,jQ,hi,hw,az,h1,h2,Ki.2 h1,Kn.1 h2]
  ·simp -implicitDefEqProofs [ee,jQ,hi,hw,az,h1,Kn.1 h1]
 ·simp -implicitDefEqProofs [ee]
 ·by_cases hg:cW (fun _ b=>az b) 0 (bd s)=true<;>simp -implicitDefEqProofs [hg,ex,bS]
theorem wS (s:ByteArray) (h:s.size≤9223372036854775807):iH [T s]=some (.ret [B (ex s 1 3)] []):=by
 rw [wd];simp [rL s 1 3 h]
theorem vp (n:Int):fh [I n]=some (.ret [B (decide (0≤n∧n≤9))] []):=by
 rw [vS];simp [bS]
abbrev Bx:=ByteArray × Int × Int × Int
abbrev bx (x:Bx):D:=.agg [T x.1,I x.2.1,I x.2.2.1,I x.2.2.2]
abbrev bxs (l:List Bx):D:=.arr 4 (l.map bx)
theorem xP (x:Bx):(bx x).isV=true:=rfl
def oO (l:List Bx):Prop:=l.length≤1048576∧∀x∈l,x.1.size≤1048576
def oM (x:Bx):Bool:=ex x.1 1 3&&decide (0≤x.2.1∧x.2.1≤9)&&decide (0≤x.2.2.1∧x.2.2.1≤9)&&decide (0≤x.2.2.2∧x.2.2.2≤9999)
theorem ya (x:Bx) (h:x.1.size≤1048576):jG [bx x]=some (.ret [B (oM x)] []):=by
 rw [yL];have e:=lH x.1 3 (by omega);cases h0:ex x.1 1 3<;>rw [h0] at e
 ·simp -implicitDefEqProofs [e,oM,h0]
 ·by_cases h1:0≤x.2.1∧x.2.1≤9<;>by_cases h2:0≤x.2.2.1∧x.2.2.1≤9<;>simp -implicitDefEqProofs [e,bt,oM,h0,h1,h2]
theorem xW (x:Bx) (h:x.1.size≤1048576):jK [bx x]=some (.ret [B (oM x)] []):=by
 rw [yu];have e:=wS x.1 (by omega);cases h0:ex x.1 1 3<;>rw [h0] at e
 ·simp -implicitDefEqProofs [e,oM,h0]
 ·by_cases h1:0≤x.2.1∧x.2.1≤9<;>by_cases h2:0≤x.2.2.1∧x.2.2.1≤9<;>simp -implicitDefEqProofs [e,vp,bS,oM,h0,h1,h2]
def fP (x y:Bx):Bool:=decide (y.2.1=x.2.1)&&decide (y.2.2.1=x.2.2.1)
def pBx (l:List Bx) (i:Nat) (x:Bx):Bool:=oM x && !(decide (0<i) && !Ks (l.getD (i - 1) (ByteArray.empty,0,0,0)).1.toList x.1.toList)&&cW (fun _ y=>!fP x y) 0 (l.take i)
def bp (l:List Bx):Bool:=cW (pBx l) 0 l&&decide (1≤(l.length:Int)∧(l.length:Int)≤32)
theorem AG {l:List Bx} {i:Nat} (hi:i≤l.length):hD false 4 (bxs l) (I 0) (I (i:Int))=some (bxs (l.take i)):=by
 have:=BQ (z:=4) (l:=l.map bx) (k:=.i64) (k':=.i64) (Nat.zero_le i) (by simpa using hi);rw [Kx,←JT] at this;exact this
theorem iT (l:List Bx) (h:oO l):fT [bxs l]=some (.ret [B (bp l)] []):=by
 rw [wY];have hl:=h.1;simp only [bw,JN,JU];refine aO _ (gP l (fun i=>[bxs l,bxs l,I l.length,I i]) (pBx l) (.ret [B false] []) (.ext 0 [bxs l]) (fun i hi=>?_) ?_ rfl rfl rfl) ?_
 ·have hw:JJ.wrap ((i:Int)+1)=(i:Int)+1:=ax (by omega) (by omega)
  have eb:=ya l[i] (h.2 _ (JY hi));have ht:=AG (Nat.le_of_lt hi);cases h1:oM l[i]
  ·rw [h1] at eb
   simp -implicitDefEqProofs [hi,eb,h1,pBx]
  ·rw [h1] at eb
   by_cases h0:0<i
   ·have hw2:JJ.wrap ((i:Int) - 1)=((i - 1:Nat):Int):=by rw [ax (by omega) (by omega)];omega
    have hy:i - 1<l.length:=by omega
    cases h2:Ks l[i - 1].1.toList l[i].1.toList
    ·simp -implicitDefEqProofs [hi,hy,eb,h1,pBx,hw2,h0,h2,ln]
    ·have hp:pBx l i l[i]=cW (fun _ y=>!fP l[i] y) 0 (l.take i):=by simp [pBx,h1,h0,h2,hy]
     rw [hp];have htl:(l.take i).length≤1048576:=by simp;omega
     simp -implicitDefEqProofs [hi,hy,eb,hw2,h0,h2,ln,ht,hw,←JT,-Kc,-JT];generalize l.take i=t at ht htl;refine aO _ (gP t (fun j=>[bxs l,bx l[i],bxs l,I l.length,I i,bxs t,I t.length,I j]) (fun _ y=>!fP l[i] y) (.ret [B false] []) (.ext 2 [bxs l,bxs l,I l.length,I i]) (fun j hj=>?_) ?_ rfl rfl rfl) ?_
     ·have hwj:JJ.wrap ((j:Int)+1)=(j:Int)+1:=ax (by omega) (by omega)
      by_cases c1:t[j].2.1=l[i].2.1<;>by_cases c2:t[j].2.2.1=l[i].2.2.1<;>simp -implicitDefEqProofs [hj,hwj,c1,c2,fP]
     ·simp -implicitDefEqProofs
     ·cases ha:cW (fun _ y=>!fP l[i] y) 0 t<;>simp -implicitDefEqProofs [hw]
   ·have hp:pBx l i l[i]=cW (fun _ y=>!fP l[i] y) 0 (l.take i):=by simp [pBx,h1,h0]
    rw [hp];have htl:(l.take i).length≤1048576:=by simp;omega
    simp -implicitDefEqProofs [hi,eb,h0,ln,ht,hw,←JT,-Kc,-JT];generalize l.take i=t at ht htl;refine aO _ (gP t (fun j=>[bxs l,bx l[i],bxs l,I l.length,I i,bxs t,I t.length,I j]) (fun _ y=>!fP l[i] y) (.ret [B false] []) (.ext 2 [bxs l,bxs l,I l.length,I i]) (fun j hj=>?_) ?_ rfl rfl rfl) ?_
    ·have hwj:JJ.wrap ((j:Int)+1)=(j:Int)+1:=ax (by omega) (by omega)
     by_cases c1:t[j].2.1=l[i].2.1<;>by_cases c2:t[j].2.2.1=l[i].2.2.1<;>simp -implicitDefEqProofs [hj,hwj,c1,c2,fP]
    ·simp -implicitDefEqProofs
    ·cases ha:cW (fun _ y=>!fP l[i] y) 0 t<;>simp -implicitDefEqProofs [hw]
 ·simp
 ·by_cases hg:cW (pBx l) 0 l=true<;>simp -implicitDefEqProofs [hg,bp,bt]
set_option maxRecDepth 100000
theorem va (t:List Bx) (x:Bx) (h:t.length≤1048576):hY [bxs t,I x.2.1,I x.2.2.1]=some (.ret [B (!cW (fun _ y=>!fP x y) 0 t)] []):=by
 rw [uK];simp only [bw,JN,JU];refine aO _ (gP t (fun j=>[I x.2.1,I x.2.2.1,bxs t,I t.length,I j]) (fun _ y=>!fP x y) (.ret [B true] []) (.ext 0 []) (fun j hj=>?_) ?_ rfl rfl rfl) ?_
 ·have hwj:JJ.wrap ((j:Int)+1)=(j:Int)+1:=ax (by omega) (by omega)
  by_cases c1:t[j].2.1=x.2.1<;>by_cases c2:t[j].2.2.1=x.2.2.1<;>simp -implicitDefEqProofs [hj,hwj,c1,c2,fP]
 ·simp -implicitDefEqProofs
 ·cases ha:cW (fun _ y=>!fP x y) 0 t<;>simp -implicitDefEqProofs
theorem dc (l:List Bx) (h:oO l):dN [bxs l]=some (.ret [B (bp l)] []):=by
 rw [wq];have hl:=h.1;simp only [bw,JN,JU];refine aO _ (gP l (fun i=>[bxs l,bxs l,I l.length,I i]) (pBx l) (.ret [B false] []) (.ext 0 [bxs l]) (fun i hi=>?_) ?_ rfl rfl rfl) ?_
 ·have hw:JJ.wrap ((i:Int)+1)=(i:Int)+1:=ax (by omega) (by omega)
  have eb:=xW l[i] (h.2 _ (JY hi));have ht:=AG (Nat.le_of_lt hi);have et:=va (l.take i) l[i] (by simp;omega);cases h1:oM l[i]
  ·rw [h1] at eb
   simp -implicitDefEqProofs [hi,eb,h1,pBx]
  ·rw [h1] at eb
   by_cases h0:0<i
   ·have hw2:JJ.wrap ((i:Int) - 1)=((i - 1:Nat):Int):=by rw [ax (by omega) (by omega)];omega
    have hy:i - 1<l.length:=by omega
    cases h2:Ks l[i - 1].1.toList l[i].1.toList
    ·simp -implicitDefEqProofs [hi,hy,eb,h1,pBx,hw2,h0,h2,ln]
    ·have hp:pBx l i l[i]=cW (fun _ y=>!fP l[i] y) 0 (l.take i):=by simp [pBx,h1,h0,h2,hy]
     rw [hp];cases ha:cW (fun _ y=>!fP l[i] y) 0 (l.take i)<;>rw [ha] at et<;>simp -implicitDefEqProofs [hi,hy,eb,hw2,h0,h2,ln,ht,hw,et,←JT,-JT]
   ·have hp:pBx l i l[i]=cW (fun _ y=>!fP l[i] y) 0 (l.take i):=by simp [pBx,h1,h0]
    rw [hp];cases ha:cW (fun _ y=>!fP l[i] y) 0 (l.take i)<;>rw [ha] at et<;>simp -implicitDefEqProofs [hi,eb,h0,ln,ht,hw,et,←JT,-JT]
 ·simp
 ·by_cases hg:cW (pBx l) 0 l=true<;>simp -implicitDefEqProofs [hg,bp,bS]
def fB (l:List Bx) (c:ByteArray):Int:=(dv (fun b:Bx=>decide (b.1=c)) 0 l).elim (-1) fun j=>(j:Int)
theorem kN (l:List Bx) (c:ByteArray) (h:l.length≤1048576):fS [bxs l,T c]=some (.ret [I (fB l c)] []):=by
 rw [wm];simp only [bw,JN,JU];refine aO _ (lM l (fun i=>[T c,bxs l,I l.length,I i]) (fun b:Bx=>decide (b.1=c)) (fun j=>.ret [I j] []) (.ext 0 []) (fun i hi=>?_) ?_ (fun _=>rfl) rfl rfl) ?_
 ·have hw:JJ.wrap ((i:Int)+1)=(i:Int)+1:=ax (by omega) (by omega)
  by_cases hc:l[i].1=c<;>simp -implicitDefEqProofs [hi,hw,hc]
 ·simp
 ·unfold fB
  cases dv (fun b:Bx=>decide (b.1=c)) 0 l<;>simp -implicitDefEqProofs
theorem qT (l:List Bx) (c:ByteArray) (h:l.length≤1048576):gE [bxs l,T c]=some (.ret [I (fB l c)] []):=by
 rw [xS];simp only [bw,JN,JU];refine aO _ (lM l (fun i=>[T c,bxs l,I l.length,I i]) (fun b:Bx=>decide (b.1=c)) (fun j=>.ret [I j] []) (.ext 0 []) (fun i hi=>?_) ?_ (fun _=>rfl) rfl rfl) ?_
 ·have hw:JJ.wrap ((i:Int)+1)=(i:Int)+1:=ax (by omega) (by omega)
  by_cases hc:l[i].1=c<;>simp -implicitDefEqProofs [hi,hw,hc]
 ·simp
 ·unfold fB
  cases dv (fun b:Bx=>decide (b.1=c)) 0 l<;>simp -implicitDefEqProofs
abbrev txs (l:List ByteArray):D:=.arr 1 (l.map T)
def kf (l:List Bx) (cs:List ByteArray):Bool:=cW (fun _ c=>!decide (fB l c<0)) 0 cs
theorem my (l:List Bx) (cs:List ByteArray) (h:oO l) (hc:cs.length≤1048576):eG [bxs l,txs cs]=some (.ret [B (kf l cs&&bp l&&decide ((cs.length:Int)≤60))] []):=by
 rw [tP];simp only [bw,JN,JU];refine aO _ (gP cs (fun i=>[bxs l,txs cs,txs cs,I cs.length,I i]) (fun _ c=>!decide (fB l c<0)) (.ret [B false] []) (.ext 0 [bxs l,txs cs]) (fun i hi=>?_) ?_ rfl rfl rfl) ?_
 ·have hw:JJ.wrap ((i:Int)+1)=(i:Int)+1:=ax (by omega) (by omega)
  have eb:=qT l cs[i] h.1;by_cases hb:fB l cs[i]<0<;>simp -implicitDefEqProofs [hi,hw,eb,hb]
 ·simp
 ·cases ha:cW (fun _ c=>!decide (fB l c<0)) 0 cs
  ·simp -implicitDefEqProofs [kf,ha]
  ·cases hg:bp l<;>simp -implicitDefEqProofs [kf,ha,dc l h,hg]
abbrev Fm:=Int × List ByteArray × Bool × Int
abbrev fm (x:Fm):D:=.agg [I x.1,txs x.2.1,B x.2.2.1,I x.2.2.2]
abbrev fms (l:List Fm):D:=.arr 4 (l.map fm)
def ET (l:List Fm):Prop:=l.length≤1048576∧∀x∈l,x.2.1.length≤1048576
def eF (l:List Bx) (x:Fm):Bool:=decide (1≤x.1∧x.1≤99) && !decide (40<(x.2.1.length:Int))&&decide (0≤x.2.2.2∧x.2.2.2≤100000) && !(x.2.2.1&&decide ((x.2.1.length:Int)=0))&&kf l x.2.1
theorem uH (l:List Bx) (x:Fm) (h:l.length≤1048576) (hx:x.2.1.length≤1048576):gG [bxs l,fm x]=some (.ret [B (eF l x)] []):=by
 rw [vX];by_cases h1:1≤x.1∧x.1≤99
 case neg=>simp -implicitDefEqProofs [bt,eF,h1]
 by_cases h2:40<(x.2.1.length:Int)
 case pos=>simp -implicitDefEqProofs [bt,eF,h1,h2]
 by_cases h3:0≤x.2.2.2∧x.2.2.2≤100000
 case neg=>simp -implicitDefEqProofs [bt,eF,h1,h2,h3]
 have main:∀(body:List D→Option Out) (K:Out→Option Out) (r:Option Out),(∀(i:Nat) (hi:i<x.2.1.length),body [bxs l,txs x.2.1,I x.2.1.length,I i]=some (if (!decide (fB l x.2.1[i]<0))=true then .nrm [bxs l,txs x.2.1,I x.2.1.length,I (i+1:Nat)] else .ret [B false] [])) →
   body [bxs l,txs x.2.1,I x.2.1.length,I x.2.1.length]=some (.ext 0 [])→K (if kf l x.2.1=true then .ext 0 [] else .ret [B false] [])=r→(bq body [bxs l,txs x.2.1,I x.2.1.length,I 0]).bind K=r:=fun body K r g1 g2 g3 =>
  aO _ (gP x.2.1 (fun i=>[bxs l,txs x.2.1,I x.2.1.length,I i]) (fun _ c=>!decide (fB l c<0)) (.ret [B false] []) (.ext 0 []) g1 g2 rfl rfl rfl) g3
 cases h4:x.2.2.1
 ·simp -implicitDefEqProofs [bt,eF,h1,h2,h3,h4]
  refine main _ _ _ (fun i hi=>?_) ?_ ?_
  ·have hw:JJ.wrap ((i:Int)+1)=(i:Int)+1:=ax (by omega) (by omega)
   have eb:=kN l x.2.1[i] h;by_cases hb:fB l x.2.1[i]<0<;>simp -implicitDefEqProofs [hi,hw,eb,hb]
  ·simp
  ·cases kf l x.2.1<;>simp -implicitDefEqProofs
 ·by_cases h5:(x.2.1.length:Int)=0
  ·have h5':x.2.1=[]:=JX (by omega)
   simp -implicitDefEqProofs [bt,eF,h1,h3,h4,h5']
  ·have h5':¬x.2.1=[]:=fun e=>h5 (by simp [e])
   simp -implicitDefEqProofs [bt,eF,h1,h2,h3,h4,h5,h5'];refine main _ _ _ (fun i hi=>?_) ?_ ?_
   ·have hw:JJ.wrap ((i:Int)+1)=(i:Int)+1:=ax (by omega) (by omega)
    have eb:=kN l x.2.1[i] h;by_cases hb:fB l x.2.1[i]<0<;>simp -implicitDefEqProofs [hi,hw,eb,hb]
   ·simp
   ·cases kf l x.2.1<;>simp -implicitDefEqProofs
theorem bT (a:Int):fE [I a]=some (.ret [B (decide (1≤a∧a≤99))] []):=by
 rw [rY];simp [bS]
theorem ng (l:List Bx) (x:Fm) (h:oO l) (hx:x.2.1.length≤1048576):gO [bxs l,fm x]=some (.ret [B (eF l x&&bp l)] []):=by
 rw [vt];have ec:=my l x.2.1 h hx;by_cases h1:1≤x.1∧x.1≤99
 case neg=>simp -implicitDefEqProofs [bT,eF,h1]
 cases ha:kf l x.2.1
 ·simp -implicitDefEqProofs [bT,eF,h1,ec,ha]
 cases hg:bp l
 ·simp -implicitDefEqProofs [bT,eF,h1,ec,ha,hg]
 by_cases h60:(x.2.1.length:Int)≤60
 case neg =>
  have h40:40<(x.2.1.length:Int):=by omega
  simp -implicitDefEqProofs [bT,eF,h1,ec,ha,hg,h60,h40]
 by_cases h2:40<(x.2.1.length:Int)
 case pos=>simp -implicitDefEqProofs [bT,eF,h1,ec,ha,hg,h60,h2,Kn.2 h2]
 have h2':(x.2.1.length:Int)≤40:=by omega
 by_cases h3:0≤x.2.2.2∧x.2.2.2≤100000
 case neg=>simp -implicitDefEqProofs [bT,bS,eF,h1,ec,ha,hg,h60,h2,h2',h3]
 cases h4:x.2.2.1
 ·simp -implicitDefEqProofs [bT,bS,eF,h1,ec,ha,hg,h60,h2,h2',h3,h4]
 ·by_cases h5:(x.2.1.length:Int)=0
  ·have h5':x.2.1=[]:=JX (by omega)
   rw [h5'] at ec ha;simp -implicitDefEqProofs [bT,bS,eF,h1,ec,ha,hg,h3,h4,h5']
  ·have h5':¬x.2.1=[]:=fun e=>h5 (by simp [e])
   have h6:0<(x.2.1.length:Int):=by omega
   have h6':0<x.2.1.length:=by omega
   simp -implicitDefEqProofs [bT,bS,eF,h1,ec,ha,hg,h60,h2,h2',h3,h4,h5,h5',h6,h6']
set_option maxRecDepth 100000
abbrev Sp:=List Bx × List Fm × Int × Int
abbrev sp (s:Sp):D:=.agg [bxs s.1,fms s.2.1,I s.2.2.1,I s.2.2.2]
def cm (s:Sp):Prop:=oO s.1∧ET s.2.1
def pS (s:Sp) (i:Nat) (x:Fm):Bool:=eF s.1 x && !(decide (0<i)&&decide (x.1≤(s.2.1.getD (i - 1) (0,[],false,0)).1))
def jM (l:List Fm):Int:=l.foldl (fun a x=>a+x.2.2.2) 0
def aE (s:Sp):Bool:=cW (pS s) 0 s.2.1&&bp s.1&&decide ((s.2.1.length:Int)≤5)&&decide (0≤s.2.2.1∧s.2.2.1≤9999)&&decide (jM s.2.1≤s.2.2.2∧s.2.2.2≤1000000)
theorem bM {l:List Bx} {x:Fm} (h:eF l x=true):0≤x.2.2.2∧x.2.2.2≤100000:=by
 simp only [eF,JI,decide_eq_true_eq] at h;exact h.1.1.2
theorem eN (s:Sp) (h:cm s):eQ [sp s]=some (.ret [B (aE s)] []):=by
 rw [wJ];have hl:=h.2.1;have hb:=h.1.1;simp -implicitDefEqProofs;refine aO _ (sg s.2.1 (fun i a=>[sp s,I a,fms s.2.1,I s.2.1.length,I i]) (fun i a=>0≤a∧a≤100000*(i:Int)) (pS s) (fun a x=>a+x.2.2.2) (.ret [B false] []) (fun a=>.ext 0 [sp s,I a]) 0 (fun i a hi hI=>?_) (fun a _=>?_) rfl (fun _=>rfl) (by simp) rfl) ?_
 ·have hw:JJ.wrap ((i:Int)+1)=(i:Int)+1:=ax (by omega) (by omega)
  have ef:=uH s.1 s.2.1[i] hb (h.2.2 _ (JY hi));cases h1:eF s.1 s.2.1[i]
  ·rw [h1] at ef
   exact⟨by simp -implicitDefEqProofs [hi,ef,h1,pS],fun hc=>by simp [pS,h1] at hc⟩
  ·rw [h1] at ef
   have hpr:=bM h1;have hwa:JJ.wrap (a+s.2.1[i].2.2.2)=a+s.2.1[i].2.2.2:=ax (by omega) (by omega);refine⟨?_,fun _=>by omega⟩
   by_cases h0:0<i
   ·have hw2:JJ.wrap ((i:Int) - 1)=((i - 1:Nat):Int):=by rw [ax (by omega) (by omega)];omega
    have hy:i - 1<s.2.1.length:=by omega
    by_cases h2:s.2.1[i].1≤s.2.1[i - 1].1<;>simp -implicitDefEqProofs [hi,hy,ef,h1,pS,hw,hw2,hwa,h0,h2]
   ·simp -implicitDefEqProofs [hi,ef,h1,pS,hw,hwa,h0]
 ·simp -implicitDefEqProofs
 ·unfold aE jM
  cases ha:cW (pS s) 0 s.2.1
  ·simp -implicitDefEqProofs
  generalize List.foldl (fun a (x:Fm)=>a+x.2.2.2) 0 s.2.1=S;cases hg:bp s.1
  ·simp -implicitDefEqProofs [iT s.1 h.1,hg]
  by_cases h5:s.2.1.length≤5
  case neg=>simp -implicitDefEqProofs [iT s.1 h.1,hg,h5,show ¬(s.2.1.length:Int)≤5 by omega]
  have h5':(s.2.1.length:Int)≤5:=by omega
  by_cases h6:0≤s.2.2.1∧s.2.2.1≤9999<;>simp -implicitDefEqProofs [iT s.1 h.1,bt,hg,h5,h5',h6]
theorem cL (s:Sp) (h:cm s):de [sp s]=some (.ret [B (aE s)] []):=by
 rw [wL];have hl:=h.2.1;have hb:=h.1.1;simp -implicitDefEqProofs;cases hg:bp s.1
 ·refine aO _ (sg s.2.1 (fun i a=>[sp s,I a,fms s.2.1,I s.2.1.length,I i]) (fun i a=>True) (fun _ _=>false) (fun a x=>a+x.2.2.2) (.ret [B false] []) (fun a=>.ext 0 [sp s,I a]) 0 (fun i a hi hI=>⟨?_,fun _=>trivial⟩) (fun a _=>?_) rfl (fun _=>rfl) trivial rfl) ?_
  ·have ef:=ng s.1 s.2.1[i] h.1 (h.2.2 _ (JY hi))
   rw [hg,Bool.and_false] at ef;simp -implicitDefEqProofs [hi,ef]
  ·simp -implicitDefEqProofs
  ·cases cW (fun _ (_:Fm)=>false) 0 s.2.1<;>simp -implicitDefEqProofs [aE,hg,dc s.1 h.1]
 refine aO _ (sg s.2.1 (fun i a=>[sp s,I a,fms s.2.1,I s.2.1.length,I i]) (fun i a=>0≤a∧a≤100000*(i:Int)) (pS s) (fun a x=>a+x.2.2.2) (.ret [B false] []) (fun a=>.ext 0 [sp s,I a]) 0 (fun i a hi hI=>?_) (fun a _=>?_) rfl (fun _=>rfl) (by simp) rfl) ?_
 ·have hw:JJ.wrap ((i:Int)+1)=(i:Int)+1:=ax (by omega) (by omega)
  have ef:=ng s.1 s.2.1[i] h.1 (h.2.2 _ (JY hi));rw [hg,Bool.and_true] at ef;cases h1:eF s.1 s.2.1[i]
  ·rw [h1] at ef
   exact⟨by simp -implicitDefEqProofs [hi,ef,h1,pS],fun hc=>by simp [pS,h1] at hc⟩
  ·rw [h1] at ef
   have hpr:=bM h1;have hwa:JJ.wrap (a+s.2.1[i].2.2.2)=a+s.2.1[i].2.2.2:=ax (by omega) (by omega);refine⟨?_,fun _=>by omega⟩
   by_cases h0:0<i
   ·have hw2:JJ.wrap ((i:Int) - 1)=((i - 1:Nat):Int):=by rw [ax (by omega) (by omega)];omega
    have hy:i - 1<s.2.1.length:=by omega
    by_cases h2:s.2.1[i].1≤s.2.1[i - 1].1<;>simp -implicitDefEqProofs [hi,hy,ef,h1,pS,hw,hw2,hwa,h0,h2]
   ·simp -implicitDefEqProofs [hi,ef,h1,pS,hw,hwa,h0]
 ·simp -implicitDefEqProofs
 ·unfold aE
  cases ha:cW (pS s) 0 s.2.1
  ·simp -implicitDefEqProofs
  have hS:0≤jM s.2.1:=by
   have key:∀(l:List Fm) (i:Nat) (a:Int),0≤a→cW (pS s) i l=true→0≤l.foldl (fun a x=>a+x.2.2.2) a:=by
    intro l;induction l with
    | nil=>intro i a ha _;exact ha
    | cons x l ih =>
     intro i a h0 hp;simp only [cW,JI] at hp;have:=bM (l:=s.1) (x:=x) (by
      have:=hp.1;simp only [pS,JI] at this;exact this.1)
     exact ih (i+1) _ (show(0:Int)≤a+x.2.2.2 by omega) hp.2
   exact key s.2.1 0 0 (by omega) ha
  unfold jM at hS ⊢;generalize List.foldl (fun a (x:Fm)=>a+x.2.2.2) 0 s.2.1=S at hS;by_cases h5:s.2.1.length≤5
  case neg=>simp -implicitDefEqProofs [dc s.1 h.1,hg,h5,show ¬(s.2.1.length:Int)≤5 by omega]
  have h5':(s.2.1.length:Int)≤5:=by omega
  by_cases h6:0≤s.2.2.1∧s.2.2.1≤9999
  case neg=>simp -implicitDefEqProofs [dc s.1 h.1,bS,hg,h5,h5',h6]
  by_cases h7:0≤s.2.2.2∧s.2.2.2≤1000000
  case neg =>
   have h8:¬(S≤s.2.2.2∧s.2.2.2≤1000000):=by omega
   simp -implicitDefEqProofs [dc s.1 h.1,bS,hg,h5,h5',h6,h7,h8]
  by_cases h8:S≤s.2.2.2<;>simp -implicitDefEqProofs [dc s.1 h.1,bS,hg,h5,h5',h6,h7,h8]
open Go Go.Proofs Go.V Go.RowKit
set_option maxRecDepth 100000
def dL (x:Fm) (y:Value):List Value:=[.int .i64 x.1,y,.bool x.2.2.1,.int .i64 x.2.2.2]
def bK:List Fm→List Value→List Value
 | x::l,y::ys=>dL x y++bK l ys
 | _,_=>[]
theorem eP:∀(l:List Fm) (ys:List Value),ys.length=l.length→(bK l ys).length=l.length*4
 | [],[],_=>rfl
 | x::l,y::ys,h=>by
  simp only [bK,List.length_append,eP l ys (by simpa using h),dL,KH,KI];omega
 | [],_::_,h=>by simp at h
 | _::_,[],h=>by simp at h
theorem be:∀(l:List Fm) (ys:List Value) (i:Nat) (x:Fm) (y:Value),l[i]?=some x→ys[i]?=some y→∀f,f<4→(bK l ys)[i*4+f]?=(dL x y)[f]?
 | a::l,b::ys,0,x,y,h1,h2,f,hf=>by
  simp only [List.getElem?_cons_zero,JL] at h1 h2;subst h1 h2;simp only [bK];rw [Nat.zero_mul,Kh,Km (by simpa [dL] using hf)]
 | a::l,b::ys,i+1,x,y,h1,h2,f,hf=>by
  simp only [List.getElem?_cons_succ] at h1 h2;simp only [bK];rw [show(i+1)*4+f=4+(i*4+f) by omega,JZ (by simp [dL])];simp only [dL,KH,KI];rw [show 4+(i*4+f) - (0+1+1+1+1)=i*4+f by omega];exact be l ys i x y h1 h2 f hf
 | [],_,_,_,_,h1,_,_,_=>by simp at h1
 | _::_,[],_,_,_,_,h2,_,_=>by simp at h2
theorem mZ {w:World} {base e size n:Nat} {v:Value} {xs:List Value} (h:w.ownsRow base e size v n xs) {g cap:Nat} (hv:v = .slice (some ⟨g,0,none⟩) n cap) (j:Nat) (u:Value):(w.setCell ⟨g,j,none⟩ u).ownsRow base e size v n (xs.set j u):=by
 obtain⟨h1,⟨hn,_⟩ | ⟨g',cap',cur,hg',h2,h3,h4,h5,h6,h7⟩⟩:=h
 ·rw [hn] at hv
  cases hv
 ·have e1:=hg'.symm.trans hv
  simp only [KF,JL,KP,and_true,true_and] at e1;obtain⟨rfl,rfl⟩:=e1;refine⟨by rw [List.length_set];exact h1,.inr ⟨g',cap',cur.setIfInBounds j u,hg',h2,heap_setCell_same _ _ _ _ _ _ h3,h4,h5,by rw [Array.size_setIfInBounds];exact h6,?_⟩⟩
  rw [Array.toList_setIfInBounds,List.take_set,h7]
structure FmsAt (w:World) (B:Nat) (V:Value) (ys:List Value) (l:List Fm):Prop where
 len:ys.length=l.length
 own:w.ownsRow B 42 4 V l.length (bK l ys)
 row:∀(i:Nat) (x:Fm) (y:Value),l[i]?=some x→ys[i]?=some y→bh w (fun _=>False) (fun b=>y.ownBlock=some b) 1 (txs x.2.1) y
 blk:∀(i:Nat) (y:Value) (b:Nat),ys[i]?=some y→y.ownBlock=some b→B≤b∧V.ownBlock≠some b
 dis:∀(i j:Nat) (y z:Value),i≠j→ys[i]?=some y→ys[j]?=some z→y.ownBlock=none∨y.ownBlock≠z.ownBlock
end Go.Proofs.YtkcojipciiakdaaDoor

namespace Go.Proofs.YtkcojipciiakdaaDoor
open Go Go.V
set_option maxRecDepth 100000
abbrev jI (l:List Int):D:=.arr 1 (l.map I)
theorem Ao {l m:List Int} (h:l.length+m.length≤1048576):iq 1 8 (jI l) (jI m)=some (jI (l++m)):=by
 rw [ew,if_pos (by simp only [JN,true_or,true_and];omega)];show _=some (D.arr 1 ((l++m).map I))
 rw [KJ]
theorem ua (n:Int):bj 1 [I n]=some (jI [n]):=by simp [bj,gg]
theorem ui (l:List Int):jU (jI l)=some (jI l):=kb fun _=>rfl
def sI (l:List Fm):List Int:=(l.filter fun x=>x.2.2.1).map fun x=>x.1
def tS (s:Sp):List Int:=if aE s then sI s.2.1 else []
theorem yJ {l:List Fm} {i:Nat} (h:i<l.length):bm 4 (fms l) (I (i:Int))=some [I l[i].1,txs l[i].2.1,B l[i].2.2.1,I l[i].2.2.2]:=by
 rw [CR (by omega)];simp [h,D.cells]
theorem Ci (x:Fm):stD 4 (.agg [I 0,.arr 1 [],B false,I 0]) (.ref 0 0) (.agg [I x.1,txs x.2.1,B x.2.2.1,I x.2.2.2])=some (.agg [I x.1,txs x.2.1,B x.2.2.1,I x.2.2.2]):=by
 simp [stD,D.cells,D.single,bO,D.ofCells]
theorem yW {l:List Fm} {i:Nat} (h:i<l.length):sI (l.take (i+1))=sI (l.take i)++if l[i].2.2.1 then [l[i].1] else []:=by
 unfold sI;rw [List.take_succ_eq_append_getElem h,List.filter_append,KJ];congr 1
 cases hb:l[i].2.2.1<;>simp [hb]
theorem yB (l:List Fm):(sI l).length≤l.length:=by
 unfold sI;rw [JN];exact List.length_filter_le _ _
theorem oY (s:Sp) (h:cm s):dT [sp s]=some (.ret [jI (tS s),B (aE s)] []):=by
 rw [oT];unfold tS;cases hok:aE s
 ·simp -implicitDefEqProofs [eN s h,hok]
 have hl:=h.2.1;simp -implicitDefEqProofs [eN s h,hok];refine aO _ (du s.2.1.length (fun i=>[jI (sI (s.2.1.take i)),fms s.2.1,I s.2.1.length,I i]) (.ext 0 [jI (sI s.2.1)]) (fun i hi=>?_) ?_ rfl rfl) ?_
 ·have hw:JJ.wrap ((i:Int)+1)=(i:Int)+1:=ax (by omega) (by omega)
  have hi':(i:Int)<(s.2.1.length:Int):=by omega
  have hll:=yB (s.2.1.take i);rw [Kc] at hll;have hg:=yJ hi;rw [yW hi];generalize s.2.1[i]=x at *;obtain⟨x1,x2,x3,x4⟩:=x;have hs:=Ci (x1,x2,x3,x4);cases x3
  ·simp -implicitDefEqProofs only [wW,JQ,JR,JS,hi',hg,hs,hw,ia,Kj,Kk,Ku]
   simp [hs,hw,ak]
  ·have ha:=Ao (l:=sI (s.2.1.take i)) (m:=[x1]) (by simp;omega)
   simp -implicitDefEqProofs only [wW,JQ,JR,JS,hi',hg,hs,hw,ia,ua,ui,ha,Kj,Kk];simp [hs,hw,ak];simp -implicitDefEqProofs only [wW,JQ,JR,JS,ua,ui,ha]
 ·simp -implicitDefEqProofs only [wW,JQ,JR,JS,Int.lt_irrefl,Ko]
 ·simp -implicitDefEqProofs only [wW,JQ,JR,JS]
theorem oN (s:Sp) (h:cm s):dS [sp s]=some (.ret [jI (tS s),B (aE s)] []):=by
 rw [oL];unfold tS;cases hok:aE s
 ·simp -implicitDefEqProofs [cL s h,hok,il]
 have hl:=h.2.1;simp -implicitDefEqProofs [cL s h,hok];refine aO _ (du s.2.1.length (fun i=>[jI (sI (s.2.1.take i)),fms s.2.1,I s.2.1.length,I i]) (.ext 0 [jI (sI s.2.1)]) (fun i hi=>?_) ?_ rfl rfl) ?_
 ·have hw:JJ.wrap ((i:Int)+1)=(i:Int)+1:=ax (by omega) (by omega)
  have hi':(i:Int)<(s.2.1.length:Int):=by omega
  have hll:=yB (s.2.1.take i);rw [Kc] at hll;have hg:=yJ hi;rw [yW hi];generalize s.2.1[i]=x at *;obtain⟨x1,x2,x3,x4⟩:=x;have hs:=Ci (x1,x2,x3,x4);cases x3
  ·simp -implicitDefEqProofs only [wW,JQ,JR,JS,hi',hg,hs,hw,ia,Kj,Kk,Ku]
   simp [hs,hw,ak]
  ·have ha:=Ao (l:=sI (s.2.1.take i)) (m:=[x1]) (by simp;omega)
   simp -implicitDefEqProofs only [wW,JQ,JR,JS,hi',hg,hs,hw,ia,ua,ui,ha,Kj,Kk];simp [hs,hw,ak];simp -implicitDefEqProofs only [wW,JQ,JR,JS,ua,ui,ha]
 ·simp -implicitDefEqProofs only [wW,JQ,JR,JS,Int.lt_irrefl,Ko]
 ·simp -implicitDefEqProofs only [wW,JQ,JR,JS]
set_option maxRecDepth 100000
open Go Go.Proofs Go.V Go.RowKit
set_option maxRecDepth 100000
theorem eE {P:Program} {G:List (Nat × (Obj→Prop))} {f:FuncId} {S:FS} (he:∀args w,(callFunc f args).run P w = .ok (.enter f args) w) (hm:aF G P f S) {ds rs us:List D} (hd:S.f ds=some (.ret rs us)) {args:Array Value} {w:World} {F:Nat→Prop} {ow:Nat→Option Nat}
  (hgl:gOk G w F) (ha:cM w F ow 0 S.pm ds args.toList) (hF:∀b,F b→b<w.heap.size∧ow b=none) (hO:∀b i,ow b=some i→b<w.heap.size) :
  Calls P f args w fun e w'=>∃v,e = .returned v∧∃F' R vs,v=iw vs∧CallPost S args rs us w F ow F' R vs w':=by
 have h2:=hm ds rs us hd args w F ow hgl ha hF hO {(default:Oper) with dst:=some 0} {tmps:=#[undef],defers:=[]} (fun a w'=>∃F' R vs,a.tmps.getD 0 undef=iw vs∧CallPost S args rs us w F ow F' R vs w') (fun _ _ _=>False) (fun v w' h=>by
  obtain⟨F',R,vs,rfl,h⟩:=h;exact⟨F',R,vs,by simp [KK],h⟩)
 rw [he,Kv] at h2;refine Ky h2 fun e w' he=>?_
 cases e with
 | returned v =>
  obtain⟨F',R,vs,h3,h4⟩:=he;exact⟨v,rfl,F',R,vs,by simpa [KK] using h3,h4⟩
 | panicked c=>exact he.elim
 | outgrown=>obtain⟨_,_,h⟩:=he;exact h.elim
theorem nG {P:Program} {G:List (Nat × (Obj→Prop))} {f:FuncId} {S:FS} (he:∀args w,(callFunc f args).run P w = .ok (.enter f args) w) (hm:aF G P f S) {ds:List D} {y:Value} (f':List D→Option Out) (hf':S.f=f') (hd:f' ds=some (.ret [.v y] [])) (hrm:S.rm=[.dat 0]) {args:Array Value} {w:World} {F:Nat→Prop}
  (hgl:gOk G w F) (ha:cM w F (fun _=>none) 0 S.pm ds args.toList) (hF:∀b,F b→b<w.heap.size):Calls P f args w fun e w'=>e = .returned y∧Below w.heap.size w w':=by
 refine(eE he hm (hf' ▸ hd) hgl ha (fun b hb=>⟨hF b hb,rfl⟩) (fun b i h=>by cases h)).mono ?_
 rintro e w' ⟨v,rfl,F',R,vs,rfl,hpost⟩;have hl:=hpost.len;rw [hrm] at hl;obtain⟨u,rfl⟩:=Kw.1 hl;have h0:=hpost.res 0;rw [hrm] at h0;simp only [an,nth,KB] at h0;rcases h0 with h0 | h0
 ·cases h0
 exact⟨by rw [iw,(eT.1 h0).1],⟨hpost.os,hpost.tape,hpost.output,hpost.size,fun b hb=>hpost.keep b hb rfl⟩⟩
structure KeptX (S:Nat→Prop) (w w':World):Prop where
 os:w'.os=w.os
 tape:w'.tape=w.tape
 output:w'.output=w.output
 size:w.heap.size≤w'.heap.size
 block:∀b,b<w.heap.size→¬S b→w'.heap[b]?=w.heap[b]?
theorem KeptX.trans {S:Nat→Prop} {a b c:World} (h:KeptX S a b) (k:KeptX S b c):KeptX S a c :=
 ⟨k.os.trans h.os,k.tape.trans h.tape,k.output.trans h.output,KD h.size k.size,fun i hi hs=>(k.block i (Nat.lt_of_lt_of_le hi h.size) hs).trans (h.block i hi hs)⟩
theorem KeptX.refl (S:Nat→Prop) (w:World):KeptX S w w:=⟨rfl,rfl,rfl,JW _,fun _ _ _=>rfl⟩
theorem KeptX.mono {S T:Nat→Prop} {w w':World} (h:KeptX S w w') (hst:∀b,S b→T b):KeptX T w w':=⟨h.os,h.tape,h.output,h.size,fun b hb ht=>h.block b hb fun hs=>ht (hst b hs)⟩
theorem KeptX.set {S:Nat→Prop} {w w':World} (h:KeptX S w w') (a:Addr) (v:Value) (ha:S a.block):KeptX S w (w'.setCell a v) :=
 h.trans ⟨rfl,rfl,rfl,by simp [World.setCell],fun b _ hs=>heap_setCell_other _ _ _ _ fun e=>hs (e ▸ ha)⟩
theorem KeptX.below {S:Nat→Prop} {w w':World} {B:Nat} (h:KeptX S w w') (hb:∀b,S b→B≤b) (hs:B≤w.heap.size):Below B w w':=⟨h.os,h.tape,h.output,h.size,fun b hlt=>h.block b (by omega) fun hS=>by have:=hb b hS;omega⟩
abbrev aM (y:Value):Nat→Prop:=fun b=>y.ownBlock=some b
set_option maxRecDepth 100000
def FmS (V:Value) (ys:List Value):Nat→Prop:=fun b=>aM V b∨∃y∈ys,aM y b
theorem aY {w w':World} {z:Nat} {d:D} {y:Value} (h:bh w (fun _=>False) (aM y) z d y) (hb:∀b,aM y b→w'.heap[b]?=w.heap[b]?):bh w' (fun _=>False) (aM y) z d y :=
 cI (fun b hb=>hb.elim) (fun b hb=>hb.elim) (fun g _ ho=>⟨ho,hb g ho⟩) h
theorem cG {w:World} {base e size n g cap:Nat} {xs:List Value} (h:w.ownsRow base e size (.slice (some ⟨g,0,none⟩) n cap) n xs) (j:Nat):w.frozen? ⟨g,j,none⟩=false:=by
 obtain⟨_,⟨hn,_⟩ | ⟨g',cap',cur,hg',_,h3,_⟩⟩:=h
 ·cases hn
 ·simp only [KF,JL,KP,and_true,true_and] at hg'
  obtain⟨rfl,rfl⟩:=hg';exact Lib.frozen_of_heap h3 j
theorem AF (g j:Nat):((⟨g,0,none⟩:Addr).add j)=⟨g,j,none⟩:=by cases j<;>simp [KG]
theorem aW {w:World} {base e size n g cap:Nat} {xs:List Value} (h:w.ownsRow base e size (.slice (some ⟨g,0,none⟩) n cap) n xs) {j:Nat} {u:Value} (hj:xs[j]?=some u):w.cell? ⟨g,j,none⟩=some u:=by
 have:=h.cells (g:=g) rfl j u hj;rwa [AF] at this
theorem dy {w:World} {z:Nat} {d:D} {y:Value} (h:bh w (fun _=>False) (aM y) z d y):∀b,aM y b→b<w.heap.size:=fun b hb=>by
 obtain⟨l,_,_,h3⟩:=h;rcases h3 with ⟨rfl,_⟩ | ⟨g,o,c,us,cs,e,h4,_,h6,_⟩
 ·simp [aM,KO] at hb
 ·rw [h4] at hb
  simp only [aM,KO,JL] at hb;subst hb;exact(JO.1 h6).1
set_option maxRecDepth 100000
theorem al {w:World} (o:Obj) {n:Nat} (h:n=w.heap.size):(w.alloc o).heap[n]?=some o:=by
 subst h;exact Array.getElem?_push_size
theorem aj {w:World} (o:Obj) {n:Nat} {x:Obj} (h:w.heap[n]?=some x):(w.alloc o).heap[n]?=some x :=
 ((World.grownBy_alloc w o none).block n (JO.1 h).1 (by simp)).trans h
theorem bQ {w:World} {F own:Nat→Prop} {z:Nat} {d:D} {y:Value} (h:bh w F own z d y):∃A n c,y = .slice A n c:=by
 obtain⟨l,_,_,h3⟩:=h;rcases h3 with ⟨rfl,_⟩ | ⟨g,o,c,us,cs,e,h4,_⟩
 ·exact⟨_,_,_,rfl⟩
 ·exact⟨_,_,_,h4⟩
set_option maxRecDepth 100000
theorem kI (w:World) (F own:Nat→Prop) (z:Nat):bh w F own z (.arr z []) (.slice none 0 0):=⟨[],rfl,fun _ h=>by simp at h,.inl ⟨rfl,rfl⟩⟩
theorem FmsAt.lt {w:World} {B:Nat} {V:Value} {ys:List Value} {l:List Fm} (h:FmsAt w B V ys l):∀b,FmS V ys b→B≤b∧b<w.heap.size:=by
 rintro b (hb | ⟨y,hy,hb⟩)
 ·exact h.own.lt b hb
 ·obtain⟨i,hi⟩:=List.mem_iff_getElem?.1 hy
  have hl:i<l.length:=by rw [←h.len];exact(JK.1 hi).1
  exact⟨(h.blk i y b hi hb).1,dy (h.row i l[i] y (by simp) hi) b hb⟩
theorem FmsAt.keep {w w':World} {B:Nat} {V:Value} {ys:List Value} {l:List Fm} (h:FmsAt w B V ys l) (hk:∀b,FmS V ys b→w'.heap[b]?=w.heap[b]?):FmsAt w' B V ys l:=by
 refine⟨h.len,?_,fun i x y hx hy=>aY (h.row i x y hx hy) fun b hb=>hk b (.inr ⟨y,KA hy,hb⟩),h.blk,h.dis⟩
 obtain⟨h1,h2 | ⟨g,cap,cur,hg,h3,h4,h5⟩⟩:=h.own
 ·exact⟨h1,.inl h2⟩
 ·exact⟨h1,.inr ⟨g,cap,cur,hg,h3,(hk g (.inl (by rw [aM,hg];rfl))).trans h4,h5⟩⟩
theorem FmsAt.base {w:World} {B B':Nat} {V:Value} {ys:List Value} {l:List Fm} (h:FmsAt w B V ys l) (hb:B'≤B):FmsAt w B' V ys l:=by
 refine⟨h.len,?_,h.row,fun i y b hy hyb=>⟨KD hb (h.blk i y b hy hyb).1,(h.blk i y b hy hyb).2⟩,h.dis⟩
 obtain⟨h1,h2 | ⟨g,cap,cur,hg,h3,h4,h5⟩⟩:=h.own
 ·exact⟨h1,.inl h2⟩
 ·exact⟨h1,.inr ⟨g,cap,cur,hg,KD hb h3,h4,h5⟩⟩
theorem vy {w:World} {F:Nat→Prop} {l:List Fm} {us:List Value} (h:bs w F (l.map fm) us) {i:Nat} (hi:i<l.length) :
  ∃A n c,us[i*4]?=some (.int .i64 l[i].1)∧us[i*4+1]?=some (.slice A n c)∧us[i*4+2]?=some (.bool l[i].2.2.1)∧us[i*4+3]?=some (.int .i64 l[i].2.2.2)∧aT w F (txs l[i].2.1) (.slice A n c):=by
 obtain⟨p,m,q,rfl,hp,hm,hc,_⟩:=nN (z:=4) _ _ h (fun d hd=>by obtain⟨x,_,rfl⟩:=List.mem_map.1 hd;rfl) i (fm l[i]) (by simp [hi]);simp only [RepC,aw,aJ] at hc;obtain⟨⟨v1,v2,rfl,⟨rfl,_⟩,v3,v4,rfl,hx,v5,v6,rfl,⟨rfl,_⟩,v7,v8,rfl,⟨rfl,_⟩,rfl⟩,_⟩:=hc;obtain⟨A,c,us',rfl,h2⟩:=hx;refine⟨A,_,c,?_,?_,?_,?_,⟨A,c,us',rfl,h2⟩⟩<;>rw [List.append_assoc,JZ (by omega),hp]<;>simp [show ∀k,i*4+k - i*4=k from fun k=>by omega]
theorem ij:(Tryd.prog.info? 42).map (fun i=>(i.zero,i.size,i.bytes))=some (some (.agg #[.int .i64 0,.slice none 0 0,.bool false,.int .i64 0]),4,48):=by kernel_rfl
set_option maxRecDepth 100000
theorem rO {w:World} {F own F':Nat→Prop} {z:Nat} {d:D} {y:Value} (h:bh w F own z d y) (h1:∀b,F b→F' b) (h2:∀b,own b→F' b):aT w F' d y:=by
 obtain⟨l,rfl,hw,⟨rfl,rfl⟩ | ⟨g,o,c,us,cs,e,rfl,hc,hg,hs,hr,hu,ho⟩⟩:=h
 ·exact⟨none,0,[],rfl,JW _,aJ.2 rfl,hw,fun h=>absurd rfl h⟩
 ·exact⟨_,c,us,rfl,hc,aX h1 (fun _ _=>rfl) _ _ hr,hw,fun _=>⟨g,o,rfl,h2 g ho,fun i u hi=>by simp [World.cell?,hg,hu i u hi]⟩⟩
theorem BX {w:World} {F:Nat→Prop}:∀(l:List Fm) (ys:List Value),ys.length=l.length→(∀(i:Nat) (x:Fm) (y:Value),l[i]?=some x→ys[i]?=some y→aT w F (txs x.2.1) y)→bs w F (l.map fm) (bK l ys)
 | [],[],_,_=>aJ.2 rfl
 | x::l,y::ys,h,hr=>by
  refine aw.2 ⟨dL x y,bK l ys,rfl,?_,BX l ys (by simpa using h) fun i x y hx hy=>hr (i+1) x y hx hy⟩
  have h0:=hr 0 x y rfl rfl;simp only [RepC,aw,aJ];exact⟨⟨[_],[_,_,_],rfl,⟨rfl,rfl⟩,[_],[_,_],rfl,h0,[_],[_],rfl,⟨rfl,rfl⟩,[_],[],rfl,⟨rfl,rfl⟩,rfl⟩,rfl⟩
 | [],_::_,h,_=>by simp at h
 | _::_,[],h,_=>by simp at h
theorem FmsAt.rep {w:World} {B:Nat} {V:Value} {ys:List Value} {l:List Fm} (h:FmsAt w B V ys l):aT w (FmS V ys) (fms l) V:=by
 have hr:bs w (FmS V ys) (l.map fm) (bK l ys):=BX l ys h.len fun i x y hx hy=>rO (h.row i x y hx hy) (fun _ h=>h.elim) fun b hb=>.inr ⟨y,KA hy,hb⟩
 have hw:∀d∈l.map fm,d.width=4:=fun d hd=>by obtain⟨x,_,rfl⟩:=List.mem_map.1 hd;rfl
 have ho:=h.own;obtain⟨h1,⟨rfl,h2⟩ | ⟨g,cap,cur,rfl,h3,h4,h5,_⟩⟩:=h.own
 ·have:l=[]:=JX h2
  subst this;exact⟨none,0,_,rfl,JW _,hr,hw,fun h=>absurd rfl h⟩
 ·refine⟨_,cap,_,by rw [JN],by rw [JN];exact h5,hr,hw,fun _=>⟨g,0,rfl,.inl rfl,fun i u hi=>?_⟩⟩
  rw [Kh];exact aW ho hi
structure ShopAt (w:World) (B:Nat) (v Vb Vf:Value) (ys:List Value) (s:Sp):Prop where
 val:v = .agg #[Vb,Vf,.int .i64 s.2.2.1,.int .i64 s.2.2.2]
 box:bh w (fun _=>False) (aM Vb) 4 (bxs s.1) Vb
 bge:∀b,aM Vb b→B≤b
 fms:FmsAt w B Vf ys s.2.1
 dis:∀b,aM Vb b→¬FmS Vf ys b
def ShS (Vb Vf:Value) (ys:List Value):Nat→Prop:=fun b=>aM Vb b∨FmS Vf ys b
theorem ShopAt.lt {w:World} {B:Nat} {v Vb Vf:Value} {ys:List Value} {s:Sp} (h:ShopAt w B v Vb Vf ys s):∀b,ShS Vb Vf ys b→B≤b∧b<w.heap.size:=by
 rintro b (hb | hb)
 ·exact⟨h.bge b hb,dy h.box b hb⟩
 ·exact h.fms.lt b hb
theorem ShopAt.keep {w w':World} {B:Nat} {v Vb Vf:Value} {ys:List Value} {s:Sp} (h:ShopAt w B v Vb Vf ys s) (hk:∀b,ShS Vb Vf ys b→w'.heap[b]?=w.heap[b]?):ShopAt w' B v Vb Vf ys s :=
 ⟨h.val,aY h.box fun b hb=>hk b (.inl hb),h.bge,h.fms.keep fun b hb=>hk b (.inr hb),h.dis⟩
theorem ShopAt.below {w w':World} {B:Nat} {v Vb Vf:Value} {ys:List Value} {s:Sp} (h:ShopAt w B v Vb Vf ys s) (hk:Below w.heap.size w w'):ShopAt w' B v Vb Vf ys s:=h.keep fun b hb=>hk.block b (h.lt b hb).2
theorem ShopAt.rep {w:World} {B:Nat} {v Vb Vf:Value} {ys:List Value} {s:Sp} (h:ShopAt w B v Vb Vf ys s):aT w (ShS Vb Vf ys) (sp s) v:=by
 obtain⟨rfl,h1,_,h2,_⟩:=h;refine⟨[_,_,_,_],rfl,?_⟩
 have e1:aT w (ShS Vb Vf ys) (bxs s.1) Vb:=rO h1 (fun _ h=>h.elim) fun b hb=>.inl hb
 have e2:aT w (ShS Vb Vf ys) (V.D.arr 4 (s.2.1.map fm)) Vf:=aQ (fun b hb=>.inr hb) (fun _ _=>rfl) h2.rep;simp only [RepC,aw,aJ];exact⟨⟨[_],[_,_,_],rfl,e1,[_],[_,_],rfl,e2,[_],[_],rfl,⟨rfl,rfl⟩,[_],[],rfl,⟨rfl,rfl⟩,rfl⟩,rfl⟩
theorem jZ {w:World} {F:Nat→Prop} {s:Sp} {v:Value} (h:aT w F (sp s) v):∃A n c A' n' c',v = .agg #[.slice A n c,.slice A' n' c',.int .i64 s.2.2.1,.int .i64 s.2.2.2]∧aT w F (bxs s.1) (.slice A n c)∧aT w F (V.D.arr 4 (s.2.1.map fm)) (.slice A' n' c'):=by
 obtain⟨vs,rfl,h⟩:=h;simp only [RepC,aw,aJ] at h;obtain⟨⟨v1,v2,rfl,h1,v3,v4,rfl,h2,v5,v6,rfl,⟨rfl,_⟩,v7,v8,rfl,⟨rfl,_⟩,rfl⟩,_⟩:=h;have h1':=h1;have h2':=h2;obtain⟨A,c,_,rfl,_⟩:=h1;obtain⟨A',c',_,rfl,_⟩:=h2;exact⟨A,_,c,A',_,c',rfl,by simp only [aT,RepC];exact h1',by simp only [aT,RepC];exact h2'⟩
theorem Dz {f:Nat} {z:Nat} {ff:List D→Option Out} {d:D} (he:∀args w,(callFunc f args).run Tryd.prog w = .ok (.enter f args) w) (hm:aF gl0 Tryd.prog f {pm:=[.dat 2],rm:=[.own z 0 false],f:=ff}) (hd:ff [d]=some (.ret [d] [])) (hbad:d ≠ .bad) {w:World} {F:Nat→Prop} {y:Value} (hr:aT w F d y) (hF:∀b,F b→b<w.heap.size) :
  Calls Tryd.prog f #[y] w fun e w'=>∃A n c,e = .returned (.slice A n c)∧bh w' (fun _=>False) (aM (.slice A n c)) z d (.slice A n c)∧(∀b,aM (.slice A n c) b→w.heap.size≤b∧b<w'.heap.size)∧Below w.heap.size w w':=by
 refine(eE (ow:=fun _=>none) (F:=F) (ds:=[d]) (rs:=[d]) (us:=[]) (args:=#[y]) he hm hd oa
  (show eZ w _ _ (.dat 2) d y∧True from⟨.inr hr,trivial⟩) (fun b hb=>⟨hF b hb,rfl⟩) (fun b i h=>by cases h)).mono ?_
 rintro e w' ⟨v,rfl,F',R,vs,rfl,hp⟩;have hl:=hp.len;obtain⟨u,rfl⟩:=Kw.1 (hl.trans rfl);have h0:=hp.res 0;rcases h0 with h0 | h0
 ·exact absurd h0 hbad
 obtain⟨m,e1,h2,h3⟩:=h0;have hB:Below w.heap.size w w':=⟨hp.os,hp.tape,hp.output,hp.size,fun b hb=>hp.keep b hb rfl⟩
 rcases h3 with ⟨h3,h30⟩ | ⟨g,o,c,us,cs,e,h4,h5,h6,h7,h8,h9,_,h11⟩
 ·have h3':u = .slice none 0 0:=h3
  subst h3';exact⟨_,_,_,rfl,⟨m,e1,h2,.inl ⟨rfl,h30⟩⟩,(fun b hb=>by cases hb),hB⟩
 ·have h4':u = .slice (some ⟨g,o,none⟩) m.length c:=h4
  subst h4';exact⟨_,_,_,rfl,⟨m,e1,h2,.inr ⟨g,o,c,us,cs,e,rfl,h5,h6,h7,aX (fun b hb=>hb.elim) (fun b hb=>hb.elim) _ _ h8,h9,rfl⟩⟩,fun b hb=>by
   have hb':g=b:=Option.some.inj hb;subst hb';exact⟨h11,(JO.1 h6).1⟩,hB⟩
set_option maxRecDepth 100000
theorem fk {w:World} (o:Obj) {b:Nat} (h:b<w.heap.size):(w.alloc o).heap[b]?=w.heap[b]?:=(World.grownBy_alloc w o none).block b h (by simp)
set_option maxRecDepth 100000
theorem GA {vs:List Value} (h:vs.length=2):∃a b,vs=[a,b]:=match vs,h with
 | [a,b],_=>⟨a,b,rfl⟩
theorem wb {f:Nat} {ff:List D→Option Out} {a:D} {k:Int} {b:Value} (he:∀args w,(callFunc f args).run Tryd.prog w = .ok (.enter f args) w) (hm:aF gl0 Tryd.prog f {pm:=[.dat 2,.dat 0],rm:=[.dat 0],f:=ff}) (hd:ff [a,I k]=some (.ret [.v b] [])) {w:World} {F:Nat→Prop} {y:Value} (hr:aT w F a y) (hF:∀b,F b→b<w.heap.size) :
  Calls Tryd.prog f #[y,.int .i64 k] w fun e w'=>e = .returned b∧Below w.heap.size w w' :=
 nG he hm ff rfl hd rfl oa
  (show eZ w F _ (.dat 2) a y∧eZ w _ _ (.dat 0) (I k) (.int .i64 k)∧True from⟨.inr hr,.inr (eT.2 ⟨rfl,rfl⟩),trivial⟩) hF
theorem gK {w:World} {z:Nat} {d:D} {y:Value} (h:bh w (fun _=>False) (aM y) z d y):aT w (aM y) d y:=rO h (fun _ h=>h.elim) fun _ h=>h
set_option maxRecDepth 100000
theorem bh.below {w w':World} {z:Nat} {d:D} {y:Value} (h:bh w (fun _=>False) (aM y) z d y) (hB:Below w.heap.size w w'):bh w' (fun _=>False) (aM y) z d y:=aY h fun b hb=>hB.block b (dy h b hb)
theorem Below.some {w w':World} {b:Nat} {o:Obj} (hB:Below w.heap.size w w') (h:w.heap[b]?=some o):w'.heap[b]?=some o:=(hB.block b (JO.1 h).1).trans h
theorem bz {w:World} {b:Nat} {o:Obj} (h:w.heap[b]?=some o):b<w.heap.size:=(JO.1 h).1
theorem aD (w:World) (o:Obj):Below w.heap.size w (w.alloc o):=(Below.refl _ w).alloc (JW _) _
theorem ac (w:World):Below w.heap.size w w.drew:=⟨rfl,rfl,rfl,JW _,fun _ _=>rfl⟩
theorem fL {w w1 w2:World} {B:Nat} (h:Below B w w1) (k:Below w1.heap.size w1 w2) (hb:B≤w1.heap.size):Below B w w2:=h.trans (k.mono hb)
theorem KeptX.some {S:Nat→Prop} {w w':World} {b:Nat} {o:Obj} (hX:KeptX S w w') (h:w.heap[b]?=some o) (hS:¬S b):w'.heap[b]?=some o:=(hX.block b (bz h) hS).trans h
theorem ab {w:World} {b:Nat} {x0 x1 x2 x3:Value} {t:TypeId} (h:w.heap[b]?=some (.cells #[x0,x1,x2,x3] t (0,0))):w.cell? ⟨b,0,none⟩=some x0∧w.cell? ⟨b,1,none⟩=some x1∧w.cell? ⟨b,2,none⟩=some x2∧w.cell? ⟨b,3,none⟩=some x3:=by
 refine⟨?_,?_,?_,?_⟩<;>rw [Lib.cell_of_heap h]<;>rfl
end Go.Proofs.YtkcojipciiakdaaDoor

namespace Go.Proofs.YtkcojipciiakdaaDoor
open Go.V
set_option maxRecDepth 100000
@[reducible] def DY:TI:={n:=1,zero:=[.arr 2 []],elem:=97,ez:=2,eb:=24}
@[reducible] def Ja:TI:={agg:=true,n:=4,zero:=[.v (.int .i64 0),.v (.int .i64 0),.v (.string ⟨#[]⟩),.v (.int .i64 0)],fs:=[(0,3),(1,3),(2,9),(3,3)],eq:=[1,1,3,1]}
@[reducible] def DF:TI:={agg:=true,n:=2,zero:=[.v (.string ⟨#[]⟩),.v (.int .i64 0)],fs:=[(0,9),(1,3)],eq:=[3,1]}
@[reducible] def mQ:Cx:={K:=[Yc,Yc,Y,.no,.no,.no,Yo 4 0,Y,Yo 4 0,.no,Y,Yc,Yc,Y,Y,Yo 4 0,Yo 4 0,Yc,Yo 4 0,Yc,Y,Y,Y,Yc,Y,.via 8,Yc,Y,Y,Yr 8,Yr 8,Y,Y,Y,Yr 8,Yr 8,Y,.via 8,Y,Y,Yo 4 0,Yo 4 0],T:=[(3,ty3),(9,ty9),(23,ic),(40,iu),(70,nr)],S:=[(31,fU),(47,ji),(59,lZ)],H:=[(0,([0,2,8,19,20,21],[8]))],res:=[.tmp 6,.tmp 7],ios:=[],G:=gl0}
def gH:List D→Option Out:=bW mQ Tryd.f39
@[reducible] def nb:FS:={pm:=[Yc,Yc,Y],rm:=[Yo 4 0,Y],f:=gH}
theorem vI:aF gl0 Tryd.prog 39 nb:=aS (c:=mQ) (af iR (af mE (af qR aH))) Tryd.func39 rfl rfl (by kernel_rfl)
@[reducible] def mH:Cx:={K:=[Yc,Yc,.no,.no,Yo 4 0,Y,Yc,Yc,.tup [Yo 4 0,Y],Yo 4 0,Y],T:=[(23,ic)],S:=[(39,nb)],H:=[],res:=[.tmp 4,.tmp 5],ios:=[],G:=gl0}
def jj:List D→Option Out:=bW mH Tryd.f22
@[reducible] def tK:FS:={pm:=[Yc,Yc],rm:=[Yo 4 0,Y],f:=jj}
theorem tF:aF gl0 Tryd.prog 22 tK:=aS (c:=mH) (af vI aH) Tryd.func22 rfl rfl (by kernel_rfl)
@[reducible] def pJ:Cx:={K:=[Y,.no,Y,Y,Y],T:=[],S:=[(71,iv)],H:=[],res:=[.tmp 2],ios:=[],G:=gl0}
def iG:List D→Option Out:=bW pJ Tryd.f79
@[reducible] def pH:FS:={pm:=[Y],rm:=[Y],f:=iG}
theorem wj:aF gl0 Tryd.prog 79 pH:=aS (c:=pJ) (af lC aH) Tryd.func79 rfl rfl (by kernel_rfl)
@[reducible] def pE:Cx:={K:=[Y,.box 4 0 false,Y,Yr 1,Y,Y,Y,Yr 1,Y,Y,Y,Yr 1,Y,Y,Y,Yr 1,Y,Y,Y,Y,Y,Yr 1,Y,Y,Y,Yr 1,Y,Y,Y,Y,Y,Y,Y,Y,Yr 1,Y,Y,Y,Yr 1,Y,Y,Y],T:=[(3,ty3),(9,ty9),(91,Ja)],S:=[(42,fq),(79,pH)],H:=[],res:=[.tmp 2],ios:=[],G:=gl0}
def iP:List D→Option Out:=bW pE Tryd.f67
@[reducible] def wh:FS:={pm:=[Y],rm:=[Y],f:=iP}
theorem wQ:aF gl0 Tryd.prog 67 wh:=aS (c:=pE) (af gn (af wj aH)) Tryd.func67 rfl rfl (by kernel_rfl)
@[reducible] def mT:Cx:={K:=[Y,Y,.no,.no,Y,Y,Y,Y,Y,Y],T:=[(3,ty3)],S:=[],H:=[],res:=[.tmp 4],ios:=[],G:=gl0}
def fp:List D→Option Out:=bW mT Tryd.f91
@[reducible] def nO:FS:={pm:=[Y,Y],rm:=[Y],f:=fp}
theorem vj:aF gl0 Tryd.prog 91 nO:=aS (c:=mT) aH Tryd.func91 rfl rfl (by kernel_rfl)
@[reducible] def pz:Cx:={K:=[Yc,Y,.no,.no,Y,Y,.box 2 0 false,Yc,Y,Y,Y,Y,Yc,Y,Yr 6,Y,Y,Y,Y,Y],T:=[(3,ty3),(9,ty9),(86,DY),(97,DF)],S:=[],H:=[(0,([1,7,8,9],[]))],res:=[.tmp 4],ios:=[],G:=gl0}
def fV:List D→Option Out:=bW pz Tryd.f92
@[reducible] def pq:FS:={pm:=[Yc,Y],rm:=[Y],f:=fV}
theorem wy:aF gl0 Tryd.prog 92 pq:=aS (c:=pz) aH Tryd.func92 rfl rfl (by kernel_rfl)
@[reducible] def qS:Cx:={K:=[Yc,Y,.no,.no,Yo 1 0,Y,Yo 1 0,Y,Y,Y,Y,Y,Y,Y,Y,Y,Y,Y,Y,Y,Y,Y,Y,Y,Y,Y,Y,Yc,Y,Y,Y,Y,Y,Y,Y,Y,Y,Yo 1 0,Y,Yb,Yo 1 0,Y,Yc,Y,Yc,Yc,Y,Y,Y,Yo 1 0],T:=[(3,ty3),(9,ty9),(30,wT),(86,DY),(97,DF)],S:=[(91,nO),(92,pq)],H:=[(0,([0,1,6,7],[6])),(2,([0,1,6,7,8,9],[0,1,6,7,8]))],res:=[.tmp 4,.tmp 5],ios:=[],G:=gl0}
def jA:List D→Option Out:=bW qS Tryd.f90
@[reducible] def qF:FS:={pm:=[Yc,Y],rm:=[Yo 1 0,Y],f:=jA}
theorem ye:aF gl0 Tryd.prog 90 qF:=aS (c:=qS) (af vj (af wy aH)) Tryd.func90 rfl rfl (by kernel_rfl)
@[reducible] def nv:Cx:={K:=[Yc,Y,.no,.no,Yo 1 0,Y,Yo 2 0,.no,.box 4 0 false,Yb,Y,Yo 1 0,.no,Y,Yc,Y,Y,Y,Yc,Y,Yo 2 0,Yr 8,Y,Y,Yb,Yo 2 0,Y,.tup [Yo 1 0,Y],.via 6,Y,.tup [Yo 1 0,Y],Yb,Y,Y,Y,Yb,Y,Y,Y,Yb,Y,Yo 1 0,.via 6,Y,Yr 6,Yr 6,Y,Yb,Yo 1 0,Y,Yo 1 0],T:=[(3,ty3),(9,ty9),(23,ic),(30,wT),(40,iu),(70,nr),(86,DY),(97,DF)],S:=[(90,qF)],H:=[(0,([1,6,14,15,16],[1,6])),(2,([6,11,35,36,37],[11]))],res:=[.tmp 4,.tmp 5],ios:=[],G:=gl0}
def jT:List D→Option Out:=bW nv Tryd.f87
@[reducible] def uP:FS:={pm:=[Yc,Y],rm:=[Yo 1 0,Y],f:=jT}
theorem vc:aF gl0 Tryd.prog 87 uP:=aS (c:=nv) (af ye aH) Tryd.func87 rfl rfl (by kernel_rfl)
@[reducible] def ph:Cx:={K:=[Yc,Y,.box 4 2 false,.no,Y,Y,.box 4 2 false,Yr 2,Yc,Y,Y,Y,Y,Yc,Yc,Yr 6,Y,Y,Y,Y,Y],T:=[(3,ty3),(4,ty4),(23,ic),(24,oK),(26,oQ),(40,iu),(42,qe)],S:=[],H:=[(0,([1,8,9,10],[]))],res:=[.tmp 4],ios:=[],G:=gl0}
def fX:List D→Option Out:=bW ph Tryd.f38
@[reducible] def pu:FS:={pm:=[Yc,Y],rm:=[Y],f:=fX}
theorem kU:aF gl0 Tryd.prog 38 pu:=aS (c:=ph) aH Tryd.func38 rfl rfl (by kernel_rfl)
@[reducible] def jr:Cx:={K:=[Yc,Y,.box 4 2 false,.no,Y,Y,Y,Y,Yr 2,Yc,Y,Y,Y,Yr 2,Yc,Y,Yc,Yc,Y,Y,Y,Y,Y,Y,Y,Y,Yr 2,Yc,Y,Y,Y,Yr 2,Yc,Y,Yc,Yc,Y,Y,Y,Y],T:=[(3,ty3),(4,ty4),(23,ic),(24,oK),(26,oQ),(40,iu),(42,qe)],S:=[],H:=[(0,([1,2,6],[1,2,6]))],res:=[.tmp 4,.tmp 5],ios:=[],G:=gl0}
def dV:List D→Option Out:=bW jr Tryd.f34
@[reducible] def jv:FS:={pm:=[Yc,Y],rm:=[Y,Y],f:=dV}
theorem oX:aF gl0 Tryd.prog 34 jv:=aS (c:=jr) aH Tryd.func34 rfl rfl (by kernel_rfl)
end Go.Proofs.YtkcojipciiakdaaDoor

end
