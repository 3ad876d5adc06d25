/-
  A part of the proof: contracts and plain forms of functions beneath the statement, made small by a program (names shortened, what is not needed left out).
-/
import Derived.Test.YtioabeglbjlndaaDoorRows
import Derived.Test.YtioabeglbjlndaaDoorTie
import Derived.Test.YtioabeglbjlndaaDoorCards
import Derived.Test.YtioabeglbjlndaaDoorM5
import Derived.Lib.Join
open Int renaming reduceLT → EP, reduceLE → EQ, reduceEq → ER, eq_ofNat_of_zero_le → EX
open Go.IntKind renaming i64 → ES, wrap_u8 → FC
open ByteArray renaming size_append → ET
open Option renaming bind_some → EU, elim → Ft
open List renaming length_singleton → EV, getElem_mem → EW, foldl_cons → EY, mem_cons → EZ, all_eq_true → Fb, length_append → Fc, flatten_cons → Ff, pairwise_cons → Fg, mem_singleton → Fh, mem_append → Fk, mem_cons_of_mem → Fm, map_cons → Fp, length_cons → Fq, length_take → Fr, length_map → Fs, drop_eq_nil_of_le → Fu, length_pos_iff → Fw, not_mem_nil → Fz, mem_filter → FA
open Bool renaming and_eq_true → Fa, false_eq_true → Fe, true_and → Fj, false_and → Fv
open Go.Value renaming string → Fi
open UInt8 renaming ofNat → Fl
open Nat renaming le_refl → Fo, beq_refl → Fx, zero_le → Fy
set_option maxRecDepth 100000
set_option linter.unusedSimpArgs false
set_option linter.unusedVariables false
noncomputable section
namespace Go.Proofs.YtioabeglbjlndaaDoor
open Go Go.V
set_option maxRecDepth 100000
theorem uV:∀(a b:List Nat),a.Pairwise (·<·)→b.Pairwise (·<·)→(∀x,x∈a↔x∈b)→a=b
 | [],[],_,_,_=>rfl
 | [],y::b,_,_,h=>by have:=(h y).2 (by simp);simp at this
 | x::a,[],_,_,h=>by have:=(h x).1 (by simp);simp at this
 | x::a,y::b,ha,hb,h=>by
  rw [Fg] at ha hb;have e:x=y:=by
   have h1:=(h x).1 (by simp);have h2:=(h y).2 (by simp);rcases EZ.1 h1 with h1 | h1
   ·exact h1
   ·rcases EZ.1 h2 with h2 | h2
    ·exact h2.symm
    ·have:=ha.1 y h2
     have:=hb.1 x h1;omega
  subst e;congr 1
  refine uV a b ha.2 hb.2 fun z=>?_
  constructor
  ·intro hz
   have h1:=(h z).1 (Fm _ hz);rcases EZ.1 h1 with h1 | h1
   ·have:=ha.1 z hz
    omega
   ·exact h1
  ·intro hz
   have h1:=(h z).2 (Fm _ hz);rcases EZ.1 h1 with h1 | h1
   ·have:=hb.1 z hz
    omega
   ·exact h1
def sel (mk:Nat→Bool) (a n:Nat):List Nat:=(List.range' a n).filter mk
theorem vy (mk:Nat→Bool) (a n:Nat):sel mk a (n+1)=if mk (a+n)=true then sel mk a n++[a+n] else sel mk a n:=by
 unfold sel;rw [List.range'_concat,List.filter_append,Nat.one_mul];by_cases h:mk (a+n)=true
 ·simp [h]
 ·simp [h]
theorem rK (mk:Nat→Bool) (a n:Nat):(sel mk a n).Pairwise (·<·):=List.Pairwise.filter _ List.pairwise_lt_range'
theorem uY {mk:Nat→Bool} {a n x:Nat}:x∈sel mk a n↔(a≤x∧x<a+n)∧mk x=true:=by
 unfold sel;rw [FA,List.mem_range'_1]
def rf:Nat→List (List UInt8)→List Nat
 | _,[]=>[]
 | n,p::r=>(n+p.length)::rf (n+p.length) r
theorem sM:∀(l:List (List UInt8)) (n x:Nat),x∈rf n l↔x∈dA n l∨(l≠[]∧x=n+l.flatten.length)
 | [],n,x=>by simp [rf,dA]
 | [p],n,x=>by simp [rf,dA]
 | p::q::r,n,x=>by
  rw [rf,EZ,sM (q::r),dA,EZ,Ff (l:=p),Fc];simp only [ne_eq,reduceCtorEq,not_false_eq_true,true_and];constructor
  ·rintro(h | h | h)
   ·exact .inl (.inl h)
   ·exact .inl (.inr h)
   ·exact .inr (by omega)
  ·rintro((h | h) | h)
   ·exact .inl h
   ·exact .inr (.inl h)
   ·exact .inr (.inr (by omega))
theorem vK:∀(l:List (List UInt8)) (n:Nat),(∀p∈l,p≠[])→(dA n l).Pairwise (·<·)∧∀x∈dA n l,n<x∧x<n+l.flatten.length
 | [],n,_=>by simp [dA]
 | [p],n,_=>by simp [dA]
 | p::q::r,n,h=>by
  have hp:0<p.length:=Fw.2 (h p (by simp));have hq:0<q.length:=Fw.2 (h q (by simp));obtain⟨h1,h2⟩:=vK (q::r) (n+p.length) fun x hx=>h x (Fm _ hx)
  rw [dA,Fg,Ff (l:=p),Fc];refine⟨⟨fun x hx=>(h2 x hx).1,h1⟩,fun x hx=>?_⟩
  rcases EZ.1 hx with rfl | hx
  ·rw [Ff,Fc]
   omega
  ·have:=h2 x hx
   omega
def mkH (ps es:List ByteArray) (w:ByteArray) (x:Nat):Bool:=match eh (fZ w) 0 es with
 | some j=>decide (x∈dA 0 (an 45 (aa (es.getD j default))))
 | none=>decide (((ba (aa w) ps).getD (x - 1) 0).tmod 2=1)
def plc (ps es:List ByteArray) (w:ByteArray):List Nat:=sel (mkH ps es w) 2 (w.size - 3)
theorem jk {β:Type} (p:β→Bool):∀(l:List β) (i j:Nat),eh p i l=some j→∃k,j=i+k∧∃h:k<l.length,p l[k]=true
 | [],_,_,h=>by cases h
 | x::l,i,j,h=>by
  simp only [eh] at h;by_cases hp:p x=true
  ·rw [if_pos hp] at h
   cases h;exact⟨0,rfl,by simp,hp⟩
  ·rw [if_neg hp] at h
   obtain⟨k,rfl,hk,h2⟩:=jk p l (i+1) j h;exact⟨k+1,by omega,by simp;omega,h2⟩
theorem BM {es:List ByteArray} (h:uK es=true):∀e∈es,eF (aa e)=true:=by
 rw [yo] at h;have h:=(Bool.and_eq_true_iff.1 h).1;have key:∀(l:List ByteArray) (i:Nat) (q:Nat→ByteArray→Bool),lC (fun i x=>eF (aa x)&&q i x) i l=true→∀e∈l,eF (aa e)=true:=by
  intro l;induction l with
  | nil=>intro _ _ _ e he;cases he
  | cons x l ih =>
   intro i q h e he;simp only [lC,Fa] at h;rcases EZ.1 he with rfl | he
   ·exact h.1.1
   ·exact ih (i+1) q (by simpa using h.2) e he
 exact key es 0 _ h
theorem qV {e:ByteArray} (h:eF (aa e)=true):(∀p∈an 45 (aa e),p≠[])∧(an 45 (aa e)).flatten.length≤16:=by
 unfold eF at h;rw [Fa,Fa,decide_eq_true_eq] at h;refine⟨fun p hp he=>?_,h.2.2⟩
 have:=Fb.1 h.1.1 p hp;rw [he] at this;simp at this
theorem rX:∀(l:List (Int × Bool)) (n m:Int) (v:Bool),iU (lA l n v) m=if n=m then v else iU l m
 | [],n,m,v=>by simp [lA,iU]
 | (k,b)::l,n,m,v=>by
  simp only [lA];by_cases h:k=n
  ·subst h
   simp only [if_true,iU];by_cases h2:k=m<;>simp [h2]
  ·rw [if_neg h]
   simp only [iU];rw [rX l];by_cases h2:k=m
   ·subst h2
    rw [if_pos rfl,if_pos rfl,if_neg fun e=>h e.symm]
   ·simp [h2]
def mV (vs:List Int):Nat→List (Int × Bool)
 | 0=>[]
 | i+1=>lA (mV vs i) ((i+1:Nat):Int) (decide ((vs.getD i 0).tmod 2=1))
theorem xV (vs:List Int):∀(i x:Nat),1≤x→x≤i→iU (mV vs i) (x:Int)=decide ((vs.getD (x - 1) 0).tmod 2=1)
 | 0,x,h1,h2=>by omega
 | i+1,x,h1,h2=>by
  rw [mV,rX];by_cases h:x=i+1
  ·subst h
   rw [if_pos rfl];rfl
  ·rw [if_neg (by omega),xV vs i x h1 (by omega)]
def mC (q:Nat × List (Int × Bool)) (p:ByteArray):Nat × List (Int × Bool):=(q.1+p.size,lA q.2 ((q.1+p.size:Nat):Int) true)
theorem yj:∀(l:List (List UInt8)) (n:Nat) (m:List (Int × Bool)) (x:Nat),iU ((l.map fun p=>(⟨p.toArray⟩:ByteArray)).foldl mC (n,m)).2 (x:Int)=(iU m (x:Int)||decide (x∈rf n l))
 | [],n,m,x=>by simp [rf]
 | p::r,n,m,x=>by
  rw [Fp,EY];have e:mC (n,m) ⟨p.toArray⟩=(n+p.length,lA m ((n+p.length:Nat):Int) true):=by
   unfold mC;rw [kr]
  rw [e,yj r,rX,rf];by_cases h:n+p.length=x
  ·subst h
   simp
  ·have h1:¬((n+p.length:Nat):Int)=(x:Int):=by omega
   rw [if_neg h1];congr 1
   apply decide_eq_decide.2;rw [EZ];exact⟨fun k=>.inr k,fun k=>k.resolve_left fun e=>h e.symm⟩
set_option maxRecDepth 100000
theorem km {l:List (Int × Bool)} {x:D}:ab (.mp l) x=some x:=rfl
theorem yH (l:List (Int × Bool)) (n:Int):lkD (.mp l) (I n)=some (B (iU l n)):=rfl
theorem Dv (l:List (Int × Bool)) (n:Int) (v:Bool):upM (.mp l) [I n,B v]=some (.mp (lA l n v)):=rfl
theorem Dl (n:Int):bin .rem false [] (I n) (I 2)=some (I (n.tmod 2)):=by simp
theorem rh (L:List UInt8) (ps:List ByteArray):(ba L ps).length=L.length - 1:=by
 unfold ba;rw [lQ,List.length_replicate]
theorem mJ (l:List Nat) (n:Nat):bo (l++[n])=bo l++[(n:Int)]:=by simp [bo]
theorem bD (l:List Nat):(bo l).length=l.length:=by simp [bo]
theorem rO (mk:Nat→Bool) (a n:Nat):(sel mk a n).length≤n:=by
 unfold sel;have:=List.length_filter_le mk (List.range' a n);rw [List.length_range'] at this;exact this
theorem uy {body:List D→Option Out} (w:ByteArray) (M:List (Int × Bool)) (mk:Nat→Bool) (hw:w.size≤16) (hM:∀x:Nat,2≤x→x<2+(w.size - 3)→iU M (x:Int)=mk x)
  (hb:∀(x:Nat) (l:List Int),l.length≤100→x≤100→body [T w,.mp M,aI l,I (x:Int)]=some (if (x:Int)≤(w.size:Int) - 2 then(if iU M (x:Int)=true then .nrm [T w,.mp M,aI (l++[(x:Int)]),I ((x+1:Nat):Int)] else .nrm [T w,.mp M,aI l,I ((x+1:Nat):Int)]) else .ext 4 [aI l])) :
  aD body [T w,.mp M,aI [],I 2]=some (.ext 4 [aI (bo (sel mk 2 (w.size - 3)))]):=by
 refine ke (w.size - 3) (fun i=>[T w,.mp M,aI (bo (sel mk 2 i)),I ((2+i:Nat):Int)]) _ (fun i hi=>?_) ?_ rfl rfl
 ·have hl:=rO mk 2 i
  rw [hb (2+i) _ (by rw [bD];omega) (by omega),if_pos (by omega),hM _ (by omega) (by omega),vy];by_cases hm:mk (2+i)=true
  ·rw [if_pos hm,if_pos hm,mJ]
   rfl
  ·rw [if_neg hm,if_neg hm]
   rfl
 ·have hl:=rO mk 2 (w.size - 3)
  rw [hb _ _ (by rw [bD];omega) (by omega),if_neg (by omega)]
theorem fa {ps es:List ByteArray} {w:ByteArray} (h:HIn ps es) (hg:cz ps es w=true):Vw w∧(∀p∈ps,∃r,Vp p r)∧(∀e∈es,eF (aa e)=true):=by
 unfold cz at hg;simp only [Fa] at hg;obtain⟨⟨⟨h1,-⟩,h3⟩,h4⟩:=hg;rw [nU,Fa,decide_eq_true_eq] at h4;refine⟨⟨by omega,by omega,fun b hb=>?_⟩,fun p hp=>zT (Fb.1 h1 p hp) (h.ps p hp),BM h3⟩
 have:=Fb.1 h4.1 b hb;unfold okL at this;simp only [Fa,decide_eq_true_eq] at this;omega
theorem tj (ps es:List ByteArray) (w:ByteArray) (h:HIn ps es) (hg:cz ps es w=true):gE [txs ps,txs es,T w]=some (.ret [aI (bo (plc ps es w))] []):=by
 obtain⟨hw,hp,he⟩:=fa h hg;have hlo:=hw.lo;have hhi:=hw.hi;have hpn:=h.pn;have hen:=h.en;have hsz:=aR w;rw [tQ];have hea:=iK es w (by omega) (fun x hx=>by have:=h.es x hx;omega);have hm0:aF 1 []=some (aI []):=rfl;have hw2:ES.wrap ((w.size:Int) - 2)=(w.size:Int) - 2:=am (by omega) (by omega);unfold plc;cases hf:eh (fZ w) 0 es with
 | some j =>
  obtain⟨k,hjk,hk,hbp⟩:=jk _ _ _ _ hf;rw [Nat.zero_add] at hjk;subst hjk;rw [hf] at hea;have h0:(0:Int)≤(j:Int):=by omega
  have hel:aT 1 (txs es) (I (j:Int))=some [T es[j]]:=by simp [hk]
  have hes:=h.es _ (EW hk);have hsp:=yD (c:=45) (s:=es[j]) (by omega);have e1:D.v (Fi {data:={toList:=[45]}})=T ⟨#[45]⟩:=rfl;obtain⟨hne,hfl⟩:=qV (he _ (EW hk));have hbare:(an 45 (aa es[j])).flatten.length=w.size:=by
   unfold fZ at hbp;rw [decide_eq_true_eq] at hbp;rw [←hbp,nR]
  have hmk:∀x,mkH ps es w x=decide (x∈dA 0 (an 45 (aa es[j]))):=by
   intro x;unfold mkH;rw [hf];simp [hk]
  have hlen:(an 45 (aa es[j])).length≤1000001:=by
   have:=gB 45 (aa es[j]);have:=aR es[j];omega
  simp -implicitDefEqProofs only [al,EP,EQ,ER,hea,Ft,h0,hel,e1,hsp];refine aA _ (cF (bn 45 es[j]) (fun i q=>[T w,.mp q.2,I (q.1:Int),.arr 1 ((bn 45 es[j]).map T),I (bn 45 es[j]).length,I i]) (fun i q=>q.1+((bn 45 es[j]).drop i).foldl (fun a p=>a+p.size) 0=w.size) (fun _ q p=>mC q p) (fun q=>.ext 0 [T w,.mp q.2]) (0,[]) (fun i q hi hI=>?_) (fun q hI=>?_) (fun _=>rfl) ?_ rfl) ?_
  ·have hd:(bn 45 es[j]).drop i=(bn 45 es[j])[i]::(bn 45 es[j]).drop (i+1):=List.drop_eq_getElem_cons hi
   rw [hd,EY] at hI;have hfold:∀(l:List ByteArray) (a:Nat),l.foldl (fun a p=>a+p.size) a=a+l.foldl (fun a p=>a+p.size) 0:=by
    intro l;induction l with
    | nil=>intro a;rfl
    | cons x l ih=>intro a;rw [EY,ih,EY,ih (0+x.size)];omega
   rw [hfold] at hI;have hl2:(bn 45 es[j]).length≤1000001:=by rw [bn,Fs];exact hlen
   have hi':(i:Int)<((bn 45 es[j]).length:Int):=by omega
   have hwi:ES.wrap ((i:Int)+1)=((i+1:Nat):Int):=by rw [am (by omega) (by omega)];omega
   have hel2:aT 1 (.arr 1 ((bn 45 es[j]).map T)) (I (i:Int))=some [T (bn 45 es[j])[i]]:=by simp [hi]
   have hwq:ES.wrap ((q.1:Int)+((bn 45 es[j])[i].size:Int))=((q.1+(bn 45 es[j])[i].size:Nat):Int):=by rw [am (by omega) (by omega)];omega
   refine⟨?_,by unfold mC;simp only;omega⟩
   simp -implicitDefEqProofs only [al,EP,EQ,ER,hi',hel2,hwq,km,Dv,hwi];rfl
  ·have hlt:¬(((bn 45 es[j]).length:Int)<((bn 45 es[j]).length:Int)):=by omega
   simp -implicitDefEqProofs only [al,EP,EQ,ER,hlt]
  ·rw [List.drop_zero,←hbare,bn]
   have:∀(l:List (List UInt8)) (a:Nat),(l.map fun p=>(⟨p.toArray⟩:ByteArray)).foldl (fun a p=>a+p.size) a=a+l.flatten.length:=by
    intro l;induction l with
    | nil=>intro a;rfl
    | cons x l ih=>intro a;rw [Fp,EY,ih,kr,Ff,Fc];omega
   rw [this];omega
  ·simp -implicitDefEqProofs only [al,EP,EQ,ER,hm0]
   refine aA _ (uy w _ (mkH ps es w) hhi (fun x h1 h2=>?_) (fun x l h1 h2=>?_)) ?_
   ·rw [gP,bn,yj,hmk]
    show(false||_)=_
    rw [Bool.false_or];apply decide_eq_decide.2;rw [sM,hbare];exact⟨fun k=>k.resolve_right fun e=>by omega,fun k=>.inl k⟩
   ·have hwx:ES.wrap ((x:Int)+1)=((x+1:Nat):Int):=by rw [am (by omega) (by omega)];omega
    have hap:=gS (l:=l) (m:=[(x:Int)]) (by simp only [EV];omega);have hone:=gx (x:Int);by_cases hx:(x:Int)≤(w.size:Int) - 2
    ·rw [if_pos hx]
     cases hc:iU (bU (fun _ q p=>mC q p) 0 (bn 45 es[j]) (0,[])).2 (x:Int)
     ·simp -implicitDefEqProofs only [al,EP,EQ,ER,hw2,hx,km,yH,hc,hwx]
     ·simp -implicitDefEqProofs only [al,EP,EQ,ER,hw2,hx,km,yH,hc,hone,kY,hap,hwx]
    ·rw [if_neg hx]
     simp -implicitDefEqProofs only [al,EP,EQ,ER,hw2,hx]
   ·simp -implicitDefEqProofs only [al,EP,EQ,ER]
 | none =>
  rw [hf] at hea;have h0:¬((0:Int) ≤ -1):=by decide
  have hv:=rH ps w hw (by omega) hp;have hvl:=rh (aa w) ps;have hmk:∀x,mkH ps es w x=decide (((ba (aa w) ps).getD (x - 1) 0).tmod 2=1):=by
   intro x;unfold mkH;rw [hf]
  simp -implicitDefEqProofs only [al,EP,EQ,ER,hea,Ft,h0,hv];refine aA _ (ke (ba (aa w) ps).length (fun i=>[T w,.mp (mV (ba (aa w) ps) i),aI (ba (aa w) ps),I (ba (aa w) ps).length,I i]) (.ext 2 [T w,.mp (mV (ba (aa w) ps) (ba (aa w) ps).length)]) (fun i hi=>?_) ?_ rfl rfl) ?_
  ·have hi':(i:Int)<((ba (aa w) ps).length:Int):=by omega
   have hwi:ES.wrap ((i:Int)+1)=((i+1:Nat):Int):=by rw [am (by omega) (by omega)];omega
   have hgi:=fL hi;have hgd:(ba (aa w) ps).getD i 0=(ba (aa w) ps)[i]:=by simp [hi]
   simp -implicitDefEqProofs only [al,EP,EQ,ER,hi',hgi,km,hwi,Dl,Dv,mV,hgd]
  ·have hlt:¬(((ba (aa w) ps).length:Int)<((ba (aa w) ps).length:Int)):=by omega
   simp -implicitDefEqProofs only [al,EP,EQ,ER,hlt]
  ·simp -implicitDefEqProofs only [al,EP,EQ,ER,hm0]
   refine aA _ (uy w _ (mkH ps es w) hhi (fun x h1 h2=>?_) (fun x l h1 h2=>?_)) ?_
   ·rw [xV _ _ _ (by omega) (by omega),hmk]
   ·have hwx:ES.wrap ((x:Int)+1)=((x+1:Nat):Int):=by rw [am (by omega) (by omega)];omega
    have hap:=gS (l:=l) (m:=[(x:Int)]) (by simp only [EV];omega);have hone:=gx (x:Int);by_cases hx:(x:Int)≤(w.size:Int) - 2
    ·rw [if_pos hx]
     cases hc:iU (mV (ba (aa w) ps) (ba (aa w) ps).length) (x:Int)
     ·simp -implicitDefEqProofs only [al,EP,EQ,ER,hw2,hx,km,yH,hc,hwx]
     ·simp -implicitDefEqProofs only [al,EP,EQ,ER,hw2,hx,km,yH,hc,hone,kY,hap,hwx]
    ·rw [if_neg hx]
     simp -implicitDefEqProofs only [al,EP,EQ,ER,hw2,hx]
   ·simp -implicitDefEqProofs only [al,EP,EQ,ER]
set_option maxRecDepth 100000
theorem vH:∀(l:List (List UInt8)) (n:Nat),(dA n l).length≤l.length
 | [],_=>by simp [dA]
 | [p],_=>by simp [dA]
 | p::q::r,n=>by
  have:=vH (q::r) (n+p.length);rw [dA,Fq,Fq];omega
theorem yI {ps es:List ByteArray} {w:ByteArray} {x:Nat}:x∈plc ps es w↔(2≤x∧x<2+(w.size - 3))∧mkH ps es w x=true:=uY
def qa (w:ByteArray) (x:Nat):Bool:=decide (2≤(x:Int)∧(x:Int)≤(w.size:Int) - 2)
theorem pA {β:Type} (p:β→Bool):∀(l:List β) (i:Nat) (a:List β),bU (fun _ a x=>if p x=true then a++[x] else a) i l a=a++l.filter p
 | [],_,a=>by simp [bU]
 | x::l,i,a=>by
  rw [bU,pA p l];by_cases h:p x=true
  ·simp [h]
  ·simp [h]
theorem eW (ps es:List ByteArray) (w:ByteArray) (h:HIn ps es) (hg:cz ps es w=true):cj [txs ps,txs es,T w]=some (.ret [aI (bo (plc ps es w))] []):=by
 obtain⟨hw,hp,he⟩:=fa h hg;have hlo:=hw.lo;have hhi:=hw.hi;have hpn:=h.pn;have hen:=h.en;have hsz:=aR w;rw [rF];have hw2:ES.wrap ((w.size:Int) - 2)=(w.size:Int) - 2:=am (by omega) (by omega);simp -implicitDefEqProofs only [al,EP,EQ,ER];refine aA _ (qD es (fun i=>[txs ps,T w,aI (bo []),txs es,I es.length,I i]) (fZ w) (fun j=>.ret [aI (bo ((dA 0 (an 45 (aa (es.getD j default)))).filter (qa w)))] []) (.ext 0 [txs ps,T w,aI (bo [])]) (fun i hi=>?_) ?_ (fun _=>rfl) rfl rfl) ?_
 ·have hi':(i:Int)<(es.length:Int):=by omega
  have hwi:ES.wrap ((i:Int)+1)=((i+1:Nat):Int):=by rw [am (by omega) (by omega)];omega
  have hel:aT 1 (txs es) (I (i:Int))=some [T es[i]]:=by simp [hi]
  have hes:=h.es _ (EW hi);have hex:=he _ (EW hi);obtain⟨b,qs,hb,hb2⟩:=xc es[i] (by omega);obtain⟨rfl,rfl⟩:=hb2 hex;have hgd:es.getD i default=es[i]:=by simp [hi]
  have hcl:=vH (an 45 (aa es[i])) 0;have hsl:=gB 45 (aa es[i]);have hse:=aR es[i];rw [hgd];by_cases hc:bM es[i]=w
  ·have hcb:fZ w es[i]=true:=decide_eq_true hc
   rw [hcb,if_pos rfl];simp -implicitDefEqProofs only [al,EP,EQ,ER,hi',hel,hb,tv0,ta1,tc1,tv2,px,hc];refine aA _ (cF (dA 0 (an 45 (aa es[i]))) (fun k out=>[T w,aI (bo out),aI (bo (dA 0 (an 45 (aa es[i])))),I (bo (dA 0 (an 45 (aa es[i])))).length,I k]) (fun k out=>out.length≤k) (fun _ out x=>if qa w x=true then out++[x] else out) (fun out=>.ext 2 [D.bad,T w,aI (bo out),D.bad,D.bad,D.bad]) [] (fun k out hk ho=>⟨?_,by split;simp;omega;omega⟩) (fun out ho=>?_) (fun _=>rfl) (by simp) rfl) ?_
   ·have hk':(k:Int)<((bo (dA 0 (an 45 (aa es[i])))).length:Int):=by rw [bD];omega
    have hwk:ES.wrap ((k:Int)+1)=((k+1:Nat):Int):=by rw [am (by omega) (by omega)];omega
    have hgk:=fL (l:=bo (dA 0 (an 45 (aa es[i])))) (i:=k) (by rw [bD];omega);have hnk:(bo (dA 0 (an 45 (aa es[i]))))[k]'(by rw [bD];omega)=((dA 0 (an 45 (aa es[i])))[k]:Int):=by simp [bo]
    rw [hnk] at hgk;have hli:=fg ((dA 0 (an 45 (aa es[i])))[k]:Int) 2 ((w.size:Int) - 2);have hone:=gx ((dA 0 (an 45 (aa es[i])))[k]:Int);have hap:=gS (l:=bo out) (m:=[((dA 0 (an 45 (aa es[i])))[k]:Int)]) (by rw [bD];simp only [EV];omega);rw [←mJ] at hap;unfold qa;cases hq:decide (2≤((dA 0 (an 45 (aa es[i])))[k]:Int)∧((dA 0 (an 45 (aa es[i])))[k]:Int)≤(w.size:Int) - 2)
    ·rw [hq] at hli
     simp -implicitDefEqProofs only [al,EP,EQ,ER,hk',hgk,hw2,hli,hwk]
    ·rw [hq] at hli
     simp -implicitDefEqProofs only [al,EP,EQ,ER,hk',hgk,hw2,hli,hone,kY,hap,hwk]
   ·have hlt:¬(((dA 0 (an 45 (aa es[i]))).length:Int)<((bo (dA 0 (an 45 (aa es[i])))).length:Int)):=by rw [bD];omega
    simp -implicitDefEqProofs only [al,EP,EQ,ER,hlt]
   ·rw [pA]
    simp -implicitDefEqProofs only [al,EP,EQ,ER,List.nil_append]
  ·have hcb:fZ w es[i]=false:=decide_eq_false hc
   rw [hcb];simp -implicitDefEqProofs only [al,EP,EQ,ER,hi',hel,hb,tv0,ta1,tc1,tv2,px,hc,hwi]
 ·have hlt:¬((es.length:Int)<(es.length:Int)):=by omega
  simp -implicitDefEqProofs only [al,EP,EQ,ER,hlt]
 ·cases hf:eh (fZ w) 0 es with
  | some j =>
   obtain⟨k,hjk,hk,hbp⟩:=jk _ _ _ _ hf;rw [Nat.zero_add] at hjk;subst hjk;obtain⟨hne,hfl⟩:=qV (he _ (EW hk));have hbare:(an 45 (aa es[j])).flatten.length=w.size:=by
    unfold fZ at hbp;rw [decide_eq_true_eq] at hbp;rw [←hbp,nR]
   have hgd:es.getD j default=es[j]:=by simp [hk]
   simp -implicitDefEqProofs only [al,EP,EQ,ER,Ft,ka];have key:(dA 0 (an 45 (aa (es.getD j default)))).filter (qa w)=plc ps es w:=by
    obtain⟨h1,h2⟩:=vK (an 45 (aa es[j])) 0 hne;rw [hgd];refine uV _ _ (h1.filter _) (rK _ _ _) fun x=>?_
    have hmk:mkH ps es w x=decide (x∈dA 0 (an 45 (aa es[j]))):=by
     unfold mkH;rw [hf];simp only [hgd]
    rw [FA,yI,hmk,decide_eq_true_eq];unfold qa;rw [decide_eq_true_eq];constructor
    ·rintro⟨k1,k2⟩
     exact⟨by omega,k1⟩
    ·rintro⟨k1,k2⟩
     exact⟨k2,by omega⟩
   rw [key]
  | none =>
   have hv:=rB ps w hw (by omega) hp;have hvl:=rh (aa w) ps;have hmk:∀x,mkH ps es w x=decide (((ba (aa w) ps).getD (x - 1) 0).tmod 2=1):=by
    intro x;unfold mkH;rw [hf]
   simp -implicitDefEqProofs only [al,EP,EQ,ER,Ft,hv];refine aA _ (ke (ba (aa w) ps).length (fun i=>[T w,aI (bo (sel (fun x=>mkH ps es w x&&qa w x) 1 i)),aI (ba (aa w) ps),I (ba (aa w) ps).length,I i]) (.ext 4 [aI (bo (sel (fun x=>mkH ps es w x&&qa w x) 1 (ba (aa w) ps).length))]) (fun i hi=>?_) ?_ rfl rfl) ?_
   ·have hi':(i:Int)<((ba (aa w) ps).length:Int):=by omega
    have hwi:ES.wrap ((i:Int)+1)=((i+1:Nat):Int):=by rw [am (by omega) (by omega)];omega
    have hgi:=fL hi;have hgd:(ba (aa w) ps).getD (1+i - 1) 0=(ba (aa w) ps)[i]:=by
     rw [Nat.add_sub_cancel_left];simp [hi]
    have hsl:=rO (fun x=>mkH ps es w x&&qa w x) 1 i;have hli:=fg ((i+1:Nat):Int) 2 ((w.size:Int) - 2);have hone:=gx ((i+1:Nat):Int);have hap:=gS (l:=bo (sel (fun x=>mkH ps es w x&&qa w x) 1 i)) (m:=[((i+1:Nat):Int)]) (by rw [bD];simp only [EV];omega);rw [←mJ] at hap;rw [vy,hmk,hgd];have hcb:qa w (1+i)=decide (2≤((i+1:Nat):Int)∧((i+1:Nat):Int)≤(w.size:Int) - 2):=by
     unfold qa;rw [Nat.add_comm]
    rw [hcb];cases hq:decide (((ba (aa w) ps)[i]).tmod 2=1)
    ·simp -implicitDefEqProofs only [al,EP,EQ,ER,hi',hgi,Dl,hq,Fv,hwi]
    ·cases hr:decide (2≤((i+1:Nat):Int)∧((i+1:Nat):Int)≤(w.size:Int) - 2)
     ·rw [hr] at hli
      simp -implicitDefEqProofs only [al,EP,EQ,ER,hi',hgi,Dl,hq,Fj,hwi,hw2,hli]
     ·rw [hr] at hli
      simp -implicitDefEqProofs only [al,EP,EQ,ER,hi',hgi,Dl,hq,Fj,hwi,hw2,hli,hone,kY,hap,Nat.add_comm 1 i]
   ·have hlt:¬(((ba (aa w) ps).length:Int)<((ba (aa w) ps).length:Int)):=by omega
    simp -implicitDefEqProofs only [al,EP,EQ,ER,hlt]
   ·have key:sel (fun x=>mkH ps es w x&&qa w x) 1 (ba (aa w) ps).length=plc ps es w:=by
     refine uV _ _ (rK _ _ _) (rK _ _ _) fun x=>?_
     rw [uY,yI];unfold qa;rw [Fa,decide_eq_true_eq];constructor
     ·rintro⟨k1,k2,k3⟩
      exact⟨by omega,k2⟩
     ·rintro⟨k1,k2⟩
      exact⟨by omega,k2,by omega⟩
    rw [key];simp -implicitDefEqProofs only [al,EP,EQ,ER]
def jN (ps es:List ByteArray) (w:ByteArray):List Nat:=if cz ps es w=true then plc ps es w else []
theorem mY (ps es:List ByteArray) (w:ByteArray) (h:HIn ps es) (hw:w.size≤1000000):dp [txs ps,txs es,T w]=some (.ret [aI (bo (jN ps es w)),B (cz ps es w)] []):=by
 rw [mT];have h1:=ec ps es w h (by omega);unfold jN;cases hg:cz ps es w<;>rw [hg] at h1
 ·simp -implicitDefEqProofs only [al,EP,EQ,ER,h1]
  rfl
 ·simp -implicitDefEqProofs only [al,EP,EQ,ER,h1,eW ps es w h hg]
theorem du (ps es:List ByteArray) (w:ByteArray) (h:HIn ps es) (hw:w.size≤1000000):bA [txs ps,txs es,T w]=some (.ret [aI (bo (jN ps es w)),B (cz ps es w)] []):=by
 rw [mX];have h1:=ou ps es w h (by omega);unfold jN;cases hg:cz ps es w<;>rw [hg] at h1
 ·simp -implicitDefEqProofs only [al,EP,EQ,ER,h1]
  rfl
 ·simp -implicitDefEqProofs only [al,EP,EQ,ER,h1,tj ps es w h hg]
theorem uJ (ps es:List ByteArray) (w:ByteArray):∀x∈plc ps es w,2≤x∧x+2≤w.size:=by
 intro x hx;have:=(uY.1 hx).1;omega
set_option maxRecDepth 100000
theorem ve (l:List Int) (h:l.length≤1048576):iv [aI l,aI l]=some (.ret [B true] []):=by
 rw [vf];simp only [fV,Fs,EU,rJ,decide_true,Bool.not_true,gJ,Fe,if_false];refine aA (.ext 0 []) (ke l.length (fun i=>[aI l,aI l,I l.length,I i]) _ (fun i hi=>?_) ?_ rfl rfl) ?_
 ·have hw:ES.wrap ((i:Int)+1)=(i:Int)+1:=am (by omega) (by omega)
  simp -implicitDefEqProofs [hi,hw]
 ·simp
 ·simp
theorem tG (l:List ByteArray) (h:l.length≤1048576):gu [txs l,txs l]=some (.ret [B true] []):=by
 rw [tC];simp only [fV,Fs,EU,rJ,decide_true,Bool.not_true,gJ,Fe,if_false];refine aA (.ext 0 []) (ke l.length (fun i=>[txs l,txs l,I l.length,I i]) _ (fun i hi=>?_) ?_ rfl rfl) ?_
 ·have hw:ES.wrap ((i:Int)+1)=(i:Int)+1:=am (by omega) (by omega)
  simp -implicitDefEqProofs [hi,hw]
 ·simp
 ·simp
theorem mu {β:Type} {p:β→Bool}:∀{l:List β} {i:Nat},eh p i l=none→∀x∈l,p x=false
 | [],_,_,_,hx=>by cases hx
 | y::l,i,h,x,hx=>by
  simp only [eh] at h;by_cases hp:p y=true
  ·rw [if_pos hp] at h
   cases h
  ·rw [if_neg hp] at h
   rcases EZ.1 hx with rfl | hx
   ·simpa using hp
   ·exact mu h x hx
theorem BD (l:List Int) (n:Int):(eh (fun x=>decide (x=n)) 0 l).isSome=decide (n∈l):=by
 cases hf:eh (fun x=>decide (x=n)) 0 l with
 | none =>
  have hm:n∉l:=fun hm=>by
   have:=mu hf n hm;simp at this
  simp [hm]
 | some j =>
  obtain⟨_,_,h2,h3⟩:=jk _ _ _ _ hf;have hm:n∈l:=by
   rw [←of_decide_eq_true h3];exact EW h2
  simp [hm]
theorem rV {body:List D→Option Out} (l:List Int) (n:Int) (h:l.length≤1048577)
  (hb:∀(i:Nat) (hi:i<l.length),body [I n,aI l,I l.length,I i]=some (if decide (l[i]=n)=true then .ret [B true] [] else .nrm [I n,aI l,I l.length,I ((i+1:Nat):Int)]))
  (he:body [I n,aI l,I l.length,I l.length]=some (.ext 0 [])):aD body [I n,aI l,I l.length,I 0]=some (if n∈l then .ret [B true] [] else .ext 0 []):=by
 refine(qD l (fun i=>[I n,aI l,I l.length,I i]) (fun x=>decide (x=n)) (fun _=>.ret [B true] []) (.ext 0 []) hb he (fun _=>rfl) rfl rfl).trans ?_
 have:=BD l n;cases hf:eh (fun x=>decide (x=n)) 0 l with
 | none =>
  rw [hf] at this;have hm:n∉l:=of_decide_eq_false this.symm;rw [if_neg hm];rfl
 | some j =>
  rw [hf] at this;have hm:n∈l:=of_decide_eq_true this.symm;rw [if_pos hm];rfl
theorem vO (l:List Int) (n:Int) (h:l.length≤1048577):js [aI l,I n]=some (.ret [B (decide (n∈l))] []):=by
 rw [wl];simp -implicitDefEqProofs only [al,EP,EQ,ER];refine aA _ (rV l n h (fun i hi=>?_) ?_) ?_
 ·have hw:ES.wrap ((i:Int)+1)=((i+1:Nat):Int):=by rw [am (by omega) (by omega)];omega
  by_cases h1:l[i]=n<;>simp -implicitDefEqProofs [hi,hw,h1]
 ·simp
 ·by_cases hm:n∈l<;>simp [hm]
theorem qw (l:List Int) (n:Int) (h:l.length≤1048577):er [aI l,I n]=some (.ret [B (decide (n∈l))] []):=by
 rw [qC];simp -implicitDefEqProofs only [al,EP,EQ,ER];refine aA _ (rV l n h (fun i hi=>?_) ?_) ?_
 ·have hw:ES.wrap ((i:Int)+1)=((i+1:Nat):Int):=by rw [am (by omega) (by omega)];omega
  by_cases h1:l[i]=n<;>simp -implicitDefEqProofs [hi,hw,h1]
 ·simp
 ·by_cases hm:n∈l<;>simp [hm]
theorem uG (l:List Int) (n:Int) (h:l.length≤1048577):iq [aI l,I n]=some (.ret [B (decide (n∈l))] []):=by
 rw [vm];simp -implicitDefEqProofs only [al,EP,EQ,ER];refine aA _ (rV l n h (fun i hi=>?_) ?_) ?_
 ·have hw:ES.wrap ((i:Int)+1)=((i+1:Nat):Int):=by rw [am (by omega) (by omega)];omega
  by_cases h1:l[i]=n<;>simp -implicitDefEqProofs [hi,hw,h1]
 ·simp
 ·by_cases hm:n∈l<;>simp [hm]
def jst (sep:ByteArray) (i:Nat) (a x:ByteArray):ByteArray:=if 0<i then a++sep++x else a++x
def jnT (sep:ByteArray) (l:List ByteArray):ByteArray:=bU (jst sep) 0 l ⟨#[]⟩
theorem ta (sep:ByteArray):∀(l:List ByteArray) (i:Nat) (a:ByteArray),0<i→aa (bU (jst sep) i l a)=aa a++(l.map fun x=>aa sep++aa x).flatten
 | [],_,a,_=>by simp [bU]
 | x::l,i,a,h=>by
  rw [bU,ta sep l (i+1) _ (by omega),jst,if_pos h];simp [kS]
theorem sN (sep:List UInt8):∀(x:List UInt8) (l:List (List UInt8)),sep.intercalate (x::l)=x++(l.map fun y=>sep++y).flatten
 | x,[]=>by simp [List.intercalate]
 | x,y::l=>by
  have:=sN sep y l;simp only [List.intercalate,List.intersperse_cons_cons,Ff,Fp] at this ⊢;rw [this];simp
theorem xQ (l:List ByteArray) (sep:ByteArray):so l sep=jnT sep l:=by
 apply gh;unfold so jnT;rw [eO];cases l with
 | nil=>rfl
 | cons x l =>
  have e:bU (jst sep) 0 (x::l) ⟨#[]⟩=bU (jst sep) 1 l x:=by
   rw [bU,jst,if_neg (by omega)];congr 1
  rw [e,ta sep l 1 _ (by omega)];show Lib.join (aa x::l.map aa) (aa sep)=_
  unfold Lib.join;rw [sN,List.map_map];rfl
theorem sc {sep x a:ByteArray} {i:Nat} (h1:sep.size≤1) (h2:x.size≤16) (ha:a.size≤17*i):(jst sep i a x).size≤17*(i+1):=by
 unfold jst;split<;>simp only [ET]<;>omega
theorem wX (sep:ByteArray) (h1:sep.size≤1):∀(l:List ByteArray) (i:Nat) (a:ByteArray),(∀x∈l,x.size≤16)→a.size≤17*i→(bU (jst sep) i l a).size≤17*(i+l.length)
 | [],i,a,_,h=>by simpa [bU] using h
 | x::l,i,a,hx,h=>by
  have:=wX sep h1 l (i+1) (jst sep i a x) (fun y hy=>hx y (by simp [hy])) (sc h1 (hx x (by simp)) h);rw [bU,Fq];omega
theorem DJ (l:List ByteArray) (sep:ByteArray) (h1:sep.size≤1) (hn:l.length≤1048576) (hx:∀x∈l,x.size≤16):ui [txs l,T sep]=some (.ret [T (jnT sep l)] []):=by
 have:=wX sep h1 l 0 ⟨#[]⟩ hx (by show 0≤_;omega);simp only [ui,uk,EU,xQ];rw [if_pos ⟨by omega,by unfold jnT;omega⟩]
theorem oJ (l:List ByteArray) (sep:ByteArray) (h1:sep.size≤1) (hn:l.length≤1048576) (hx:∀x∈l,x.size≤16):fu [txs l,T sep]=some (.ret [T (jnT sep l)] []):=by
 rw [uI];simp -implicitDefEqProofs only [al,EP,EQ,ER];refine aA _ (cF l (fun i a=>[T sep,T a,txs l,I l.length,I i]) (fun i a=>a.size≤17*i) (jst sep) (fun a=>.ext 0 [T a]) ⟨#[]⟩ (fun i a hi ha=>⟨?_,sc h1 (hx _ (EW hi)) ha⟩) (fun a ha=>?_) (fun _=>rfl) (by show 0≤_;omega) rfl) ?_
 ·have hi':(i:Int)<(l.length:Int):=by omega
  have hw:ES.wrap ((i:Int)+1)=((i+1:Nat):Int):=by rw [am (by omega) (by omega)];omega
  have hel:aT 1 (txs l) (I (i:Int))=some [T l[i]]:=by simp [hi]
  have hxi:=hx _ (EW hi);have s1:bin .add false [] (T a) (T sep)=some (T (a++sep)):=by rw [ek,if_pos (by omega)]
  have s2:bin .add false [] (T (a++sep)) (T l[i])=some (T (a++sep++l[i])):=by rw [ek,if_pos (by rw [ET];omega)]
  have s3:bin .add false [] (T a) (T l[i])=some (T (a++l[i])):=by rw [ek,if_pos (by omega)]
  unfold jst;by_cases h0:0<i
  ·have h0':(0:Int)<(i:Int):=by omega
   simp -implicitDefEqProofs only [al,EP,EQ,ER,hi',hel,h0,h0',s1,s2,hw]
  ·have h0':¬(0:Int)<(i:Int):=by omega
   simp -implicitDefEqProofs only [al,EP,EQ,ER,hi',hel,h0,h0',s3,hw]
 ·have hlt:¬((l.length:Int)<(l.length:Int)):=by omega
  simp -implicitDefEqProofs only [al,EP,EQ,ER,hlt]
 ·simp -implicitDefEqProofs only [al,EP,EQ,ER]
  rfl
def pst (w:ByteArray) (a:List ByteArray × Nat) (x:Nat):List ByteArray × Nat:=(a.1++[w.extract a.2 x],x)
def sg (w:ByteArray) (l:List Nat):List ByteArray × Nat:=l.foldl (pst w) ([],0)
def prt (ps es:List ByteArray) (w:ByteArray):List ByteArray:=(sg w (plc ps es w++[w.size])).1
theorem wk {body:List D→Option Out} (w:ByteArray) (l:List Nat) (fin:List ByteArray × Nat→Out) (hinc:l.Pairwise (·≤·)) (hn:l.length≤1000) (hle:∀x∈l,x≤w.size) (hw:w.size≤16)
  (hs:∀(i:Nat) (a:List ByteArray × Nat) (hi:i<l.length),a.1.length≤i→a.2≤l[i]→body [T w,txs a.1,I (a.2:Int),aI (bo l),I (bo l).length,I i]=some (.nrm [T w,txs (pst w a l[i]).1,I ((pst w a l[i]).2:Int),aI (bo l),I (bo l).length,I ((i+1:Nat):Int)]))
  (he:∀a:List ByteArray × Nat,body [T w,txs a.1,I (a.2:Int),aI (bo l),I (bo l).length,I (l.length:Int)]=some (fin a)) (h1:∀a,(fin a).ends=true) :
  aD body [T w,txs [],I 0,aI (bo l),I (bo l).length,I 0]=some (fin (sg w l)):=by
 have:=cF (body:=body) l (fun i (a:List ByteArray × Nat)=>[T w,txs a.1,I (a.2:Int),aI (bo l),I (bo l).length,I i]) (fun i a=>a.1.length≤i∧∀h:i<l.length,a.2≤l[i]) (fun _ a x=>pst w a x) fin ([],0) (fun i a hi ha=>⟨hs i a hi ha.1 (ha.2 hi),by unfold pst;simp only [Fc,EV];omega,fun h=>List.pairwise_iff_getElem.1 hinc i (i+1) hi h (by omega)⟩) (fun a _=>he a) h1 ⟨by simp,fun _=>Fy _⟩ rfl;rw [gP] at this;exact this
theorem sR (w:ByteArray):∀(l:List Nat) (a:List ByteArray × Nat),(l.foldl (pst w) a).1.length=a.1.length+l.length
 | [],a=>by simp
 | x::l,a=>by rw [EY,sR w l];simp [pst];omega
theorem tZ (w:ByteArray) (hw:w.size≤16):∀(l:List Nat) (a:List ByteArray × Nat),(∀x∈a.1,x.size≤16)→∀x∈(l.foldl (pst w) a).1,x.size≤16
 | [],a,h=>h
 | x::l,a,h=>by
  rw [EY];refine tZ w hw l _ fun y hy=>?_
  rcases Fk.1 hy with hy | hy
  ·exact h y hy
  ·rw [Fh.1 hy,ByteArray.size_extract]
   omega
theorem ux (w:ByteArray):∀(l:List Nat) (a:List ByteArray × Nat),(a.2::l).Pairwise (·≤·)→((l.foldl (pst w) a).1.map aa).flatten=(a.1.map aa).flatten++((aa w).take (l.foldl (pst w) a).2).drop a.2
 | [],a,_=>by simp [Fu,Fr]
 | x::l,a,h=>by
  rw [Fg] at h;have hx:=h.1 x (by simp);rw [EY,ux w l (pst w a x) h.2];have hge:x≤(l.foldl (pst w) (pst w a x)).2:=by
   have:∀(m:List Nat) (b:List ByteArray × Nat),(b.2::m).Pairwise (·≤·)→b.2≤(m.foldl (pst w) b).2:=by
    intro m;induction m with
    | nil=>intro b _;exact Fo _
    | cons y m ih =>
     intro b hb;rw [Fg] at hb;rw [EY];exact Nat.le_trans (hb.1 y (by simp)) (ih (pst w b y) hb.2)
   exact this l (pst w a x) h.2
  generalize (l.foldl (pst w) (pst w a x)).2=e at hge;unfold pst;simp only [List.map_append,Fp,List.map_nil,List.flatten_append,Ff,List.flatten_nil,List.append_nil,List.append_assoc];congr 1
  rw [eQ];have e1:(aa w).take e=(aa w).take x++((aa w).take e).drop x:=by
   conv=>lhs;rw [←List.take_append_drop x ((aa w).take e)]
   rw [List.take_take,Nat.min_eq_left hge]
  conv=>rhs;rw [e1]
  by_cases hlen:x≤(aa w).length
  ·rw [List.drop_append_of_le_length (by rw [Fr];omega)]
  ·have e2:((aa w).take e).drop x=[]:=Fu (by rw [Fr];omega)
   rw [e2];simp
set_option maxRecDepth 100000
theorem yP (w:ByteArray) (l:List Nat) (n:Nat):sg w (l++[n])=pst w (sg w l) n:=by
 unfold sg;rw [List.foldl_append];rfl
theorem ya (w:ByteArray):∀(l:List Nat) (a:List ByteArray × Nat) (m:Nat),a.2≤m→(∀x∈l,x≤m)→(l.foldl (pst w) a).2≤m
 | [],a,m,h,_=>h
 | x::l,a,m,h,hl=>by
  rw [EY];exact ya w l _ m (hl x (by simp)) fun y hy=>hl y (by simp [hy])
theorem Bw (ps es:List ByteArray) (w:ByteArray):(plc ps es w).Pairwise (·≤·):=(rK _ _ _).imp fun h=>Nat.le_of_lt h
theorem pI (ps es:List ByteArray) (w:ByteArray):(plc ps es w).length≤w.size:=by
 have:=rO (mkH ps es w) 2 (w.size - 3);show(sel (mkH ps es w) 2 (w.size - 3)).length≤_
 omega
theorem yq (ps es:List ByteArray) (w:ByteArray):(plc ps es w++[w.size]).Pairwise (·≤·):=by
 refine List.pairwise_append.2 ⟨Bw ps es w,by simp,fun x hx y hy=>?_⟩
 rw [Fh.1 hy];have:=uJ ps es w x hx;omega
def qy (ps es:List ByteArray) (w:ByteArray):List ByteArray:=if cz ps es w=true then prt ps es w else []
theorem ja (ps es:List ByteArray) (w:ByteArray) (h:HIn ps es) (hw:w.size≤1000000):cG [txs ps,txs es,T w]=some (.ret [txs (qy ps es w),B (cz ps es w)] []):=by
 rw [oi];have h1:=du ps es w h hw;unfold qy;unfold jN at h1;cases hg:cz ps es w<;>rw [hg] at h1
 ·simp -implicitDefEqProofs only [al,EP,EQ,ER,h1,ta0,tc0,tv1]
  rfl
 ·obtain⟨hvw,-,-⟩:=fa h hg
  have hhi:=hvw.hi;have hpl:=pI ps es w;have hone:=gx (w.size:Int);have hap:=gS (l:=bo (plc ps es w)) (m:=[(w.size:Int)]) (by rw [bD];simp only [EV];omega);rw [←mJ] at hap;have hm0:aF 1 []=some (txs []):=rfl;simp -implicitDefEqProofs only [al,EP,EQ,ER,h1,ta0,tc0,tv1,hone,hap,hm0];have hle:∀x∈plc ps es w++[w.size],x≤w.size:=fun x hx=>by
   rcases Fk.1 hx with hx | hx
   ·have:=uJ ps es w x hx
    omega
   ·rw [Fh.1 hx]
    exact Fo _
  have hn:(plc ps es w++[w.size]).length≤1000:=by rw [Fc,EV];omega
  unfold prt;generalize hq:plc ps es w++[w.size]=l at hle hn;refine aA _ (wk w l (fun a=>.ext 0 [txs a.1]) (by rw [←hq];exact yq ps es w) hn hle hhi (fun i a hi h1 h2=>?_) (fun a=>?_) (fun _=>rfl)) ?_
  ·have hli:=hle _ (EW hi)
   have hi':(i:Int)<((bo l).length:Int):=by rw [bD];omega
   have hwi:ES.wrap ((i:Int)+1)=((i+1:Nat):Int):=by rw [am (by omega) (by omega)];omega
   have hgi:=fL (l:=bo l) (i:=i) (by rw [bD];omega);have hni:(bo l)[i]'(by rw [bD];omega)=(l[i]:Int):=by simp [bo]
   rw [hni] at hgi;have hsl:=lU (s:=w) (z:=0) h2 hli;have hap:=kK (l:=a.1) (m:=[w.extract a.2 l[i]]) (by simp only [EV];omega);have hone:=ky (w.extract a.2 l[i]);simp -implicitDefEqProofs only [al,EP,EQ,ER,hi',hgi,hsl,hone,fK,hap,hwi,pst]
  ·have hlt:¬((l.length:Int)<((bo l).length:Int)):=by rw [bD];omega
   simp -implicitDefEqProofs only [al,EP,EQ,ER,hlt]
  ·simp -implicitDefEqProofs only [al,EP,EQ,ER]
theorem lM (ps es:List ByteArray) (w:ByteArray) (h:HIn ps es) (hg:cz ps es w=true):dZ [txs ps,txs es,T w]=some (.ret [txs (prt ps es w)] []):=by
 rw [sX];obtain⟨hvw,-,-⟩:=fa h hg;have h1:=eW ps es w h hg;have hhi:=hvw.hi;have hpl:=pI ps es w;have hle:∀x∈plc ps es w,x≤w.size:=fun x hx=>by
  have:=uJ ps es w x hx;omega
 have hn:(plc ps es w).length≤1000:=by omega
 unfold prt;rw [yP];simp -implicitDefEqProofs only [al,EP,EQ,ER,h1];generalize hq:plc ps es w=l at hle hn;refine aA _ (wk w l (fun a=>.ext 0 [T w,txs a.1,I (a.2:Int)]) (by rw [←hq];exact Bw ps es w) hn hle hhi (fun i a hi h1 h2=>?_) (fun a=>?_) (fun _=>rfl)) ?_
 ·have hli:=hle _ (EW hi)
  have hi':(i:Int)<((bo l).length:Int):=by rw [bD];omega
  have hwi:ES.wrap ((i:Int)+1)=((i+1:Nat):Int):=by rw [am (by omega) (by omega)];omega
  have hgi:=fL (l:=bo l) (i:=i) (by rw [bD];omega);have hni:(bo l)[i]'(by rw [bD];omega)=(l[i]:Int):=by simp [bo]
  rw [hni] at hgi;have hsl:=lU (s:=w) (z:=0) h2 hli;have hap:=kK (l:=a.1) (m:=[w.extract a.2 l[i]]) (by simp only [EV];omega);have hone:=ky (w.extract a.2 l[i]);simp -implicitDefEqProofs only [al,EP,EQ,ER,hi',hgi,hsl,hone,fK,hap,hwi,pst]
 ·have hlt:¬((l.length:Int)<((bo l).length:Int)):=by rw [bD];omega
  simp -implicitDefEqProofs only [al,EP,EQ,ER,hlt]
 ·have hin:(sg w l).2≤w.size:=ya w l _ _ (Fy _) hle
  have hlen:(sg w l).1.length=l.length:=by
   have:=sR w l ([],0);show(l.foldl (pst w) ([],0)).1.length=_
   simpa using this
  have hsl:=wY (s:=w) (z:=0) hin;have hap:=kK (l:=(sg w l).1) (m:=[w.extract (sg w l).2 w.size]) (by simp only [EV];omega);have hone:=ky (w.extract (sg w l).2 w.size);simp -implicitDefEqProofs only [al,EP,EQ,ER,hsl,hone,fK,hap,pst]
theorem oc (ps es:List ByteArray) (w:ByteArray) (h:HIn ps es) (hw:w.size≤1000000):dF [txs ps,txs es,T w]=some (.ret [txs (qy ps es w),B (cz ps es w)] []):=by
 rw [og];have h1:=ec ps es w h (by omega);unfold qy;cases hg:cz ps es w<;>rw [hg] at h1
 ·simp -implicitDefEqProofs only [al,EP,EQ,ER,h1]
  rfl
 ·simp -implicitDefEqProofs only [al,EP,EQ,ER,h1,lM ps es w h hg]
theorem ur {ps es:List ByteArray} {w:ByteArray} (hw:w.size≤16):(prt ps es w).length=(plc ps es w).length+1∧(∀x∈prt ps es w,x.size≤16):=by
 constructor
 ·have:=sR w (plc ps es w++[w.size]) ([],0)
  unfold prt sg;rw [this];simp
 ·exact tZ w hw _ _ (by simp)
def Bd (ps es:List ByteArray) (w:ByteArray):ByteArray:=jnT ⟨#[45]⟩ (qy ps es w)
theorem nZ {ps es:List ByteArray} {w:ByteArray} (h:HIn ps es):(qy ps es w).length≤17∧(∀x∈qy ps es w,x.size≤16):=by
 unfold qy;cases hg:cz ps es w
 ·simp
 ·obtain⟨hvw,-,-⟩:=fa h hg
  obtain⟨h1,h2⟩:=ur (ps:=ps) (es:=es) hvw.hi;have:=pI ps es w;have:=hvw.hi;rw [if_pos rfl];exact⟨by omega,h2⟩
theorem pq (ps es:List ByteArray) (w:ByteArray) (h:HIn ps es) (hw:w.size≤1000000):dV [txs ps,txs es,T w]=some (.ret [T (Bd ps es w),B (cz ps es w)] []):=by
 rw [ot];have h1:=ja ps es w h hw;obtain⟨h2,h3⟩:=nZ (w:=w) h;have e1:D.v (Fi {data:={toList:=[45]}})=T ⟨#[45]⟩:=rfl;have h4:=DJ (qy ps es w) ⟨#[45]⟩ (Fo 1) (by omega) h3;simp -implicitDefEqProofs only [al,EP,EQ,ER,h1,ta0,tc0,tv1,e1,h4];rfl
theorem pz (ps es:List ByteArray) (w:ByteArray) (h:HIn ps es) (hw:w.size≤1000000):dU [txs ps,txs es,T w]=some (.ret [T (Bd ps es w),B (cz ps es w)] []):=by
 rw [pL];have e1:D.v (Fi {data:={toList:=[45]}})=T ⟨#[45]⟩:=rfl;have e0:D.v (Fi {data:={toList:=[]}})=T ⟨#[]⟩:=rfl;have h1:=ec ps es w h (by omega);unfold Bd;obtain⟨h2,h3⟩:=nZ (w:=w) h;unfold qy at h2 h3 ⊢;cases hg:cz ps es w<;>rw [hg] at h1 h2 h3
 ·simp -implicitDefEqProofs only [al,EP,EQ,ER,h1]
  rfl
 ·rw [if_pos rfl] at h2 h3 ⊢
  have h4:=lM ps es w h hg;generalize prt ps es w=l at h2 h3 h4;simp -implicitDefEqProofs only [al,EP,EQ,ER,h1,h4,e0,e1];refine aA _ (cF l (fun i a=>[T a,txs l,I l.length,I i]) (fun i a=>a.size≤17*i) (jst ⟨#[45]⟩) (fun a=>.ext 0 [T a]) ⟨#[]⟩ (fun i a hi ha=>⟨?_,sc (Fo 1) (h3 _ (EW hi)) ha⟩) (fun a ha=>?_) (fun _=>rfl) (by show 0≤_;omega) rfl) ?_
  ·have hi':(i:Int)<(l.length:Int):=by omega
   have hw:ES.wrap ((i:Int)+1)=((i+1:Nat):Int):=by rw [am (by omega) (by omega)];omega
   have hel:aT 1 (txs l) (I (i:Int))=some [T l[i]]:=by simp [hi]
   have hxi:=h3 _ (EW hi);have hsp:(⟨#[45]⟩:ByteArray).size=1:=rfl;have s1:bin .add false [] (T a) (T ⟨#[45]⟩)=some (T (a++⟨#[45]⟩)):=by rw [ek,if_pos (by omega)]
   have s2:bin .add false [] (T (a++⟨#[45]⟩)) (T l[i])=some (T (a++⟨#[45]⟩++l[i])):=by rw [ek,if_pos (by rw [ET];omega)]
   have s3:bin .add false [] (T a) (T l[i])=some (T (a++l[i])):=by rw [ek,if_pos (by omega)]
   unfold jst;by_cases h0:0<i
   ·have h0':(0:Int)<(i:Int):=by omega
    simp -implicitDefEqProofs only [al,EP,EQ,ER,hi',hel,h0,h0',s1,s2,hw]
   ·have h0':¬(0:Int)<(i:Int):=by omega
    simp -implicitDefEqProofs only [al,EP,EQ,ER,hi',hel,h0,h0',s3,hw]
  ·have hlt:¬((l.length:Int)<(l.length:Int)):=by omega
   simp -implicitDefEqProofs only [al,EP,EQ,ER,hlt]
  ·simp -implicitDefEqProofs only [al,EP,EQ,ER]
   rfl
theorem my {ps es:List ByteArray} {w:ByteArray} (h:HIn ps es):(bo (jN ps es w)).length≤16:=by
 rw [bD];unfold jN;cases hg:cz ps es w
 ·simp
 ·obtain⟨hvw,-,-⟩:=fa h hg
  have:=pI ps es w;have:=hvw.hi;rw [if_pos rfl];omega
theorem fy (ps es:List ByteArray) (w:ByteArray) (n:Int) (h:HIn ps es) (hw:w.size≤1000000):ce [txs ps,txs es,T w,I n]=some (.ret [B (decide (n∈bo (jN ps es w))),B (cz ps es w)] []):=by
 rw [oE];have h1:=du ps es w h hw;have hl:=my (w:=w) h;have h2:=qw (bo (jN ps es w)) n (by omega);simp -implicitDefEqProofs only [al,EP,EQ,ER,h1,ta0,tc0,tv1,h2]
theorem oR (ps es:List ByteArray) (w:ByteArray) (n:Int) (h:HIn ps es) (hw:w.size≤1000000):dX [txs ps,txs es,T w,I n]=some (.ret [B (decide (n∈bo (jN ps es w))),B (cz ps es w)] []):=by
 rw [py];have h1:=ec ps es w h (by omega);have hl:=my (w:=w) h;have h2:=uG (bo (jN ps es w)) n (by omega);unfold jN at h2 ⊢;cases hg:cz ps es w<;>rw [hg] at h1 h2
 ·simp -implicitDefEqProofs only [al,EP,EQ,ER,h1]
  simp [bo]
 ·rw [if_pos rfl] at h2
  simp -implicitDefEqProofs only [al,EP,EQ,ER,h1,eW ps es w h hg,h2]
def lst (n b x:Int):Int:=if x≤n then x else b
def BU (l:List Int) (n:Int):Int:=l.foldl (lst n) 0
theorem qQ (n:Int):∀(l:List Int) (b:Int),l.foldl (lst n) b=b∨(l.foldl (lst n) b∈l∧l.foldl (lst n) b≤n)
 | [],b=>.inl rfl
 | x::l,b=>by
  rw [EY];rcases qQ n l (lst n b x) with h | ⟨h1,h2⟩
  ·rw [h]
   unfold lst;by_cases hx:x≤n
   ·rw [if_pos hx]
    exact .inr ⟨by simp,hx⟩
   ·rw [if_neg hx]
    exact .inl rfl
  ·exact .inr ⟨by simp [h1],h2⟩
def Bi (ps es:List ByteArray) (w:ByteArray) (n:Int):Bool:=cz ps es w&&decide (0≤n∧n≤16)
def mn (ps es:List ByteArray) (w:ByteArray) (n:Int):Int:=if Bi ps es w n=true then BU (bo (jN ps es w)) n else 0
theorem ub {body:List D→Option Out} (l:List Int) (n:Int) (hn:l.length≤1000)
  (hs:∀(i:Nat) (b:Int) (hi:i<l.length),body [I n,I b,aI l,I l.length,I i]=some (.nrm [I n,I (lst n b l[i]),aI l,I l.length,I ((i+1:Nat):Int)]))
  (he:∀b,body [I n,I b,aI l,I l.length,I l.length]=some (.ext 0 [I b])):aD body [I n,I 0,aI l,I l.length,I 0]=some (.ext 0 [I (BU l n)]) :=
 xe l (fun i b=>[I n,I b,aI l,I l.length,I i]) (lst n) (fun b=>.ext 0 [I b]) 0 (fun i a hi=>hs i a hi) he (fun _=>rfl) rfl
theorem kC (ps es:List ByteArray) (w:ByteArray) (n:Int) (h:HIn ps es) (hw:w.size≤1000000):cu [txs ps,txs es,T w,I n]=some (.ret [I (mn ps es w n),B (decide (0<mn ps es w n))] []):=by
 rw [kE];have h1:=du ps es w h hw;have h2:=eP n 0 16;have hl:=my (w:=w) h;unfold mn Bi;cases hg:cz ps es w<;>rw [hg] at h1
 ·simp -implicitDefEqProofs only [al,EP,EQ,ER,h1,ta0,tc0,tv1,Fv]
 ·cases hq:decide (0≤n∧n≤16)<;>rw [hq] at h2
  ·simp -implicitDefEqProofs only [al,EP,EQ,ER,h1,ta0,tc0,tv1,h2,Fj]
  ·simp -implicitDefEqProofs only [al,EP,EQ,ER,h1,ta0,tc0,tv1,h2,Fj]
   generalize bo (jN ps es w)=l at hl;refine aA _ (ub l n (by omega) (fun i b hi=>?_) (fun b=>?_)) ?_
   ·have hi':(i:Int)<(l.length:Int):=by omega
    have hwi:ES.wrap ((i:Int)+1)=((i+1:Nat):Int):=by rw [am (by omega) (by omega)];omega
    have hgi:=fL hi;unfold lst;by_cases hc:l[i]≤n<;>simp -implicitDefEqProofs only [al,EP,EQ,ER,hi',hgi,hc,hwi]
   ·have hlt:¬((l.length:Int)<(l.length:Int)):=by omega
    simp -implicitDefEqProofs only [al,EP,EQ,ER,hlt]
   ·simp -implicitDefEqProofs only [al,EP,EQ,ER]
theorem kB (ps es:List ByteArray) (w:ByteArray) (n:Int) (h:HIn ps es) (hw:w.size≤1000000):ct [txs ps,txs es,T w,I n]=some (.ret [I (mn ps es w n),B (decide (0<mn ps es w n))] []):=by
 rw [kJ];have h1:=ec ps es w h (by omega);have h2:=fg n 0 16;have hl:=my (w:=w) h;unfold mn Bi jN;unfold jN at hl;cases hg:cz ps es w<;>rw [hg] at h1 hl
 ·simp -implicitDefEqProofs only [al,EP,EQ,ER,h1,Fv]
 ·have h3:=eW ps es w h hg
  cases hq:decide (0≤n∧n≤16)<;>rw [hq] at h2
  ·simp -implicitDefEqProofs only [al,EP,EQ,ER,h1,h2,Fj]
  ·simp -implicitDefEqProofs only [al,EP,EQ,ER,h1,h2,h3,Fj]
   rw [if_pos rfl] at hl;generalize bo (plc ps es w)=l at hl;refine aA _ (ub l n (by omega) (fun i b hi=>?_) (fun b=>?_)) ?_
   ·have hi':(i:Int)<(l.length:Int):=by omega
    have hwi:ES.wrap ((i:Int)+1)=((i+1:Nat):Int):=by rw [am (by omega) (by omega)];omega
    have hgi:=fL hi;unfold lst;by_cases hc:l[i]≤n<;>simp -implicitDefEqProofs only [al,EP,EQ,ER,hi',hgi,hc,hwi]
   ·have hlt:¬((l.length:Int)<(l.length:Int)):=by omega
    simp -implicitDefEqProofs only [al,EP,EQ,ER,hlt]
   ·simp -implicitDefEqProofs only [al,EP,EQ,ER]
set_option maxRecDepth 100000
def asc (s:ByteArray):Prop:=∀b∈aa s,b.toNat<128
theorem oQ {a b:ByteArray} (h1:asc a) (h2:asc b):asc (a++b):=by
 intro x hx;rw [kS] at hx;rcases Fk.1 hx with hx | hx
 ·exact h1 x hx
 ·exact h2 x hx
theorem yf:asc ⟨⟨[]⟩⟩:=fun b hb=>by cases hb
theorem tS' (l:List UInt8):(D.v (Fi {data:={toList:=l}}))=T ⟨⟨l⟩⟩:=rfl
theorem yr (l:List UInt8) (h:(l.all fun b=>decide (b.toNat<128))=true):asc ⟨⟨l⟩⟩:=fun b hb=>of_decide_eq_true (Fb.1 h b hb)
structure Tx (n:Nat) (s:ByteArray):Prop where
 sz:s.size≤n
 ok:asc s
def txB (n:Nat) (l:List ByteArray):Bool:=l.all fun s=>decide (s.size≤n)&&(aa s).all fun b=>decide (b.toNat<128)
theorem iu {n:Nat} {l:List ByteArray} (h:txB n l=true):∀s∈l,Tx n s:=by
 intro s hs;have:=Fb.1 h s hs;rw [Fa,decide_eq_true_eq] at this;exact⟨this.1,fun b hb=>of_decide_eq_true (Fb.1 this.2 b hb)⟩
def W10:List ByteArray:=[⟨⟨[97]⟩⟩,⟨⟨[98]⟩⟩,⟨⟨[99]⟩⟩,⟨⟨[97,98]⟩⟩,⟨⟨[98,98]⟩⟩,⟨⟨[97,98,99]⟩⟩,⟨⟨[100]⟩⟩,⟨⟨[101]⟩⟩,⟨⟨[102]⟩⟩,⟨⟨[102,105]⟩⟩]
theorem AJ:∀s∈W10,1≤s.size∧s.size≤3:=by
 intro s hs;simp only [W10,EZ,Fz,or_false] at hs;rcases hs with rfl | rfl | rfl | rfl | rfl | rfl | rfl | rfl | rfl | rfl<;>exact⟨by decide,by decide⟩
theorem DY:∀s∈W10,Tx 3 s:=iu (by decide)
theorem gG {a b:ByteArray} (h:a.size+b.size≤100000000):bin .add false [] (T a) (T b)=some (T (a++b)):=by
 rw [ek,if_pos (by omega)]
theorem Ec (c:Cur) (B:Nat) (h:c.ok B) (hB:B≤1000000000):∃(s:ByteArray) (c':Cur),cg [aX c]=some (.ret [T s] [aX c'])∧Tx 8 s∧c'.ok (B+20):=by
 rw [oM];obtain⟨v,c1,e1,l1,u1,k1⟩:=gi c 6 B h (by omega) (by omega);obtain⟨v,rfl⟩:=EX l1;have hv:v<6:=by omega
 have m10:aF 1 [T ⟨⟨[97]⟩⟩,T ⟨⟨[98]⟩⟩,T ⟨⟨[99]⟩⟩,T ⟨⟨[97,98]⟩⟩,T ⟨⟨[98,98]⟩⟩,T ⟨⟨[97,98,99]⟩⟩,T ⟨⟨[100]⟩⟩,T ⟨⟨[101]⟩⟩,T ⟨⟨[102]⟩⟩,T ⟨⟨[102,105]⟩⟩]=some (txs W10):=qW (l:=W10);have hw:ES.wrap (1+(v:Int))=((1+v:Nat):Int):=by rw [am (by omega) (by omega)];omega
 simp -implicitDefEqProofs only [bL,EU,ir,e1,aM,aS,fN,hw,m10,tS'];refine fA (fun X=>∃s c',X=some (.ret [T s] [aX c'])∧Tx 8 s∧c'.ok (B+20)) (fun a:Cur × ByteArray=>[aX a.1,T a.2,I ((1+v:Nat):Int)])
  (fun a=>a.1.ok (B+2+2*a.2.size)∧Tx 8 a.2) (fun a=>8 - a.2.size) (fun o=>∃(s:ByteArray) (c':Cur),o = .ext 0 [aX c',T s]∧Tx 8 s∧c'.ok (B+20)) ?_ (c1,⟨⟨[]⟩⟩) ⟨k1.mono (by show B+2≤B+2+2*0;omega),by show 0≤8;omega,yf⟩ rfl ?_
 ·rintro⟨ca,s⟩ ⟨h1,h2,h3⟩
  simp only at h1 h2 h3;by_cases hn:s.size<1+v
  ·have hn':(s.size:Int)<((1+v:Nat):Int):=by omega
   obtain⟨t,c2,e2,ht,k2⟩:=vU ca W10 _ h1 (by omega) (by decide) (by decide);have hts:=AJ t ht;have ha:=gG (a:=s) (b:=t) (by omega);refine .inl ⟨(c2,s++t),?_,⟨k2.mono (by simp only [ET];omega),by simp only [ET];omega,oQ h3 (DY t ht).ok⟩,by simp only [ET];omega⟩
   simp -implicitDefEqProofs only [aS,de,gU,EU,eC,hn',decide_true,gJ,if_true,bL,ir,e2,aM,ha]
  ·have hn':¬(s.size:Int)<((1+v:Nat):Int):=by omega
   refine .inr ⟨_,?_,rfl,s,ca,rfl,⟨h2,h3⟩,h1.mono (by omega)⟩
   simp -implicitDefEqProofs only [aS,de,gU,EU,eC,hn',decide_false,gJ,Fe,if_false]
 ·rintro o ⟨s,c',rfl,g1,g2⟩
  refine⟨s,c',?_,g1,g2⟩
  simp -implicitDefEqProofs only [kg,Fx,tY,if_true,aS,de,bL,EU]
def W4:List ByteArray:=[⟨⟨[]⟩⟩,⟨⟨[65]⟩⟩,⟨⟨[97,32,98]⟩⟩,⟨⟨[97,45,98]⟩⟩]
theorem EB:∀s∈W4,Tx 20 s:=iu (by decide)
theorem Tx.mono {m n:Nat} {s:ByteArray} (h:Tx m s) (hm:m≤n):Tx n s:=⟨Nat.le_trans h.sz hm,h.ok⟩
theorem Tx.add {k n:Nat} {a b:ByteArray} (h:Tx k a) (h2:Tx n b):Tx (k+n) (a++b):=⟨by have:=h.sz;have:=h2.sz;simp only [ET];omega,oQ h.ok h2.ok⟩
theorem Tx.nil (n:Nat):Tx n ⟨⟨[]⟩⟩:=⟨by show 0≤n;omega,yf⟩
theorem zD (c:Cur) (B:Nat) (h:c.ok B) (hB:B≤900000000):∃(s:ByteArray) (c':Cur),cR [aX c]=some (.ret [T s] [aX c'])∧Tx 20 s∧c'.ok (B+30):=by
 rw [mx];obtain⟨k,c1,e1,l1,u1,k1⟩:=gi c 30 B h (by omega) (by omega);have m4:aF 1 [T ⟨⟨[]⟩⟩,T ⟨⟨[65]⟩⟩,T ⟨⟨[97,32,98]⟩⟩,T ⟨⟨[97,45,98]⟩⟩]=some (txs W4):=qW (l:=W4);obtain⟨s,c2,e2,h2,k2⟩:=Ec c1 _ k1 (by omega);have h2s:=h2.sz;simp -implicitDefEqProofs only [bL,EU,ir,e1,aM,aS,vg,m4,tS',gJ,decide_eq_true_eq];by_cases q0:k=0
 ·obtain⟨t,c3,e3,ht,k3⟩:=vU c1 W4 _ k1 (by omega) (by decide) (by decide)
  refine⟨t,c3,?_,EB t ht,k3.mono (by omega)⟩
  rw [if_pos q0];simp -implicitDefEqProofs only [e3,aM,aS,bL,EU]
 rw [if_neg q0];by_cases q1:k=1
 ·rw [if_pos q1]
  obtain⟨v,c3,e3,l3,u3,k3⟩:=gi c1 2 _ k1 (by omega) (by omega);obtain⟨v,rfl⟩:=EX l3;have hw:ES.wrap (16+(v:Int))=((16+v:Nat):Int):=by rw [am (by omega) (by omega)];omega
  simp -implicitDefEqProofs only [e3,aM,aS,fN,hw,EU];refine fA (fun X=>∃s c',X=some (.ret [T s] [aX c'])∧Tx 20 s∧c'.ok (B+30)) (fun a:ByteArray=>[aX c3,T a,I ((16+v:Nat):Int)])
   (fun a=>Tx 20 a) (fun a=>20 - a.size) (fun o=>∃(s:ByteArray),o = .ext 1 [aX c3,T s]∧Tx 20 s) ?_ (⟨⟨[]⟩⟩) (Tx.nil 20) rfl ?_
  ·intro s h2
   have h2s:=h2.sz;by_cases hn:s.size<16+v
   ·have hn':(s.size:Int)<((16+v:Nat):Int):=by omega
    have hz:(⟨⟨[97]⟩⟩:ByteArray).size=1:=rfl;have ha:=gG (a:=s) (b:=⟨⟨[97]⟩⟩) (by omega);refine .inl ⟨s++⟨⟨[97]⟩⟩,?_,⟨by simp only [ET];omega,oQ h2.ok (yr [97] (by decide))⟩,by simp only [ET];omega⟩
    simp -implicitDefEqProofs only [aS,de,gU,EU,eC,hn',decide_true,gJ,if_true,ha]
   ·have hn':¬(s.size:Int)<((16+v:Nat):Int):=by omega
    refine .inr ⟨_,?_,rfl,s,rfl,h2⟩
    simp -implicitDefEqProofs only [aS,de,gU,EU,eC,hn',decide_false,gJ,Fe,if_false]
  ·rintro o ⟨s,rfl,g1⟩
   refine⟨s,c3,?_,g1,k3.mono (by omega)⟩
   simp -implicitDefEqProofs only [kg,Fx,tY,if_true,aS,de,bL,EU]
 rw [if_neg q1];by_cases q2:k=2
 ·rw [if_pos q2]
  have hz:(⟨⟨[122]⟩⟩:ByteArray).size=1:=rfl;have ha:=gG (a:=s) (b:=⟨⟨[122]⟩⟩) (by omega);refine⟨s++⟨⟨[122]⟩⟩,c2,?_,⟨by simp only [ET];omega,oQ h2.ok (yr [122] (by decide))⟩,k2.mono (by omega)⟩
  simp -implicitDefEqProofs only [e2,aM,aS,bL,EU,ha]
 ·rw [if_neg q2]
  refine⟨s,c2,?_,h2.mono (by omega),k2.mono (by omega)⟩
  simp -implicitDefEqProofs only [e2,aM,aS,bL,EU]
def W6:List ByteArray:=[⟨⟨[97]⟩⟩,⟨⟨[98]⟩⟩,⟨⟨[99]⟩⟩,⟨⟨[100]⟩⟩,⟨⟨[97,98]⟩⟩,⟨⟨[98,97]⟩⟩]
theorem Ew:∀s∈W6,Tx 2 s:=iu (by decide)
theorem Cw:∀s∈W6,1≤s.size:=by
 intro s hs;simp only [W6,EZ,Fz,or_false] at hs;rcases hs with rfl | rfl | rfl | rfl | rfl | rfl<;>decide
theorem xu (c:Cur) (B:Nat) (h:c.ok B) (hB:B≤800000000):∃(s:ByteArray) (c':Cur),cJ [aX c]=some (.ret [T s] [aX c'])∧Tx 20 s∧c'.ok (B+60):=by
 rw [lE];obtain⟨b,c1,e1,k1⟩:=ug c 12 B h (by omega) (by omega);simp -implicitDefEqProofs only [bL,EU,ir,e1,aM,aS,gJ];cases b
 ·obtain⟨v,c2,e2,l2,u2,k2⟩:=gi c1 8 _ k1 (by omega) (by omega)
  obtain⟨v,rfl⟩:=EX l2;have hv:v<8:=by omega
  have hw:ES.wrap (2+(v:Int))=((2+v:Nat):Int):=by rw [am (by omega) (by omega)];omega
  have m6:aF 1 [T ⟨⟨[97]⟩⟩,T ⟨⟨[98]⟩⟩,T ⟨⟨[99]⟩⟩,T ⟨⟨[100]⟩⟩,T ⟨⟨[97,98]⟩⟩,T ⟨⟨[98,97]⟩⟩]=some (txs W6):=qW (l:=W6);simp -implicitDefEqProofs only [Fe,if_false,e2,aM,aS,fN,hw,EU,tS',m6];refine fA (fun X=>∃s c',X=some (.ret [T s] [aX c'])∧Tx 20 s∧c'.ok (B+60)) (fun a:Cur × ByteArray=>[aX a.1,T a.2,I ((2+v:Nat):Int)])
   (fun a=>a.1.ok (B+4+2*a.2.size)∧Tx 20 a.2) (fun a=>20 - a.2.size) (fun o=>∃(s:ByteArray) (c':Cur),o = .ext 0 [aX c',T s]∧Tx 20 s∧c'.ok (B+60)) ?_ (c2,⟨⟨[]⟩⟩) ⟨k2.mono (by show B+2+2≤B+4+2*0;omega),Tx.nil 20⟩ rfl ?_
  ·rintro⟨ca,s⟩ ⟨h1,h2,h3⟩
   simp only at h1 h2 h3;by_cases hn:s.size<2+v
   ·have hn':(s.size:Int)<((2+v:Nat):Int):=by omega
    obtain⟨t,c2,e2,ht,k2⟩:=vU ca W6 _ h1 (by omega) (by decide) (by decide);have hts:=Cw t ht;have htt:=Ew t ht;have hts2:=htt.sz;have ha:=gG (a:=s) (b:=t) (by omega);refine .inl ⟨(c2,s++t),?_,⟨k2.mono (by simp only [ET];omega),by simp only [ET];omega,oQ h3 htt.ok⟩,by simp only [ET];omega⟩
    simp -implicitDefEqProofs only [aS,de,gU,EU,eC,hn',decide_true,gJ,if_true,bL,ir,e2,aM,ha]
   ·have hn':¬(s.size:Int)<((2+v:Nat):Int):=by omega
    refine .inr ⟨_,?_,rfl,s,ca,rfl,⟨h2,h3⟩,h1.mono (by omega)⟩
    simp -implicitDefEqProofs only [aS,de,gU,EU,eC,hn',decide_false,gJ,Fe,if_false]
  ·rintro o ⟨s,c',rfl,g1,g2⟩
   refine⟨s,c',?_,g1,g2⟩
   simp -implicitDefEqProofs only [kg,Fx,tY,if_true,aS,de,bL,EU]
 ·obtain⟨s,c2,e2,h2,k2⟩:=zD c1 _ k1 (by omega)
  refine⟨s,c2,?_,h2,k2.mono (by omega)⟩
  simp -implicitDefEqProofs only [if_true,e2,aM,aS,bL,EU]
def V5:List ByteArray:=[⟨⟨[]⟩⟩,⟨⟨[]⟩⟩,⟨⟨[49]⟩⟩,⟨⟨[50]⟩⟩,⟨⟨[51]⟩⟩]
def V4:List ByteArray:=[⟨⟨[97]⟩⟩,⟨⟨[98]⟩⟩,⟨⟨[99]⟩⟩,⟨⟨[100]⟩⟩]
def V10:List ByteArray:=[⟨⟨[]⟩⟩,⟨⟨[49]⟩⟩,⟨⟨[49,49,97]⟩⟩,⟨⟨[97,49,98,49]⟩⟩,⟨⟨[48,97]⟩⟩,⟨⟨[97,98]⟩⟩,⟨⟨[97,98,99,100,101,102,49]⟩⟩,⟨⟨[97,98,99,100,101,102,103,49]⟩⟩,⟨⟨[65,49]⟩⟩,⟨⟨[57,97,57]⟩⟩]
def V4':List ByteArray:=[⟨⟨[49]⟩⟩,⟨⟨[49]⟩⟩,⟨⟨[50]⟩⟩,⟨⟨[51]⟩⟩]
theorem Ez:∀s∈V5,Tx 1 s:=iu (by decide)
theorem Em:∀s∈V4,Tx 1 s:=iu (by decide)
theorem DH:∀s∈V10,Tx 8 s:=iu (by decide)
theorem DI:∀s∈V4',Tx 1 s:=iu (by decide)
theorem yW (c:Cur) (B:Nat) (h:c.ok B) (hB:B≤800000000):∃(s:ByteArray) (c':Cur),bE [aX c]=some (.ret [T s] [aX c'])∧s.size≤20∧c'.ok (B+20):=by
 rw [lW];obtain⟨v,c1,e1,l1,u1,k1⟩:=gi c 3 B h (by omega) (by omega);obtain⟨v,rfl⟩:=EX l1;have hv:v<3:=by omega
 have hw:ES.wrap (1+(v:Int))=((1+v:Nat):Int):=by rw [am (by omega) (by omega)];omega
 have m1:aF 1 [T ⟨⟨[]⟩⟩,T ⟨⟨[]⟩⟩,T ⟨⟨[49]⟩⟩,T ⟨⟨[50]⟩⟩,T ⟨⟨[51]⟩⟩]=some (txs V5):=qW (l:=V5);have m2:aF 1 [T ⟨⟨[97]⟩⟩,T ⟨⟨[98]⟩⟩,T ⟨⟨[99]⟩⟩,T ⟨⟨[100]⟩⟩]=some (txs V4):=qW (l:=V4);have m3:aF 1 [T ⟨⟨[]⟩⟩,T ⟨⟨[49]⟩⟩,T ⟨⟨[49,49,97]⟩⟩,T ⟨⟨[97,49,98,49]⟩⟩,T ⟨⟨[48,97]⟩⟩,T ⟨⟨[97,98]⟩⟩,T ⟨⟨[97,98,99,100,101,102,49]⟩⟩,T ⟨⟨[97,98,99,100,101,102,103,49]⟩⟩,T ⟨⟨[65,49]⟩⟩,T ⟨⟨[57,97,57]⟩⟩]=some (txs V10):=qW (l:=V10);have m4:aF 1 [T ⟨⟨[49]⟩⟩,T ⟨⟨[49]⟩⟩,T ⟨⟨[50]⟩⟩,T ⟨⟨[51]⟩⟩]=some (txs V4'):=qW (l:=V4');simp -implicitDefEqProofs only [bL,EU,ir,e1,aM,aS,fN,hw,tS',m1,m2,m3,m4];refine fA (fun X=>∃s c',X=some (.ret [T s] [aX c'])∧s.size≤20∧c'.ok (B+20)) (fun a:Cur × ByteArray × Nat=>[aX a.1,T a.2.1,I (a.2.2:Int)])
  (fun a=>a.1.ok (B+2+4*(3 - a.2.2))∧a.2.1.size≤2*(3 - a.2.2)∧a.2.2≤3) (fun a=>a.2.2) (fun o=>∃(s:ByteArray) (c':Cur),o = .ext 0 [aX c',T s]∧s.size≤6∧c'.ok (B+14)) ?_ (c1,⟨⟨[]⟩⟩,1+v) ⟨k1.mono (by simp only;omega),by show 0≤_;omega,by show 1+v≤3;omega⟩ rfl ?_
 ·rintro⟨ca,s,n⟩ ⟨h1,h2,h3⟩
  simp only at h1 h2 h3;by_cases hn:0<n
  ·have hn':(0:Int)<(n:Int):=by omega
   obtain⟨t,c2,e2,ht,k2⟩:=vU ca V5 _ h1 (by omega) (by decide) (by decide);obtain⟨u,c3,e3,hu,k3⟩:=vU c2 V4 _ k2 (by omega) (by decide) (by decide);have hts:=(Ez t ht).sz;have hus:=(Em u hu).sz;have ha:=gG (a:=t) (b:=u) (by omega);have ha2:=gG (a:=s) (b:=t++u) (by simp only [ET];omega);have hwn:ES.wrap ((n:Int) - 1)=((n - 1:Nat):Int):=by rw [am (by omega) (by omega)];omega
   refine .inl ⟨(c3,s++(t++u),n - 1),?_,⟨k3.mono (by simp only;omega),by simp only [ET];omega,by simp only;omega⟩,by simp only;omega⟩
   simp -implicitDefEqProofs only [al,EP,EQ,ER,hn',e2,e3,ha,ha2,hwn]
  ·have hn':¬(0:Int)<(n:Int):=by omega
   refine .inr ⟨_,?_,rfl,s,ca,rfl,by omega,h1.mono (by omega)⟩
   simp -implicitDefEqProofs only [al,EP,EQ,ER,hn']
 ·rintro o ⟨s,c',rfl,g1,g2⟩
  obtain⟨k,c2,e2,l2,u2,k2⟩:=gi c' 30 _ g2 (by omega) (by omega);simp -implicitDefEqProofs only [al,EP,EQ,ER,e2,decide_eq_true_eq];by_cases q0:k=0
  ·obtain⟨t,c3,e3,ht,k3⟩:=vU c2 V10 _ k2 (by omega) (by decide) (by decide)
   have hts:=(DH t ht).sz;refine⟨t,c3,?_,by omega,k3.mono (by omega)⟩
   rw [if_pos q0];simp -implicitDefEqProofs only [al,EP,EQ,ER,e3]
  rw [if_neg q0];by_cases q1:k=1
  ·rw [if_pos q1]
   exact⟨s,c2,rfl,by omega,k2.mono (by omega)⟩
  ·rw [if_neg q1]
   obtain⟨t,c3,e3,ht,k3⟩:=vU c2 V4' _ k2 (by omega) (by decide) (by decide);have hts:=(DI t ht).sz;have ha:=gG (a:=s) (b:=t) (by omega);refine⟨s++t,c3,?_,by simp only [ET];omega,k3.mono (by omega)⟩
   simp -implicitDefEqProofs only [al,EP,EQ,ER,e3,ha]
theorem xE (c:Cur) (B:Nat) (h:c.ok B) (hB:B≤700000000):∃(l:List ByteArray) (c':Cur),cI [aX c]=some (.ret [txs l] [aX c'])∧(l.length≤30∧∀s∈l,s.size≤20)∧c'.ok (B+1000):=by
 rw [lH];obtain⟨v,c1,e1,l1,u1,k1⟩:=gi c 6 B h (by omega) (by omega);obtain⟨v,rfl⟩:=EX l1;have hv:v<6:=by omega
 obtain⟨b,c2,e2,k2⟩:=ug c1 16 _ k1 (by omega) (by omega);have body:∀(body:List D→Option Out) (K:Out→Option Out) (c0:Cur) (n:Nat),(∀(l:List ByteArray) (c':Cur),K (.ext 0 [aX c',txs l])=some (.ret [txs l] [aX c']))→n≤30→c0.ok (B+10) →
   (∀(ca:Cur) (l:List ByteArray),ca.ok (B+10+20*l.length)→l.length≤n→(l.length<n→∃s c',body [aX ca,txs l,I (n:Int)]=some (.nrm [aX c',txs (l++[s]),I (n:Int)])∧s.size≤20∧c'.ok (B+10+20*(l.length+1)))∧(¬l.length<n→body [aX ca,txs l,I (n:Int)]=some (.ext 0 [aX ca,txs l]))) →
   ∃l c',(aD body [aX c0,txs [],I (n:Int)]).bind K=some (.ret [txs l] [aX c'])∧(l.length≤30∧∀s∈l,s.size≤20)∧c'.ok (B+1000):=by
  intro body K c0 n hK hn h0 hb;obtain⟨o,ho,l,c',rfl,g1,g2⟩:=uN (body:=body) (fun a:Cur × List ByteArray=>[aX a.1,txs a.2,I (n:Int)]) (fun a=>a.1.ok (B+10+20*a.2.length)∧a.2.length≤n∧∀s∈a.2,s.size≤20) (fun a=>n - a.2.length)
   (fun _ o=>∃(l:List ByteArray) (c':Cur),o = .ext 0 [aX c',txs l]∧(l.length≤30∧∀s∈l,s.size≤20)∧c'.ok (B+1000)) (fun a ha=>by
    obtain⟨ca,l⟩:=a;obtain⟨h1,h2,h3⟩:=ha;simp only at h1 h2 h3;obtain⟨g1,g2⟩:=hb ca l h1 h2;by_cases hlt:l.length<n
    ·obtain⟨s,c',e,hs,hc⟩:=g1 hlt
     refine .inl ⟨(c',l++[s]),e,⟨hc.mono (by simp),by simp;omega,fun x hx=>?_⟩,by simp;omega,fun _ h=>h⟩
     rcases Fk.1 hx with hx | hx
     ·exact h3 x hx
     ·rw [Fh.1 hx];exact hs
    ·exact .inr ⟨_,g2 hlt,rfl,l,ca,rfl,⟨by omega,h3⟩,h1.mono (by omega)⟩) (c0,[]) ⟨h0.mono (by simp),by simp,by simp⟩ rfl
  exact⟨l,c',by rw [ho];exact hK l c',g1,g2⟩
 have step:∀(ca:Cur) (l:List ByteArray) (n:Nat),ca.ok (B+10+20*l.length)→l.length≤n→n≤30→∃s c',bE [aX ca]=some (.ret [T s] [aX c'])∧s.size≤20∧c'.ok (B+10+20*(l.length+1))∧aF 1 [T s]=some (txs [s])∧eL 1 16 (txs l) (txs [s])=some (txs (l++[s])):=by
  intro ca l n h1 h2 h3;obtain⟨s,c',e,hs,hc⟩:=yW ca _ h1 (by omega);exact⟨s,c',e,hs,hc.mono (by omega),ky s,kK (by simp only [EV];omega)⟩
 simp -implicitDefEqProofs only [al,EP,EQ,ER,e1,e2];cases b
 ·simp -implicitDefEqProofs only [al,EP,EQ,ER]
  refine body _ _ c2 v (fun l c'=>by simp -implicitDefEqProofs only [al,EP,EQ,ER]) (by omega) (k2.mono (by omega)) (fun ca l h1 h2=>⟨fun hlt=>by
   obtain⟨s,c',e,hs,hc,m1,m2⟩:=step ca l v h1 h2 (by omega);have hlt':(l.length:Int)<(v:Int):=by omega
   refine⟨s,c',?_,hs,hc⟩
   simp -implicitDefEqProofs only [al,EP,EQ,ER,hlt',e,m1,fK,m2],fun hlt=>by
   have hlt':¬(l.length:Int)<(v:Int):=by omega
   simp -implicitDefEqProofs only [al,EP,EQ,ER,hlt']⟩)
 ·obtain⟨x,c3,e3,l3,u3,k3⟩:=gi c2 2 _ k2 (by omega) (by omega)
  obtain⟨x,rfl⟩:=EX l3;have hx:x<2:=by omega
  have hw:ES.wrap (20+(x:Int))=((20+x:Nat):Int):=by rw [am (by omega) (by omega)];omega
  simp -implicitDefEqProofs only [al,EP,EQ,ER,e3,hw];refine body _ _ c3 (20+x) (fun l c'=>by simp -implicitDefEqProofs only [al,EP,EQ,ER]) (by omega) (k3.mono (by omega)) (fun ca l h1 h2=>⟨fun hlt=>by
   obtain⟨s,c',e,hs,hc,m1,m2⟩:=step ca l (20+x) h1 h2 (by omega);have hlt':(l.length:Int)<((20+x:Nat):Int):=by omega
   refine⟨s,c',?_,hs,hc⟩
   simp -implicitDefEqProofs only [al,EP,EQ,ER,hlt',e,m1,fK,m2],fun hlt=>by
   have hlt':¬(l.length:Int)<((20+x:Nat):Int):=by omega
   simp -implicitDefEqProofs only [al,EP,EQ,ER,hlt']⟩)
set_option maxRecDepth 100000
def E8:List ByteArray:=[⟨⟨[]⟩⟩,⟨⟨[97]⟩⟩,⟨⟨[45,97,98]⟩⟩,⟨⟨[97,98,45]⟩⟩,⟨⟨[97,45,45,98]⟩⟩,⟨⟨[65,45,98]⟩⟩,⟨⟨[97,98,99,100,101,102,103,104,105,106,107,108,109,110,111,112]⟩⟩,⟨⟨[97,98,99,100,101,102,103,104,105,106,107,108,109,110,111,112,113]⟩⟩]
theorem Eo:∀s∈E8,Tx 17 s:=iu (by decide)
theorem ri (c:Cur) (w:ByteArray) (B:Nat) (h:c.ok B) (hB:B≤800000000) (hw:Tx 20 w):∃(s:ByteArray) (c':Cur),aJ [aX c,T w]=some (.ret [T s] [aX c'])∧s.size≤40∧c'.ok (B+50):=by
 rw [kH];have hsz:=aR w;have hwz:=hw.sz;have m1:aF 1 [T ⟨⟨[]⟩⟩,T ⟨⟨[97]⟩⟩,T ⟨⟨[45,97,98]⟩⟩,T ⟨⟨[97,98,45]⟩⟩,T ⟨⟨[97,45,45,98]⟩⟩,T ⟨⟨[65,45,98]⟩⟩,T ⟨⟨[97,98,99,100,101,102,103,104,105,106,107,108,109,110,111,112]⟩⟩,T ⟨⟨[97,98,99,100,101,102,103,104,105,106,107,108,109,110,111,112,113]⟩⟩]=some (txs E8):=qW (l:=E8);simp -implicitDefEqProofs only [al,EP,EQ,ER,AO,tS',m1];refine fA (fun X=>∃s c',X=some (.ret [T s] [aX c'])∧s.size≤40∧c'.ok (B+50)) (fun a:Cur × ByteArray × Nat=>[aX a.1,T w,T a.2.1,.itr w a.2.2])
  (fun a=>a.1.ok (B+2*a.2.2)∧a.2.1.size≤2*a.2.2∧a.2.2≤(aa w).length) (fun a=>(aa w).length - a.2.2) (fun o=>∃(s:ByteArray) (c':Cur),o = .ext 0 [aX c',T s]∧s.size≤40∧c'.ok (B+40)) ?_ (c,⟨⟨[]⟩⟩,0) ⟨h.mono (by simp),by show 0≤_;omega,by show 0≤_;omega⟩ rfl ?_
 ·rintro⟨ca,s,i⟩ ⟨h1,h2,h3⟩
  simp only at h1 h2 h3;by_cases hn:i<(aa w).length
  ·obtain⟨n1,n2⟩:=yd hn (hw.ok _ (EW hn))
   have hwi:ES.wrap ((i:Int)+1)=((i+1:Nat):Int):=by rw [am (by omega) (by omega)];omega
   have hsl:=lU (s:=w) (z:=0) (i:=i) (j:=i+1) (by omega) (by omega);have hes:(w.extract i (i+1)).size≤1:=by rw [BC];omega
   have a1:=gG (a:=s) (b:=⟨⟨[45]⟩⟩) (by show s.size+1≤_;omega);have z45:(⟨⟨[45]⟩⟩:ByteArray).size=1:=rfl;have a2:=gG (a:=s++⟨⟨[45]⟩⟩) (b:=w.extract i (i+1)) (by simp only [ET];omega);have a3:=gG (a:=s) (b:=w.extract i (i+1)) (by omega);by_cases h0:(0:Int)<(i:Int)
   ·obtain⟨b,c2,e2,k2⟩:=ug ca 3 _ h1 (by omega) (by omega)
    cases b
    ·refine .inl ⟨(c2,s++w.extract i (i+1),i+1),?_,⟨k2.mono (by simp only;omega),by simp only [ET];omega,by simp only;omega⟩,by simp only;omega⟩
     simp -implicitDefEqProofs only [al,EP,EQ,ER,n1,n2,tv0,tv1,h0,e2,hwi,hsl,a3]
    ·refine .inl ⟨(c2,s++⟨⟨[45]⟩⟩++w.extract i (i+1),i+1),?_,⟨k2.mono (by simp only;omega),by simp only [ET];omega,by simp only;omega⟩,by simp only;omega⟩
     simp -implicitDefEqProofs only [al,EP,EQ,ER,n1,n2,tv0,tv1,h0,e2,hwi,hsl,a1,a2]
   ·refine .inl ⟨(ca,s++w.extract i (i+1),i+1),?_,⟨h1.mono (by simp only;omega),by simp only [ET];omega,by simp only;omega⟩,by simp only;omega⟩
    simp -implicitDefEqProofs only [al,EP,EQ,ER,n1,n2,tv0,tv1,h0,hwi,hsl,a3]
  ·have hi:i=(aa w).length:=by omega
   subst hi;obtain⟨n1,n2⟩:=AP (s:=w);refine .inr ⟨_,?_,rfl,s,ca,rfl,by omega,h1.mono (by omega)⟩
   simp -implicitDefEqProofs only [al,EP,EQ,ER,n1,n2,tv0]
 ·rintro o ⟨s,c',rfl,g1,g2⟩
  obtain⟨b,c2,e2,k2⟩:=ug c' 24 _ g2 (by omega) (by omega);simp -implicitDefEqProofs only [al,EP,EQ,ER,e2];cases b
  ·exact⟨s,c2,rfl,g1,k2.mono (by omega)⟩
  ·obtain⟨t,c3,e3,ht,k3⟩:=vU c2 E8 _ k2 (by omega) (by decide) (by decide)
   have hts:=(Eo t ht).sz;refine⟨t,c3,?_,by omega,k3.mono (by omega)⟩
   simp -implicitDefEqProofs only [al,EP,EQ,ER,e3]
def AE (k:Nat):ByteArray:=⟨⟨[Fl (97+k % 26),Fl (101+k / 26),98,97]⟩⟩
theorem Ct {k:Nat} (h:k<30):Tx 20 (AE k):=by
 have:((List.range 30).all fun k=>txB 20 [AE k])=true:=by decide +kernel
 exact iu (Fb.1 this k (List.mem_range.2 h)) _ (by simp)
theorem Eb (a b:UInt8):jt [U (a.toNat:Int),U (b.toNat:Int),U 98,U 97]=some [a,b,98,97]:=by
 simp [jt]
theorem oD (k:Nat) (h:k<30):bin .rem false [] (I (k:Int)) (I 26)=some (I ((k % 26:Nat):Int))∧bin .add false [] (I 97) (I ((k % 26:Nat):Int))=some (I ((97+k % 26:Nat):Int))∧eg (some .u8) false (I ((97+k % 26:Nat):Int))=some (U ((97+k % 26:Nat):Int)) ∧
  bin .quo false [] (I (k:Int)) (I 26)=some (I ((k / 26:Nat):Int))∧bin .add false [] (I 101) (I ((k / 26:Nat):Int))=some (I ((101+k / 26:Nat):Int))∧eg (some .u8) false (I ((101+k / 26:Nat):Int))=some (U ((101+k / 26:Nat):Int)) ∧
  aF 1 [U ((97+k % 26:Nat):Int),U ((101+k / 26:Nat):Int),U 98,U 97]=some (.arr 1 [U ((97+k % 26:Nat):Int),U ((101+k / 26:Nat):Int),U 98,U 97])∧rA (.arr 1 [U ((97+k % 26:Nat):Int),U ((101+k / 26:Nat):Int),U 98,U 97])=some (T (AE k)):=by
 have hm:k % 26<26:=Nat.mod_lt _ (by decide);have hq:k / 26≤1:=by omega
 have w1:ES.wrap (97+((k % 26:Nat):Int))=((97+k % 26:Nat):Int):=by rw [am (by omega) (by omega)];omega
 have w2:ES.wrap (101+((k / 26:Nat):Int))=((101+k / 26:Nat):Int):=by rw [am (by omega) (by omega)];omega
 have w3:ES.wrap ((k / 26:Nat):Int)=((k / 26:Nat):Int):=am (by omega) (by omega);refine⟨?_,by rw [fN,w1],?_,?_,by rw [fN,w2],?_,?_,?_⟩
 ·rw [Ck,if_neg (by decide),Int.tmod_eq_emod_of_nonneg (by omega)]
  rfl
 ·show some (U (IntKind.u8.wrap _))=_
  congr 3
  simp only [FC];omega
 ·rw [Dn,if_neg (by decide),Int.tdiv_eq_ediv_of_nonneg (by omega)]
  rw [show((k:Int) / 26)=((k / 26:Nat):Int) from rfl,w3]
 ·show some (U (IntKind.u8.wrap _))=_
  congr 3
  simp only [FC];omega
 ·simp [aF,jJ]
 ·have t1:(Fl (97+k % 26)).toNat=97+k % 26:=by
   rw [UInt8.toNat_ofNat'];omega
  have t2:(Fl (101+k / 26)).toNat=101+k / 26:=by
   rw [UInt8.toNat_ofNat'];omega
  have hb:=Eb (Fl (97+k % 26)) (Fl (101+k / 26));rw [t1,t2] at hb;simp only [rA,hb,Option.map_some];rfl
theorem pb {body:List D→Option Out} {K:Out→Option Out} (B n:Nat) (hn:n≤25) (c0:Cur) (l0:List ByteArray) (h0:c0.ok B) (hl:l0.length≤1) (hx:∀x∈l0,x.size≤40) (hK:∀(l:List ByteArray) (c':Cur),K (.ext 0 [aX c',txs l])=some (.ret [txs l] [aX c']))
  (hs:∀(c:Cur) (l:List ByteArray) (k:Nat),k<n→c.ok (B+60*k)→l.length≤k+1→∃s c',body [aX c,txs l,I (n:Int),I (k:Int)]=some (.nrm [aX c',txs (l++[s]),I (n:Int),I ((k+1:Nat):Int)])∧s.size≤40∧c'.ok (B+60*(k+1)))
  (he:∀(c:Cur) (l:List ByteArray),body [aX c,txs l,I (n:Int),I (n:Int)]=some (.ext 0 [aX c,txs l])) :
  ∃(l:List ByteArray) (c':Cur),(aD body [aX c0,txs l0,I (n:Int),I 0]).bind K=some (.ret [txs l] [aX c'])∧(l.length≤30∧∀x∈l,x.size≤40)∧c'.ok (B+1500):=by
 obtain⟨o,ho,l,c',rfl,g1,g2⟩:=uN (body:=body) (fun a:Cur × List ByteArray × Nat=>[aX a.1,txs a.2.1,I (n:Int),I (a.2.2:Int)]) (fun a=>a.1.ok (B+60*a.2.2)∧a.2.1.length≤a.2.2+1∧a.2.2≤n∧∀s∈a.2.1,s.size≤40) (fun a=>n - a.2.2)
  (fun _ o=>∃(l:List ByteArray) (c':Cur),o = .ext 0 [aX c',txs l]∧(l.length≤30∧∀s∈l,s.size≤40)∧c'.ok (B+1500)) (fun a ha=>by
   obtain⟨ca,l,k⟩:=a;obtain⟨h1,h2,h3,h4⟩:=ha;simp only at h1 h2 h3 h4;by_cases hlt:k<n
   ·obtain⟨s,c',e,hs,hc⟩:=hs ca l k hlt h1 h2
    refine .inl ⟨(c',l++[s],k+1),e,⟨hc,by simp;omega,by simp only;omega,fun x hx=>?_⟩,by simp only;omega,fun _ h=>h⟩
    rcases Fk.1 hx with hx | hx
    ·exact h4 x hx
    ·rw [Fh.1 hx];exact hs
   ·have:k=n:=by omega
    subst this;exact .inr ⟨_,he ca l,rfl,l,ca,rfl,⟨by omega,h4⟩,h1.mono (by omega)⟩) (c0,l0,0) ⟨h0,by simpa using hl,by simp,hx⟩ rfl
 have ho:aD body [aX c0,txs l0,I (n:Int),I 0]=some (.ext 0 [aX c',txs l]):=ho;exact⟨l,c',by rw [ho];exact hK l c',g1,g2⟩
theorem uO (c:Cur) (w:ByteArray) (B:Nat) (h:c.ok B) (hB:B≤700000000) (hw:Tx 20 w):∃(l:List ByteArray) (c':Cur),cd [aX c,T w]=some (.ret [txs l] [aX c'])∧(l.length≤30∧∀s∈l,s.size≤40)∧c'.ok (B+2000):=by
 rw [kf];obtain⟨b,c1,e1,k1⟩:=ug c 3 B h (by omega) (by omega);have step:∀(ca:Cur) (l:List ByteArray) (k B':Nat),k<30→l.length≤k+1→ca.ok B'→B'≤800000000→∃s c',aJ [aX ca,T (AE k)]=some (.ret [T s] [aX c'])∧s.size≤40∧c'.ok (B'+50)∧aF 1 [T s]=some (txs [s])∧eL 1 16 (txs l) (txs [s])=some (txs (l++[s])):=by
  intro ca l k B' h0 h1 h2 h3;obtain⟨s,c',e,hs,hc⟩:=ri ca (AE k) B' h2 h3 (Ct h0);exact⟨s,c',e,hs,hc,ky s,kK (by simp only [EV];omega)⟩
 have fin:∀(c0:Cur) (l0:List ByteArray),c0.ok (B+60)→l0.length≤1→(∀x∈l0,x.size≤40)→∃(v:Nat) (c2:Cur) (b2:Bool) (c3:Cur) (x:Nat) (c4:Cur),v<3∧au [aX c0,I 3]=some (.ret [I (v:Int)] [aX c2])∧aV [aX c2,I 16]=some (.ret [.v (.bool b2)] [aX c3])∧c3.ok (B+70)∧x<2∧au [aX c3,I 2]=some (.ret [I (x:Int)] [aX c4])∧c4.ok (B+80):=by
  intro c0 l0 h0 _ _;obtain⟨v,c2,e2,l2,u2,k2⟩:=gi c0 3 _ h0 (by omega) (by omega);obtain⟨v,rfl⟩:=EX l2;obtain⟨b2,c3,e3,k3⟩:=ug c2 16 _ k2 (by omega) (by omega);obtain⟨x,c4,e4,l4,u4,k4⟩:=gi c3 2 _ k3 (by omega) (by omega);obtain⟨x,rfl⟩:=EX l4;exact⟨v,c2,b2,c3,x,c4,by omega,e2,e3,k3.mono (by omega),by omega,e4,k4.mono (by omega)⟩
 have hb:∀(k n:Nat),k<n→n≤25→ES.wrap ((k:Int)+1)=((k+1:Nat):Int)∧((k:Int)<(n:Int)):=fun k n h1 h2=>⟨by rw [am (by omega) (by omega)];omega,by omega⟩
 have conv:∀{X:Option Out},(∃(l:List ByteArray) (c':Cur),X=some (.ret [txs l] [aX c'])∧(l.length≤30∧∀x∈l,x.size≤40)∧c'.ok (B+80+1500))→∃(l:List ByteArray) (c':Cur),X=some (.ret [txs l] [aX c'])∧(l.length≤30∧∀s∈l,s.size≤40)∧c'.ok (B+2000):=by
  rintro X ⟨l,c',e,h1,h2⟩;exact⟨l,c',e,h1,h2.mono (by omega)⟩
 have hs:True:=trivial;by_cases q:b=true∧1<(w.size:Int)
 ·obtain⟨rfl,q2⟩:=q
  obtain⟨s,c2,e2,hs,k2⟩:=ri c1 w _ k1 (by omega) hw;have m1:=ky s;have m2:eL 1 16 (D.arr 1 []) (txs [s])=some (txs [s]):=kK (l:=[]) (m:=[s]) (by simp);obtain⟨v,c3,b2,c4,x,c5,hv,e3,e4,k4,hx,e5,k5⟩:=fin c2 [s] (k2.mono (by omega)) (by simp) (by simpa using hs);have hw1:ES.wrap (20 - (([s].length:Nat):Int))=19:=by rw [EV];decide
  have hw2:ES.wrap (19+(x:Int))=((19+x:Nat):Int):=by rw [am (by omega) (by omega)];omega
  simp -implicitDefEqProofs only [al,EP,EQ,ER,e1,q2,e2,m1,fK,m2,e3,e4];cases b2
  ·simp -implicitDefEqProofs only [al,EP,EQ,ER]
   refine conv (pb (B+80) v (by omega) c4 [s] (k4.mono (by omega)) (by simp) (by simp [hs]) (fun l c'=>by simp -implicitDefEqProofs only [al,EP,EQ,ER]) (fun ca l k hk h1 h2=>?_) (fun ca l=>by
    have hlt:¬((v:Nat):Int)<((v:Nat):Int):=by omega
    simp -implicitDefEqProofs only [al,EP,EQ,ER,hlt]))
   obtain⟨r1,r2,r3,r4,r5,r6,r7,r8⟩:=oD k (by omega);obtain⟨f1,f2⟩:=hb k v hk (by omega);obtain⟨s',c',g1,g2,g3,g4,g5⟩:=step ca l k _ (by omega) h2 h1 (by omega);refine⟨s',c',?_,g2,g3.mono (by omega)⟩
   simp -implicitDefEqProofs only [al,EP,EQ,ER,f1,f2,r1,r2,r3,r4,r5,r6,r7,r8,g1,g4,fK,g5]
  ·simp -implicitDefEqProofs only [al,EP,EQ,ER,hw1,e5,hw2]
   refine conv (pb (B+80) (19+x) (by omega) c5 [s] (k5.mono (by omega)) (by simp) (by simp [hs]) (fun l c'=>by simp -implicitDefEqProofs only [al,EP,EQ,ER]) (fun ca l k hk h1 h2=>?_) (fun ca l=>by
    have hlt:¬(((19+x):Nat):Int)<(((19+x):Nat):Int):=by omega
    simp -implicitDefEqProofs only [al,EP,EQ,ER,hlt]))
   obtain⟨r1,r2,r3,r4,r5,r6,r7,r8⟩:=oD k (by omega);obtain⟨f1,f2⟩:=hb k (19+x) hk (by omega);obtain⟨s',c',g1,g2,g3,g4,g5⟩:=step ca l k _ (by omega) h2 h1 (by omega);refine⟨s',c',?_,g2,g3.mono (by omega)⟩
   simp -implicitDefEqProofs only [al,EP,EQ,ER,f1,f2,r1,r2,r3,r4,r5,r6,r7,r8,g1,g4,fK,g5]
 ·obtain⟨v,c3,b2,c4,x,c5,hv,e3,e4,k4,hx,e5,k5⟩:=fin c1 [] (k1.mono (by omega)) (by simp) (by simp)
  have hw1:ES.wrap (20 - (([]:List D).length:Int))=20:=by decide
  have hw2:ES.wrap (20+(x:Int))=((20+x:Nat):Int):=by rw [am (by omega) (by omega)];omega
  have hq:∀(r1 r2:Option Out),((aq (D.tup []) (.v (.bool b)) true (some (T w))).bind fun z=>(aq (D.tup []) (.v (.bool b)) true (lenD true z)).bind fun z=>(aq (D.tup []) (.v (.bool b)) true (bin BinOp.gtr false [] z (I 1))).bind fun z=>(bm (.v (.bool b)) z (.v (.bool false))).bind fun z=>ifD z r1 r2)=r2:=by
   intro r1 r2;cases b
   ·simp -implicitDefEqProofs only [al,EP,EQ,ER]
   ·have h2:¬1<(w.size:Int):=fun h=>q ⟨rfl,h⟩
    simp -implicitDefEqProofs only [al,EP,EQ,ER,h2]
  simp -implicitDefEqProofs only [bL,EU,ir,e1,aM,aS,hq];simp -implicitDefEqProofs only [al,EP,EQ,ER,e3,e4];cases b2
  ·simp -implicitDefEqProofs only [al,EP,EQ,ER]
   refine conv (pb (B+80) v (by omega) c4 [] (k4.mono (by omega)) (by simp) (by simp [hs]) (fun l c'=>by simp -implicitDefEqProofs only [al,EP,EQ,ER]) (fun ca l k hk h1 h2=>?_) (fun ca l=>by
    have hlt:¬((v:Nat):Int)<((v:Nat):Int):=by omega
    simp -implicitDefEqProofs only [al,EP,EQ,ER,hlt]))
   obtain⟨r1,r2,r3,r4,r5,r6,r7,r8⟩:=oD k (by omega);obtain⟨f1,f2⟩:=hb k v hk (by omega);obtain⟨s',c',g1,g2,g3,g4,g5⟩:=step ca l k _ (by omega) h2 h1 (by omega);refine⟨s',c',?_,g2,g3.mono (by omega)⟩
   simp -implicitDefEqProofs only [al,EP,EQ,ER,f1,f2,r1,r2,r3,r4,r5,r6,r7,r8,g1,g4,fK,g5]
  ·simp -implicitDefEqProofs only [al,EP,EQ,ER,hw1,e5,hw2]
   refine conv (pb (B+80) (20+x) (by omega) c5 [] (k5.mono (by omega)) (by simp) (by simp [hs]) (fun l c'=>by simp -implicitDefEqProofs only [al,EP,EQ,ER]) (fun ca l k hk h1 h2=>?_) (fun ca l=>by
    have hlt:¬(((20+x):Nat):Int)<(((20+x):Nat):Int):=by omega
    simp -implicitDefEqProofs only [al,EP,EQ,ER,hlt]))
   obtain⟨r1,r2,r3,r4,r5,r6,r7,r8⟩:=oD k (by omega);obtain⟨f1,f2⟩:=hb k (20+x) hk (by omega);obtain⟨s',c',g1,g2,g3,g4,g5⟩:=step ca l k _ (by omega) h2 h1 (by omega);refine⟨s',c',?_,g2,g3.mono (by omega)⟩
   simp -implicitDefEqProofs only [al,EP,EQ,ER,f1,f2,r1,r2,r3,r4,r5,r6,r7,r8,g1,g4,fK,g5]
theorem xA (l:List Int) (h:Bytes l):∃(ps es:List ByteArray) (w:ByteArray),bt [eH l]=some (.ret [txs ps,txs es,T w] [])∧HIn ps es∧w.size≤1000000:=by
 obtain⟨w,c1,e1,hw,k1⟩:=xu ⟨l,0,0⟩ 0 (DX h) (by omega);obtain⟨ps,c2,e2,h2,k2⟩:=xE c1 _ k1 (by omega);obtain⟨es,c3,e3,h3,k3⟩:=uO c2 w _ k2 (by omega) hw;have hws:=hw.sz;refine⟨ps,es,w,?_,⟨by omega,by omega,fun p hp=>by have:=h2.2 p hp;omega,fun p hp=>by have:=h3.2 p hp;omega⟩,by omega⟩
 rw [jT];have hb:qf 3 (D.agg [eH l,I 0,D.v (.int .u64 0)])=some (aX ⟨l,0,0⟩):=by simp [D.cells,D.single]
 simp -implicitDefEqProofs only [al,EP,EQ,ER,xg,hb,e1,e2,e3]
theorem pE (l:List Int) (h:Bytes l):∃(ps es:List ByteArray) (w:ByteArray),cy [eH l]=some (.ret [txs ps,txs es,T w] [])∧HIn ps es∧w.size≤1000000:=by
 obtain⟨ps,es,w,e,h1,h2⟩:=xA l h;refine⟨ps,es,w,?_,h1,h2⟩
 rw [kZ];simp -implicitDefEqProofs only [al,EP,EQ,ER,e,ta0,tc0,ta1,tc1,tv2]
theorem lG (l:List Int) (h:Bytes l):∃(ps es:List ByteArray) (w:ByteArray) (n:Int),bH [eH l]=some (.ret [txs ps,txs es,T w,I n] [])∧HIn ps es∧w.size≤1000000:=by
 obtain⟨ps,es,w,e,h1,h2⟩:=xA l h;obtain⟨v,c1,e1,_,k1⟩:=va ⟨l,0,0⟩ [5,-1,17] 0 (DX h) (by omega) (by simp) (by simp);obtain⟨n,c2,e2,_,k2⟩:=va c1 [2,3,4,6,0,16,v] _ k1 (by omega) (by simp) (by simp);refine⟨ps,es,w,n,?_,h1,h2⟩
 rw [iO];have hb:qf 3 (D.agg [eH l,I 0,D.v (.int .u64 0)])=some (aX ⟨l,0,0⟩):=by simp [D.cells,D.single]
 have m1:aF 1 [I 5,I (-1),I 17]=some (vM [5,-1,17]):=xS (l:=[5,-1,17]);have m2:aF 1 [I 2,I 3,I 4,I 6,I 0,I 16,I v]=some (vM [2,3,4,6,0,16,v]):=xS (l:=[2,3,4,6,0,16,v]);simp -implicitDefEqProofs only [al,EP,EQ,ER,xg,hb,e,ta0,tc0,ta1,tc1,tv2,m1,e1,m2,e2]
theorem pV (l:List Int) (h:Bytes l):∃(ps es:List ByteArray) (w:ByteArray) (n:Int),cK [eH l]=some (.ret [txs ps,txs es,T w,I n] [])∧HIn ps es∧w.size≤1000000:=by
 obtain⟨ps,es,w,e,h1,h2⟩:=xA l h;obtain⟨n,c2,e2,_,k2⟩:=va ⟨l,0,0⟩ [2,3,4,1,0,-1,16,9223372036854775807] 0 (DX h) (by omega) (by simp) (by simp);refine⟨ps,es,w,n,?_,h1,h2⟩
 rw [lJ];have hb:qf 3 (D.agg [eH l,I 0,D.v (.int .u64 0)])=some (aX ⟨l,0,0⟩):=by simp [D.cells,D.single]
 have m2:aF 1 [I 2,I 3,I 4,I 1,I 0,I (-1),I 16,I 9223372036854775807]=some (vM [2,3,4,1,0,-1,16,9223372036854775807]):=xS (l:=[2,3,4,1,0,-1,16,9223372036854775807]);simp -implicitDefEqProofs only [al,EP,EQ,ER,xg,hb,e,ta0,tc0,ta1,tc1,tv2,m2,e2]
set_option maxRecDepth 100000
theorem zB (l:List ByteArray):aa (jnT ⟨#[]⟩ l)=(l.map aa).flatten:=by
 cases l with
 | nil=>rfl
 | cons x l =>
  have e:jnT ⟨#[]⟩ (x::l)=bU (jst ⟨#[]⟩) 1 l x:=by
   unfold jnT;rw [bU,jst,if_neg (by omega)];congr 1
  rw [e,ta _ _ _ _ (by omega)];rfl
theorem BG (ps es:List ByteArray) (w:ByteArray) (hw:w.size≤16):jnT ⟨#[]⟩ (prt ps es w)=w:=by
 apply gh;rw [zB];unfold prt;have h:=ux w (plc ps es w++[w.size]) ([],0) (by
  rw [Fg];exact⟨fun x _=>Fy x,yq ps es w⟩)
 have e2:((plc ps es w++[w.size]).foldl (pst w) ([],0)).2=w.size:=by
  rw [List.foldl_append];rfl
 rw [e2] at h;show((((plc ps es w++[w.size]).foldl (pst w) ([],0)).1).map aa).flatten=_
 rw [h];simp [aR]
theorem Bo {l:List Nat} {n:Int}:n∈bo l↔∃x∈l,(x:Int)=n:=by
 unfold bo;rw [List.mem_map]
theorem wi (code more:List Int) (h1:∀n∈code,0≤n∧n≤255) (h2:∀n∈more,0≤n∧n≤255) (l1:code.length≤9223372036854775807) (l2:more.length≤9223372036854775807):em [eH code,eH more]=some (.ret [B true] []):=by
 rw [pX];have e0:D.v (Fi {data:={toList:=[]}})=T ⟨#[]⟩:=rfl;have e45:D.v (Fi {data:={toList:=[45]}})=T ⟨#[45]⟩:=rfl;by_cases hbig:1048576<ES.wrap ((code.length:Int)+(more.length:Int))
 ·simp -implicitDefEqProofs only [al,EP,EQ,ER,hbig]
 obtain⟨ps,es,w,d1,hin,hw⟩:=pE code ⟨h1,l1⟩;have a1:=ja ps es w hin hw;have a2:=oc ps es w hin hw;have a3:=du ps es w hin hw;have a4:=mY ps es w hin hw;have a5:=pq ps es w hin hw;have a6:=pz ps es w hin hw;obtain⟨hpn,hpx⟩:=nZ (w:=w) hin;have a7:=tG (qy ps es w) (by omega);have hpl:=my (w:=w) hin;have a8:=ve (bo (jN ps es w)) (by omega);simp -implicitDefEqProofs only [al,EP,EQ,ER,hbig,d1,ta0,tc0,ta1,tc1,tv2,a1,tv1,a2,a3,a4,a5,a6,tv0,mo,beq_self_eq_true,a7,a8,pP];refine Ao (fun s=>s=[eH more]) ?_ ?_
 ·rintro _ rfl
  obtain⟨qs,fs,u,n,d2,hin2,hu⟩:=lG more ⟨h2,l2⟩;obtain⟨rs,gs,v,m,d3,hin3,hv⟩:=pV more ⟨h2,l2⟩;have b1:=kC qs fs u n hin2 hu;have b2:=kB qs fs u n hin2 hu;have b3:=fy rs gs v m hin3 hv;have b4:=oR rs gs v m hin3 hv;have b5:=fy qs fs u (mn qs fs u n) hin2 hu;by_cases hz:0<mn qs fs u n
  ·have hq:cz qs fs u=true∧mn qs fs u n∈bo (jN qs fs u)∧mn qs fs u n≤n:=by
    unfold mn at hz ⊢;by_cases hak:Bi qs fs u n=true
    ·rw [if_pos hak] at hz ⊢
     unfold Bi at hak;rcases qQ n (bo (jN qs fs u)) 0 with h | ⟨h3,h4⟩
     ·unfold BU at hz
      omega
     ·exact⟨(Bool.and_eq_true_iff.1 hak).1,h3,h4⟩
    ·rw [if_neg hak] at hz
     omega
   obtain⟨q1,q2,q3⟩:=hq;simp -implicitDefEqProofs only [al,EP,EQ,ER,d2,ta0,tc0,ta1,tc1,tv2,tv3,b1,tv0,tv1,b2,d3,b3,b4,mo,beq_self_eq_true,hz,b5,q1,q2,q3]
  ·simp -implicitDefEqProofs only [al,EP,EQ,ER,d2,ta0,tc0,ta1,tc1,tv2,tv3,b1,tv0,tv1,b2,d3,b3,b4,mo,beq_self_eq_true,hz]
 ·intro j hj
  cases hg:cz ps es w
  ·simp -implicitDefEqProofs only [al,EP,EQ,ER]
   exact hj _ rfl
  ·obtain⟨hvw,-,-⟩:=fa hin hg
   have hhi:=hvw.hi;obtain⟨p1,p2⟩:=ur (ps:=ps) (es:=es) hhi;have hpr:qy ps es w=prt ps es w:=by unfold qy;rw [hg,if_pos rfl]
   have hpc:jN ps es w=plc ps es w:=by unfold jN;rw [hg,if_pos rfl]
   have hplen:=pI ps es w;have c1:=oJ (prt ps es w) ⟨#[]⟩ (by show 0≤1;omega) (by omega) p2;have c2:=oJ (prt ps es w) ⟨#[45]⟩ (Fo 1) (by omega) p2;rw [BG ps es w hhi] at c1;have htx:Bd ps es w=jnT ⟨#[45]⟩ (prt ps es w):=by unfold Bd;rw [hpr]
   have hlen:ES.wrap (((bo (plc ps es w)).length:Int)+1)=((prt ps es w).length:Int):=by
    rw [p1,bD,am (by omega) (by omega)];omega
   rw [hpr,hpc,htx];simp -implicitDefEqProofs only [al,EP,EQ,ER,e0,c1,e45,c2,pP,hlen];refine aA (.ext 0 [eH more]) (ke (w.size+1) (fun i=>[eH more,txs ps,txs es,T w,aI (bo (plc ps es w)),I i]) _ (fun i hi=>?_) ?_ rfl rfl) ?_
   ·have hi':(i:Int)≤(w.size:Int):=by omega
    have hwi:ES.wrap ((i:Int)+1)=((i+1:Nat):Int):=by rw [am (by omega) (by omega)];omega
    have hw2:ES.wrap ((w.size:Int) - 2)=(w.size:Int) - 2:=am (by omega) (by omega);have c3:=fy ps es w (i:Int) hin hw;have c4:=vO (bo (plc ps es w)) (i:Int) (by rw [bD];omega);rw [hpc,hg] at c3;by_cases hm:(i:Int)∈bo (plc ps es w)
    ·obtain⟨x,hx,hxi⟩:=Bo.1 hm
     have hxin:=uJ ps es w x hx;have q1:¬(i:Int)<2:=by omega
     have q2:¬(w.size:Int) - 2<(i:Int):=by omega
     simp -implicitDefEqProofs only [al,EP,EQ,ER,hi',c3,tv0,tv1,c4,hm,mo,beq_self_eq_true,q1,hw2,q2,hwi]
    ·simp -implicitDefEqProofs only [al,EP,EQ,ER,hi',c3,tv0,tv1,c4,hm,mo,beq_self_eq_true,hwi]
   ·have hlt:¬((w.size+1:Nat):Int)≤(w.size:Int):=by omega
    simp -implicitDefEqProofs only [al,EP,EQ,ER,hlt]
   ·simp -implicitDefEqProofs only [al,EP,EQ,ER]
    exact hj _ rfl
end Go.Proofs.YtioabeglbjlndaaDoor

end
