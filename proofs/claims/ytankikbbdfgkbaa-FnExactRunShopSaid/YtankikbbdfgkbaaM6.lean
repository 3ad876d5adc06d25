/-
  A part of the proof: contracts and plain forms of functions beneath the statement, made small by a program (names shortened, what is not needed left out).
-/
import Derived.Test.YtankikbbdfgkbaaRows
import Derived.Test.YtankikbbdfgkbaaM5
import Derived.Deep.RegionHeld3
import Derived.Deep.DrawnRows
import Derived.Deep.AppendLies
import Derived.StillTailTactics
import Derived.Deep.RegionLaw
import Derived.Deep.Cut
open List renaming getElem?_eq_getElem → IM, length_take → IY, getElem?_eq_some_iff → Ja, length_map → Jc, getElem?_set_self → Jd, take_append_drop → Jf, getElem?_take → Jg, mem_range → Jh, getElem?_set_ne → Jj, size_toArray → Jp, getElem?_toArray → Jq, length_singleton → Jr, getElem?_append_left → Jv, all_eq_true → JB, mem_of_mem_take → JC, mem_of_getElem? → JD, mem_of_mem_drop → JE, mem_filter → JF, eq_nil_of_length_eq_zero → JG, length_append → JI, range → JK, mem_append → JM, mem_iff_getElem? → JP, mem_cons → JR, getElem_of_mem → JS, map_toArray → JY, getElem_mem → JZ, length_drop → Ka, any_eq_true → Kb, filter_cons → Kc, length_cons → Ke, length_nil → Kf, nil_append → Kg
open Option.some renaming inj → IP
open Array renaming getD_eq_getD_getElem? → IQ, getElem?_setIfInBounds_ne → Ji, getD → Jn, mem_toList_iff → Jt, all_eq_true' → JJ, replicate → JO
open Go.Lib renaming frozen_of_heap → IU
open Go.Region renaming ready → IV, wanted → Jk, binds → Jm, Mode → JX
open Go.Proofs renaming enters_of → IW
open Bool renaming and_eq_true → IX, not_eq_true' → Jz, or_eq_true → JN, not_false → JQ
open Go.Region.linearise renaming go → IZ
open Go.World renaming drew → Jb, setCell → Jl, cell?_of_block → Js
open Option renaming getD_some → Je, map_some → Jo
open Classical renaming byContradiction → Ju
open Nat renaming le_trans → Jw, le_refl → JA, min_eq_left → JL, zero_add → JT, lt_of_lt_of_le → JU
open Go.RowKit.Below renaming refl → Jx
open Go.Value renaming ownBlock → Jy
open Go.IntKind renaming i64 → JH
open Go.Oper renaming wp → JV
open Go.Result renaming andThen_ok → JW
set_option maxRecDepth 100000
set_option linter.unusedSimpArgs false
set_option linter.unusedVariables false
noncomputable section
namespace Go.Proofs.Ytankikbbdfgkbaa
open Go Go.Proofs Go.V Go.RowKit
def Db (w:World) (z:Nat) (d:D) (b:Value) (e:Ending) (w':World):Prop:=∃A n c,e = .returned (.tuple #[.slice A n c,b])∧aW w' (fun _=>False) (aw (.slice A n c)) z d (.slice A n c)∧(∀b,aw (.slice A n c) b→w.heap.size≤b∧b<w'.heap.size)∧Below w.heap.size w w'
theorem jl {f:Nat} {z:Nat} {pm:List Kd} {ff:List D→Option Out} {ds:List D} {d:D} {b:Value} {args:Array Value} (he:∀args w,(callFunc f args).run Try.prog w = .ok (.enter f args) w) (hm:aF gl0 Try.prog f {pm:=pm,rm:=[.own z 0 false,.dat 0],f:=ff}) (hd:ff ds=some (.ret [d,.v b] [])) (hbad:d ≠ .bad) {w:World} {F:Nat→Prop}
  (ha:dP w F (fun _=>none) 0 pm ds args.toList) (hF:∀b,F b→b<w.heap.size) :
  Calls Try.prog f args w (Db w z d b):=by
 refine(cW (ow:=fun _=>none) (F:=F) (ds:=ds) (rs:=[d,.v b]) (us:=[]) (args:=args) he hm hd gw ha (fun b hb=>⟨hF b hb,rfl⟩) (fun b i h=>by cases h)).mono ?_
 rintro e w' ⟨v,rfl,F',R,vs,rfl,hp⟩;have hl:=hp.len;obtain⟨u,u2,rfl⟩:=Cy (hl.trans rfl);have h0:=hp.res 0;have h1:=hp.res 1;rcases h0 with h0 | h0
 ·exact absurd h0 hbad
 rcases h1 with h1 | h1
 ·cases h1
 obtain⟨hu2,_⟩:=ek.1 h1;have hu2':u2=b:=hu2;subst hu2';obtain⟨m,e1,h2,h3⟩:=h0;have hB:Below w.heap.size w w':=⟨hp.os,hp.tape,hp.output,hp.size,fun b hb=>hp.keep b hb rfl⟩
 rcases h3 with ⟨h3,h30⟩ | ⟨g,o,c,us,cs,e,h4,h5,h6,h7,h8,h9,_,h11⟩
 ·have h3':u = .slice none 0 0:=h3
  subst h3';exact⟨_,_,_,rfl,⟨m,e1,h2,.inl ⟨rfl,h30⟩⟩,(fun b hb=>by cases hb),hB⟩
 ·have h4':u = .slice (some ⟨g,o,none⟩) m.length c:=h4
  subst h4';refine⟨_,_,_,rfl,⟨m,e1,h2,.inr ⟨g,o,c,us,cs,e,rfl,h5,h6,h7,aZ (fun b hb=>hb.elim) (fun b hb=>hb.elim) _ _ h8,h9,rfl⟩⟩,fun b hb=>?_,hB⟩
  have hb':g=b:=IP hb;subst hb';exact⟨h11,(Array.getElem?_eq_some_iff.1 h6).1⟩
def mvd (l:List Bx) (cs:List ByteArray) (by_:Int):List Bx:=if bH (br (aK l) by_ l cs)=true then br (aK l) by_ l cs else []
theorem Ft (l:List Bx) (cs:List ByteArray) (by_:Int):(if bH (br (aK l) by_ l cs)=true then bxs (br (aK l) by_ l cs) else .arr 4 [])=bxs (mvd l cs by_):=by
 unfold mvd;split<;>rfl
theorem sU (l:List Bx) (codes:List ByteArray) (h:mu l) (hl:codes.length≤60) (hg:bH l=true) (hc:∀c∈codes,∃k:Nat,fC (aK l) c=k∧k<l.length) :
  iv [bxs l,txs codes]=some (.ret [if bH (br (aK l) 1 l codes)=true then bxs (br (aK l) 1 l codes) else .arr 4 [],B (bH (br (aK l) 1 l codes))] []):=by
 rw [sJ];have e:=mi l codes 1 h hl hg hc;cases hq:bH (br (aK l) 1 l codes)<;>rw [hq] at e<;>simp -implicitDefEqProofs at e<;>simp -implicitDefEqProofs [e]
theorem wU (l:List Bx) (codes:List ByteArray) (h:mu l) (hl:codes.length≤60) (hg:bH l=true) (hc:∀c∈codes,∃k:Nat,fC (aK l) c=k∧k<l.length) {w:World} {F F':Nat→Prop} {y y':Value} (hr:aM w F (bxs l) y) (hF:∀b,F b→b<w.heap.size) (hr':aM w F' (txs codes) y') (hF':∀b,F' b→b<w.heap.size) :
  Calls Try.prog 42 #[y,y'] w (Db w 4 (bxs (mvd l codes 1)) (.bool (bH (br (aK l) 1 l codes)))) :=
 jl (ds:=[bxs l,txs codes]) (F:=fun b=>F b∨F' b) (IW Try.func42 (by kernel_rfl) rfl) sV (by rw [←Ft];exact sU l codes h hl hg hc) (by simp)
  (show cE w (fun b=>F b∨F' b) _ (.dat 2) (bxs l) y∧cE w _ _ (.dat 2) (txs codes) y'∧True from⟨.inr (aG (fun _ h=>.inl h) (fun _ _=>rfl) hr),.inr (aG (fun _ h=>.inr h) (fun _ _=>rfl) hr'),trivial⟩) (fun b hb=>hb.elim (hF b) (hF' b))
theorem tO (l:List Bx) (codes:List ByteArray) (h:mu l) (hl:codes.length≤60) (hg:bH l=true) (hc:∀c∈codes,∃k:Nat,fC (aK l) c=k∧k<l.length) {w:World} {F F':Nat→Prop} {y y':Value} (hr:aM w F (bxs l) y) (hF:∀b,F b→b<w.heap.size) (hr':aM w F' (txs codes) y') (hF':∀b,F' b→b<w.heap.size) :
  Calls Try.prog 87 #[y,y'] w (Db w 4 (bxs (mvd l codes (-1))) (.bool (bH (br (aK l) (-1) l codes)))) :=
 jl (ds:=[bxs l,txs codes]) (F:=fun b=>F b∨F' b) (IW Try.func87 (by kernel_rfl) rfl) rT (by rw [←Ft];exact rM l codes h hl hg hc) (by simp)
  (show cE w (fun b=>F b∨F' b) _ (.dat 2) (bxs l) y∧cE w _ _ (.dat 2) (txs codes) y'∧True from⟨.inr (aG (fun _ h=>.inl h) (fun _ _=>rfl) hr),.inr (aG (fun _ h=>.inr h) (fun _ _=>rfl) hr'),trivial⟩) (fun b hb=>hb.elim (hF b) (hF' b))
theorem rY (l:List Bx) (codes:List ByteArray) (by_:Int) (h:mu l) (hl:codes.length≤1048576) (hc:∀c∈codes,∃k:Nat,fC (aK l) c=k∧k<l.length) {w:World} {F F':Nat→Prop} {y y':Value} (hr:aM w F (bxs l) y) (hF:∀b,F b→b<w.heap.size) (hr':aM w F' (txs codes) y') (hF':∀b,F' b→b<w.heap.size) :
  Calls Try.prog 40 #[y,y',.int .i64 by_] w (Db w 4 (bxs (mvd l codes by_)) (.bool (bH (br (aK l) by_ l codes)))) :=
 jl (ds:=[bxs l,txs codes,I by_]) (F:=fun b=>F b∨F' b) (IW Try.func40 (by kernel_rfl) rfl) wG (by rw [←Ft];exact wL l codes by_ h hl hc) (by simp)
  (show cE w (fun b=>F b∨F' b) _ (.dat 2) (bxs l) y∧cE w _ _ (.dat 2) (txs codes) y'∧cE w _ _ (.dat 0) (I by_) (.int .i64 by_)∧True from⟨.inr (aG (fun _ h=>.inl h) (fun _ _=>rfl) hr),.inr (aG (fun _ h=>.inr h) (fun _ _=>rfl) hr'),.inr (ek.2 ⟨rfl,rfl⟩),trivial⟩) (fun b hb=>hb.elim (hF b) (hF' b))
theorem vv {f:Nat} {ff:List D→Option Out} {a:D} {b:Value} (he:∀args w,(callFunc f args).run Try.prog w = .ok (.enter f args) w) (hm:aF gl0 Try.prog f {pm:=[.dat 2],rm:=[.dat 0],f:=ff}) (hd:ff [a]=some (.ret [.v b] [])) {w:World} {F:Nat→Prop} {y:Value} (hr:aM w F a y) (hF:∀b,F b→b<w.heap.size) :
  Calls Try.prog f #[y] w fun e w'=>e = .returned b∧Below w.heap.size w w' :=
 ic he hm ff rfl hd rfl gw (show cE w F _ (.dat 2) a y∧True from⟨.inr hr,trivial⟩) hF
theorem sd (s:Sp) (h:cr s) {w:World} {F:Nat→Prop} {y:Value} (hr:aM w F (sp s) y) (hF:∀b,F b→b<w.heap.size) :
  Calls Try.prog 31 #[y] w fun e w'=>e = .returned (.bool (aT s))∧Below w.heap.size w w' :=
 vv (IW Try.func31 (by kernel_rfl) rfl) vV (wg s h) hr hF
theorem lV (s:Sp) (h:cr s) {w:World} {F:Nat→Prop} {y:Value} (hr:aM w F (sp s) y) (hF:∀b,F b→b<w.heap.size) :
  Calls Try.prog 34 #[y] w fun e w'=>e = .returned (.bool (aT s))∧Below w.heap.size w w' :=
 vv (IW Try.func34 (by kernel_rfl) rfl) wT (wo s h) hr hF
theorem Cd {l:List Bx} {x:Fm} (h:fJ l x=true):∀c∈x.2.1,∃k:Nat,fC (aK l) c=k∧k<l.length:=by
 intro c hc;unfold fJ at h;simp only [IX] at h;have h1:=h.2;unfold jS at h1;obtain⟨j,hj,rfl⟩:=List.mem_iff_getElem.1 hc;have h2:=yS h1 j hj;simp only [Jz,decide_eq_false_iff_not,Ci] at h2;rcases EB (cs:=aK l) (c:=x.2.1[j]) with ⟨e,_⟩ | ⟨k,hk,e1,_⟩
 ·rw [e] at h2
  omega
 ·exact⟨k,e1,by simpa using hk⟩
def mvs (l:List Bx) (fs:List Fm):List Bx:=fs.foldl (fun m f=>br (aK m) 1 m f.2.1) l
theorem dB (w:World) (B:Nat):sg w B (.agg #[.slice none 0 0,.slice none 0 0,.int .i64 0,.int .i64 0]) ([],[],0,0) :=
 ⟨_,_,[],rfl,dN _ _ _ _,(fun b hb=>by cases hb),rS _ _,(fun b hb=>by cases hb)⟩
abbrev Stp:=Int × Int × ByteArray × Int
abbrev stp (x:Stp):D:=.agg [I x.1,I x.2.1,T x.2.2.1,I x.2.2.2]
def cM (x:Stp):Bool:=decide (1≤x.2.1∧x.2.1≤99)&&(if x.1=1 then dR x.2.2.1 1 16&&decide (x.2.2.2=0) else if x.1=3 then decide (x.2.2.1=⟨⟨[]⟩⟩)&&decide (1≤x.2.2.2∧x.2.2.2≤1000)
 else if x.1=2∨x.1=4∨x.1=5∨x.1=6 then decide (x.2.2.1=⟨⟨[]⟩⟩)&&decide (x.2.2.2=0) else false)
theorem pY (x:Stp) (h:x.2.2.1.size≤9223372036854775807):ex [stp x]=some (.ret [B (cM x)] []):=by
 rw [qh];obtain⟨k,i,w,n⟩:=x;have hw:=wy w h;simp only [cM];by_cases hi:1≤i∧i≤99
 rotate_left
 ·simp -implicitDefEqProofs [aS,hi]
 by_cases h1:k=1
 ·subst h1
  cases hl:dR w 1 16<;>simp -implicitDefEqProofs [aS,hi,hw,hl]
 by_cases h3:k=3
 ·subst h3
  by_cases hz:w=⟨⟨[]⟩⟩<;>simp -implicitDefEqProofs [aS,bG,hi,hz]
 by_cases h2:k=2
 ·subst h2
  by_cases hz:w=⟨⟨[]⟩⟩<;>simp -implicitDefEqProofs [aS,hi,hz]
 by_cases h4:k=4
 ·subst h4
  by_cases hz:w=⟨⟨[]⟩⟩<;>simp -implicitDefEqProofs [aS,hi,hz]
 by_cases h5:k=5
 ·subst h5
  by_cases hz:w=⟨⟨[]⟩⟩<;>simp -implicitDefEqProofs [aS,hi,hz]
 by_cases h6:k=6
 ·subst h6
  by_cases hz:w=⟨⟨[]⟩⟩<;>simp -implicitDefEqProofs [aS,hi,hz]
 simp -implicitDefEqProofs [aS,hi,h1,h2,h3,h4,h5,h6]
theorem wi (x:Stp) (h:x.2.2.1.size≤9223372036854775807):gW [stp x]=some (.ret [B (cM x)] []):=by
 rw [wH];obtain⟨k,i,w,n⟩:=x;have hw:=ww w h;simp only [cM];by_cases hi:1≤i∧i≤99
 rotate_left
 ·simp -implicitDefEqProofs [bu,hi]
 by_cases h1:k=1
 ·subst h1
  cases hl:dR w 1 16<;>simp -implicitDefEqProofs [bu,hi,hw,hl]
 by_cases h3:k=3
 ·subst h3
  by_cases hz:w=⟨⟨[]⟩⟩<;>simp -implicitDefEqProofs [bu,hi,hz]
 by_cases h2:k=2
 ·subst h2
  by_cases hz:w=⟨⟨[]⟩⟩<;>simp -implicitDefEqProofs [bu,hi,hz]
 by_cases h4:k=4
 ·subst h4
  by_cases hz:w=⟨⟨[]⟩⟩<;>simp -implicitDefEqProofs [bu,hi,hz]
 by_cases h5:k=5
 ·subst h5
  by_cases hz:w=⟨⟨[]⟩⟩<;>simp -implicitDefEqProofs [bu,hi,hz]
 by_cases h6:k=6
 ·subst h6
  by_cases hz:w=⟨⟨[]⟩⟩<;>simp -implicitDefEqProofs [bu,hi,hz]
 simp -implicitDefEqProofs [bu,hi,h1,h2,h3,h4,h5,h6]
open Classical in
def ye (l:List Bx) (w:ByteArray):Option (List Nat):=if h:Codes (aK l) then Classical.choose (oW h _ (ay w) [] (JA _)) else none
theorem ro {l:List Bx} (h:bH l=true) (w:ByteArray):Sets (aK l) (ay w) [] (ye l w):=by
 unfold ye;rw [dif_pos (ij h)];exact Classical.choose_spec (oW (ij h) _ (ay w) [] (JA _))
def cH (l:List Bx) (w:ByteArray):List ByteArray:=bR (aK l) ((ye l w).getD [])
def uS (l:List Bx) (w:ByteArray):Bool:=(ye l w).isSome
theorem pd {l:List Bx} (h:bH l=true) {w:ByteArray} (hb:uS l w=true):(cH l w).length≤w.size∧∀c∈cH l w,∃k:Nat,fC (aK l) c=k∧k<l.length:=by
 unfold uS at hb;unfold cH;obtain⟨r,hr⟩:=Option.isSome_iff_exists.1 hb;obtain⟨h1,h2⟩:=yQ (ij h) (ro h w) (fun i hi=>by simp at hi) r hr;rw [hr,Je];refine⟨?_,AX h1⟩
 simp only [Kf,JT] at h2;simpa [bR,dy] using h2
def vD (l:List Fm) (i:Nat):Bool:=(l[i]?.map fun x=>x.2.2.1).getD false
def cI (l:List Fm) (n:Int):List Fm:=if eU l n=true then l else l.take (atF l n)++(n,[],false,0)::l.drop (atF l n)
def FL (l:List Fm) (i:Nat) (cs:List ByteArray):List Fm:=match l[i]? with
 | some x=>l.set i (x.1,x.2.1++cs,x.2.2.1,x.2.2.2)
 | none=>l
def yF (s:Sp) (n:Int) (w:ByteArray):Sp:=(br (aK s.1) (-1) s.1 (cH s.1 w),FL (cI s.2.1 n) (atF s.2.1 n) (cH s.1 w),s.2.2.1,s.2.2.2)
def iB (s:Sp) (n:Int) (w:ByteArray):Bool:=uS s.1 w&&bH (br (aK s.1) (-1) s.1 (cH s.1 w)) && !vD (cI s.2.1 n) (atF s.2.1 n)
def eX (s:Sp) (i:Nat) (x:Stp):Sp:=match s.2.1[i]? with
 | none=>s
 | some f =>
  if x.1=2 then(s.1,s.2.1.set i (f.1,f.2.1,true,f.2.2.2),s.2.2.1,s.2.2.2)
  else if x.1=3 then(s.1,s.2.1.set i (f.1,f.2.1,f.2.2.1,f.2.2.2+x.2.2.2),s.2.2.1,s.2.2.2+x.2.2.2)
  else if x.1=4 then(s.1,s.2.1.set i (f.1,f.2.1,false,f.2.2.2),s.2.2.1,s.2.2.2)
  else if x.1=5 then(s.1,s.2.1.set i (f.1,f.2.1.take (f.2.1.length - 1),f.2.2.1,f.2.2.2),s.2.2.1+1,s.2.2.2)
  else(br (aK s.1) 1 s.1 f.2.1,s.2.1.take i++s.2.1.drop (i+1),s.2.2.1,s.2.2.2)
def cG (s:Sp) (i:Nat) (x:Stp):Bool:=match s.2.1[i]? with
 | none=>false
 | some f =>
  if x.1=2 then !f.2.2.1
  else if x.1=3 then f.2.2.1
  else if x.1=4 then f.2.2.1
  else if x.1=5 then !f.2.2.1 && !decide (f.2.1.length=0)
  else !f.2.2.1&&bH (br (aK s.1) 1 s.1 f.2.1)
def gF (s:Sp) (x:Stp):Sp:=if x.1=1 then yF s x.2.1 x.2.2.1 else eX s (atF s.2.1 x.2.1) x
def iC (s:Sp) (x:Stp):Bool:=if x.1=1 then iB s x.2.1 x.2.2.1 else eU s.2.1 x.2.1&&cG s (atF s.2.1 x.2.1) x
def gx (s:Sp) (x:Stp):Bool:=cM x&&iC s x&&aT (gF s x)
def stS (s:Sp) (x:Stp):Sp:=if gx s x=true then gF s x else([],[],0,0)
theorem uR {x:Stp} (h:cM x=true):x.1=1∨x.1=2∨x.1=3∨x.1=4∨x.1=5∨x.1=6:=by
 unfold cM at h;by_cases h1:x.1=1
 ·exact .inl h1
 by_cases h3:x.1=3
 ·exact .inr (.inr (.inl h3))
 rw [if_neg h1,if_neg h3] at h;by_cases h4:x.1=2∨x.1=4∨x.1=5∨x.1=6
 ·omega
 ·rw [if_neg h4] at h
  simp at h
theorem Cf {x:Stp} (h:cM x=true) (h3:x.1=3):1≤x.2.2.2∧x.2.2.2≤1000:=by
 unfold cM at h;rw [if_neg (by omega),if_pos h3] at h;simp only [IX,decide_eq_true_eq] at h;exact h.2.2
theorem yI {x:Stp} (h:cM x=true) (h1:x.1=1):x.2.2.1.size≤16:=by
 unfold cM at h;rw [if_pos h1] at h;simp only [IX,decide_eq_true_eq,dR] at h;omega
def Gd (s:Sp) (i:Nat):Prop:=∀j,j<i→bH (mvs s.1 (s.2.1.take (j+1)))=true
theorem Gd.succ {s:Sp} {i:Nat} (h:Gd s i) (h1:bH (mvs s.1 (s.2.1.take (i+1)))=true):Gd s (i+1):=fun j hj=>by
 by_cases e:j=i
 ·subst e
  exact h1
 ·exact h j (by omega)
attribute [local go_sem ↓] Go.wp_at_zero Go.wp_at_succ
theorem uo {P:Program} (w:World) {o:Oper} {a:Act} {K:Act→World→Prop} {Q:Exit→Act→World→Prop} (s x:Operand) (t:TypeId)
  (ho:o.op = .call {callee:=.builtin .append,args:=#[s,x],argTypes:=#[t,t]})
  (base:Nat) (e:TypeId) (i:TypeInfo) (z:Value) (size bytes:Nat) (ht:P.underlying t=some (.slice e)) (hi:P.info? e=some i) (hz:i.zero=some z)
  (hsize:i.size=size) (hby:i.bytes=bytes) (hzs:z.cells.size=size) (hsz:0<size)
  (v:Value) (n:Nat) (xs:List Value) (hs:a.eval s=v) (hown:w.ownsRow base e size v n xs)
  (A:Option Addr) (m c:Nat) (news:List Value) (hx:a.eval x = .slice A m c) (hl:news.length=m*size) (hA:m≠0→∃g o,A=some ⟨g,o,none⟩∧∀j u,news[j]?=some u→w.cell? ⟨g,o+j,none⟩=some u) (h1:∀u∈news,u.oneCell'=true)
  (h63:n+m≤maxLen) (hbytes:(n+m)*bytes≤140737488355328) (hbase:base≤w.heap.size)
  (h:∀v' w',w'.ownsRow base e size v' (n+m) (xs++news)→w.grownBy w' v.ownBlock→(v'.ownBlock=v.ownBlock∨v'.ownBlock=some w.heap.size)→K (a.put o.dst v') w'):o.wp P a w K Q:=by
 cases A with
 | some ad =>
  have hn:∀j u,news[j]?=some u→w.cell? (ad.add j)=some u:=fun j u hj=>by
   have hm:m≠0:=by
    rintro rfl;have:news=[]:=JG (by simpa using hl);subst this;simp at hj
   obtain⟨g,o,e1,h2⟩:=hA hm;cases e1;rw [show(⟨g,o,none⟩:Addr).add j=⟨g,o+j,none⟩ by cases j<;>simp [Addr.add]];exact h2 j u hj
  obtain⟨v',w',hr,h2,h3,_,h5⟩:=run_append_own_at (P:=P) w base t o.type e i z size bytes ht hi hz hsize hby hzs hsz v n xs hown ad m c news hl hn h1 h63 hbytes hbase;unfold JV execOp;simp only [ho,resolve,invoke,builtin,Sem.run_bind,Sem.run_pure,JW,JY,List.map_cons,List.map_nil,hs,hx,hr];exact h v' w' h2 h3 h5
 | none =>
  have hm:m=0:=Ju fun hm=>by
   obtain⟨_,_,e1,_⟩:=hA hm;cases e1
  subst hm;have hnews:news=[]:=JG (by simpa using hl);subst hnews;have hrun:=iY (P:=P) w base t o.type e i size c ht hi v n xs hown;unfold JV;simp [execOp,ho,resolve,invoke,builtin,hs,hx,hrun,Result.andThen];exact h v w (by simpa using hown) (World.grownBy.refl _ _) (.inl rfl)
theorem ah {P:Program} (w:World) {ops:Array Oper} {o:Oper} {a:Act} {K:Act→World→Prop} {Q:Exit→Act→World→Prop} {E:Prop} (hgd:o.guard=none) (s x:Operand) (t:TypeId)
  (ho:o.op = .call {callee:=.builtin .append,args:=#[s,x],argTypes:=#[t,t]})
  (base:Nat) (e:TypeId) (i:TypeInfo) (z:Value) (size bytes:Nat) (ht:P.underlying t=some (.slice e)) (hi:P.info? e=some i) (hz:i.zero=some z)
  (hsize:i.size=size) (hby:i.bytes=bytes) (hzs:z.cells.size=size) (hsz:0<size)
  (v:Value) (n:Nat) (xs:List Value) (hs:a.eval s=v) (hown:w.ownsRow base e size v n xs)
  (A:Option Addr) (m c:Nat) (news:List Value) (hx:a.eval x = .slice A m c) (hl:news.length=m*size) (hA:m≠0→∃g o,A=some ⟨g,o,none⟩∧∀j u,news[j]?=some u→w.cell? ⟨g,o+j,none⟩=some u) (h1:∀u∈news,u.oneCell'=true)
  (h63:n+m≤maxLen) (hbytes:(n+m)*bytes≤140737488355328) (hbase:base≤w.heap.size)
  (h:∀v' w',w'.ownsRow base e size v' (n+m) (xs++news)→w.grownBy w' v.ownBlock→(v'.ownBlock=v.ownBlock∨v'.ownBlock=some w.heap.size)→K (a.put o.dst v') w') :
  if Jk o (yielded ops a.tmps)=true then JV P o a w K Q else E:=by
 have hw:Jk o (yielded ops a.tmps)=true:=by simp [Jk,hgd]
 rw [if_pos hw];exact uo w s x t ho base e i z size bytes ht hi hz hsize hby hzs hsz v n xs hs hown A m c news hx hl hA h1 h63 hbytes hbase h
theorem xd (l:List ByteArray) (h:l.length≤1048576):ki [txs l]=some (.ret [txs l] []):=by
 rw [vM];have hk:ll (txs l)=some (txs l):=qA fun _=>rfl
 rw [ee,hk];simp only [Option.bind_some];rw [fF,if_pos (by simp only [Jc,true_or,true_and,Kf];omega)];rfl
theorem AL (l:List ByteArray) (h:l.length≤1048576) {w:World} {F:Nat→Prop} {y:Value} (hr:aM w F (txs l) y) (hF:∀b,F b→b<w.heap.size) :
  Calls Try.prog 63 #[y] w fun e w'=>∃A n c,e = .returned (.slice A n c)∧aW w' (fun _=>False) (aw (.slice A n c)) 1 (txs l) (.slice A n c)∧(∀b,aw (.slice A n c) b→w.heap.size≤b∧b<w'.heap.size)∧Below w.heap.size w w' :=
 uq (IW Try.func63 (by kernel_rfl) rfl) vY (xd l h) (by simp) hr hF
theorem ET {w':World} {b:Nat} {x0 x1 x2 x3:Value} {t:TypeId} (h:w'.heap[b]?=some (.cells #[x0,x1,x2,x3] t (0,0))):w'.cell? ⟨b,0,none⟩=some x0∧w'.cell? ⟨b,2,none⟩=some x2∧w'.cell? ⟨b,3,none⟩=some x3:=⟨(aa h).1,(aa h).2.2.1,(aa h).2.2.2⟩
theorem tS {w':World} {b g:Nat} {o:Obj} (x0 x1 x2 x3:Value) (hg:g≠b) (h:w'.heap[b]?=some o):((((w'.setCell ⟨g,0,none⟩ x0).setCell ⟨g,1,none⟩ x1).setCell ⟨g,2,none⟩ x2).setCell ⟨g,3,none⟩ x3).heap[b]?=some o:=by
 rw [heap_setCell_other _ _ _ _ (by simp;omega),heap_setCell_other _ _ _ _ (by simp;omega),heap_setCell_other _ _ _ _ (by simp;omega),heap_setCell_other _ _ _ _ (by simp;omega)];exact h
theorem na {w:World} {b:Nat} {o:Obj} (h:w.heap[b]?=some o):w.drew.heap[b]?=some o:=h
theorem AS {w':World} {g:Nat} {z:Nat} {d:D} {y:Value} (x0 x1 x2 x3:Value) (h:aW w' (fun _=>False) (aw y) z d y) (hg:∀b,aw y b→g≠b):aW ((((w'.setCell ⟨g,0,none⟩ x0).setCell ⟨g,1,none⟩ x1).setCell ⟨g,2,none⟩ x2).setCell ⟨g,3,none⟩ x3) (fun _=>False) (aw y) z d y :=
 aI h fun b hb=>by
  have:=hg b hb;rw [heap_setCell_other _ _ _ _ (by simp;omega),heap_setCell_other _ _ _ _ (by simp;omega),heap_setCell_other _ _ _ _ (by simp;omega),heap_setCell_other _ _ _ _ (by simp;omega)]
def IG (w:World) (p B:Nat) (Vb:Value) (x y:Int) (l:List Fm):Prop:=∃A n c ys,w.heap[p]?=some (.cells #[Vb,.slice A n c,.int .i64 x,.int .i64 y] 33 (0,0))∧FmsAt w B (.slice A n c) ys l
set_option maxHeartbeats 4000000 in
set_option maxRecDepth 1000000 in
theorem pz (s:Sp) (hs:cr s) (v0:Value) (w:World) (F:Nat→Prop) (hr:aM w F (sp s) v0) (hF:∀b,F b→b<w.heap.size) :
    Calls Try.prog 39 #[v0] w fun e w'=>∃v,e = .returned v∧sg w' w.heap.size v s∧Below w.heap.size w w':=by
  obtain⟨A,n,c,A',n',c',rfl,hb,hf⟩:=dS hr;obtain⟨i0,hi0,hz0,hz1,hz2⟩:=info_parts zy;obtain⟨us,hn,hul,hus,huw,hu1,huA⟩:=kO hb CM;obtain⟨us2,hn2,hul2,hus2,_,_,huA2⟩:=kO hf CQ;rw [Jc] at hn hn2;subst hn hn2;have hbl:=hs.1.1
  go_enter Try.func39,Try.ntmps39
  go_wp2
  have hb2:∀a b,Below w.heap.size w ((w.alloc a).alloc b):=fun a b=>((Jx _ w).alloc (JA _) _).alloc (by simp) _
  have B2:=hb2 (.cells #[.slice A s.1.length c,.slice A' s.2.1.length c',.int .i64 s.2.2.1,.int .i64 s.2.2.2] 33) (.cells #[.slice none 0 0,.slice none 0 0,.int .i64 0,.int .i64 0] 33);have H1:((w.alloc (.cells #[.slice A s.1.length c,.slice A' s.2.1.length c',.int .i64 s.2.2.1,.int .i64 s.2.2.2] 33)).alloc (.cells #[.slice none 0 0,.slice none 0 0,.int .i64 0,.int .i64 0] 33)).heap[w.heap.size]?=some (.cells #[.slice A s.1.length c,.slice A' s.2.1.length c',.int .i64 s.2.2.1,.int .i64 s.2.2.2] 33 (0,0)):=af _ (ae _ rfl);have H2:((w.alloc (.cells #[.slice A s.1.length c,.slice A' s.2.1.length c',.int .i64 s.2.2.1,.int .i64 s.2.2.2] 33)).alloc (.cells #[.slice none 0 0,.slice none 0 0,.int .i64 0,.int .i64 0] 33)).heap[w.heap.size+1]?=some (.cells #[.slice none 0 0,.slice none 0 0,.int .i64 0,.int .i64 0] 33 (0,0)):=ae _ (by simp);have S2:((w.alloc (.cells #[.slice A s.1.length c,.slice A' s.2.1.length c',.int .i64 s.2.2.1,.int .i64 s.2.2.2] 33)).alloc (.cells #[.slice none 0 0,.slice none 0 0,.int .i64 0,.int .i64 0] 33)).heap.size=w.heap.size+2:=by simp
  generalize (w.alloc (.cells #[.slice A s.1.length c,.slice A' s.2.1.length c',.int .i64 s.2.2.1,.int .i64 s.2.2.2] 33)).alloc (.cells #[.slice none 0 0,.slice none 0 0,.int .i64 0,.int .i64 0] 33)=W at *;clear hb2;have S2a:w.heap.size+2≤W.heap.size:=by omega
  have S2b:W.heap.size≤w.heap.size+2:=by omega
  clear S2;rename_i K hK;have hrest:Hid (∀(u6 u7 u8 u9 u10 u11 u12 u13 u14:Value) (p:Nat) (A1:Option Addr) (n1 c1:Nat) (W':World),w.heap.size+1<p→W'.heap[p]?=some (.cells #[.slice A1 n1 c1,.slice none 0 0,.int .i64 s.2.2.1,.int .i64 s.2.2.2] 33 (0,0)) →
      aW W' (fun _=>False) (aw (.slice A1 n1 c1)) 4 (bxs s.1) (.slice A1 n1 c1)→(∀b,aw (.slice A1 n1 c1) b→w.heap.size+1<b∧b≠p)→Below W.heap.size W W' →
      K {tmps:=#[.agg #[.slice A s.1.length c,.slice A' s.2.1.length c',.int .i64 s.2.2.1,.int .i64 s.2.2.2],.pointer (some ⟨w.heap.size,0,none⟩),.pointer (some ⟨w.heap.size+1,0,none⟩),.pointer (some ⟨p,0,none⟩),undef,undef,u6,u7,u8,u9,u10,u11,u12,u13,u14,
        undef,undef,undef,undef,undef,undef,undef,undef,undef,undef,undef,undef,undef,undef,undef,undef,undef,undef,undef],defers:=[]} W'):=by
    intro u6 u7 u8 u9 u10 u11 u12 u13 u14 p A1 n1 c1 W' hp0 H3 own1 hv1 hW;refine hK _ _ ?_
    have H1':=Below.some hW H1;have H2':=Below.some hW H2;have hpl:=bh H3;have c11:=(aa H1').2.1
    go_wp2
    obtain⟨i2,hi2,hx0,hx1,hx2⟩:=info_parts fK;have hln:=hs.2.1;have hsW:=hW.size;have hp1:p≠w.heap.size:=by omega
    have hp2:p≠w.heap.size+1:=by omega
    go_loopw [18] (fun vi wr=>∃i:Nat,vi = .int .i64 i∧i≤s.2.1.length∧IG wr p W'.heap.size (.slice A1 n1 c1) s.2.2.1 s.2.2.2 (s.2.1.take i)∧KeptX (fun b=>b=p) W' wr) (fun vi _=>s.2.1.length - (intOf vi).toNat)
    case atStart =>
      exact⟨0,rfl,Nat.zero_le _,⟨_,_,_,[],H3,by simpa using rS _ _⟩,KeptX.refl _ _⟩
    case round =>
      obtain⟨i,rfl,hin,⟨Vg,Vn,Vc,ys,H3r,hFr⟩,hX⟩:=hrel;have hsz:=hX.size;have hBw:Below w.heap.size w wr:=(B2.trans (hW.mono (by omega))).trans (hX.below (B:=w.heap.size) (fun b hb=>by omega) (by omega));have hFlt:=hFr.lt;by_cases hp:i<s.2.1.length
      · have hpi:(i:Int)<(s.2.1.length:Int):=by omega
        obtain⟨b,o,rfl,hFb,hcell⟩:=huA2 (by omega);obtain⟨Ax,nx,cx,u0,u1,u2,u3,hry⟩:=tz hus2 hp;have hcb:∀{k:Nat} {u:Value},us2[k]?=some u→wr.cell? ⟨b,o+k,none⟩=some u:=fun {k u} hu=>(Js (w:=w) (hBw.block b (hF b hFb))).trans (hcell k u hu)
        have k0:=hcb u0;have k1:=hcb u1;have k2:=hcb u2;have k3:=hcb u3;simp only [←Nat.add_assoc] at k1 k2 k3;have hxl:=hs.2.2 s.2.1[i] (JZ hp);have htk:=List.take_succ_eq_append_getElem hp;generalize s.2.1[i]=x at *;have hBa:∀q,Below w.heap.size w (wr.alloc q):=fun q=>hBw.alloc (by omega) _
        have hcall:=fun q=>AL x.2.1 hxl (w:=wr.alloc q) (aG (fun _ h=>h) (fun b hb=>(hBa q).block b (hF b hb)) hry) (fun b hb=>JU (hF b hb) (hBa q).size)
        go_wp2_with (go_at_call 63;refine(hcall _).mono ?_)
        rintro e w6 ⟨A2,n2,c2,rfl,own2,hv2,b6'⟩;have G1:w6.heap[wr.heap.size]?=some (.cells #[.int .i64 x.1,.slice Ax nx cx,.bool x.2.2.1,.int .i64 x.2.2.2] 63 (0,0)):=Below.some b6' (ae _ rfl);have S6:wr.heap.size<w6.heap.size:=bh G1;replace hv2:∀b,aw (.slice A2 n2 c2) b→wr.heap.size<b∧b<w6.heap.size:=fun b hb=>by
          have:=hv2 b hb;simp at this;omega
        have b6:Below wr.heap.size wr w6:=aR (aU _ _) b6' (by simp);have H36:=(b6.block p (by omega)).trans H3r;have fg1:=IU G1 1;have cg1:=(aa G1).2.1;have G2:(w6.setCell ⟨wr.heap.size,1,none⟩ (.slice A2 n2 c2)).heap[wr.heap.size]?=some (.cells #[.int .i64 x.1,.slice A2 n2 c2,.bool x.2.2.1,.int .i64 x.2.2.2] 63 (0,0)):=heap_setCell_same _ _ 1 _ _ (.slice A2 n2 c2) G1;obtain⟨e0,e1,e2,e3⟩:=aa G2;have H37:(w6.setCell ⟨wr.heap.size,1,none⟩ (.slice A2 n2 c2)).heap[p]?=some (.cells #[.slice A1 n1 c1,.slice Vg Vn Vc,.int .i64 s.2.2.1,.int .i64 s.2.2.2] 33 (0,0)):=(heap_setCell_other _ _ _ _ (by simp;omega)).trans H36;have cp1:=(aa H37).2.1;have b8:Below wr.heap.size wr ((w6.setCell ⟨wr.heap.size,1,none⟩ (.slice A2 n2 c2)).alloc (.cells #[.int .i64 x.1,.slice A2 n2 c2,.bool x.2.2.1,.int .i64 x.2.2.2] 63)):=(b6.setCell (JA _) _).alloc (by simp [Jl];omega) _;have hF8:=hFr.keep (w':=(w6.setCell ⟨wr.heap.size,1,none⟩ (.slice A2 n2 c2)).alloc (.cells #[.int .i64 x.1,.slice A2 n2 c2,.bool x.2.2.1,.int .i64 x.2.2.2] 63)) fun b hb=>b8.block b (hFlt b hb).2
        have own8:=aI (w':=(w6.setCell ⟨wr.heap.size,1,none⟩ (.slice A2 n2 c2)).alloc (.cells #[.int .i64 x.1,.slice A2 n2 c2,.bool x.2.2.1,.int .i64 x.2.2.2] 63)) own2 fun b hb=>by
          have:=hv2 b hb;rw [fp _ (by simp [Jl];omega),heap_setCell_other _ _ _ _ (by simp;omega)]
        have hl8:(s.2.1.take i).length=i:=by rw [IY];omega
        have S8:W'.heap.size≤((w6.setCell ⟨wr.heap.size,1,none⟩ (.slice A2 n2 c2)).alloc (.cells #[.int .i64 x.1,.slice A2 n2 c2,.bool x.2.2.1,.int .i64 x.2.2.2] 63)).heap.size:=by simp [Jl];omega
        have H38:=af (.cells #[.int .i64 x.1,.slice A2 n2 c2,.bool x.2.2.1,.int .i64 x.2.2.2] 63) H37
        go_wp2_with (at_builtin;refine dL _ rfl _ _ 31 rfl W'.heap.size 63 i2 (.agg #[.int .i64 0,.slice none 0 0,.bool false,.int .i64 0]) 4 48 Try.underlying31 hi2 hx0 hx1 hx2 rfl (by decide) (.slice Vg Vn Vc) _ _ rfl hF8.own (some ⟨w6.heap.size,0,none⟩) 1 1 [.int .i64 x.1,.slice A2 n2 c2,.bool x.2.2.1,.int .i64 x.2.2.2] (by simp [go_sem]) rfl (fun _=>⟨_,_,rfl,ch (ae _ (by simp [Jl]))⟩) (by intro u hu;simp at hu;rcases hu with rfl | rfl | rfl | rfl<;>rfl) (by unfold maxLen;omega) (by omega) S8 ?_)
        intro v3 w9 hown9 hg9 hat9;have hF9:=cf (x:=x) (y:=.slice A2 n2 c2) hF8 S8 (by rw [hl8];exact hown9) hg9 (by simpa [Jl] using hat9) own8 (fun b hb=>⟨by have:=(hv2 b hb).1;omega,fun h=>by have:=(hv2 b hb).1;have:=(hFlt b h).2;omega⟩);rw [←htk] at hF9;have hX9:KeptX (fun b=>b=p) W' w9:=by
          have h1:Below W'.heap.size W' W':=Jx _ _;have h2:Below wr.heap.size wr w9∨True:=.inr trivial;refine⟨hg9.os.trans (b8.os.trans hX.os),hg9.tape.trans (b8.tape.trans hX.tape),hg9.output.trans (b8.output.trans hX.output),Jw S8 hg9.size,fun b hb hne=>?_⟩
          rw [hg9.block b (by omega) (fun e=>by have:=(hFlt b (.inl e.symm)).1;omega),b8.block b (by omega),hX.block b hb hne]
        have H39:=(hg9.block p (by omega) (fun e=>by have:=(hFlt p (.inl e.symm)).1;omega)).trans H38;have cq1:=(aa H39).2.1;have fq1:=IU H39 1;obtain⟨A3,n3,c3,rfl⟩:=au hF9.own;have H40:(w9.setCell ⟨p,1,none⟩ (.slice A3 n3 c3)).heap[p]?=some (.cells #[.slice A1 n1 c1,.slice A3 n3 c3,.int .i64 s.2.2.1,.int .i64 s.2.2.2] 33 (0,0)):=heap_setCell_same _ _ 1 _ _ (.slice A3 n3 c3) H39;have hF9lt:=hF9.lt;have hF10:=hF9.keep (w':=w9.setCell ⟨p,1,none⟩ (.slice A3 n3 c3)) fun b hb=>heap_setCell_other _ _ _ _ (by have:=(hF9lt b hb).1;simp;omega)
        go_wp2
        refine⟨⟨i+1,congrArg (Value.int .i64) (by omega),by omega,⟨_,_,_,_,H40,hF10⟩,hX9.set _ _ rfl⟩,?_⟩
        show s.2.1.length - ((i:Int)+1).toNat<s.2.1.length - (i:Int).toNat
        omega
      · have hpi:¬(i:Int)<(s.2.1.length:Int):=by omega
        have hie:i=s.2.1.length:=by omega
        subst hie;rw [List.take_length] at hFr;have K2:=(hX.block _ (by omega) (fun e=>hp2 e.symm)).trans H2';obtain⟨d0,d1,d2,d3⟩:=aa H3r;obtain⟨e0,e1,e2,e3⟩:=aa K2;have g0:=IU K2 0;have g1:=IU K2 1;have g2:=IU K2 2;have g3:=IU K2 3;have own9:=aI (w':=wr) own1 fun b hb=>hX.block b (bI own1 b hb) (hv1 b hb).2
        have hS1:ShopAt wr w.heap.size (.agg #[.slice A1 n1 c1,.slice Vg Vn Vc,.int .i64 s.2.2.1,.int .i64 s.2.2.2]) (.slice A1 n1 c1) (.slice Vg Vn Vc) ys s :=
          ⟨rfl,own9,fun b hb=>by have:=(hv1 b hb).1;omega,hFr.base (by omega),fun b hb h=>by have:=bI own1 b hb;have:=(hFlt b h).1;omega⟩
        have hL:∀b,ShS (.slice A1 n1 c1) (.slice Vg Vn Vc) ys b→w.heap.size+1<b:=fun b hb=>by
          rcases hb with hb | hb
          · exact(hv1 b hb).1
          · have:=(hFlt b hb).1
            omega
        go_wp2
        have H11:((((wr.setCell ⟨w.heap.size+1,0,none⟩ (.slice A1 n1 c1)).setCell ⟨w.heap.size+1,1,none⟩ (.slice Vg Vn Vc)).setCell ⟨w.heap.size+1,2,none⟩ (.int .i64 s.2.2.1)).setCell ⟨w.heap.size+1,3,none⟩ (.int .i64 s.2.2.2)).heap[w.heap.size+1]?=some (.cells #[.slice A1 n1 c1,.slice Vg Vn Vc,.int .i64 s.2.2.1,.int .i64 s.2.2.2] 33 (0,0)):=by
          rw [heap_setCell_same _ _ _ _ _ _ (heap_setCell_same _ _ _ _ _ _ (heap_setCell_same _ _ _ _ _ _ (heap_setCell_same _ _ _ _ _ _ K2)))];rfl
        obtain⟨d0,d1,d2,d3⟩:=aa H11;refine bodyPost_ret (by simp [results,Try.results39,go_sem,d0,d1,d2,d3];try rfl) rfl ?_
        refine⟨_,rfl,⟨_,_,ys,hS1.keep fun b hb=>?_⟩,(((hBw.setCell (by simp) _).setCell (by simp) _).setCell (by simp) _).setCell (by simp) _⟩
        have:=hL b hb;rw [heap_setCell_other _ _ _ _ (by simp;omega),heap_setCell_other _ _ _ _ (by simp;omega),heap_setCell_other _ _ _ _ (by simp;omega),heap_setCell_other _ _ _ _ (by simp;omega)]
  have H1d:=Below.some (ab W) H1;have H2d:=Below.some (ab W) H2;have B2d:Below w.heap.size w W.drew:=aR B2 (ab W) B2.size;have hBx:Hid (∀q,Below w.heap.size w (W.alloc q).drew):=fun q=>aR (B2.alloc B2.size q) (ab _) (by simp;omega)
  have hBy:Hid (∀q r,Below w.heap.size w ((W.alloc q).alloc r).drew):=fun q r=>aR ((B2.alloc B2.size q).alloc (by simp;omega) r) (ab _) (by simp;omega)
  obtain⟨a0,a1,a2,a3⟩:=aa H1d;have hWx:Hid (∀q,Below W.heap.size W (W.alloc q).drew):=fun q=>aR (aU W q) (ab _) (by simp)
  have hWy:Hid (∀q r,Below W.heap.size W ((W.alloc q).alloc r).drew):=fun q r=>aR ((aU W q).alloc (by simp) r) (ab _) (by simp;omega)
  have hmk:Hid (∀(W4:World) (v:Value),W4.ownsRow (w.heap.size+2) 85 4 v s.1.length us→aW W4 (fun _=>False) (aw v) 4 (bxs s.1) v):=fun W4 v h=>oH h (by simp) huw hus Fi
  clear hf hus2 hul2 huA2 hr hb hs hK H2 H2d a1 hus huw B2d B2
  go_region_held3 (fun w'=>w'.cell? ⟨w.heap.size,0,none⟩=some (.slice A s.1.length c)∧w'.cell? ⟨w.heap.size,2,none⟩=some (.int .i64 s.2.2.1)∧w'.cell? ⟨w.heap.size,3,none⟩=some (.int .i64 s.2.2.2)) (first | (refine⟨?_,?_,?_⟩<;>assumption) | (refine ET (x1:=.slice A' s.2.1.length c') (t:=33) ?_;first | with_reducible exact H14 | with_reducible exact af _ H14 | with_reducible exact tS _ _ _ _ (by omega) H14 | with_reducible exact tS _ _ _ _ (by omega) (af _ H14) | with_reducible exact na (af _ H1) | with_reducible exact na (af _ (af _ H1)) | with_reducible exact af _ (na H1) | with_reducible exact af _ (af _ (na H1))))
    (first
      | (refine ah _ rfl _ _ 30 rfl (w.heap.size+2) 85 i0 (.agg #[.string ⟨#[]⟩,.int .i64 0,.int .i64 0,.int .i64 0]) 4 40 Try.underlying30 hi0 hz0 hz1 hz2 rfl (by decide) (.slice (some ⟨W.heap.size,0,none⟩) 0 0) 0 [] (by simp [go_sem];done) (bQ (by first | exact ae _ rfl | exact af _ (ae _ rfl) | exact ae _ (by simp [Jb])) (by omega)) A s.1.length c us (by simp [go_sem]) hul (fun h0=>by
          obtain⟨g,o,e,hFg,h1⟩:=huA h0;exact⟨g,o,e,fun j u hj=>(Js (w:=w) ((hBx.out _).block g (hF g hFg))).trans (h1 j u hj)⟩) hu1 (by unfold maxLen;omega) (by omega) (by simp [Jb];omega) ?_
         intro v1 w4 hown1 hg1 hat1;obtain⟨A1,n1,c1,rfl⟩:=au hown1;have H14:w4.heap[w.heap.size]?=some (.cells #[.slice A s.1.length c,.slice A' s.2.1.length c',.int .i64 s.2.2.1,.int .i64 s.2.2.2] 33 (0,0)):=(hg1.block _ (by simp [Jb];omega) (by simp [Jy];omega)).trans (af _ H1);have hB14:Below W.heap.size W w4:=(hWx.out _).grown hg1 (by simp [Jb];try omega) (fun k hk=>by have:W.heap.size=k:=IP hk;omega))
      | (refine ah _ rfl _ _ 30 rfl (w.heap.size+2) 85 i0 (.agg #[.string ⟨#[]⟩,.int .i64 0,.int .i64 0,.int .i64 0]) 4 40 Try.underlying30 hi0 hz0 hz1 hz2 rfl (by decide) (.slice (some ⟨W.heap.size+1,0,none⟩) 0 0) 0 [] (by simp [go_sem];done) (bQ (by first | exact ae _ rfl | exact af _ (ae _ rfl) | exact ae _ (by simp [Jb])) (by omega)) A s.1.length c us (by simp [go_sem]) hul (fun h0=>by
          obtain⟨g,o,e,hFg,h1⟩:=huA h0;exact⟨g,o,e,fun j u hj=>(Js (w:=w) ((hBy.out _ _).block g (hF g hFg))).trans (h1 j u hj)⟩) hu1 (by unfold maxLen;omega) (by omega) (by simp [Jb];omega) ?_
         intro v1 w4 hown1 hg1 hat1;obtain⟨A1,n1,c1,rfl⟩:=au hown1;have H14:w4.heap[w.heap.size]?=some (.cells #[.slice A s.1.length c,.slice A' s.2.1.length c',.int .i64 s.2.2.1,.int .i64 s.2.2.2] 33 (0,0)):=(hg1.block _ (by simp [Jb];omega) (by simp [Jy];omega)).trans (af _ (af _ H1));have hB14:Below W.heap.size W w4:=(hWy.out _ _).grown hg1 (by simp [Jb];try omega) (fun k hk=>by have:W.heap.size+1=k:=IP hk;omega);have hz:w4.heap[W.heap.size]?=some (.cells #[.slice none 0 0,.slice none 0 0,.int .i64 0,.int .i64 0] 33 (0,0)):=(hg1.block _ (by simp [Jb];try omega) (by simp [Jy])).trans (af _ (ae _ rfl));obtain⟨q0,q1,q2,q3⟩:=aa hz;have r0:=IU hz 0;have r1:=IU hz 1;have r2:=IU hz 2;have r3:=IU hz 3)
      | (refine ah _ rfl _ _ 30 rfl (w.heap.size+2) 85 i0 (.agg #[.string ⟨#[]⟩,.int .i64 0,.int .i64 0,.int .i64 0]) 4 40 Try.underlying30 hi0 hz0 hz1 hz2 rfl (by decide) (.slice (some ⟨W.heap.size,0,none⟩) 0 0) 0 [] (by simp [go_sem];done) (bQ (by first | exact ae _ rfl | exact af _ (ae _ rfl) | exact ae _ (by simp [Jb])) (by omega)) A s.1.length c us (by simp [go_sem]) hul (fun h0=>by
          obtain⟨g,o,e,hFg,h1⟩:=huA h0;exact⟨g,o,e,fun j u hj=>(Js (w:=w) ((hBy.out _ _).block g (hF g hFg))).trans (h1 j u hj)⟩) hu1 (by unfold maxLen;omega) (by omega) (by simp [Jb];omega) ?_
         intro v1 w4 hown1 hg1 hat1;obtain⟨A1,n1,c1,rfl⟩:=au hown1;have H14:w4.heap[w.heap.size]?=some (.cells #[.slice A s.1.length c,.slice A' s.2.1.length c',.int .i64 s.2.2.1,.int .i64 s.2.2.2] 33 (0,0)):=(hg1.block _ (by simp [Jb];omega) (by simp [Jy];omega)).trans (af _ (af _ H1));have hB14:Below W.heap.size W w4:=(hWy.out _ _).grown hg1 (by simp [Jb];try omega) (fun k hk=>by have:W.heap.size=k:=IP hk;omega);have hz:w4.heap[W.heap.size+1]?=some (.cells #[.slice none 0 0,.slice none 0 0,.int .i64 0,.int .i64 0] 33 (0,0)):=(hg1.block _ (by simp [Jb];try omega) (by simp [Jy])).trans (ae _ (by simp [Jb]));obtain⟨q0,q1,q2,q3⟩:=aa hz;have r0:=IU hz 0;have r1:=IU hz 1;have r2:=IU hz 2;have r3:=IU hz 3))
  · show K _ _
    have own1:=hmk.out _ _ (by simpa using hown1);have hlt:=uw hown1;have hsz:=hB14.size;exact hrest.out _ _ _ _ _ _ _ _ _ w4.heap.size A1 n1 c1 _ (by omega) (ae _ rfl) (aI own1 fun b hb=>fp _ (bI own1 b hb)) (fun b hb=>by have:=hlt b hb;omega) (hB14.alloc hB14.size _)
  · show K _ _
    have own1:=hmk.out _ _ (by simpa using hown1);have hlt:=uw hown1;have hne:∀b,aw (.slice A1 n1 c1) b→W.heap.size+1≠b:=fun b hb=>by
      rcases hat1 with h | h
      · have h2:some b=some (W.heap.size):=hb.symm.trans h
        have:=IP h2;omega
      · have h2:=hb.symm.trans h
        simp [Jb] at h2;omega
    exact hrest.out _ _ _ _ _ _ _ _ _ (W.heap.size+1) A1 n1 c1 _ (by omega) (aE _ _ _ _ hz) (AS _ _ _ _ own1 hne) (fun b hb=>⟨by have:=hlt b hb;omega,fun e=>hne b hb e.symm⟩) (bj _ _ _ _ hB14 (by omega))
  · show K _ _
    have own1:=hmk.out _ _ (by simpa using hown1);have hlt:=uw hown1;have hne:∀b,aw (.slice A1 n1 c1) b→W.heap.size≠b:=fun b hb=>by
      rcases hat1 with h | h
      · have h2:some b=some (W.heap.size+1):=hb.symm.trans h
        have:=IP h2;omega
      · have h2:=hb.symm.trans h
        simp [Jb] at h2;omega
    exact hrest.out _ _ _ _ _ _ _ _ _ (W.heap.size) A1 n1 c1 _ (by omega) (aE _ _ _ _ hz) (AS _ _ _ _ own1 hne) (fun b hb=>⟨by have:=hlt b hb;omega,fun e=>hne b hb e.symm⟩) (bj _ _ _ _ hB14 (by omega))
theorem aX {w:World} {base:Nat} {e:TypeId} {z n:Nat} {v:Value} {us:List Value} (h:w.ownsRow base e z v n us):∃A c,v = .slice A n c:=by
 obtain⟨_,⟨rfl,rfl⟩ | ⟨g,cap,cur,rfl,_⟩⟩:=h
 ·exact⟨_,_,rfl⟩
 ·exact⟨_,_,rfl⟩
theorem dh {w:World} {base:Nat} {e:TypeId} {z n c:Nat} {A:Option Addr} {us:List Value} (h:w.ownsRow base e z (.slice A n c) n us) (hn:0<n):∃g,A=some ⟨g,0,none⟩:=by
 obtain⟨_,⟨e,rfl⟩ | ⟨g,cap,cur,e,_⟩⟩:=h
 ·omega
 ·cases e
  exact⟨g,rfl⟩
abbrev stV (x:Stp):Value:=.agg #[.int .i64 x.1,.int .i64 x.2.1,.string x.2.2.1,.int .i64 x.2.2.2]
theorem CP (w:World) (F:Nat→Prop) (x:Stp):aM w F (stp x) (stV x):=by
 refine⟨[_,_,_,_],rfl,?_⟩
 simp only [RepC,aC,aQ];exact⟨⟨[_],[_,_,_],rfl,⟨rfl,rfl⟩,[_],[_,_],rfl,⟨rfl,rfl⟩,[_],[_],rfl,⟨rfl,rfl⟩,[_],[],rfl,⟨rfl,rfl⟩,rfl⟩,rfl⟩
theorem yU (l:List Bx) (u:ByteArray) (hg:bH l=true) (hl:l.length≤1048576) (hu:u.size≤1000) {w:World} {F:Nat→Prop} {y:Value} (hr:aM w F (bxs l) y) (hF:∀b,F b→b<w.heap.size) :
  Calls Try.prog 86 #[y,.string u] w (Db w 1 (txs (cH l u)) (.bool (uS l u))) :=
 jl (ds:=[bxs l,T u]) (F:=F) (IW Try.func86 (by kernel_rfl) rfl) ur (uu l (ij hg) hl u hu (ro hg u)) (by simp)
  (show cE w F _ (.dat 2) (bxs l) y∧cE w _ _ (.dat 0) (T u) (.string u)∧True from⟨.inr hr,.inr (ek.2 ⟨rfl,rfl⟩),trivial⟩) hF
theorem yX (l:List Bx) (u:ByteArray) (hg:bH l=true) (hl:l.length≤1048576) (hu:u.size≤1000) {w:World} {F:Nat→Prop} {y:Value} (hr:aM w F (bxs l) y) (hF:∀b,F b→b<w.heap.size) :
  Calls Try.prog 91 #[y,.string u] w (Db w 1 (txs (cH l u)) (.bool (uS l u))) :=
 jl (ds:=[bxs l,T u]) (F:=F) (IW Try.func91 (by kernel_rfl) rfl) uQ (vu l (ij hg) hl u hu (ro hg u)) (by simp)
  (show cE w F _ (.dat 2) (bxs l) y∧cE w _ _ (.dat 0) (T u) (.string u)∧True from⟨.inr hr,.inr (ek.2 ⟨rfl,rfl⟩),trivial⟩) hF
theorem zW {f:Nat} {pm:List Kd} {ff:List D→Option Out} {ds:List D} {a b:Value} {args:Array Value} (he:∀args w,(callFunc f args).run Try.prog w = .ok (.enter f args) w) (hm:aF gl0 Try.prog f {pm:=pm,rm:=[.dat 0,.dat 0],f:=ff}) (hd:ff ds=some (.ret [.v a,.v b] [])) {w:World} {F:Nat→Prop}
  (ha:dP w F (fun _=>none) 0 pm ds args.toList) (hF:∀b,F b→b<w.heap.size):Calls Try.prog f args w fun e w'=>e = .returned (.tuple #[a,b])∧Below w.heap.size w w':=by
 refine(cW (ow:=fun _=>none) (F:=F) (ds:=ds) (rs:=[.v a,.v b]) (us:=[]) (args:=args) he hm hd gw ha (fun b hb=>⟨hF b hb,rfl⟩) (fun b i h=>by cases h)).mono ?_
 rintro e w' ⟨v,rfl,F',R,vs,rfl,hp⟩;have hl:=hp.len;obtain⟨u,u2,rfl⟩:=Cy (hl.trans rfl);have h0:=hp.res 0;have h1:=hp.res 1;rcases h0 with h0 | h0
 ·cases h0
 rcases h1 with h1 | h1
 ·cases h1
 obtain⟨hu,_⟩:=ek.1 h0;obtain⟨hu2,_⟩:=ek.1 h1;have hu':u=a:=hu;have hu2':u2=b:=hu2;subst hu' hu2';exact⟨rfl,hp.os,hp.tape,hp.output,hp.size,fun b hb=>hp.keep b hb rfl⟩
theorem pF (s:Sp) (n:Int) (h:cr s) {w:World} {F:Nat→Prop} {y:Value} (hr:aM w F (sp s) y) (hF:∀b,F b→b<w.heap.size) :
  Calls Try.prog 72 #[y,.int .i64 n] w fun e w'=>e = .returned (.tuple #[.int .i64 (atF s.2.1 n:Int),.bool (eU s.2.1 n)])∧Below w.heap.size w w' :=
 zW (ds:=[sp s,I n]) (F:=F) (IW Try.func72 (by kernel_rfl) rfl) nr (uE s n h)
  (show cE w F _ (.dat 2) (sp s) y∧cE w _ _ (.dat 0) (I n) (.int .i64 n)∧True from⟨.inr hr,.inr (ek.2 ⟨rfl,rfl⟩),trivial⟩) hF
theorem ig (s:Sp) (n:Int) (h:cr s) (hok:aT s=true) {w:World} {F:Nat→Prop} {y:Value} (hr:aM w F (sp s) y) (hF:∀b,F b→b<w.heap.size) :
  Calls Try.prog 84 #[y,.int .i64 n] w fun e w'=>e = .returned (.int .i64 (if eU s.2.1 n=true then(atF s.2.1 n:Int) else -1))∧Below w.heap.size w w' :=
 jd (IW Try.func84 (by kernel_rfl) rfl) nJ (mx s n h hok) hr hF
theorem tf (x:Stp) (h:x.2.2.1.size≤9223372036854775807) {w:World} :
  Calls Try.prog 46 #[stV x] w fun e w'=>e = .returned (.bool (cM x))∧Below w.heap.size w w' :=
 ic (F:=fun _=>False) (ds:=[stp x]) (IW Try.func46 (by kernel_rfl) rfl) pW ex rfl (pY x h) rfl gw (show cE w _ _ (.dat 0) (stp x) (stV x)∧True from⟨.inr (CP _ _ x),trivial⟩) (fun b h=>h.elim)
theorem zF (x:Stp) (h:x.2.2.1.size≤9223372036854775807) {w:World} :
  Calls Try.prog 67 #[stV x] w fun e w'=>e = .returned (.bool (cM x))∧Below w.heap.size w w' :=
 ic (F:=fun _=>False) (ds:=[stp x]) (IW Try.func67 (by kernel_rfl) rfl) wZ gW rfl (wi x h) rfl gw (show cE w _ _ (.dat 0) (stp x) (stV x)∧True from⟨.inr (CP _ _ x),trivial⟩) (fun b h=>h.elim)
def jg (w:World) (p B:Nat) (s:Sp):Prop:=∃A n c A' n' c' ys,w.heap[p]?=some (.cells #[.slice A n c,.slice A' n' c',.int .i64 s.2.2.1,.int .i64 s.2.2.2] 33 (0,0)) ∧
 ShopAt w B (.agg #[.slice A n c,.slice A' n' c',.int .i64 s.2.2.1,.int .i64 s.2.2.2]) (.slice A n c) (.slice A' n' c') ys s∧¬ShS (.slice A n c) (.slice A' n' c') ys p
theorem jg.below {w w':World} {p B:Nat} {s:Sp} (h:jg w p B s) (hB:Below w.heap.size w w'):jg w' p B s:=by
 obtain⟨A,n,c,A',n',c',ys,h1,h2,h3⟩:=h;exact⟨A,n,c,A',n',c',ys,Below.some hB h1,h2.below hB,h3⟩
theorem BH {w:World} {B g cap n:Nat} {l:List Fm} {ys:List Value} (h:FmsAt w B (.slice (some ⟨g,0,none⟩) n cap) ys l) {i:Nat} (hi:i≤l.length):FmsAt w B (.slice (some ⟨g,0,none⟩) i cap) (ys.take i) (l.take i):=by
 have hl:=h.len;refine⟨by simp [hl],?_,fun j x y hj hy=>?_,fun j y b hy hb=>?_,fun j k y z hjk hj hk=>?_⟩
 ·obtain⟨h1,⟨hn,_⟩ | ⟨g',cap',cur,e,h3,h4,h5,h6,h7,h8⟩⟩:=h.own
  ·cases hn
  ·cases e
   have hr:aV (l.take i) (ys.take i)=(aV l ys).take (i*4):=by
    have e1:=kM (l.take i) (l.drop i) (ys.take i) (ys.drop i) (by simp [hl]);rw [Jf,Jf] at e1;rw [e1,List.take_left' (by rw [bB _ _ (by simp [hl]),IY];omega)]
   refine⟨by rw [bB _ _ (by simp [hl])],.inr ⟨g,cap,cur,by rw [IY,JL hi],h3,h4,by rw [IY];omega,h6,h7,?_⟩⟩
   rw [hr,←h8,List.take_take,IY];congr 1
   omega
 ·have hj':j<i:=by
   have:=(Ja.1 hj).1;rw [IY] at this;omega
  rw [Jg,if_pos hj'] at hj hy;exact h.row j x y hj hy
 ·have hj':j<i:=by
   have:=(Ja.1 hy).1;rw [IY] at this;omega
  rw [Jg,if_pos hj'] at hy;exact h.blk j y b hy hb
 ·have hj':j<i:=by
   have:=(Ja.1 hj).1;rw [IY] at this;omega
  have hk':k<i:=by
   have:=(Ja.1 hk).1;rw [IY] at this;omega
  rw [Jg,if_pos hj'] at hj;rw [Jg,if_pos hk'] at hk;exact h.dis j k y z hjk hj hk
theorem fN {w:World} {B g cap n:Nat} {l:List Fm} {ys:List Value} (h:FmsAt w B (.slice (some ⟨g,0,none⟩) n cap) ys l) (i:Nat) (hi:i≤l.length):∀(j:Nat) (u:Value),(aV (l.drop i) (ys.drop i))[j]?=some u→w.cell? ⟨g,i*4+j,none⟩=some u:=by
 intro j u hj;have hl:=h.len;have e1:=kM (l.take i) (l.drop i) (ys.take i) (ys.drop i) (by simp [hl]);rw [Jf,Jf] at e1;have h2:=(bB (l.take i) (ys.take i) (by simp [hl]))
 rw [IY,JL hi] at h2;have h3:(aV l ys)[i*4+j]?=some u:=by rw [e1,List.getElem?_append_right (by omega),h2,Nat.add_sub_cancel_left];exact hj
 obtain⟨e,he⟩:∃e,n=l.length∨e=0:=⟨0,.inr rfl⟩
 have ho:=h.own;obtain⟨_,⟨hn,_⟩ | ⟨g',cap',cur,e',_⟩⟩:=h.own
 ·cases hn
 ·cases e'
  exact ax ho h3
theorem cR {w:World} {B:Nat} {V:Value} {l:List Fm} {ys:List Value} (h:FmsAt w B V ys l):∀y∈ys,∃A n c,y = .slice A n c:=fun y hy=>by
 obtain⟨i,hi⟩:=JP.1 hy;have hl:i<l.length:=by rw [←h.len];exact(Ja.1 hi).1
 exact aY (h.row i l[i] y (by simp) hi)
theorem gK:∀(l:List Fm) (ys:List Value) (i:Nat) (x x':Fm) (y y' v:Value) (k:Nat),k<4→l[i]?=some x→ys[i]?=some y→dn x' y'=(dn x y).set k v→aV (l.set i x') (ys.set i y')=(aV l ys).set (i*4+k) v
 | a::l,b::ys,0,x,x',y,y',v,k,hk,h1,h2,h3=>by
  cases h1;cases h2;simp only [List.set_cons_zero,aV,h3,Nat.zero_mul,JT];rw [List.set_append_left _ _ (by simpa [dn] using hk)]
 | a::l,b::ys,i+1,x,x',y,y',v,k,hk,h1,h2,h3=>by
  have ih:=gK l ys i x x' y y' v k hk h1 h2 h3;simp only [List.set_cons_succ,aV,ih];rw [List.set_append_right _ _ (by simp [dn];omega)];congr 2
  simp [dn];omega
 | [],_,_,_,_,_,_,_,_,_,h1,_,_=>by simp at h1
 | _::_,[],_,_,_,_,_,_,_,_,_,h2,_=>by simp at h2
theorem kI {w w':World} {B g cap:Nat} {l:List Fm} {ys:List Value} (h:FmsAt w B (.slice (some ⟨g,0,none⟩) l.length cap) ys l) {i:Nat} (hi:i<l.length) {x:Fm} {y:Value} (hy:aW w' (fun _=>False) (aw y) 1 (txs x.2.1) y)
  (hb:∀b,aw y b→B≤b∧b≠g) (hd:∀j z,j≠i→ys[j]?=some z→y.ownBlock=none∨y.ownBlock≠z.ownBlock) (hw:∀j z b,j≠i→ys[j]?=some z→aw z b→w'.heap[b]?=w.heap[b]?)
  (ho:w'.ownsRow B 63 4 (.slice (some ⟨g,0,none⟩) l.length cap) l.length (aV (l.set i x) (ys.set i y))):FmsAt w' B (.slice (some ⟨g,0,none⟩) l.length cap) (ys.set i y) (l.set i x):=by
 refine⟨by simp [h.len],by rw [List.length_set];exact ho,fun j x' y' hj hyj=>?_,fun j y' b hyj hb'=>?_,fun j k y' z' hjk hj hk=>?_⟩
 ·by_cases e:j=i
  ·subst e
   rw [Jd hi] at hj;rw [Jd (by rw [h.len];exact hi)] at hyj;obtain rfl:=IP hj;obtain rfl:=IP hyj;exact hy
  ·rw [Jj (fun h=>e h.symm)] at hj hyj
   exact aI (h.row j x' y' hj hyj) fun b hb1=>hw j y' b e hyj hb1
 ·by_cases e:j=i
  ·subst e
   rw [Jd (by rw [h.len];exact hi)] at hyj;obtain rfl:=IP hyj;exact⟨(hb b hb').1,fun h1=>(hb b hb').2 (IP h1).symm⟩
  ·rw [Jj (fun h=>e h.symm)] at hyj
   exact h.blk j y' b hyj hb'
 ·by_cases e:j=i
  ·subst e
   rw [Jd (by rw [h.len];exact hi)] at hj;obtain rfl:=IP hj;rw [Jj hjk] at hk;exact hd k z' (fun h=>hjk h.symm) hk
  ·rw [Jj (fun h=>e h.symm)] at hj
   by_cases e2:k=i
   ·subst e2
    rw [Jd (by rw [h.len];exact hi)] at hk;obtain rfl:=IP hk;rcases hd j y' e hj with h1 | h1
    ·rw [h1]
     cases y'.ownBlock<;>simp
    ·exact .inr fun h2=>h1 h2.symm
   ·rw [Jj (fun h=>e2 h.symm)] at hk
    exact h.dis j k y' z' hjk hj hk
theorem ct {w:World} {B g cap:Nat} {l:List Fm} {ys:List Value} (h:FmsAt w B (.slice (some ⟨g,0,none⟩) l.length cap) ys l) {i:Nat} (hi:i<l.length) {y:Value} (hy:ys[i]?=some y) {x':Fm} {k:Nat} {v:Value} (hk:k<4) (hx:x'.2.1=l[i].2.1) (hc:dn x' y=(dn l[i] y).set k v) :
  FmsAt (w.setCell ⟨g,i*4+k,none⟩ v) B (.slice (some ⟨g,0,none⟩) l.length cap) ys (l.set i x'):=by
 have hx1:l[i]?=some l[i]:=IM hi;have hys:ys.set i y=ys:=by
  apply List.ext_getElem?;intro j;by_cases e:i=j
  ·subst e
   rw [Jd (by rw [h.len];exact hi),hy]
  ·rw [Jj e]
 have hw:∀b,b≠g→(w.setCell ⟨g,i*4+k,none⟩ v).heap[b]?=w.heap[b]?:=fun b hb=>heap_setCell_other _ _ _ _ (by simpa using hb)
 have hg:∀(j:Nat) (z:Value) (b:Nat),ys[j]?=some z→aw z b→b≠g:=fun j z b hj hb e=>(h.blk j z b hj hb).2 (by rw [e];rfl)
 have:=kI (w':=w.setCell ⟨g,i*4+k,none⟩ v) (x:=x') (y:=y) h hi (by rw [hx];exact aI (h.row i _ y hx1 hy) fun b hb=>hw b (hg i y b hy hb)) (fun b hb=>⟨(h.blk i y b hy hb).1,hg i y b hy hb⟩)
  (fun j z hj hz=>h.dis i j y z (fun e=>hj e.symm) hy hz) (fun j z b hj hz hb=>hw b (hg j z b hz hb))
  (by rw [gK l ys i l[i] x' y y v k hk hx1 hy hc];exact bO h.own rfl _ _)
 rwa [hys] at this
theorem cn {w:World} {F own:Nat→Prop} {z:Nat} {l:List D} {y:Value} (h:aW w F own z (.arr z l) y):∃A c,y = .slice A l.length c:=by
 obtain⟨l',e,_,h3⟩:=h;cases e;rcases h3 with ⟨rfl,rfl⟩ | ⟨g,o,c,us,cs,e,h4,_⟩
 ·exact⟨_,_,rfl⟩
 ·exact⟨_,_,h4⟩
theorem sb {s:Sp} (h:aT s=true) : -1000000≤s.2.2.2∧s.2.2.2≤1000000:=by
 have h1:0≤qs s.2.1:=by
  obtain⟨hf,_⟩:=bw h;have key:∀(l:List Fm) (a:Int),(∀x∈l,0≤x.2.2.2)→a≤l.foldl (fun a x=>a+x.2.2.2) a:=by
   intro l;induction l with
   | nil=>intro a _;exact Int.le_refl _
   | cons x l ih =>
    intro a hx;have h2:=ih (a+x.2.2.2) fun y hy=>hx y (by simp [hy])
    have h3:=hx x (by simp);simp only [List.foldl_cons];omega
  refine key s.2.1 0 fun x hx=>?_
  obtain⟨j,hj,rfl⟩:=JS hx;exact(bK (hf j hj)).1
 unfold aT at h;simp only [IX,decide_eq_true_eq] at h;omega
def oD (w:World) (p B:Nat) (a:Bool) (t:Sp) (e:Ending) (w':World):Prop:=∃ok:Bool,e = .returned (.bool ok)∧(ok=true→a=true∧jg w' p B t)∧(ok=false→(a&&aT t)=false)∧Below B w w'
theorem BB {s:Sp} {i:Nat} {f:Fm} (hi:i<s.2.1.length) (h0:f.2.1.length=0) (hl:f.2.2.1=true) (a b:Int) (m:List Bx):aT (m,s.2.1.set i f,a,b)=false:=by
 cases h:aT (m,s.2.1.set i f,a,b)
 ·rfl
 ·obtain⟨h1,_⟩:=bw h
  have h2:=h1 i (by simpa using hi);simp only [List.getElem_set_self] at h2;unfold fJ at h2;simp [hl,h0] at h2
theorem kS {w w':World} {p B:Nat} {A A' A2:Option Addr} {bn c n' c' n2 c2:Nat} {v:Value} {ys ys':List Value} {l':List Fm} {x y:Int} {s:Sp} (hpl:p<w.heap.size) (hS:ShopAt w B v (.slice A bn c) (.slice A' n' c') ys s) (hnp:¬ShS (.slice A bn c) (.slice A' n' c') ys p)
  (hp':w'.heap[p]?=some (.cells #[.slice A bn c,.slice A2 n2 c2,.int .i64 x,.int .i64 y] 33 (0,0))) (hb:∀b,aw (.slice A bn c) b→w'.heap[b]?=w.heap[b]?) (hF':FmsAt w' B (.slice A2 n2 c2) ys' l') (hfo:∀b,FmS (.slice A2 n2 c2) ys' b→FmS (.slice A' n' c') ys b∨w.heap.size≤b):jg w' p B (s.1,l',x,y) :=
 ⟨_,_,_,_,_,_,ys',hp',⟨rfl,aI hS.box hb,hS.bge,hF',fun b hb h=>(hfo b h).elim (hS.dis b hb) fun h=>by have:=bI hS.box b hb;omega⟩,fun h=>h.elim (fun h=>hnp (.inl h)) fun h=>(hfo p h).elim (fun h=>hnp (.inr h)) fun h=>by omega⟩
theorem zH {w:World} {own:Nat→Prop} {z:Nat} {l:List D} {A:Option Addr} {n c:Nat} (h:aW w (fun _=>False) own z (.arr z l) (.slice A n c)) {i:Nat} (hi:i≤l.length) (h0:0<l.length):aW w (fun _=>False) own z (.arr z (l.take i)) (.slice A i c):=by
 obtain⟨l',e,hw,h3⟩:=h;cases e;refine⟨_,rfl,fun d hd=>hw d (JC hd),?_⟩
 rcases h3 with ⟨_,rfl⟩ | ⟨g,o,c,us,cs,e,h4,h5,h6,h7,h8,h9,h10⟩
 ·simp at h0
 ·cases h4
  refine .inr ⟨g,o,_,us.take (i*z),cs,e,by rw [IY,JL hi],by rw [IY];omega,h6,h7,(gE l us h8 hw i).1,fun j u hj=>?_,h10⟩
  rw [Jg] at hj;split at hj
  ·exact h9 j u hj
  ·cases hj
theorem zA {w:World} {own:Nat→Prop} {z:Nat} {l:List D} {A:Option Addr} {n c:Nat} (h:aW w (fun _=>False) own z (.arr z l) (.slice A n c)) (h0:0<l.length):∃g o,A=some ⟨g,o,none⟩∧n=l.length∧l.length≤c:=by
 obtain⟨l',e,hw,h3⟩:=h;cases e;rcases h3 with ⟨_,rfl⟩ | ⟨g,o,c,us,cs,e,h4,h5,_⟩
 ·simp at h0
 ·cases h4
  exact⟨g,o,rfl,rfl,h5⟩
set_option maxHeartbeats 8000000 in
set_option maxRecDepth 1000000 in
theorem Fz (s:Sp) (hs:cr s) (hok:aT s=true) (i:Nat) (hi:i<s.2.1.length) (id:Int) (u:ByteArray) (n:Int) (hx:cM (2,id,u,n)=true) (w:World) (p B:Nat) (hbox:jg w p B s) (hpB:B≤p) :
  Calls Try.prog 73 #[.pointer (some ⟨p,0,none⟩),.int .i64 i,stV (2,id,u,n)] w (oD w p B (cG s i (2,id,u,n)) (eX s i (2,id,u,n))):=by
 obtain⟨hfm,hgc,_,hlost⟩:=bw hok;have hfi:=hfm i hi;obtain⟨A,bn,c,A',n',c',ys,hp0,hS0,hnp⟩:=hbox;obtain⟨fA,fc,efs⟩:=aX hS0.fms.own;cases efs;obtain⟨g,rfl⟩:=dh hS0.fms.own (by omega);have hpl:=bh hp0;have hgl:=(hS0.lt g (.inr (.inl rfl))).2;have hgB:=(hS0.lt g (.inr (.inl rfl))).1;have hgp:g≠p:=fun e=>hnp (.inr (.inl (by rw [e];rfl)))
 have hW:=aU w (.cells #[.int .i64 2,.int .i64 id,.string u,.int .i64 n] 46);have hBW:Below B w (w.alloc (.cells #[.int .i64 2,.int .i64 id,.string u,.int .i64 n] 46)):=(Jx _ w).alloc (by omega) _;have hp:=Below.some hW hp0;have hS:=hS0.below hW;have hF:=hS.fms;have hq:(w.alloc (.cells #[.int .i64 2,.int .i64 id,.string u,.int .i64 n] 46)).heap[w.heap.size]?=some (.cells #[.int .i64 2,.int .i64 id,.string u,.int .i64 n] 46 (0,0)):=ae _ rfl;obtain⟨y,hy⟩:∃y,ys[i]?=some y:=⟨ys[i]'(by rw [hF.len];exact hi),IM _⟩
 have hgx:s.2.1[i]?=some s.2.1[i]:=IM hi;have hrow:=hF.row i _ y hgx hy;obtain⟨Ay,cy,rfl⟩:=cn hrow;rw [Jc] at hy hrow;have k1:=ax hF.own (j:=i*4+1) (u:=.slice Ay s.2.1[i].2.1.length cy) (by rw [aD _ _ i s.2.1[i] _ hgx hy 1 (by omega)];rfl);have k2:=ax hF.own (j:=i*4+2) (u:=.bool s.2.1[i].2.2.1) (by rw [aD _ _ i s.2.1[i] _ hgx hy 2 (by omega)];rfl);have k3:=ax hF.own (j:=i*4+3) (u:=.int .i64 s.2.1[i].2.2.2) (by rw [aD _ _ i s.2.1[i] _ hgx hy 3 (by omega)];rfl);have z1:=aP hF.own (i*4+1);have z2:=aP hF.own (i*4+2);have z3:=aP hF.own (i*4+3);have haS:eX s i (2,id,u,n)=(s.1,s.2.1.set i (s.2.1[i].1,s.2.1[i].2.1,true,s.2.1[i].2.2.2),s.2.2.1,s.2.2.2):=by
  unfold eX;rw [hgx];simp
 have haO:cG s i (2,id,u,n)=(!s.2.1[i].2.2.1):=by
  unfold cG;rw [hgx];simp
 rw [haS,haO];have hcel:=fun(k:Nat) (v:Value) (x':Fm) hk hx hc=>ct hF hi hy (x':=x') (k:=k) (v:=v) hk hx hc
 have hpi:(i:Int)<(s.2.1.length:Int):=by omega
 have hset:=dD hfi;have hprt:=bK hfi;obtain⟨m0,m1,m2,m3⟩:=aa hp;obtain⟨n0,n1,n2,n3⟩:=aH hp;obtain⟨q0,q1,q2,q3⟩:=aa hq;obtain⟨f,hf⟩:∃f,f=s.2.1[i]:=⟨_,rfl⟩
 rw [←hf] at hfi hgx hrow hy k1 k2 k3 hset hprt hcel ⊢;have hwy:∀b,aw (.slice Ay f.2.1.length cy) b→b≠g:=fun b hb e=>(hF.blk i _ b hy hb).2 (by rw [e];rfl)
 have hWs:w.heap.size<(w.alloc (.cells #[.int .i64 2,.int .i64 id,.string u,.int .i64 n] 46)).heap.size:=by simp
 clear haS haO hf
 go_enter Try.func73,Try.ntmps73
 go_upto_region 1 with fail
 generalize (w.alloc (.cells #[.int .i64 2,.int .i64 id,.string u,.int .i64 n] 46))=W at *;cases hb:f.2.2.1
 ·rw [hb] at k2
  have hp2:(W.setCell ⟨g,i*4+2,none⟩ (.bool true)).heap[p]?=some (.cells #[.slice A bn c,.slice (some ⟨g,0,none⟩) s.2.1.length c',.int .i64 s.2.2.1,.int .i64 s.2.2.2] 33 (0,0)):=(heap_setCell_other _ _ _ _ (by simpa using fun e=>hgp e.symm)).trans hp;have hF2:=hcel 2 (.bool true) (f.1,f.2.1,true,f.2.2.2) (by omega) rfl rfl;have hbx:=kS (s:=s) (x:=s.2.2.1) (y:=s.2.2.2) (by omega) hS hnp hp2 (fun b hb=>heap_setCell_other _ _ _ _ (by
   have:=hS.dis b hb;simp;exact fun e=>this (.inl (by rw [e];rfl)))) hF2 (fun b hb=>.inl hb)
  have hBe:Below B w (W.setCell ⟨g,i*4+2,none⟩ (.bool true)):=hBW.setCell hgB _;by_cases hm:0<f.2.1.length
  ·go_wp2
   go_ret
   exact⟨true,rfl,fun _=>⟨by simp [hb],hbx⟩,(fun h=>by cases h),hBe⟩
  ·go_wp2
   go_ret
   refine⟨false,rfl,(fun h=>by cases h),fun _=>?_,hBe⟩
   rw [BB hi (f:=(f.1,f.2.1,true,f.2.2.2)) (by show f.2.1.length=0;omega) rfl];simp
 ·rw [hb] at k2
  have hp2:(W.setCell ⟨g,i*4+2,none⟩ (.bool true)).heap[p]?=some (.cells #[.slice A bn c,.slice (some ⟨g,0,none⟩) s.2.1.length c',.int .i64 s.2.2.1,.int .i64 s.2.2.2] 33 (0,0)):=(heap_setCell_other _ _ _ _ (by simpa using fun e=>hgp e.symm)).trans hp;have hF2:=hcel 2 (.bool true) (f.1,f.2.1,true,f.2.2.2) (by omega) rfl rfl;have hbx:=kS (s:=s) (x:=s.2.2.1) (y:=s.2.2.2) (by omega) hS hnp hp2 (fun b hb=>heap_setCell_other _ _ _ _ (by
   have:=hS.dis b hb;simp;exact fun e=>this (.inl (by rw [e];rfl)))) hF2 (fun b hb=>.inl hb)
  have hBe:Below B w (W.setCell ⟨g,i*4+2,none⟩ (.bool true)):=hBW.setCell hgB _
  go_wp2
  go_ret
  exact⟨false,rfl,(fun h=>by cases h),(fun _=>by simp [hb]),hBe⟩
set_option maxHeartbeats 8000000 in
set_option maxRecDepth 1000000 in
theorem EW (s:Sp) (hs:cr s) (hok:aT s=true) (i:Nat) (hi:i<s.2.1.length) (id:Int) (u:ByteArray) (n:Int) (hx:cM (4,id,u,n)=true) (w:World) (p B:Nat) (hbox:jg w p B s) (hpB:B≤p) :
  Calls Try.prog 73 #[.pointer (some ⟨p,0,none⟩),.int .i64 i,stV (4,id,u,n)] w (oD w p B (cG s i (4,id,u,n)) (eX s i (4,id,u,n))):=by
 obtain⟨hfm,hgc,_,hlost⟩:=bw hok;have hfi:=hfm i hi;obtain⟨A,bn,c,A',n',c',ys,hp0,hS0,hnp⟩:=hbox;obtain⟨fA,fc,efs⟩:=aX hS0.fms.own;cases efs;obtain⟨g,rfl⟩:=dh hS0.fms.own (by omega);have hpl:=bh hp0;have hgl:=(hS0.lt g (.inr (.inl rfl))).2;have hgB:=(hS0.lt g (.inr (.inl rfl))).1;have hgp:g≠p:=fun e=>hnp (.inr (.inl (by rw [e];rfl)))
 have hW:=aU w (.cells #[.int .i64 4,.int .i64 id,.string u,.int .i64 n] 46);have hBW:Below B w (w.alloc (.cells #[.int .i64 4,.int .i64 id,.string u,.int .i64 n] 46)):=(Jx _ w).alloc (by omega) _;have hp:=Below.some hW hp0;have hS:=hS0.below hW;have hF:=hS.fms;have hq:(w.alloc (.cells #[.int .i64 4,.int .i64 id,.string u,.int .i64 n] 46)).heap[w.heap.size]?=some (.cells #[.int .i64 4,.int .i64 id,.string u,.int .i64 n] 46 (0,0)):=ae _ rfl;obtain⟨y,hy⟩:∃y,ys[i]?=some y:=⟨ys[i]'(by rw [hF.len];exact hi),IM _⟩
 have hgx:s.2.1[i]?=some s.2.1[i]:=IM hi;have hrow:=hF.row i _ y hgx hy;obtain⟨Ay,cy,rfl⟩:=cn hrow;rw [Jc] at hy hrow;have k1:=ax hF.own (j:=i*4+1) (u:=.slice Ay s.2.1[i].2.1.length cy) (by rw [aD _ _ i s.2.1[i] _ hgx hy 1 (by omega)];rfl);have k2:=ax hF.own (j:=i*4+2) (u:=.bool s.2.1[i].2.2.1) (by rw [aD _ _ i s.2.1[i] _ hgx hy 2 (by omega)];rfl);have k3:=ax hF.own (j:=i*4+3) (u:=.int .i64 s.2.1[i].2.2.2) (by rw [aD _ _ i s.2.1[i] _ hgx hy 3 (by omega)];rfl);have z1:=aP hF.own (i*4+1);have z2:=aP hF.own (i*4+2);have z3:=aP hF.own (i*4+3);have haS:eX s i (4,id,u,n)=(s.1,s.2.1.set i (s.2.1[i].1,s.2.1[i].2.1,false,s.2.1[i].2.2.2),s.2.2.1,s.2.2.2):=by
  unfold eX;rw [hgx];simp
 have haO:cG s i (4,id,u,n)=s.2.1[i].2.2.1:=by
  unfold cG;rw [hgx];simp
 rw [haS,haO];have hcel:=fun(k:Nat) (v:Value) (x':Fm) hk hx hc=>ct hF hi hy (x':=x') (k:=k) (v:=v) hk hx hc
 have hpi:(i:Int)<(s.2.1.length:Int):=by omega
 have hset:=dD hfi;have hprt:=bK hfi;obtain⟨m0,m1,m2,m3⟩:=aa hp;obtain⟨n0,n1,n2,n3⟩:=aH hp;obtain⟨q0,q1,q2,q3⟩:=aa hq;obtain⟨f,hf⟩:∃f,f=s.2.1[i]:=⟨_,rfl⟩
 rw [←hf] at hfi hgx hrow hy k1 k2 k3 hset hprt hcel ⊢;have hwy:∀b,aw (.slice Ay f.2.1.length cy) b→b≠g:=fun b hb e=>(hF.blk i _ b hy hb).2 (by rw [e];rfl)
 have hWs:w.heap.size<(w.alloc (.cells #[.int .i64 4,.int .i64 id,.string u,.int .i64 n] 46)).heap.size:=by simp
 clear haS haO hf
 go_enter Try.func73,Try.ntmps73
 go_upto_region 1 with fail
 generalize (w.alloc (.cells #[.int .i64 4,.int .i64 id,.string u,.int .i64 n] 46))=W at *;cases hb:f.2.2.1
 ·rw [hb] at k2
  have hp2:(W.setCell ⟨g,i*4+2,none⟩ (.bool false)).heap[p]?=some (.cells #[.slice A bn c,.slice (some ⟨g,0,none⟩) s.2.1.length c',.int .i64 s.2.2.1,.int .i64 s.2.2.2] 33 (0,0)):=(heap_setCell_other _ _ _ _ (by simpa using fun e=>hgp e.symm)).trans hp;have hF2:=hcel 2 (.bool false) (f.1,f.2.1,false,f.2.2.2) (by omega) rfl rfl;have hbx:=kS (s:=s) (x:=s.2.2.1) (y:=s.2.2.2) (by omega) hS hnp hp2 (fun b hb=>heap_setCell_other _ _ _ _ (by
   have:=hS.dis b hb;simp;exact fun e=>this (.inl (by rw [e];rfl)))) hF2 (fun b hb=>.inl hb)
  have hBe:Below B w (W.setCell ⟨g,i*4+2,none⟩ (.bool false)):=hBW.setCell hgB _
  go_wp2
  go_ret
  exact⟨false,rfl,(fun h=>by cases h),(fun _=>by simp [hb]),hBe⟩
 ·rw [hb] at k2
  have hp2:(W.setCell ⟨g,i*4+2,none⟩ (.bool false)).heap[p]?=some (.cells #[.slice A bn c,.slice (some ⟨g,0,none⟩) s.2.1.length c',.int .i64 s.2.2.1,.int .i64 s.2.2.2] 33 (0,0)):=(heap_setCell_other _ _ _ _ (by simpa using fun e=>hgp e.symm)).trans hp;have hF2:=hcel 2 (.bool false) (f.1,f.2.1,false,f.2.2.2) (by omega) rfl rfl;have hbx:=kS (s:=s) (x:=s.2.2.1) (y:=s.2.2.2) (by omega) hS hnp hp2 (fun b hb=>heap_setCell_other _ _ _ _ (by
   have:=hS.dis b hb;simp;exact fun e=>this (.inl (by rw [e];rfl)))) hF2 (fun b hb=>.inl hb)
  have hBe:Below B w (W.setCell ⟨g,i*4+2,none⟩ (.bool false)):=hBW.setCell hgB _
  go_wp2
  go_ret
  exact⟨true,rfl,fun _=>⟨by simp [hb],hbx⟩,(fun h=>by cases h),hBe⟩
set_option maxHeartbeats 8000000 in
set_option maxRecDepth 1000000 in
theorem EJ (s:Sp) (hs:cr s) (hok:aT s=true) (i:Nat) (hi:i<s.2.1.length) (id:Int) (u:ByteArray) (n:Int) (hx:cM (3,id,u,n)=true) (w:World) (p B:Nat) (hbox:jg w p B s) (hpB:B≤p) :
  Calls Try.prog 73 #[.pointer (some ⟨p,0,none⟩),.int .i64 i,stV (3,id,u,n)] w (oD w p B (cG s i (3,id,u,n)) (eX s i (3,id,u,n))):=by
 obtain⟨hfm,hgc,_,hlost⟩:=bw hok;have hfi:=hfm i hi;obtain⟨A,bn,c,A',n',c',ys,hp0,hS0,hnp⟩:=hbox;obtain⟨fA,fc,efs⟩:=aX hS0.fms.own;cases efs;obtain⟨g,rfl⟩:=dh hS0.fms.own (by omega);have hpl:=bh hp0;have hgl:=(hS0.lt g (.inr (.inl rfl))).2;have hgB:=(hS0.lt g (.inr (.inl rfl))).1;have hgp:g≠p:=fun e=>hnp (.inr (.inl (by rw [e];rfl)))
 have hW:=aU w (.cells #[.int .i64 3,.int .i64 id,.string u,.int .i64 n] 46);have hBW:Below B w (w.alloc (.cells #[.int .i64 3,.int .i64 id,.string u,.int .i64 n] 46)):=(Jx _ w).alloc (by omega) _;have hp:=Below.some hW hp0;have hS:=hS0.below hW;have hF:=hS.fms;have hq:(w.alloc (.cells #[.int .i64 3,.int .i64 id,.string u,.int .i64 n] 46)).heap[w.heap.size]?=some (.cells #[.int .i64 3,.int .i64 id,.string u,.int .i64 n] 46 (0,0)):=ae _ rfl;obtain⟨y,hy⟩:∃y,ys[i]?=some y:=⟨ys[i]'(by rw [hF.len];exact hi),IM _⟩
 have hgx:s.2.1[i]?=some s.2.1[i]:=IM hi;have hrow:=hF.row i _ y hgx hy;obtain⟨Ay,cy,rfl⟩:=cn hrow;rw [Jc] at hy hrow;have k1:=ax hF.own (j:=i*4+1) (u:=.slice Ay s.2.1[i].2.1.length cy) (by rw [aD _ _ i s.2.1[i] _ hgx hy 1 (by omega)];rfl);have k2:=ax hF.own (j:=i*4+2) (u:=.bool s.2.1[i].2.2.1) (by rw [aD _ _ i s.2.1[i] _ hgx hy 2 (by omega)];rfl);have k3:=ax hF.own (j:=i*4+3) (u:=.int .i64 s.2.1[i].2.2.2) (by rw [aD _ _ i s.2.1[i] _ hgx hy 3 (by omega)];rfl);have z1:=aP hF.own (i*4+1);have z2:=aP hF.own (i*4+2);have z3:=aP hF.own (i*4+3);have haS:eX s i (3,id,u,n)=(s.1,s.2.1.set i (s.2.1[i].1,s.2.1[i].2.1,s.2.1[i].2.2.1,s.2.1[i].2.2.2+n),s.2.2.1,s.2.2.2+n):=by
  unfold eX;rw [hgx];simp
 have haO:cG s i (3,id,u,n)=s.2.1[i].2.2.1:=by
  unfold cG;rw [hgx];simp
 rw [haS,haO];have hcel:=fun(k:Nat) (v:Value) (x':Fm) hk hx hc=>ct hF hi hy (x':=x') (k:=k) (v:=v) hk hx hc
 have hpi:(i:Int)<(s.2.1.length:Int):=by omega
 have hset:=dD hfi;have hprt:=bK hfi;obtain⟨m0,m1,m2,m3⟩:=aa hp;obtain⟨n0,n1,n2,n3⟩:=aH hp;obtain⟨q0,q1,q2,q3⟩:=aa hq;obtain⟨f,hf⟩:∃f,f=s.2.1[i]:=⟨_,rfl⟩
 rw [←hf] at hfi hgx hrow hy k1 k2 k3 hset hprt hcel ⊢;have hwy:∀b,aw (.slice Ay f.2.1.length cy) b→b≠g:=fun b hb e=>(hF.blk i _ b hy hb).2 (by rw [e];rfl)
 have hWs:w.heap.size<(w.alloc (.cells #[.int .i64 3,.int .i64 id,.string u,.int .i64 n] 46)).heap.size:=by simp
 clear haS haO hf
 go_enter Try.func73,Try.ntmps73
 go_upto_region 1 with fail
 generalize (w.alloc (.cells #[.int .i64 3,.int .i64 id,.string u,.int .i64 n] 46))=W at *;have hn:=Cf hx rfl;have hsh:=(sb hok)
 have hw1:JH.wrap (f.2.2.2+n)=f.2.2.2+n:=ak (by simp only at hn;omega) (by simp only at hn;omega);have hw2:JH.wrap (s.2.2.2+n)=s.2.2.2+n:=ak (by simp only at hn;omega) (by simp only at hn;omega);have hfe:s.2.1[i]=f:=IP ((IM hi).symm.trans hgx);cases hb:f.2.2.1
 ·rw [hb] at k2
  go_wp2
  go_still_tail 7,(by kernel_rfl)
  change wpList _ _ _ _ _ W.drew
  have hS1:ShopAt W.drew B _ _ _ ys s:=hS.keep fun _ _=>rfl
  have hp1:W.drew.heap[p]?=_:=hp;have hq1:W.drew.heap[w.heap.size]?=_:=hq;have hB1:Below B w W.drew:=aR hBW (ab W) (by omega);have hWs1:w.heap.size<W.drew.heap.size:=hWs;have k31:=ax hS1.fms.own (j:=i*4+3) (u:=.int .i64 f.2.2.2) (by rw [aD _ _ i f _ hgx hy 3 (by omega)];rfl);have z31:=aP hS1.fms.own (i*4+3);have hF1:=ct hS1.fms hi hy (x':=(f.1,f.2.1,f.2.2.1,f.2.2.2+n)) (k:=3) (v:=.int .i64 (f.2.2.2+n)) (by omega) (by rw [hfe]) (by rw [hfe];rfl);generalize W.drew=W1 at *
  go_wp2
  have hp2:(W1.setCell ⟨g,i*4+3,none⟩ (.int .i64 (f.2.2.2+n))).heap[p]?=_:=(heap_setCell_other _ _ _ _ (by simpa using fun e=>hgp e.symm)).trans hp1;have hq2:(W1.setCell ⟨g,i*4+3,none⟩ (.int .i64 (f.2.2.2+n))).heap[w.heap.size]?=_:=(heap_setCell_other _ _ _ _ (by simp;omega)).trans hq1;have hB2:Below B w (W1.setCell ⟨g,i*4+3,none⟩ (.int .i64 (f.2.2.2+n))):=hB1.setCell hgB _;have hv2:∀b,aw (.slice A bn c) b→(W1.setCell ⟨g,i*4+3,none⟩ (.int .i64 (f.2.2.2+n))).heap[b]?=W1.heap[b]?:=fun b hb=>heap_setCell_other _ _ _ _ (by
   have:=hS1.dis b hb;simp;exact fun e=>this (.inl (by rw [e];rfl)))
  have hW2:w.heap.size<(W1.setCell ⟨g,i*4+3,none⟩ (.int .i64 (f.2.2.2+n))).heap.size:=by simp [Jl];exact hWs1
  generalize W1.setCell ⟨g,i*4+3,none⟩ (.int .i64 (f.2.2.2+n))=W2 at *;obtain⟨a0,a1,a2,a3⟩:=aa hp2;obtain⟨b0,b1,b2,b3⟩:=aa hq2
  go_still_tail 7,(by kernel_rfl)
  change wpList _ _ _ _ _ W2.drew
  have hp3:W2.drew.heap[p]?=_:=hp2;have hB3:Below B w W2.drew:=aR hB2 (ab W2) (by omega);have hF3:FmsAt W2.drew B _ ys _:=hF1.keep fun _ _=>rfl
  have hv3:∀b,aw (.slice A bn c) b→W2.drew.heap[b]?=W1.heap[b]?:=hv2;generalize W2.drew=W3 at *;obtain⟨c0,c1,c2,c3⟩:=aa hp3;obtain⟨d0,d1,d2,d3⟩:=aH hp3;have hp4:(W3.setCell ⟨p,3,none⟩ (.int .i64 (s.2.2.2+n))).heap[p]?=some (.cells #[.slice A bn c,.slice (some ⟨g,0,none⟩) s.2.1.length c',.int .i64 s.2.2.1,.int .i64 (s.2.2.2+n)] 33 (0,0)):=heap_setCell_same _ _ 3 _ _ (.int .i64 (s.2.2.2+n)) hp3;have hbx:=kS (w':=W3.setCell ⟨p,3,none⟩ (.int .i64 (s.2.2.2+n))) (s:=s) (x:=s.2.2.1) (y:=s.2.2.2+n) (by omega) hS1 hnp hp4 (fun b hb=>(heap_setCell_other _ _ _ _ (by
   simp;exact fun e=>hnp (.inl (e ▸ hb)))).trans (hv3 b hb)) (hF3.keep fun b hb=>heap_setCell_other _ _ _ _ (by
   simp;exact fun e=>hnp (.inr (e ▸ hb)))) (fun b hb=>.inl hb)
  have hBe:Below B w (W3.setCell ⟨p,3,none⟩ (.int .i64 (s.2.2.2+n))):=hB3.setCell hpB _
  go_wp2
  go_ret
  exact⟨false,rfl,(fun h=>by cases h),(fun _=>by simp [hb]),hBe⟩
 ·rw [hb] at k2
  go_wp2
  go_still_tail 7,(by kernel_rfl)
  change wpList _ _ _ _ _ W.drew
  have hS1:ShopAt W.drew B _ _ _ ys s:=hS.keep fun _ _=>rfl
  have hp1:W.drew.heap[p]?=_:=hp;have hq1:W.drew.heap[w.heap.size]?=_:=hq;have hB1:Below B w W.drew:=aR hBW (ab W) (by omega);have hWs1:w.heap.size<W.drew.heap.size:=hWs;have k31:=ax hS1.fms.own (j:=i*4+3) (u:=.int .i64 f.2.2.2) (by rw [aD _ _ i f _ hgx hy 3 (by omega)];rfl);have z31:=aP hS1.fms.own (i*4+3);have hF1:=ct hS1.fms hi hy (x':=(f.1,f.2.1,f.2.2.1,f.2.2.2+n)) (k:=3) (v:=.int .i64 (f.2.2.2+n)) (by omega) (by rw [hfe]) (by rw [hfe];rfl);generalize W.drew=W1 at *
  go_wp2
  have hp2:(W1.setCell ⟨g,i*4+3,none⟩ (.int .i64 (f.2.2.2+n))).heap[p]?=_:=(heap_setCell_other _ _ _ _ (by simpa using fun e=>hgp e.symm)).trans hp1;have hq2:(W1.setCell ⟨g,i*4+3,none⟩ (.int .i64 (f.2.2.2+n))).heap[w.heap.size]?=_:=(heap_setCell_other _ _ _ _ (by simp;omega)).trans hq1;have hB2:Below B w (W1.setCell ⟨g,i*4+3,none⟩ (.int .i64 (f.2.2.2+n))):=hB1.setCell hgB _;have hv2:∀b,aw (.slice A bn c) b→(W1.setCell ⟨g,i*4+3,none⟩ (.int .i64 (f.2.2.2+n))).heap[b]?=W1.heap[b]?:=fun b hb=>heap_setCell_other _ _ _ _ (by
   have:=hS1.dis b hb;simp;exact fun e=>this (.inl (by rw [e];rfl)))
  have hW2:w.heap.size<(W1.setCell ⟨g,i*4+3,none⟩ (.int .i64 (f.2.2.2+n))).heap.size:=by simp [Jl];exact hWs1
  generalize W1.setCell ⟨g,i*4+3,none⟩ (.int .i64 (f.2.2.2+n))=W2 at *;obtain⟨a0,a1,a2,a3⟩:=aa hp2;obtain⟨b0,b1,b2,b3⟩:=aa hq2
  go_still_tail 7,(by kernel_rfl)
  change wpList _ _ _ _ _ W2.drew
  have hp3:W2.drew.heap[p]?=_:=hp2;have hB3:Below B w W2.drew:=aR hB2 (ab W2) (by omega);have hF3:FmsAt W2.drew B _ ys _:=hF1.keep fun _ _=>rfl
  have hv3:∀b,aw (.slice A bn c) b→W2.drew.heap[b]?=W1.heap[b]?:=hv2;generalize W2.drew=W3 at *;obtain⟨c0,c1,c2,c3⟩:=aa hp3;obtain⟨d0,d1,d2,d3⟩:=aH hp3;have hp4:(W3.setCell ⟨p,3,none⟩ (.int .i64 (s.2.2.2+n))).heap[p]?=some (.cells #[.slice A bn c,.slice (some ⟨g,0,none⟩) s.2.1.length c',.int .i64 s.2.2.1,.int .i64 (s.2.2.2+n)] 33 (0,0)):=heap_setCell_same _ _ 3 _ _ (.int .i64 (s.2.2.2+n)) hp3;have hbx:=kS (w':=W3.setCell ⟨p,3,none⟩ (.int .i64 (s.2.2.2+n))) (s:=s) (x:=s.2.2.1) (y:=s.2.2.2+n) (by omega) hS1 hnp hp4 (fun b hb=>(heap_setCell_other _ _ _ _ (by
   simp;exact fun e=>hnp (.inl (e ▸ hb)))).trans (hv3 b hb)) (hF3.keep fun b hb=>heap_setCell_other _ _ _ _ (by
   simp;exact fun e=>hnp (.inr (e ▸ hb)))) (fun b hb=>.inl hb)
  have hBe:Below B w (W3.setCell ⟨p,3,none⟩ (.int .i64 (s.2.2.2+n))):=hB3.setCell hpB _
  go_wp2
  go_ret
  exact⟨true,rfl,fun _=>⟨hb,hbx⟩,(fun h=>by cases h),hBe⟩
theorem hZ {w:World} {B:Nat} {V:Value} {l:List Fm} {ys:List Value} (h:FmsAt w B V ys l) (k:Nat):(∀(i:Nat) (x:Fm) (y:Value),(l.drop k)[i]?=some x→(ys.drop k)[i]?=some y→aW w (fun _=>False) (aw y) 1 (txs x.2.1) y) ∧
  (∀(i:Nat) (y:Value) (b:Nat),(ys.drop k)[i]?=some y→aw y b→B≤b∧b<w.heap.size∧V.ownBlock≠some b∧∀j,j≤k→∀z∈ys.take j,¬aw z b) ∧
  (∀(i j:Nat) (y z:Value),i≠j→(ys.drop k)[i]?=some y→(ys.drop k)[j]?=some z→y.ownBlock=none∨y.ownBlock≠z.ownBlock):=by
 simp only [List.getElem?_drop];refine⟨fun i x y hx hy=>h.row _ x y hx hy,fun i y b hy hb=>?_,fun i j y z hij hy hz=>h.dis _ _ y z (by omega) hy hz⟩
 obtain⟨h1,h2⟩:=h.blk _ y b hy hb;refine⟨h1,(h.lt b (.inr ⟨y,JD hy,hb⟩)).2,h2,fun j hj z hz hzb=>?_⟩
 obtain⟨m,hm⟩:=JP.1 hz;have hmj:m<j:=by
  have:=(Ja.1 hm).1;rw [IY] at this;omega
 rw [Jg,if_pos hmj] at hm;rcases h.dis m (k+i) z y (by omega) hm hy with e | e
 ·rw [aw,e] at hzb
  cases hzb
 ·exact e (hzb.trans hb.symm)
theorem jJ {w:World} {B g n c:Nat} {l:List Fm} {ys:List Value} (h:FmsAt w B (.slice (some ⟨g,0,none⟩) n c) ys l):l.length≤c∧c≤9223372036854775807:=by
 obtain⟨_,⟨e,_⟩ | ⟨g',cap,cur,e,_,_,h3,h4,_⟩⟩:=h.own
 ·cases e
 ·cases e
  exact⟨h3,h4⟩
set_option maxHeartbeats 8000000 in
set_option maxRecDepth 1000000 in
theorem EX (s:Sp) (hs:cr s) (hok:aT s=true) (i:Nat) (hi:i<s.2.1.length) (id:Int) (u:ByteArray) (n:Int) (hx:cM (5,id,u,n)=true) (w:World) (p B:Nat) (hbox:jg w p B s) (hpB:B≤p) :
  Calls Try.prog 73 #[.pointer (some ⟨p,0,none⟩),.int .i64 i,stV (5,id,u,n)] w (oD w p B (cG s i (5,id,u,n)) (eX s i (5,id,u,n))):=by
 obtain⟨hfm,hgc,_,hlost⟩:=bw hok;have hfi:=hfm i hi;obtain⟨A,bn,c,A',n',c',ys,hp0,hS0,hnp⟩:=hbox;obtain⟨fA,fc,efs⟩:=aX hS0.fms.own;cases efs;obtain⟨g,rfl⟩:=dh hS0.fms.own (by omega);have hpl:=bh hp0;have hgl:=(hS0.lt g (.inr (.inl rfl))).2;have hgB:=(hS0.lt g (.inr (.inl rfl))).1;have hgp:g≠p:=fun e=>hnp (.inr (.inl (by rw [e];rfl)))
 have hW:=aU w (.cells #[.int .i64 5,.int .i64 id,.string u,.int .i64 n] 46);have hBW:Below B w (w.alloc (.cells #[.int .i64 5,.int .i64 id,.string u,.int .i64 n] 46)):=(Jx _ w).alloc (by omega) _;have hp:=Below.some hW hp0;have hS:=hS0.below hW;have hF:=hS.fms;have hq:(w.alloc (.cells #[.int .i64 5,.int .i64 id,.string u,.int .i64 n] 46)).heap[w.heap.size]?=some (.cells #[.int .i64 5,.int .i64 id,.string u,.int .i64 n] 46 (0,0)):=ae _ rfl;obtain⟨y,hy⟩:∃y,ys[i]?=some y:=⟨ys[i]'(by rw [hF.len];exact hi),IM _⟩
 have hgx:s.2.1[i]?=some s.2.1[i]:=IM hi;have hrow:=hF.row i _ y hgx hy;obtain⟨Ay,cy,rfl⟩:=cn hrow;rw [Jc] at hy hrow;have k1:=ax hF.own (j:=i*4+1) (u:=.slice Ay s.2.1[i].2.1.length cy) (by rw [aD _ _ i s.2.1[i] _ hgx hy 1 (by omega)];rfl);have k2:=ax hF.own (j:=i*4+2) (u:=.bool s.2.1[i].2.2.1) (by rw [aD _ _ i s.2.1[i] _ hgx hy 2 (by omega)];rfl);have k3:=ax hF.own (j:=i*4+3) (u:=.int .i64 s.2.1[i].2.2.2) (by rw [aD _ _ i s.2.1[i] _ hgx hy 3 (by omega)];rfl);have z1:=aP hF.own (i*4+1);have z2:=aP hF.own (i*4+2);have z3:=aP hF.own (i*4+3);have haS:eX s i (5,id,u,n)=(s.1,s.2.1.set i (s.2.1[i].1,s.2.1[i].2.1.take (s.2.1[i].2.1.length - 1),s.2.1[i].2.2.1,s.2.1[i].2.2.2),s.2.2.1+1,s.2.2.2):=by
  unfold eX;rw [hgx];simp
 have haO:cG s i (5,id,u,n)=(!s.2.1[i].2.2.1 && !decide (s.2.1[i].2.1.length=0)):=by
  unfold cG;rw [hgx];simp
 rw [haS,haO];have hcel:=fun(k:Nat) (v:Value) (x':Fm) hk hx hc=>ct hF hi hy (x':=x') (k:=k) (v:=v) hk hx hc
 have hpi:(i:Int)<(s.2.1.length:Int):=by omega
 have hset:=dD hfi;have hprt:=bK hfi;obtain⟨m0,m1,m2,m3⟩:=aa hp;obtain⟨n0,n1,n2,n3⟩:=aH hp;obtain⟨q0,q1,q2,q3⟩:=aa hq;obtain⟨f,hf⟩:∃f,f=s.2.1[i]:=⟨_,rfl⟩
 rw [←hf] at hfi hgx hrow hy k1 k2 k3 hset hprt hcel ⊢;have hwy:∀b,aw (.slice Ay f.2.1.length cy) b→b≠g:=fun b hb e=>(hF.blk i _ b hy hb).2 (by rw [e];rfl)
 have hWs:w.heap.size<(w.alloc (.cells #[.int .i64 5,.int .i64 id,.string u,.int .i64 n] 46)).heap.size:=by simp
 clear haS haO hf
 go_enter Try.func73,Try.ntmps73
 go_upto_region 1 with fail
 generalize (w.alloc (.cells #[.int .i64 5,.int .i64 id,.string u,.int .i64 n] 46))=W at *;have hfe:s.2.1[i]=f:=IP ((IM hi).symm.trans hgx);by_cases hm:f.2.1.length=0
 ·go_wp2
  go_ret
  exact⟨false,rfl,(fun h=>by cases h),(fun _=>by simp [hm]),hBW⟩
 obtain⟨gy,oy,rfl,-,hlc⟩:=zA hrow (by simp;omega);rw [Jc] at hlc;have hwm:JH.wrap ((f.2.1.length:Int) - 1)=((f.2.1.length - 1:Nat):Int):=by rw [ak (by omega) (by omega)];omega
 have hwl:JH.wrap (s.2.2.1+1)=s.2.2.1+1:=ak (by omega) (by omega);have hb1:(0:Int)≤((f.2.1.length - 1:Nat):Int):=by omega
 have hb2:((f.2.1.length - 1:Nat):Int)≤(cy:Int):=by omega
 have hrow':=zH (i:=f.2.1.length - 1) hrow (by simp) (by simp;omega);rw [←List.map_take] at hrow';have hwg:∀b,b≠g→(W.setCell ⟨g,i*4+1,none⟩ (.slice (some ⟨gy,oy,none⟩) (f.2.1.length - 1) cy)).heap[b]?=W.heap[b]?:=fun b hb=>heap_setCell_other _ _ _ _ (by simpa using hb)
 have hgyb:∀b,aw (.slice (some ⟨gy,oy,none⟩) (f.2.1.length - 1) cy) b→aw (.slice (some ⟨gy,oy,none⟩) f.2.1.length cy) b:=fun b hb=>hb
 have hF1:=kI (w':=W.setCell ⟨g,i*4+1,none⟩ (.slice (some ⟨gy,oy,none⟩) (f.2.1.length - 1) cy)) (x:=(f.1,f.2.1.take (f.2.1.length - 1),f.2.2.1,f.2.2.2)) (y:=.slice (some ⟨gy,oy,none⟩) (f.2.1.length - 1) cy) hF hi (aI hrow' fun b hb=>hwg b (hwy b (hgyb b hb))) (fun b hb=>⟨(hF.blk i _ b hy (hgyb b hb)).1,hwy b (hgyb b hb)⟩)
  (fun j z hj hz=>by have:=hF.dis i j _ z (fun e=>hj e.symm) hy hz;exact this) (fun j z b hj hz hb=>hwg b fun e=>(hF.blk j z b hz hb).2 (by rw [e];rfl))
  (by rw [gK s.2.1 ys i f (f.1,f.2.1.take (f.2.1.length - 1),f.2.2.1,f.2.2.2) _ _ (.slice (some ⟨gy,oy,none⟩) (f.2.1.length - 1) cy) 1 (by omega) hgx hy rfl];exact bO hF.own rfl _ _)
 have hp1:(W.setCell ⟨g,i*4+1,none⟩ (.slice (some ⟨gy,oy,none⟩) (f.2.1.length - 1) cy)).heap[p]?=_:=(hwg p (fun e=>hgp e.symm)).trans hp;have hB1:Below B w (W.setCell ⟨g,i*4+1,none⟩ (.slice (some ⟨gy,oy,none⟩) (f.2.1.length - 1) cy)):=hBW.setCell hgB _;have hv1:∀b,aw (.slice A bn c) b→(W.setCell ⟨g,i*4+1,none⟩ (.slice (some ⟨gy,oy,none⟩) (f.2.1.length - 1) cy)).heap[b]?=W.heap[b]?:=fun b hb=>hwg b fun e=>hS.dis b hb (.inl (by rw [e];rfl))
 obtain⟨a0,a1,a2,a3⟩:=aa hp1;obtain⟨b0,b1,b2,b3⟩:=aH hp1;have hp4:((W.setCell ⟨g,i*4+1,none⟩ (.slice (some ⟨gy,oy,none⟩) (f.2.1.length - 1) cy)).setCell ⟨p,2,none⟩ (.int .i64 (s.2.2.1+1))).heap[p]?=some (.cells #[.slice A bn c,.slice (some ⟨g,0,none⟩) s.2.1.length c',.int .i64 (s.2.2.1+1),.int .i64 s.2.2.2] 33 (0,0)):=heap_setCell_same _ _ 2 _ _ (.int .i64 (s.2.2.1+1)) hp1;have hfo:∀b,FmS (.slice (some ⟨g,0,none⟩) s.2.1.length c') (ys.set i (.slice (some ⟨gy,oy,none⟩) (f.2.1.length - 1) cy)) b→FmS (.slice (some ⟨g,0,none⟩) s.2.1.length c') ys b:=fun b hb=>by
  rcases hb with hb | ⟨y,hy',hb⟩
  ·exact .inl hb
  ·rcases List.mem_or_eq_of_mem_set hy' with h | rfl
   ·exact .inr ⟨y,h,hb⟩
   ·exact .inr ⟨_,JD hy,hgyb b hb⟩
 have hbx:=kS (w':=(W.setCell ⟨g,i*4+1,none⟩ (.slice (some ⟨gy,oy,none⟩) (f.2.1.length - 1) cy)).setCell ⟨p,2,none⟩ (.int .i64 (s.2.2.1+1))) (s:=s) (x:=s.2.2.1+1) (y:=s.2.2.2) (by omega) hS hnp hp4 (fun b hb=>(heap_setCell_other _ _ _ _ (by
   simp;exact fun e=>hnp (.inl (e ▸ hb)))).trans (hv1 b hb)) (hF1.keep fun b hb=>heap_setCell_other _ _ _ _ (by
   simp;exact fun e=>hnp (.inr (hfo p (e ▸ hb))))) (fun b hb=>.inl (hfo b hb))
 have hBe:Below B w ((W.setCell ⟨g,i*4+1,none⟩ (.slice (some ⟨gy,oy,none⟩) (f.2.1.length - 1) cy)).setCell ⟨p,2,none⟩ (.int .i64 (s.2.2.1+1))):=hB1.setCell hpB _;cases hb:f.2.2.1
 ·rw [hb] at k2
  go_wp2
  go_ret
  exact⟨true,rfl,fun _=>⟨by simp [hb,hm],hbx⟩,(fun h=>by cases h),hBe⟩
 ·rw [hb] at k2
  go_wp2
  go_ret
  exact⟨false,rfl,(fun h=>by cases h),(fun _=>by simp [hb]),hBe⟩
set_option maxHeartbeats 8000000 in
set_option maxRecDepth 1000000 in
theorem Fw (s:Sp) (hs:cr s) (hok:aT s=true) (i:Nat) (hi:i<s.2.1.length) (id:Int) (u:ByteArray) (n:Int) (hx:cM (6,id,u,n)=true) (w:World) (p B:Nat) (hbox:jg w p B s) (hpB:B≤p) :
    Calls Try.prog 73 #[.pointer (some ⟨p,0,none⟩),.int .i64 i,stV (6,id,u,n)] w (oD w p B (cG s i (6,id,u,n)) (eX s i (6,id,u,n))):=by
  obtain⟨hfm,hgc,_,hlost⟩:=bw hok;have hfi:=hfm i hi;obtain⟨A,bn,c,A',n',c',ys,hp0,hS0,hnp⟩:=hbox;obtain⟨fA,fc,efs⟩:=aX hS0.fms.own;cases efs;obtain⟨g,rfl⟩:=dh hS0.fms.own (by omega);have hpl:=bh hp0;have hgl:=(hS0.lt g (.inr (.inl rfl))).2;have hgB:=(hS0.lt g (.inr (.inl rfl))).1;have hgp:g≠p:=fun e=>hnp (.inr (.inl (by rw [e];rfl)))
  have hW:=aU w (.cells #[.int .i64 6,.int .i64 id,.string u,.int .i64 n] 46);have hBW:Below B w (w.alloc (.cells #[.int .i64 6,.int .i64 id,.string u,.int .i64 n] 46)):=(Jx _ w).alloc (by omega) _;have hp:=Below.some hW hp0;have hS:=hS0.below hW;have hF:=hS.fms;have hq:(w.alloc (.cells #[.int .i64 6,.int .i64 id,.string u,.int .i64 n] 46)).heap[w.heap.size]?=some (.cells #[.int .i64 6,.int .i64 id,.string u,.int .i64 n] 46 (0,0)):=ae _ rfl;obtain⟨y,hy⟩:∃y,ys[i]?=some y:=⟨ys[i]'(by rw [hF.len];exact hi),IM _⟩
  have hgx:s.2.1[i]?=some s.2.1[i]:=IM hi;have hrow:=hF.row i _ y hgx hy;obtain⟨Ay,cy,rfl⟩:=cn hrow;rw [Jc] at hy hrow;have k1:=ax hF.own (j:=i*4+1) (u:=.slice Ay s.2.1[i].2.1.length cy) (by rw [aD _ _ i s.2.1[i] _ hgx hy 1 (by omega)];rfl);have k2:=ax hF.own (j:=i*4+2) (u:=.bool s.2.1[i].2.2.1) (by rw [aD _ _ i s.2.1[i] _ hgx hy 2 (by omega)];rfl);have k3:=ax hF.own (j:=i*4+3) (u:=.int .i64 s.2.1[i].2.2.2) (by rw [aD _ _ i s.2.1[i] _ hgx hy 3 (by omega)];rfl);have z1:=aP hF.own (i*4+1);have z2:=aP hF.own (i*4+2);have z3:=aP hF.own (i*4+3);have haS:eX s i (6,id,u,n)=(br (aK s.1) 1 s.1 s.2.1[i].2.1,s.2.1.take i++s.2.1.drop (i+1),s.2.2.1,s.2.2.2):=by
    unfold eX;rw [hgx];simp
  have haO:cG s i (6,id,u,n)=(!s.2.1[i].2.2.1&&bH (br (aK s.1) 1 s.1 s.2.1[i].2.1)):=by
    unfold cG;rw [hgx];simp
  rw [haS,haO];have hcel:=fun(k:Nat) (v:Value) (x':Fm) hk hx hc=>ct hF hi hy (x':=x') (k:=k) (v:=v) hk hx hc
  have hpi:(i:Int)<(s.2.1.length:Int):=by omega
  have hset:=dD hfi;have hprt:=bK hfi;obtain⟨m0,m1,m2,m3⟩:=aa hp;obtain⟨n0,n1,n2,n3⟩:=aH hp;obtain⟨q0,q1,q2,q3⟩:=aa hq;obtain⟨f,hf⟩:∃f,f=s.2.1[i]:=⟨_,rfl⟩
  rw [←hf] at hfi hgx hrow hy k1 k2 k3 hset hprt hcel ⊢;have hwy:∀b,aw (.slice Ay f.2.1.length cy) b→b≠g:=fun b hb e=>(hF.blk i _ b hy hb).2 (by rw [e];rfl)
  have hWs:w.heap.size<(w.alloc (.cells #[.int .i64 6,.int .i64 id,.string u,.int .i64 n] 46)).heap.size:=by simp
  clear haS haO hf
  go_enter Try.func73,Try.ntmps73
  go_upto_region 1 with fail
  generalize (w.alloc (.cells #[.int .i64 6,.int .i64 id,.string u,.int .i64 n] 46))=W at *;have hfe:s.2.1[i]=f:=IP ((IM hi).symm.trans hgx);have hin:=Cd hfi
  go_wp2
  have hpd:=Below.some (ab W) hp;have hSd:=hS.below (ab W);have k1d:W.drew.cell? ⟨g,i*4+1,none⟩=some (.slice Ay f.2.1.length cy):=k1;obtain⟨e0,e1,e2,e3⟩:=aa hpd;have hrowd:=aW.below hrow (ab W);have hc:=wU s.1 f.2.1 hs.1 (by omega) hgc hin (cz hSd.box) (bI hSd.box) (cz hrowd) (bI hrowd)
  go_region_held3 (fun w'=>w'.cell? ⟨p,0,none⟩=some (.slice A bn c)∧w'.cell? ⟨g,i*4+1,none⟩=some (.slice Ay f.2.1.length cy)) (first | (refine⟨?_,?_⟩<;>assumption) | go_keep)
    (first
      | (go_at_call 42;refine hc.mono ?_;intro e w6 hout;obtain⟨A6,n6,c6,rfl,own6,hv6,b6⟩:=hout;have hp6:=Below.some b6 hpd;have hS6:=hSd.below b6;obtain⟨r0,r1,r2,r3⟩:=aa hp6;have k16:=ax hS6.fms.own (j:=i*4+1) (u:=.slice Ay f.2.1.length cy) (by rw [aD _ _ i f _ hgx hy 1 (by omega)];rfl))
      | fail)
  obtain⟨fr0,fr1,fr2,fr3⟩:=aH hp6;have B6:Below B w w6:=(hBW.trans ((ab W).mono (by omega))).trans (b6.mono (by show B≤W.heap.size;omega));have hs6:W.heap.size≤w6.heap.size:=b6.size;have hp7:(w6.setCell ⟨p,0,none⟩ (.slice A6 n6 c6)).heap[p]?=some (.cells #[.slice A6 n6 c6,.slice (some ⟨g,0,none⟩) s.2.1.length c',.int .i64 s.2.2.1,.int .i64 s.2.2.2] 33 (0,0)):=heap_setCell_same _ _ 0 _ _ (.slice A6 n6 c6) hp6;have hF7:=hS6.fms.keep (w':=w6.setCell ⟨p,0,none⟩ (.slice A6 n6 c6)) fun b hb=>heap_setCell_other _ _ _ _ (by simp;exact fun e=>hnp (.inr (e ▸ hb)))
  have hv6':∀b,aw (.slice A6 n6 c6) b→W.heap.size≤b:=fun b hb=>(hv6 b hb).1
  have own7:=aI (w':=w6.setCell ⟨p,0,none⟩ (.slice A6 n6 c6)) own6 fun b hb=>heap_setCell_other _ _ _ _ (by have:=hv6' b hb;simp;omega)
  have B7:Below B w (w6.setCell ⟨p,0,none⟩ (.slice A6 n6 c6)):=B6.setCell hpB _;have hs7:W.heap.size≤(w6.setCell ⟨p,0,none⟩ (.slice A6 n6 c6)).heap.size:=by simp [Jl];exact hs6
  have hFlt:=hS.fms.lt;clear hcel hS0 hp0 k1 k2 k3 z1 z2 z3 m0 m1 m2 m3 n0 n1 n2 n3 q0 q1 q2 q3 hq e0 e1 e2 e3 hc r0 r1 r2 r3 k16 k1d hSd hpd hrowd b6 B6 hs6 hS6;have hs7':=hs7
  go_wp2
  generalize w6.setCell ⟨p,0,none⟩ (.slice A6 n6 c6)=W7 at *;have hp8:=Below.some (ab W7) hp7;have hF8:FmsAt W7.drew B (.slice (some ⟨g,0,none⟩) s.2.1.length c') ys s.2.1:=hF7.keep fun _ _=>rfl
  obtain⟨a0,a1,a2,a3⟩:=aa hp8;have hb1:(0:Int)≤(i:Int):=by omega
  have hcp:=jJ hF8;have hb2:(i:Int)≤(c':Int):=by omega
  have hw1:JH.wrap ((i:Int)+1)=(i:Int)+1:=ak (by omega) (by omega);have hb3:(0:Int)≤(i:Int)+1:=by omega
  have hb4:(i:Int)+1≤(s.2.1.length:Int):=by omega
  have hb5:((i:Int)+1).toNat=i+1:=by omega
  obtain⟨i2,hi2,hx0,hx1,hx2⟩:=info_parts fK;have hpre:=BH hF8 (i:=i) (by omega)
  go_region_law (first
    | (refine ah _ rfl _ _ 31 rfl B 63 i2 (.agg #[.int .i64 0,.slice none 0 0,.bool false,.int .i64 0]) 4 48 Try.underlying31 hi2 hx0 hx1 hx2 rfl (by decide) (.slice (some ⟨g,0,none⟩) i c') _ _ (by simp [go_sem];done) hpre.own (if c'=i+1 then some ⟨g,0,none⟩ else some ⟨g,(i+1)*4,none⟩) (s.2.1.length - (i+1)) (c' - (i+1)) (aV (s.2.1.drop (i+1)) (ys.drop (i+1))) (by simp [go_sem,sliced];done) (by rw [bB _ _ (by simp [hF8.len]),Ka]) (fun h0=>⟨g,(i+1)*4,by rw [if_neg (by omega)],fN hF8 (i+1) (by omega)⟩) (cm _ _ fun y hy=>cR hF8 y (JE hy)) (by unfold maxLen;simp;omega) (by simp;omega) (show B≤W7.heap.size from Jw (Jw hpB (Nat.le_of_lt hpl)) B7.size) ?_
       intro v1 w8 hown1 hg1 hat1;obtain⟨A8,n8,c8,rfl⟩:=au hown1;have hp9:=(hg1.block p (JU hpl B7.size) (fun e=>hgp (IP e).symm)).trans hp8;obtain⟨x0,x1,x2,x3⟩:=aa hp9;obtain⟨y0,y1,y2,y3⟩:=aH hp9)
    | fail)
  all_goals (
    have hd:=hZ hF8 (i+1);have hF9:=bC hpre (m:=s.2.1.drop (i+1)) (zs:=ys.drop (i+1)) (Jw (Jw hpB (Nat.le_of_lt hpl)) B7.size) (by rw [Ka];exact hown1) hg1 hat1 (by simp [hF8.len]) hd.1 (fun j y b hj hb=>by
      obtain⟨h1,h2,h3,h4⟩:=hd.2.1 j y b hj hb;exact⟨h1,h2,fun h=>h.elim (fun h=>h3 h) fun⟨z,hz,hzb⟩=>h4 i (by omega) z hz hzb⟩) hd.2.2
    have hS7:W7.drew.heap.size=W7.heap.size:=rfl;have hsz1:=hg1.size;have hfo:∀b,FmS (.slice A8 n8 c8) (ys.take i++ys.drop (i+1)) b→FmS (.slice (some ⟨g,0,none⟩) s.2.1.length c') ys b∨W7.heap.size≤b:=fun b hb=>by
      rcases hb with hb | ⟨z,hz,hzb⟩
      · rcases hat1 with h | h
        · exact .inl (.inl (hb.symm.trans h).symm)
        · have:some b=some W7.heap.size:=hb.symm.trans h
          exact .inr (by cases this;exact JA _)
      · rcases JM.1 hz with hz | hz
        · exact .inl (.inr ⟨z,JC hz,hzb⟩)
        · exact .inl (.inr ⟨z,JE hz,hzb⟩)
    have hp10:(w8.setCell ⟨p,1,none⟩ (.slice A8 n8 c8)).heap[p]?=some (.cells #[.slice A6 n6 c6,.slice A8 n8 c8,.int .i64 s.2.2.1,.int .i64 s.2.2.2] 33 (0,0)):=heap_setCell_same _ _ 1 _ _ (.slice A8 n8 c8) hp9;have hWW:W.heap.size≤W7.heap.size:=hs7';have h6g:∀b,aw (.slice A6 n6 c6) b→b≠g∧b<W7.heap.size∧W.heap.size≤b:=fun b hb=>⟨by have:=hv6' b hb;omega,bI own7 b hb,hv6' b hb⟩
    have own9:=aI (w':=w8.setCell ⟨p,1,none⟩ (.slice A8 n8 c8)) own7 fun b hb=>by
      obtain⟨h1,h2,h3⟩:=h6g b hb;rw [heap_setCell_other _ _ _ _ (by simp;omega)];exact hg1.block b h2 fun e=>h1 (IP e)
    have hpF:¬FmS (.slice A8 n8 c8) (ys.take i++ys.drop (i+1)) p:=fun h=>(hfo p h).elim (fun h=>hnp (.inr h)) fun h=>by have:=B7.size;omega
    have hF10:=hF9.keep (w':=w8.setCell ⟨p,1,none⟩ (.slice A8 n8 c8)) fun b hb=>heap_setCell_other _ _ _ _ (by simp;exact fun e=>hpF (e ▸ hb))
    have hbx:jg (w8.setCell ⟨p,1,none⟩ (.slice A8 n8 c8)) p B (mvd s.1 f.2.1 1,s.2.1.take i++s.2.1.drop (i+1),s.2.2.1,s.2.2.2) :=
      ⟨_,_,_,_,_,_,_,hp10,⟨rfl,own9,fun b hb=>by have:=(h6g b hb).2.2;omega,hF10,fun b hb h=>(hfo b h).elim (fun h=>by have:=(hFlt b h).2;have:=(h6g b hb).2.2;omega) fun h=>by have:=(h6g b hb).2.1;omega⟩,fun h=>h.elim (fun h=>by have:=(h6g p h).2.2;omega) hpF⟩
    have hBe:Below B w (w8.setCell ⟨p,1,none⟩ (.slice A8 n8 c8)):=((aR B7 (ab W7) (by have:=B7.size;omega)).grown hg1 (by rw [hS7];have:=B7.size;omega) (fun k hk=>by have:g=k:=IP hk;omega)).setCell hpB _;clear hat1 hfo;cases hgo:bH (br (aK s.1) 1 s.1 f.2.1)
    · go_wp2
      all_goals (go_ret;exact⟨false,rfl,(fun h=>by cases h),(fun _=>by simp),hBe⟩)
    · have em:mvd s.1 f.2.1 1=br (aK s.1) 1 s.1 f.2.1:=by
        unfold mvd;rw [if_pos hgo]
      rw [em] at hbx;cases hb:f.2.2.1
      · go_wp2
        all_goals (go_ret;exact⟨true,rfl,fun _=>⟨by simp,hbx⟩,(fun h=>by cases h),hBe⟩)
      · go_wp2
        all_goals (go_ret;exact⟨false,rfl,(fun h=>by cases h),(fun _=>by simp),hBe⟩))
theorem Ib:TOk Try.prog 61 jr:=tZ (by kernel_rfl)
theorem IF:TOk Try.prog 9 ty9:=tZ (by kernel_rfl)
theorem Hm {w:World} {F:Nat→Prop} {l:List ByteArray} {y:Value} (h:aM w F (txs l) y):vg w (fun _=>False) (txs l) y:=by
 intro z m e;cases e;obtain⟨A,c,us,e1,hc,hr,hw,hA⟩:=h;simp only [List.cons.injEq,and_true] at e1;refine⟨A,c,us,e1,oM _ _ EF hr,hw,fun hne=>?_⟩
 obtain⟨b,o,e2,_,hcl⟩:=hA hne;exact⟨b,o,e2,hcl⟩
theorem wu (w:World) {o:Oper} {a:Act} {K:Act→World→Prop} {Q:Exit→Act→World→Prop} (s x:Operand)
  (ho:o.op = .call {callee:=.builtin .append,args:=#[s,x],argTypes:=#[61,61]}) (l m:List ByteArray) (ys yx:Value) (hs:a.eval s=ys) (hx:a.eval x=yx) (hown:aW w (fun _=>False) (aw ys) 1 (txs l) ys) {F:Nat→Prop} (hsrc:aM w F (txs m) yx) (hlen:l.length+m.length≤1048576)
  (h:∀v w',aW w' (fun _=>False) (aw v) 1 (txs (l++m)) v→(∀b,aw v b→aw ys b∨w.heap.size≤b)→KeptX (aw ys) w w'→K (a.put o.dst v) w'):o.wp Try.prog a w K Q:=by
 obtain⟨v,w',hr,h1,h2,h3,h4,h5,h6⟩:=oK (P:=Try.prog) (t:=61) (ty:=o.type) Ib (by kernel_rfl) IF (G:=fun _=>False) (own:=aw ys) (fun b hb=>hb.elim) (l:=l.map T) (m:=m.map T) hown (Hm hsrc) (by simp only [Jc];omega) (by simp only [Jc];omega);have hv:∀b,aw v b→aw ys b∨w.heap.size≤b:=fun b hb=>by
  obtain⟨l',_,_,h7 | ⟨g,o,c,us,cs,e,h8,_,_,_,_,_,h9⟩⟩:=h1
  ·rw [h7.1] at hb
   cases hb
  ·rw [h8] at hb
   have:g=b:=IP hb;exact this ▸ h9
 have h1':aW w' (fun _=>False) (aw v) 1 (txs (l++m)) v:=by
  obtain⟨l',e,hw,h7⟩:=h1;refine⟨l',by rw [txs,List.map_append];exact e,hw,?_⟩
  rcases h7 with h7 | ⟨g,o,c,us,cs,e,h8,q1,q2,q3,q4,q5,_⟩
  ·exact .inl h7
  ·exact .inr ⟨g,o,c,us,cs,e,h8,q1,q2,q3,q4,q5,by rw [h8];rfl⟩
 unfold JV execOp;simp only [ho,resolve,invoke,builtin,Sem.run_bind,Sem.run_pure,JW,JY,List.map_cons,List.map_nil,hs,hx,hr];exact h v w' h1' hv ⟨h4,h5,h6,h2,fun b hb hn=>h3 b hb hn⟩
theorem lN (w:World) {ops:Array Oper} {o:Oper} {a:Act} {K:Act→World→Prop} {Q:Exit→Act→World→Prop} {E:Prop} (hgd:o.guard=none) (s x:Operand)
  (ho:o.op = .call {callee:=.builtin .append,args:=#[s,x],argTypes:=#[61,61]}) (l m:List ByteArray) (ys yx:Value) (hs:a.eval s=ys) (hx:a.eval x=yx) (hown:aW w (fun _=>False) (aw ys) 1 (txs l) ys) {F:Nat→Prop} (hsrc:aM w F (txs m) yx) (hlen:l.length+m.length≤1048576)
  (h:∀A n c w',aW w' (fun _=>False) (aw (.slice A n c)) 1 (txs (l++m)) (.slice A n c)→(∀b,aw (.slice A n c) b→aw ys b∨w.heap.size≤b)→KeptX (aw ys) w w'→K (a.put o.dst (.slice A n c)) w') :
  if Jk o (yielded ops a.tmps)=true then JV Try.prog o a w K Q else E:=by
 have hw:Jk o (yielded ops a.tmps)=true:=by simp [Jk,hgd]
 rw [if_pos hw];refine wu w s x ho l m ys yx hs hx hown hsrc hlen fun v w' h1 h2 h3=>?_
 obtain⟨A,n,c,rfl⟩:=aY h1;exact h A n c w' h1 h2 h3
def Ii (w wc:World) (p B:Nat) (Vb Vf:Value) (ys:List Value) (x y:Int) (l':List Fm):Prop:=∃A2 n2 c2 ys2,wc.heap[p]?=some (.cells #[Vb,.slice A2 n2 c2,.int .i64 x,.int .i64 y] 33 (0,0))∧FmsAt wc B (.slice A2 n2 c2) ys2 l' ∧
 (∀b,FmS (.slice A2 n2 c2) ys2 b→FmS Vf ys b∨w.heap.size≤b)∧(∀b,b<w.heap.size→b≠p→wc.heap[b]?=w.heap[b]?)∧w.heap.size≤wc.heap.size∧wc.os=w.os∧wc.tape=w.tape∧wc.output=w.output
theorem jm {w:World} {B:Nat} {V:Value} {l:List Fm} {ys:List Value} (h:FmsAt w B V ys l) (k:Nat):(∀(i:Nat) (x:Fm) (y:Value),(l.take k)[i]?=some x→(ys.take k)[i]?=some y→aW w (fun _=>False) (aw y) 1 (txs x.2.1) y) ∧
  (∀(i:Nat) (y:Value) (b:Nat),(ys.take k)[i]?=some y→aw y b→B≤b∧b<w.heap.size) ∧
  (∀(i j:Nat) (y z:Value),i≠j→(ys.take k)[i]?=some y→(ys.take k)[j]?=some z→y.ownBlock=none∨y.ownBlock≠z.ownBlock):=by
 have ht:∀{α:Type} {m:List α} {i:Nat} {y:α},(m.take k)[i]?=some y→m[i]?=some y:=fun {α m i y} h=>by
  rw [Jg] at h;split at h
  ·exact h
  ·cases h
 exact⟨fun i x y hx hy=>h.row _ x y (ht hx) (ht hy),fun i y b hy hb=>⟨(h.blk i y b (ht hy) hb).1,(h.lt b (.inr ⟨y,JD (ht hy),hb⟩)).2⟩,fun i j y z hij hy hz=>h.dis i j y z hij (ht hy) (ht hz)⟩
theorem gO {w:World} {B g cap n:Nat} {l:List Fm} {ys:List Value} (h:FmsAt w B (.slice (some ⟨g,0,none⟩) n cap) ys l) {i:Nat} (hi:i≤l.length):∀(j:Nat) (u:Value),(aV (l.take i) (ys.take i))[j]?=some u→w.cell? ⟨g,0+j,none⟩=some u:=by
 intro j u hj;have hl:=h.len;have e1:=kM (l.take i) (l.drop i) (ys.take i) (ys.drop i) (by simp [hl]);rw [Jf,Jf] at e1;have h3:(aV l ys)[j]?=some u:=by
  rw [e1,Jv (Ja.1 hj).1];exact hj
 have ho:=h.own;rw [JT];obtain⟨_,⟨hn,_⟩ | ⟨g',cap',cur,e',_⟩⟩:=h.own
 ·cases hn
 ·cases e'
  exact ax ho h3
theorem DV (l:List Fm) (n:Int):atF l n<(cI l n).length:=by
 unfold cI;split
 ·rename_i h
  exact(jH h).1
 ·have:=yE l n
  simp;omega
theorem qJ {s:Sp} (hfm:∀(j:Nat) (hj:j<s.2.1.length),fJ s.1 s.2.1[j]=true) (n:Int) (f:Fm) (h:f∈cI s.2.1 n):f.2.1.length≤40:=by
 have old:∀f∈s.2.1,f.2.1.length≤40:=fun f hf=>by
  obtain⟨j,hj,rfl⟩:=JS hf;exact dD (hfm j hj)
 unfold cI at h;split at h
 ·exact old f h
 ·rcases JM.1 h with h | h
  ·exact old f (JC h)
  ·rcases JR.1 h with rfl | h
   ·simp
   ·exact old f (JE h)
theorem IK {α:Type} {a:Array α} {p:α→Bool} (h:a.toList.any p=true):∃e,e∈a∧p e=true:=by
 obtain⟨e,he,hp⟩:=Kb.1 h;exact⟨e,Jt.1 he,hp⟩
theorem IJ {α:Type} {a:Array α} {p:α→Bool} (h:a.toList.all p=true) (e:α) (he:e∈a):p e=true:=JB.1 h e (Jt.2 he)
def pP (l:List Oper) (o:Oper):Bool :=
 (JK l.length).all (fun i=>(o.after.toList.any fun e=>Jm .any e&&e.on==i)||(JK l.length).any fun j=>decide (i<j)&&(l[j]?.map fun oj=>oj.after.toList.any fun e=>Jm .any e&&e.on==i).getD false)&&o.after.toList.all (fun e=>decide (e.on<l.length))&&o.guard.isNone &&
 (JK l.length).all (fun i=>(l[i]?.map fun oi=>oi.guard.isNone&&oi.after.toList.all fun e=>!Jm .any e||decide (e.on<i)).getD true)
def Ab (P:Program) (o:Oper) (Q:Exit→Act→World→Prop):Exit→Act→World→Prop
 | .normal,a,w=>o.wp P a w (fun a w=>Q .normal a w) Q
 | e,a,w=>Q e a w
theorem Dx {P:Program} {o o':Oper} {Q:Exit→Act→World→Prop} {a:Act} {K:Act→World→Prop} {r:Result Next} (h:Oper.upon P o a K (Ab P o' Q) r):Oper.upon P o a K Q r:=by
 cases r with
 | ok n w=>cases n<;>exact h
 | halt x w=>cases x<;>exact h
theorem AY (md:JX) (ops:Array Oper) (fuel t:Nat) (listed:Array Bool) (acc:List Nat) :
  IZ md ops (fuel+1) t listed acc=match (IV md ops listed)[t % (IV md ops listed).length]? with
   | some i=>IZ md ops fuel (t / (IV md ops listed).length) (listed.setIfInBounds i true) (i::acc)
   | none=>acc.reverse:=by
 simp only [IZ];rfl
theorem xF {listed:Array Bool} {i:Nat} {d:Bool} (hi:i<listed.size):(listed.push false).getD i d=listed.getD i d:=by
 simp [Jn,hi,Nat.lt_succ_of_lt hi,Array.getElem_push]
theorem ui (listed:Array Bool) (i:Nat):(listed.push false).getD i false=listed.getD i false:=by
 by_cases hi:i<listed.size
 ·exact xF hi
 ·by_cases he:i=listed.size
  ·subst he
   simp [Jn]
  ·simp [Jn,hi,show ¬i<listed.size+1 by omega]
theorem Dz {l:List Oper} {o:Oper} {listed:Array Bool} (hs:listed.size=l.length) (i:Nat) (hi:i<l.length) :
  (!(listed.push false).getD i true&&(((l++[o]).toArray[i]?).map (·.after.all fun e=>!Jm .any e||(listed.push false).getD e.on false)).getD false)=(!listed.getD i true&&((l.toArray[i]?).map (·.after.all fun e=>!Jm .any e||listed.getD e.on false)).getD false):=by
 rw [xF (by omega)];congr 2
 simp only [Jq,Jv hi];congr 1
 funext x
 simp only [ui]
def qu (l:List Oper) (listed:Array Bool):Prop:=∀(j:Nat) (oj:Oper),l[j]?=some oj→listed.getD j false=true→∀e∈oj.after,Jm .any e=true→listed.getD e.on false=true
theorem tw {l:List Oper} {o:Oper} {listed:Array Bool} (hB:pP l o=true) (hs:listed.size=l.length) (hc:qu l listed) :
  IV .any (l++[o]).toArray (listed.push false)=IV .any l.toArray listed++(if (∀i,i<l.length→listed.getD i false=true) then [l.length] else []):=by
 simp only [pP,IX,JB,Jh] at hB;obtain⟨⟨⟨h1,h2⟩,_⟩,_⟩:=hB;unfold IV;simp only [Jp,JI,Jr,List.range_succ,List.filter_append];congr 1
 ·refine List.filter_congr fun i hi=>?_
  exact Dz hs i (Jh.1 hi)
 ·have e1:(l++[o]).toArray[l.length]?=some o:=by simp
  simp only [Kc,List.filter_nil];have e2:(listed.push false).getD l.length true=false:=by
   rw [IQ,←hs,Array.getElem?_push_size];rfl
  have e3:(o.after.all fun e=>!Jm .any e||(listed.push false).getD e.on false)=decide (∀i,i<l.length→listed.getD i false=true):=by
   rw [Bool.eq_iff_iff];simp only [ui,decide_eq_true_eq,JJ,JN,Jz];constructor
   ·intro h
    have key:∀n i,i<l.length→l.length≤i+n→listed.getD i false=true:=by
     intro n;induction n with
     | zero=>intro i hi hn;omega
     | succ n ih =>
      intro i hi hn;have h3:=h1 i hi;simp only [JN,Kb,Jh,IX,decide_eq_true_eq] at h3;rcases h3 with h3 | ⟨j,hj,hij,h3⟩
      ·obtain⟨e,he,hb1,hb2⟩:=h3
       have hb:Jm .any e=true∧e.on=i:=⟨hb1,by simpa using hb2⟩
       rcases h e (Jt.1 he) with h | h
       ·rw [h] at hb
        cases hb.1
       ·rw [←hb.2]
        exact h
      ·rw [IM hj] at h3
       simp only [Jo,Je] at h3;obtain⟨e,he,hb⟩:=IK h3;simp only [IX,beq_iff_eq] at hb;rw [←hb.2];exact hc j l[j] (IM hj) (ih j hj (by omega)) e he hb.1
    exact fun i hi=>key l.length i hi (by omega)
   ·intro h e he
    have:=h2 e (Jt.2 he);exact .inr (h e.on (of_decide_eq_true this))
  rw [e2,e1];simp only [Jo,Je,e3,JQ,Bool.true_and,decide_eq_true_eq]
theorem BT {l:List Oper} {o:Oper} {listed:Array Bool} (hB:pP l o=true) (hs:listed.size=l.length) (hu:¬∀i,i<l.length→listed.getD i false=true):IV .any l.toArray listed≠[]:=by
 simp only [pP,IX,JB,Jh] at hB;obtain⟨_,h4⟩:=hB;have:∃i,i<l.length∧listed.getD i false=false:=by
  refine Ju fun h=>hu fun i hi=>?_
  cases hb:listed.getD i false
  ·exact absurd ⟨i,hi,hb⟩ h
  ·rfl
 have least:∀n,(∃i,i<n∧i<l.length∧listed.getD i false=false)→∃i,i<l.length∧listed.getD i false=false∧∀j,j<i→listed.getD j false=true:=by
  intro n;induction n with
  | zero=>rintro⟨i,hi,_⟩;omega
  | succ n ih =>
   rintro⟨i,hi,hl,hb⟩;by_cases hx:∃i,i<n∧i<l.length∧listed.getD i false=false
   ·exact ih hx
   ·have:i=n:=by
     refine Ju fun h=>hx ⟨i,by omega,hl,hb⟩
    subst this;refine⟨i,hl,hb,fun j hj=>?_⟩
    cases hjb:listed.getD j false
    ·exact absurd ⟨j,hj,by omega,hjb⟩ hx
    ·rfl
 obtain⟨i0,hi0,hb0⟩:=this;obtain⟨i,hi,hb,hj⟩:=least (i0+1) ⟨i0,by omega,hi0,hb0⟩;intro hnil;have hmem:i∈IV .any l.toArray listed:=by
  unfold IV;refine JF.2 ⟨by simpa using hi,?_⟩
  have h5:=h4 i hi;rw [IM hi] at h5;simp only [Jo,Je,IX] at h5;have e1:l.toArray[i]?=some l[i]:=by simp [hi]
  have e2:listed.getD i true=false:=by
   simp only [Jn,show i<listed.size by omega,dite_true] at hb ⊢;exact hb
  rw [e1,e2];simp only [Jo,Je,JQ,Bool.true_and];refine JJ.2 fun e he=>?_
  have h6:=IJ h5.2 e he;simp only [JN,Jz,decide_eq_true_eq] at h6 ⊢;exact h6.imp id (hj e.on)
 rw [hnil] at hmem;cases hmem
theorem Bl {l:List Oper} {listed:Array Bool} {i:Nat} (hs:listed.size=l.length) (hc:qu l listed) (hi:i∈IV .any l.toArray listed):qu l (listed.setIfInBounds i true):=by
 unfold IV at hi;obtain⟨h1,h2⟩:=JF.1 hi;simp only [Jp,Jh] at h1;simp only [IX,Jq,IM h1,Jo,Je] at h2;have hg:∀j,listed.getD j false=true→(listed.setIfInBounds i true).getD j false=true:=fun j hj=>by
  by_cases e:i=j
  ·subst e
   simp [Jn,hs,h1]
  ·rw [IQ,Ji e,←IQ]
   exact hj
 intro j oj hj hjl e he hb;by_cases e1:i=j
 ·subst e1
  rw [IM h1] at hj;obtain rfl:=IP hj;have:=JJ.1 h2.2 e he;rw [hb] at this;exact hg _ (by simpa using this)
 ·rw [IQ,Ji e1,←IQ] at hjl
  exact hg _ (hc j oj hj hjl e he hb)
theorem tY {md:JX} {ops:Array Oper} {listed:Array Bool} {i:Nat} (h:i∈IV md ops listed):i<ops.size∧listed.getD i true=false:=by
 unfold IV at h;obtain⟨h1,h2⟩:=JF.1 h;simp only [IX,Jz] at h2;exact⟨Jh.1 h1,h2.1⟩
theorem uL {l:List Oper} {listed:Array Bool} (hs:listed.size=l.length) (hall:∀i,i<l.length→listed.getD i false=true):IV .any l.toArray listed=[]:=by
 refine List.eq_nil_iff_forall_not_mem.2 fun i hi=>?_
 obtain⟨h1,h2⟩:=tY hi;have h3:=hall i (by simpa using h1);have:i<listed.size:=by rw [hs];simpa using h1
 simp only [Jn,this,dite_true] at h2 h3;rw [h2] at h3;cases h3
def unl (n:Nat) (listed:Array Bool):Nat:=((JK n).filter fun i=>!listed.getD i false).length
theorem GW {n:Nat} {listed:Array Bool} {i:Nat} (hs:listed.size=n) (hi:i<n) (hb:listed.getD i true=false):unl n (listed.setIfInBounds i true)<unl n listed:=by
 unfold unl;have hg:∀j,(listed.setIfInBounds i true).getD j false=if j=i then true else listed.getD j false:=fun j=>by
  by_cases e:j=i
  ·subst e
   simp [Jn,hs,hi]
  ·rw [IQ,IQ,Ji (fun h=>e h.symm),if_neg e]
 have hb':listed.getD i false=false:=by
  simp only [Jn,show i<listed.size by omega,dite_true] at hb ⊢;exact hb
 have key:∀l:List Nat,(l.filter fun j=>!(listed.setIfInBounds i true).getD j false).length≤(l.filter fun j=>!listed.getD j false).length∧(i∈l→(l.filter fun j=>!(listed.setIfInBounds i true).getD j false).length<(l.filter fun j=>!listed.getD j false).length):=by
  intro l;induction l with
  | nil=>exact⟨JA _,fun h=>by cases h⟩
  | cons x l ih =>
   simp only [Kc,hg x];by_cases e:x=i
   ·subst e
    simp only [if_true,Bool.not_true,Bool.false_eq_true,if_false,hb',JQ,Ke];exact⟨by omega,fun _=>by omega⟩
   ·simp only [if_neg e]
    split
    ·simp only [Ke]
     refine⟨by omega,fun h=>?_⟩
     have:=ih.2 ((JR.1 h).resolve_left fun h=>e h.symm);omega
    ·refine⟨ih.1,fun h=>ih.2 ((JR.1 h).resolve_left fun h=>e h.symm)⟩
 exact(key _).2 (Jh.2 hi)
theorem Gv {l:List Oper} {o:Oper} (hB:pP l o=true):∀(fuel t:Nat) (listed:Array Bool),listed.size=l.length→qu l listed→unl l.length listed≤fuel →
  IZ .any (l++[o]).toArray (fuel+1) t (listed.push false) []=IZ .any l.toArray fuel t listed []++[l.length]∧∀i∈IZ .any l.toArray fuel t listed [],i<l.length:=by
 have full:∀(fuel t:Nat) (listed:Array Bool),listed.size=l.length→qu l listed→(∀i,i<l.length→listed.getD i false=true) →
   IZ .any (l++[o]).toArray (fuel+1) t (listed.push false) []=[l.length]:=by
  intro fuel t listed hs hc hall;rw [AY,tw hB hs hc,if_pos hall,uL hs hall];simp only [Kg,Jr,Nat.mod_one,List.getElem?_cons_zero];cases fuel with
  | zero=>rfl
  | succ fuel =>
   rw [AY];have:IV .any (l++[o]).toArray ((listed.push false).setIfInBounds l.length true)=[]:=by
    refine List.eq_nil_iff_forall_not_mem.2 fun i hi=>?_
    obtain⟨h1,h2⟩:=tY hi;simp only [Jp,JI,Jr] at h1;by_cases e:i=l.length
    ·subst e
     simp [Jn,hs] at h2
    ·have h3:=hall i (by omega)
     have hil:i<listed.size:=by omega
     rw [IQ,Ji (by omega),Array.getElem?_push_lt hil] at h2;rw [IQ,Array.getElem?_eq_getElem hil] at h3;simp only [Je] at h2 h3;rw [h2] at h3;cases h3
   rw [this];rfl
 intro fuel;induction fuel with
 | zero =>
  intro t listed hs hc hu;have hall:∀i,i<l.length→listed.getD i false=true:=fun i hi=>by
   cases hb:listed.getD i false
   ·exfalso
    have:i∈(JK l.length).filter fun i=>!listed.getD i false:=JF.2 ⟨Jh.2 hi,by rw [hb];rfl⟩
    unfold unl at hu;have:=List.length_pos_of_mem this;omega
   ·rfl
  exact⟨full 0 t listed hs hc hall,fun i hi=>by simp [IZ] at hi⟩
 | succ fuel ih =>
  intro t listed hs hc hu;by_cases hall:∀i,i<l.length→listed.getD i false=true
  ·have e:=AY .any l.toArray fuel t listed []
   rw [uL hs hall] at e;have e':IZ .any l.toArray (fuel+1) t listed []=[]:=e;rw [e'];exact⟨full (fuel+1) t listed hs hc hall,fun i hi=>by cases hi⟩
  ·have hne:=BT hB hs hall
   rw [AY,tw hB hs hc,if_neg hall,List.append_nil,AY .any l.toArray fuel t listed []];have hlt:t % (IV .any l.toArray listed).length<(IV .any l.toArray listed).length:=Nat.mod_lt _ (List.length_pos_iff.2 hne);rw [IM hlt];simp only;have hmem:=JZ hlt;generalize (IV .any l.toArray listed)[t % (IV .any l.toArray listed).length]=i at *;obtain⟨hi,hb⟩:=tY hmem;simp only [Jp] at hi;rw [linearise_go_acc,linearise_go_acc .any l.toArray];have hset:(listed.push false).setIfInBounds i true=(listed.setIfInBounds i true).push false:=by
    apply Array.ext_getElem?;intro j;simp only [Array.getElem?_setIfInBounds,Array.getElem?_push,Array.size_push,Array.size_setIfInBounds];by_cases e:i=j
    ·subst e
     simp only [hs,hi,show ¬i=l.length by omega,if_true,if_false,show i<l.length+1 by omega]
    ·simp [e]
   rw [hset];obtain⟨h1,h2⟩:=ih (t / (IV .any l.toArray listed).length) (listed.setIfInBounds i true) (by simp [hs]) (Bl hs hc hmem) (by have:=GW hs hi hb;omega);rw [h1];refine⟨by simp,fun j hj=>?_⟩
   rcases JM.1 hj with hj | hj
   ·simp at hj
    omega
   ·exact h2 j hj
theorem tI {P:Program} {l:List Oper} {o:Oper} {Q:Exit→Act→World→Prop} (hB:pP l o=true):∀(order:List Nat) (a:Act) (w:World),(∀i∈order,i<l.length)→wpOps P l.toArray (Ab P o Q) order a w→wpOps P (l++[o]).toArray Q (order++[l.length]) a w
 | [],a,w,_,h=>by
  have hg:o.guard=none:=by
   simp only [pP,IX] at hB;simpa using hB.1.2
  have h':o.wp P a w (fun a w=>Q .normal a w) Q:=h;simp only [Kg,wpOps,Jq,List.getElem?_concat_length,Jk,hg,if_true];exact .inl h'
 | i::order,a,w,hi,h=>by
  have hlt:=hi i (by simp);have hg:(l[i]).guard=none:=by
   simp only [pP,IX,JB,Jh] at hB;have:=hB.2 i hlt;rw [IM hlt] at this;simp only [Jo,Je,IX] at this;simpa using this.1
  rw [List.cons_append,wpOps_cons];rw [wpOps_cons] at h;unfold wpOp at h ⊢;simp only [Jq,Jv hlt,IM hlt,Jk,hg,if_true] at h ⊢;rcases h with h | ⟨h1,h2⟩
  ·refine .inl ?_
   have h3:l[i].wp P a w (wpOps P (l++[o]).toArray Q (order++[l.length])) (Ab P o Q):=Oper.wp_mono (fun a w=>tI hB order a w (fun j hj=>hi j (by simp [hj]))) h;exact Dx h3
  ·exact .inr ⟨h1,h2⟩
theorem cD {P:Program} {id:Nat} {l:List Oper} {o:Oper} {Q:Exit→Act→World→Prop} {S:World→Prop} {a:Act} {w:World} (hm:P.follows .mixedOrders=true) (hB:pP l o=true) (hS:S w.drew)
  (h:S w.drew→wpAnyH P .any l.toArray (Ab P o Q) S l.length (JO l.length false) a w.drew):(Code.region id (l++[o]).toArray true).wp P Q a w :=
 wp_region_draw fun t=>by
  simp only [Region.schedule,hm,Bool.true_or,if_true];have e:Region.linearise .any (l++[o]).toArray t=IZ .any (l++[o]).toArray (l.length+1) t ((JO l.length false).push false) []:=by
   simp only [Region.linearise,Jp,JI,Jr];rw [Array.replicate_succ]
  obtain⟨h1,h2⟩:=Gv hB l.length t (JO l.length false) (by simp) (fun j oj hj hjl=>by
   rw [IQ,Array.getElem?_replicate] at hjl;split at hjl<;>cases hjl) (by unfold unl;exact Jw (List.length_filter_le _ _) (by simp))
  rw [e,h1];exact tI hB _ _ _ h2 (wpAny_sound _ t _ _ _ (wpAny_of_held _ _ _ _ (h hS)))
theorem bv {P:Program} {md:JX} {ops:Array Oper} {o:Oper} {Q:Exit→Act→World→Prop} {S:World→Prop} {fuel:Nat} {listed:Array Bool} {a:Act} {w:World} (hr:IV md ops listed=[]) (h:o.wp P a w (fun a w=>Q .normal a w) Q):wpAnyH P md ops (Ab P o Q) S fuel listed a w :=
 wpAnyH_done hr h fuel
end Go.Proofs.Ytankikbbdfgkbaa

end
