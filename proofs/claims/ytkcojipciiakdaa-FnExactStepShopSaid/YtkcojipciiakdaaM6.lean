/-
  A part of the proof: contracts and plain forms of functions beneath the statement, made small by a program (names shortened, what is not needed left out).
-/
import Derived.Test.YtkcojipciiakdaaRows
import Derived.Test.YtkcojipciiakdaaM5
import Derived.Deep.RegionHeld3
import Derived.Deep.DrawnRows
import Derived.Deep.AppendLies
import Derived.StillTailTactics
import Derived.Deep.RegionLaw
import Derived.Deep.Cut
open List renaming getElem?_eq_getElem → HA, length_take → HH, getElem?_eq_some_iff → HJ, length_map → HL, getElem?_set_self → HN, take_append_drop → HQ, getElem?_take → HR, mem_range → HS, getElem?_set_ne → HU, size_toArray → Ia, getElem?_toArray → Ib, length_singleton → Ic, getElem?_append_left → Ii, all_eq_true → In, mem_of_mem_take → Io, mem_of_getElem? → Ip, mem_of_mem_drop → Iq, mem_filter → Ir, eq_nil_of_length_eq_zero → It, length_append → Iv, range → Iy, mem_append → IA, mem_iff_getElem? → ID, mem_cons → IF, getElem_of_mem → IG, map_toArray → IM, getElem_mem → IP, length_drop → IQ, any_eq_true → IU, filter_cons → IV, length_cons → IW, length_nil → IX, nil_append → IY
open Option.some renaming inj → HB
open Array renaming getD_eq_getD_getElem? → HC, getElem?_setIfInBounds_ne → HT, getD → HY, mem_toList_iff → Ig, all_eq_true' → Iw, replicate → IC
open Go.Lib renaming frozen_of_heap → HD
open Go.Region renaming ready → HE, wanted → HV, binds → HX, Mode → IL
open Bool renaming and_eq_true → HG, not_eq_true' → Ix, or_eq_true → IB, not_false → IE
open Go.Region.linearise renaming go → HI
open Go.World renaming drew → HK, setCell → HW, cell?_of_block → Ie
open Go.Proofs renaming enters_of → HM
open Option renaming getD_some → HO, map_some → HZ
open Classical renaming byContradiction → Ih
open Nat renaming le_trans → Ij, le_refl → Im, min_eq_left → Iz, zero_add → IH, lt_of_lt_of_le → II
open Go.RowKit.Below renaming refl → Ik
open Go.Value renaming ownBlock → Il
open Go.IntKind renaming i64 → Iu
open Go.Oper renaming wp → IJ
open Go.Result renaming andThen_ok → IK
set_option maxRecDepth 100000
set_option linter.unusedSimpArgs false
set_option linter.unusedVariables false
noncomputable section
namespace Go.Proofs.Ytkcojipciiakdaa
open Go Go.Proofs Go.V Go.RowKit
set_option maxRecDepth 100000
abbrev Stp:=Int × Int × ByteArray × Int
abbrev stp (x:Stp):D:=.agg [I x.1,I x.2.1,T x.2.2.1,I x.2.2.2]
def cN (x:Stp):Bool:=decide (1≤x.2.1∧x.2.1≤99)&&(if x.1=1 then dO x.2.2.1 1 16&&decide (x.2.2.2=0) else if x.1=3 then decide (x.2.2.1=⟨⟨[]⟩⟩)&&decide (1≤x.2.2.2∧x.2.2.2≤1000)
 else if x.1=2∨x.1=4∨x.1=5∨x.1=6 then decide (x.2.2.1=⟨⟨[]⟩⟩)&&decide (x.2.2.2=0) else false)
theorem pR (x:Stp) (h:x.2.2.1.size≤9223372036854775807):es [stp x]=some (.ret [B (cN x)] []):=by
 rw [oN];obtain⟨k,i,w,n⟩:=x;have hw:=vL w h;simp only [cN];by_cases hi:1≤i∧i≤99
 rotate_left
 ·simp -implicitDefEqProofs [aR,hi]
 by_cases h1:k=1
 ·subst h1
  cases hl:dO w 1 16<;>simp -implicitDefEqProofs [aR,hi,hw,hl]
 by_cases h3:k=3
 ·subst h3
  by_cases hz:w=⟨⟨[]⟩⟩<;>simp -implicitDefEqProofs [aR,bH,hi,hz]
 by_cases h2:k=2
 ·subst h2
  by_cases hz:w=⟨⟨[]⟩⟩<;>simp -implicitDefEqProofs [aR,hi,hz]
 by_cases h4:k=4
 ·subst h4
  by_cases hz:w=⟨⟨[]⟩⟩<;>simp -implicitDefEqProofs [aR,hi,hz]
 by_cases h5:k=5
 ·subst h5
  by_cases hz:w=⟨⟨[]⟩⟩<;>simp -implicitDefEqProofs [aR,hi,hz]
 by_cases h6:k=6
 ·subst h6
  by_cases hz:w=⟨⟨[]⟩⟩<;>simp -implicitDefEqProofs [aR,hi,hz]
 simp -implicitDefEqProofs [aR,hi,h1,h2,h3,h4,h5,h6]
theorem uZ (x:Stp) (h:x.2.2.1.size≤9223372036854775807):gQ [stp x]=some (.ret [B (cN x)] []):=by
 rw [uS];obtain⟨k,i,w,n⟩:=x;have hw:=vl w h;simp only [cN];by_cases hi:1≤i∧i≤99
 rotate_left
 ·simp -implicitDefEqProofs [bu,hi]
 by_cases h1:k=1
 ·subst h1
  cases hl:dO w 1 16<;>simp -implicitDefEqProofs [bu,hi,hw,hl]
 by_cases h3:k=3
 ·subst h3
  by_cases hz:w=⟨⟨[]⟩⟩<;>simp -implicitDefEqProofs [bu,hi,hz]
 by_cases h2:k=2
 ·subst h2
  by_cases hz:w=⟨⟨[]⟩⟩<;>simp -implicitDefEqProofs [bu,hi,hz]
 by_cases h4:k=4
 ·subst h4
  by_cases hz:w=⟨⟨[]⟩⟩<;>simp -implicitDefEqProofs [bu,hi,hz]
 by_cases h5:k=5
 ·subst h5
  by_cases hz:w=⟨⟨[]⟩⟩<;>simp -implicitDefEqProofs [bu,hi,hz]
 by_cases h6:k=6
 ·subst h6
  by_cases hz:w=⟨⟨[]⟩⟩<;>simp -implicitDefEqProofs [bu,hi,hz]
 simp -implicitDefEqProofs [bu,hi,h1,h2,h3,h4,h5,h6]
open Classical in
def xC (l:List Bx) (w:ByteArray):Option (List Nat):=if h:Codes (aK l) then Classical.choose (nY h _ (aw w) [] (Im _)) else none
theorem pV {l:List Bx} (h:bI l=true) (w:ByteArray):Sets (aK l) (aw w) [] (xC l w):=by
 unfold xC;rw [dif_pos (ia h)];exact Classical.choose_spec (nY (ia h) _ (aw w) [] (Im _))
def cI (l:List Bx) (w:ByteArray):List ByteArray:=bS (aK l) ((xC l w).getD [])
def sr (l:List Bx) (w:ByteArray):Bool:=(xC l w).isSome
theorem nT {l:List Bx} (h:bI l=true) {w:ByteArray} (hb:sr l w=true):(cI l w).length≤w.size∧∀c∈cI l w,∃k:Nat,fC (aK l) c=k∧k<l.length:=by
 unfold sr at hb;unfold cI;obtain⟨r,hr⟩:=Option.isSome_iff_exists.1 hb;obtain⟨h1,h2⟩:=xc (ia h) (pV h w) (fun i hi=>by simp at hi) r hr;rw [hr,HO];refine⟨?_,yQ h1⟩
 simp only [IX,IH] at h2;simpa [bS,dG] using h2
def uh (l:List Fm) (i:Nat):Bool:=(l[i]?.map fun x=>x.2.2.1).getD false
def cL (l:List Fm) (n:Int):List Fm:=if eR l n=true then l else l.take (atF l n)++(n,[],false,0)::l.drop (atF l n)
def CV (l:List Fm) (i:Nat) (cs:List ByteArray):List Fm:=match l[i]? with
 | some x=>l.set i (x.1,x.2.1++cs,x.2.2.1,x.2.2.2)
 | none=>l
def xw (s:Sp) (n:Int) (w:ByteArray):Sp:=(br (aK s.1) (-1) s.1 (cI s.1 w),CV (cL s.2.1 n) (atF s.2.1 n) (cI s.1 w),s.2.2.1,s.2.2.2)
def iz (s:Sp) (n:Int) (w:ByteArray):Bool:=sr s.1 w&&bI (br (aK s.1) (-1) s.1 (cI s.1 w)) && !uh (cL s.2.1 n) (atF s.2.1 n)
def eU (s:Sp) (i:Nat) (x:Stp):Sp:=match s.2.1[i]? with
 | none=>s
 | some f =>
  if x.1=2 then(s.1,s.2.1.set i (f.1,f.2.1,true,f.2.2.2),s.2.2.1,s.2.2.2)
  else if x.1=3 then(s.1,s.2.1.set i (f.1,f.2.1,f.2.2.1,f.2.2.2+x.2.2.2),s.2.2.1,s.2.2.2+x.2.2.2)
  else if x.1=4 then(s.1,s.2.1.set i (f.1,f.2.1,false,f.2.2.2),s.2.2.1,s.2.2.2)
  else if x.1=5 then(s.1,s.2.1.set i (f.1,f.2.1.take (f.2.1.length - 1),f.2.2.1,f.2.2.2),s.2.2.1+1,s.2.2.2)
  else(br (aK s.1) 1 s.1 f.2.1,s.2.1.take i++s.2.1.drop (i+1),s.2.2.1,s.2.2.2)
def cG (s:Sp) (i:Nat) (x:Stp):Bool:=match s.2.1[i]? with
 | none=>false
 | some f =>
  if x.1=2 then !f.2.2.1
  else if x.1=3 then f.2.2.1
  else if x.1=4 then f.2.2.1
  else if x.1=5 then !f.2.2.1 && !decide (f.2.1.length=0)
  else !f.2.2.1&&bI (br (aK s.1) 1 s.1 f.2.1)
def gw (s:Sp) (x:Stp):Sp:=if x.1=1 then xw s x.2.1 x.2.2.1 else eU s (atF s.2.1 x.2.1) x
def iB (s:Sp) (x:Stp):Bool:=if x.1=1 then iz s x.2.1 x.2.2.1 else eR s.2.1 x.2.1&&cG s (atF s.2.1 x.2.1) x
def gJ (s:Sp) (x:Stp):Bool:=cN x&&iB s x&&aW (gw s x)
def stS (s:Sp) (x:Stp):Sp:=if gJ s x=true then gw s x else([],[],0,0)
theorem tI {x:Stp} (h:cN x=true):x.1=1∨x.1=2∨x.1=3∨x.1=4∨x.1=5∨x.1=6:=by
 unfold cN at h;by_cases h1:x.1=1
 ·exact .inl h1
 by_cases h3:x.1=3
 ·exact .inr (.inr (.inl h3))
 rw [if_neg h1,if_neg h3] at h;by_cases h4:x.1=2∨x.1=4∨x.1=5∨x.1=6
 ·omega
 ·rw [if_neg h4] at h
  simp at h
theorem AW {x:Stp} (h:cN x=true) (h3:x.1=3):1≤x.2.2.2∧x.2.2.2≤1000:=by
 unfold cN at h;rw [if_neg (by omega),if_pos h3] at h;simp only [HG,decide_eq_true_eq] at h;exact h.2.2
theorem xF {x:Stp} (h:cN x=true) (h1:x.1=1):x.2.2.1.size≤16:=by
 unfold cN at h;rw [if_pos h1] at h;simp only [HG,decide_eq_true_eq,dO] at h;omega
set_option maxRecDepth 100000
def Gd (s:Sp) (i:Nat):Prop:=∀j,j<i→bI (mvs s.1 (s.2.1.take (j+1)))=true
theorem Gd.succ {s:Sp} {i:Nat} (h:Gd s i) (h1:bI (mvs s.1 (s.2.1.take (i+1)))=true):Gd s (i+1):=fun j hj=>by
 by_cases e:j=i
 ·subst e
  exact h1
 ·exact h j (by omega)
set_option maxRecDepth 100000
attribute [local go_sem ↓] Go.wp_at_zero Go.wp_at_succ
theorem sD {P:Program} (w:World) {o:Oper} {a:Act} {K:Act→World→Prop} {Q:Exit→Act→World→Prop} (s x:Operand) (t:TypeId)
  (ho:o.op = .call {callee:=.builtin .append,args:=#[s,x],argTypes:=#[t,t]})
  (base:Nat) (e:TypeId) (i:TypeInfo) (z:Value) (size bytes:Nat) (ht:P.underlying t=some (.slice e)) (hi:P.info? e=some i) (hz:i.zero=some z)
  (hsize:i.size=size) (hby:i.bytes=bytes) (hzs:z.cells.size=size) (hsz:0<size)
  (v:Value) (n:Nat) (xs:List Value) (hs:a.eval s=v) (hown:w.ownsRow base e size v n xs)
  (A:Option Addr) (m c:Nat) (news:List Value) (hx:a.eval x = .slice A m c) (hl:news.length=m*size) (hA:m≠0→∃g o,A=some ⟨g,o,none⟩∧∀j u,news[j]?=some u→w.cell? ⟨g,o+j,none⟩=some u) (h1:∀u∈news,u.oneCell'=true)
  (h63:n+m≤maxLen) (hbytes:(n+m)*bytes≤140737488355328) (hbase:base≤w.heap.size)
  (h:∀v' w',w'.ownsRow base e size v' (n+m) (xs++news)→w.grownBy w' v.ownBlock→(v'.ownBlock=v.ownBlock∨v'.ownBlock=some w.heap.size)→K (a.put o.dst v') w'):o.wp P a w K Q:=by
 cases A with
 | some ad =>
  have hn:∀j u,news[j]?=some u→w.cell? (ad.add j)=some u:=fun j u hj=>by
   have hm:m≠0:=by
    rintro rfl;have:news=[]:=It (by simpa using hl);subst this;simp at hj
   obtain⟨g,o,e1,h2⟩:=hA hm;cases e1;rw [show(⟨g,o,none⟩:Addr).add j=⟨g,o+j,none⟩ by cases j<;>simp [Addr.add]];exact h2 j u hj
  obtain⟨v',w',hr,h2,h3,_,h5⟩:=run_append_own_at (P:=P) w base t o.type e i z size bytes ht hi hz hsize hby hzs hsz v n xs hown ad m c news hl hn h1 h63 hbytes hbase;unfold IJ execOp;simp only [ho,resolve,invoke,builtin,Sem.run_bind,Sem.run_pure,IK,IM,List.map_cons,List.map_nil,hs,hx,hr];exact h v' w' h2 h3 h5
 | none =>
  have hm:m=0:=Ih fun hm=>by
   obtain⟨_,_,e1,_⟩:=hA hm;cases e1
  subst hm;have hnews:news=[]:=It (by simpa using hl);subst hnews;have hrun:=jd (P:=P) w base t o.type e i size c ht hi v n xs hown;unfold IJ;simp [execOp,ho,resolve,invoke,builtin,hs,hx,hrun,Result.andThen];exact h v w (by simpa using hown) (World.grownBy.refl _ _) (.inl rfl)
theorem af {P:Program} (w:World) {ops:Array Oper} {o:Oper} {a:Act} {K:Act→World→Prop} {Q:Exit→Act→World→Prop} {E:Prop} (hgd:o.guard=none) (s x:Operand) (t:TypeId)
  (ho:o.op = .call {callee:=.builtin .append,args:=#[s,x],argTypes:=#[t,t]})
  (base:Nat) (e:TypeId) (i:TypeInfo) (z:Value) (size bytes:Nat) (ht:P.underlying t=some (.slice e)) (hi:P.info? e=some i) (hz:i.zero=some z)
  (hsize:i.size=size) (hby:i.bytes=bytes) (hzs:z.cells.size=size) (hsz:0<size)
  (v:Value) (n:Nat) (xs:List Value) (hs:a.eval s=v) (hown:w.ownsRow base e size v n xs)
  (A:Option Addr) (m c:Nat) (news:List Value) (hx:a.eval x = .slice A m c) (hl:news.length=m*size) (hA:m≠0→∃g o,A=some ⟨g,o,none⟩∧∀j u,news[j]?=some u→w.cell? ⟨g,o+j,none⟩=some u) (h1:∀u∈news,u.oneCell'=true)
  (h63:n+m≤maxLen) (hbytes:(n+m)*bytes≤140737488355328) (hbase:base≤w.heap.size)
  (h:∀v' w',w'.ownsRow base e size v' (n+m) (xs++news)→w.grownBy w' v.ownBlock→(v'.ownBlock=v.ownBlock∨v'.ownBlock=some w.heap.size)→K (a.put o.dst v') w') :
  if HV o (yielded ops a.tmps)=true then IJ P o a w K Q else E:=by
 have hw:HV o (yielded ops a.tmps)=true:=by simp [HV,hgd]
 rw [if_pos hw];exact sD w s x t ho base e i z size bytes ht hi hz hsize hby hzs hsz v n xs hs hown A m c news hx hl hA h1 h63 hbytes hbase h
theorem vw (l:List ByteArray) (h:l.length≤1048576):jI [txs l]=some (.ret [txs l] []):=by
 rw [uY];have hk:kz (txs l)=some (txs l):=pc fun _=>rfl
 rw [ee,hk];simp only [Option.bind_some];rw [fu,if_pos (by simp only [HL,true_or,true_and,IX];omega)];rfl
theorem yw (l:List ByteArray) (h:l.length≤1048576) {w:World} {F:Nat→Prop} {y:Value} (hr:aQ w F (txs l) y) (hF:∀b,F b→b<w.heap.size) :
  Calls Try.prog 86 #[y] w fun e w'=>∃A n c,e = .returned (.slice A n c)∧bf w' (fun _=>False) (aA (.slice A n c)) 1 (txs l) (.slice A n c)∧(∀b,aA (.slice A n c) b→w.heap.size≤b∧b<w'.heap.size)∧Below w.heap.size w w' :=
 yd (HM Try.func86 (by kernel_rfl) rfl) vp (vw l h) (by simp) hr hF
theorem EF {w':World} {b:Nat} {x0 x1 x2 x3:Value} {t:TypeId} (h:w'.heap[b]?=some (.cells #[x0,x1,x2,x3] t (0,0))):w'.cell? ⟨b,0,none⟩=some x0∧w'.cell? ⟨b,2,none⟩=some x2∧w'.cell? ⟨b,3,none⟩=some x3:=⟨(aa h).1,(aa h).2.2.1,(aa h).2.2.2⟩
theorem sc {w':World} {b g:Nat} {o:Obj} (x0 x1 x2 x3:Value) (hg:g≠b) (h:w'.heap[b]?=some o):((((w'.setCell ⟨g,0,none⟩ x0).setCell ⟨g,1,none⟩ x1).setCell ⟨g,2,none⟩ x2).setCell ⟨g,3,none⟩ x3).heap[b]?=some o:=by
 rw [heap_setCell_other _ _ _ _ (by simp;omega),heap_setCell_other _ _ _ _ (by simp;omega),heap_setCell_other _ _ _ _ (by simp;omega),heap_setCell_other _ _ _ _ (by simp;omega)];exact h
theorem mz {w:World} {b:Nat} {o:Obj} (h:w.heap[b]?=some o):w.drew.heap[b]?=some o:=h
theorem zh {w':World} {g:Nat} {z:Nat} {d:D} {y:Value} (x0 x1 x2 x3:Value) (h:bf w' (fun _=>False) (aA y) z d y) (hg:∀b,aA y b→g≠b):bf ((((w'.setCell ⟨g,0,none⟩ x0).setCell ⟨g,1,none⟩ x1).setCell ⟨g,2,none⟩ x2).setCell ⟨g,3,none⟩ x3) (fun _=>False) (aA y) z d y :=
 aJ h fun b hb=>by
  have:=hg b hb;rw [heap_setCell_other _ _ _ _ (by simp;omega),heap_setCell_other _ _ _ _ (by simp;omega),heap_setCell_other _ _ _ _ (by simp;omega),heap_setCell_other _ _ _ _ (by simp;omega)]
def Hx (w:World) (p B:Nat) (Vb:Value) (x y:Int) (l:List Fm):Prop:=∃A n c ys,w.heap[p]?=some (.cells #[Vb,.slice A n c,.int .i64 x,.int .i64 y] 33 (0,0))∧FmsAt w B (.slice A n c) ys l
set_option maxHeartbeats 4000000 in
set_option maxRecDepth 1000000 in
theorem ur (s:Sp) (hs:cK s) (v0:Value) (w:World) (F:Nat→Prop) (hr:aQ w F (sp s) v0) (hF:∀b,F b→b<w.heap.size) :
    Calls Try.prog 48 #[v0] w fun e w'=>∃v,e = .returned v∧ut w' w.heap.size v s∧Below w.heap.size w w':=by
  obtain⟨A,n,c,A',n',c',rfl,hb,hf⟩:=eG hr;obtain⟨i0,hi0,hz0,hz1,hz2⟩:=info_parts yB;obtain⟨us,hn,hul,hus,huw,hu1,huA⟩:=oY hb BJ;obtain⟨us2,hn2,hul2,hus2,_,_,huA2⟩:=oY hf BB;rw [HL] at hn hn2;subst hn hn2;have hbl:=hs.1.1
  go_enter Try.func48,Try.ntmps48
  go_wp2
  have hb2:∀a b,Below w.heap.size w ((w.alloc a).alloc b):=fun a b=>((Ik _ w).alloc (Im _) _).alloc (by simp) _
  have B2:=hb2 (.cells #[.slice A s.1.length c,.slice A' s.2.1.length c',.int .i64 s.2.2.1,.int .i64 s.2.2.2] 33) (.cells #[.slice none 0 0,.slice none 0 0,.int .i64 0,.int .i64 0] 33);have H1:((w.alloc (.cells #[.slice A s.1.length c,.slice A' s.2.1.length c',.int .i64 s.2.2.1,.int .i64 s.2.2.2] 33)).alloc (.cells #[.slice none 0 0,.slice none 0 0,.int .i64 0,.int .i64 0] 33)).heap[w.heap.size]?=some (.cells #[.slice A s.1.length c,.slice A' s.2.1.length c',.int .i64 s.2.2.1,.int .i64 s.2.2.2] 33 (0,0)):=ah _ (ac _ rfl);have H2:((w.alloc (.cells #[.slice A s.1.length c,.slice A' s.2.1.length c',.int .i64 s.2.2.1,.int .i64 s.2.2.2] 33)).alloc (.cells #[.slice none 0 0,.slice none 0 0,.int .i64 0,.int .i64 0] 33)).heap[w.heap.size+1]?=some (.cells #[.slice none 0 0,.slice none 0 0,.int .i64 0,.int .i64 0] 33 (0,0)):=ac _ (by simp);have S2:((w.alloc (.cells #[.slice A s.1.length c,.slice A' s.2.1.length c',.int .i64 s.2.2.1,.int .i64 s.2.2.2] 33)).alloc (.cells #[.slice none 0 0,.slice none 0 0,.int .i64 0,.int .i64 0] 33)).heap.size=w.heap.size+2:=by simp
  generalize (w.alloc (.cells #[.slice A s.1.length c,.slice A' s.2.1.length c',.int .i64 s.2.2.1,.int .i64 s.2.2.2] 33)).alloc (.cells #[.slice none 0 0,.slice none 0 0,.int .i64 0,.int .i64 0] 33)=W at *;clear hb2;have S2a:w.heap.size+2≤W.heap.size:=by omega
  have S2b:W.heap.size≤w.heap.size+2:=by omega
  clear S2;rename_i K hK;have hrest:Hid (∀(u6 u7 u8 u9 u10 u11 u12 u13 u14:Value) (p:Nat) (A1:Option Addr) (n1 c1:Nat) (W':World),w.heap.size+1<p→W'.heap[p]?=some (.cells #[.slice A1 n1 c1,.slice none 0 0,.int .i64 s.2.2.1,.int .i64 s.2.2.2] 33 (0,0)) →
      bf W' (fun _=>False) (aA (.slice A1 n1 c1)) 4 (bxs s.1) (.slice A1 n1 c1)→(∀b,aA (.slice A1 n1 c1) b→w.heap.size+1<b∧b≠p)→Below W.heap.size W W' →
      K {tmps:=#[.agg #[.slice A s.1.length c,.slice A' s.2.1.length c',.int .i64 s.2.2.1,.int .i64 s.2.2.2],.pointer (some ⟨w.heap.size,0,none⟩),.pointer (some ⟨w.heap.size+1,0,none⟩),.pointer (some ⟨p,0,none⟩),undef,undef,u6,u7,u8,u9,u10,u11,u12,u13,u14,
        undef,undef,undef,undef,undef,undef,undef,undef,undef,undef,undef,undef,undef,undef,undef,undef,undef,undef,undef],defers:=[]} W'):=by
    intro u6 u7 u8 u9 u10 u11 u12 u13 u14 p A1 n1 c1 W' hp0 H3 own1 hv1 hW;refine hK _ _ ?_
    have H1':=Below.some hW H1;have H2':=Below.some hW H2;have hpl:=aB H3;have c11:=(aa H1').2.1
    go_wp2
    obtain⟨i2,hi2,hx0,hx1,hx2⟩:=info_parts fy;have hln:=hs.2.1;have hsW:=hW.size;have hp1:p≠w.heap.size:=by omega
    have hp2:p≠w.heap.size+1:=by omega
    go_loopw [18] (fun vi wr=>∃i:Nat,vi = .int .i64 i∧i≤s.2.1.length∧Hx wr p W'.heap.size (.slice A1 n1 c1) s.2.2.1 s.2.2.2 (s.2.1.take i)∧KeptX (fun b=>b=p) W' wr) (fun vi _=>s.2.1.length - (intOf vi).toNat)
    case atStart =>
      exact⟨0,rfl,Nat.zero_le _,⟨_,_,_,[],H3,by simpa using qs _ _⟩,KeptX.refl _ _⟩
    case round =>
      obtain⟨i,rfl,hin,⟨Vg,Vn,Vc,ys,H3r,hFr⟩,hX⟩:=hrel;have hsz:=hX.size;have hBw:Below w.heap.size w wr:=(B2.trans (hW.mono (by omega))).trans (hX.below (B:=w.heap.size) (fun b hb=>by omega) (by omega));have hFlt:=hFr.lt;by_cases hp:i<s.2.1.length
      · have hpi:(i:Int)<(s.2.1.length:Int):=by omega
        obtain⟨b,o,rfl,hFb,hcell⟩:=huA2 (by omega);obtain⟨Ax,nx,cx,u0,u1,u2,u3,hry⟩:=tL hus2 hp;have hcb:∀{k:Nat} {u:Value},us2[k]?=some u→wr.cell? ⟨b,o+k,none⟩=some u:=fun {k u} hu=>(Ie (w:=w) (hBw.block b (hF b hFb))).trans (hcell k u hu)
        have k0:=hcb u0;have k1:=hcb u1;have k2:=hcb u2;have k3:=hcb u3;simp only [←Nat.add_assoc] at k1 k2 k3;have hxl:=hs.2.2 s.2.1[i] (IP hp);have htk:=List.take_succ_eq_append_getElem hp;generalize s.2.1[i]=x at *;have hBa:∀q,Below w.heap.size w (wr.alloc q):=fun q=>hBw.alloc (by omega) _
        have hcall:=fun q=>yw x.2.1 hxl (w:=wr.alloc q) (aI (fun _ h=>h) (fun b hb=>(hBa q).block b (hF b hb)) hry) (fun b hb=>II (hF b hb) (hBa q).size)
        go_wp2_with (go_at_call 86;refine(hcall _).mono ?_)
        rintro e w6 ⟨A2,n2,c2,rfl,own2,hv2,b6'⟩;have G1:w6.heap[wr.heap.size]?=some (.cells #[.int .i64 x.1,.slice Ax nx cx,.bool x.2.2.1,.int .i64 x.2.2.2] 75 (0,0)):=Below.some b6' (ac _ rfl);have S6:wr.heap.size<w6.heap.size:=aB G1;replace hv2:∀b,aA (.slice A2 n2 c2) b→wr.heap.size<b∧b<w6.heap.size:=fun b hb=>by
          have:=hv2 b hb;simp at this;omega
        have b6:Below wr.heap.size wr w6:=bm (be _ _) b6' (by simp);have H36:=(b6.block p (by omega)).trans H3r;have fg1:=HD G1 1;have cg1:=(aa G1).2.1;have G2:(w6.setCell ⟨wr.heap.size,1,none⟩ (.slice A2 n2 c2)).heap[wr.heap.size]?=some (.cells #[.int .i64 x.1,.slice A2 n2 c2,.bool x.2.2.1,.int .i64 x.2.2.2] 75 (0,0)):=heap_setCell_same _ _ 1 _ _ (.slice A2 n2 c2) G1;obtain⟨e0,e1,e2,e3⟩:=aa G2;have H37:(w6.setCell ⟨wr.heap.size,1,none⟩ (.slice A2 n2 c2)).heap[p]?=some (.cells #[.slice A1 n1 c1,.slice Vg Vn Vc,.int .i64 s.2.2.1,.int .i64 s.2.2.2] 33 (0,0)):=(heap_setCell_other _ _ _ _ (by simp;omega)).trans H36;have cp1:=(aa H37).2.1;have b8:Below wr.heap.size wr ((w6.setCell ⟨wr.heap.size,1,none⟩ (.slice A2 n2 c2)).alloc (.cells #[.int .i64 x.1,.slice A2 n2 c2,.bool x.2.2.1,.int .i64 x.2.2.2] 75)):=(b6.setCell (Im _) _).alloc (by simp [HW];omega) _;have hF8:=hFr.keep (w':=(w6.setCell ⟨wr.heap.size,1,none⟩ (.slice A2 n2 c2)).alloc (.cells #[.int .i64 x.1,.slice A2 n2 c2,.bool x.2.2.1,.int .i64 x.2.2.2] 75)) fun b hb=>b8.block b (hFlt b hb).2
        have own8:=aJ (w':=(w6.setCell ⟨wr.heap.size,1,none⟩ (.slice A2 n2 c2)).alloc (.cells #[.int .i64 x.1,.slice A2 n2 c2,.bool x.2.2.1,.int .i64 x.2.2.2] 75)) own2 fun b hb=>by
          have:=hv2 b hb;rw [fi _ (by simp [HW];omega),heap_setCell_other _ _ _ _ (by simp;omega)]
        have hl8:(s.2.1.take i).length=i:=by rw [HH];omega
        have S8:W'.heap.size≤((w6.setCell ⟨wr.heap.size,1,none⟩ (.slice A2 n2 c2)).alloc (.cells #[.int .i64 x.1,.slice A2 n2 c2,.bool x.2.2.1,.int .i64 x.2.2.2] 75)).heap.size:=by simp [HW];omega
        have H38:=ah (.cells #[.int .i64 x.1,.slice A2 n2 c2,.bool x.2.2.1,.int .i64 x.2.2.2] 75) H37
        go_wp2_with (at_builtin;refine dT _ rfl _ _ 31 rfl W'.heap.size 75 i2 (.agg #[.int .i64 0,.slice none 0 0,.bool false,.int .i64 0]) 4 48 Try.underlying31 hi2 hx0 hx1 hx2 rfl (by decide) (.slice Vg Vn Vc) _ _ rfl hF8.own (some ⟨w6.heap.size,0,none⟩) 1 1 [.int .i64 x.1,.slice A2 n2 c2,.bool x.2.2.1,.int .i64 x.2.2.2] (by simp [go_sem]) rfl (fun _=>⟨_,_,rfl,cg (ac _ (by simp [HW]))⟩) (by intro u hu;simp at hu;rcases hu with rfl | rfl | rfl | rfl<;>rfl) (by unfold maxLen;omega) (by omega) S8 ?_)
        intro v3 w9 hown9 hg9 hat9;have hF9:=cf (x:=x) (y:=.slice A2 n2 c2) hF8 S8 (by rw [hl8];exact hown9) hg9 (by simpa [HW] using hat9) own8 (fun b hb=>⟨by have:=(hv2 b hb).1;omega,fun h=>by have:=(hv2 b hb).1;have:=(hFlt b h).2;omega⟩);rw [←htk] at hF9;have hX9:KeptX (fun b=>b=p) W' w9:=by
          have h1:Below W'.heap.size W' W':=Ik _ _;have h2:Below wr.heap.size wr w9∨True:=.inr trivial;refine⟨hg9.os.trans (b8.os.trans hX.os),hg9.tape.trans (b8.tape.trans hX.tape),hg9.output.trans (b8.output.trans hX.output),Ij S8 hg9.size,fun b hb hne=>?_⟩
          rw [hg9.block b (by omega) (fun e=>by have:=(hFlt b (.inl e.symm)).1;omega),b8.block b (by omega),hX.block b hb hne]
        have H39:=(hg9.block p (by omega) (fun e=>by have:=(hFlt p (.inl e.symm)).1;omega)).trans H38;have cq1:=(aa H39).2.1;have fq1:=HD H39 1;obtain⟨A3,n3,c3,rfl⟩:=am hF9.own;have H40:(w9.setCell ⟨p,1,none⟩ (.slice A3 n3 c3)).heap[p]?=some (.cells #[.slice A1 n1 c1,.slice A3 n3 c3,.int .i64 s.2.2.1,.int .i64 s.2.2.2] 33 (0,0)):=heap_setCell_same _ _ 1 _ _ (.slice A3 n3 c3) H39;have hF9lt:=hF9.lt;have hF10:=hF9.keep (w':=w9.setCell ⟨p,1,none⟩ (.slice A3 n3 c3)) fun b hb=>heap_setCell_other _ _ _ _ (by have:=(hF9lt b hb).1;simp;omega)
        go_wp2
        refine⟨⟨i+1,congrArg (Value.int .i64) (by omega),by omega,⟨_,_,_,_,H40,hF10⟩,hX9.set _ _ rfl⟩,?_⟩
        show s.2.1.length - ((i:Int)+1).toNat<s.2.1.length - (i:Int).toNat
        omega
      · have hpi:¬(i:Int)<(s.2.1.length:Int):=by omega
        have hie:i=s.2.1.length:=by omega
        subst hie;rw [List.take_length] at hFr;have K2:=(hX.block _ (by omega) (fun e=>hp2 e.symm)).trans H2';obtain⟨d0,d1,d2,d3⟩:=aa H3r;obtain⟨e0,e1,e2,e3⟩:=aa K2;have g0:=HD K2 0;have g1:=HD K2 1;have g2:=HD K2 2;have g3:=HD K2 3;have own9:=aJ (w':=wr) own1 fun b hb=>hX.block b (cd own1 b hb) (hv1 b hb).2
        have hS1:ShopAt wr w.heap.size (.agg #[.slice A1 n1 c1,.slice Vg Vn Vc,.int .i64 s.2.2.1,.int .i64 s.2.2.2]) (.slice A1 n1 c1) (.slice Vg Vn Vc) ys s :=
          ⟨rfl,own9,fun b hb=>by have:=(hv1 b hb).1;omega,hFr.base (by omega),fun b hb h=>by have:=cd own1 b hb;have:=(hFlt b h).1;omega⟩
        have hL:∀b,ShS (.slice A1 n1 c1) (.slice Vg Vn Vc) ys b→w.heap.size+1<b:=fun b hb=>by
          rcases hb with hb | hb
          · exact(hv1 b hb).1
          · have:=(hFlt b hb).1
            omega
        go_wp2
        have H11:((((wr.setCell ⟨w.heap.size+1,0,none⟩ (.slice A1 n1 c1)).setCell ⟨w.heap.size+1,1,none⟩ (.slice Vg Vn Vc)).setCell ⟨w.heap.size+1,2,none⟩ (.int .i64 s.2.2.1)).setCell ⟨w.heap.size+1,3,none⟩ (.int .i64 s.2.2.2)).heap[w.heap.size+1]?=some (.cells #[.slice A1 n1 c1,.slice Vg Vn Vc,.int .i64 s.2.2.1,.int .i64 s.2.2.2] 33 (0,0)):=by
          rw [heap_setCell_same _ _ _ _ _ _ (heap_setCell_same _ _ _ _ _ _ (heap_setCell_same _ _ _ _ _ _ (heap_setCell_same _ _ _ _ _ _ K2)))];rfl
        obtain⟨d0,d1,d2,d3⟩:=aa H11;refine bodyPost_ret (by simp [results,Try.results48,go_sem,d0,d1,d2,d3];try rfl) rfl ?_
        refine⟨_,rfl,⟨_,_,ys,hS1.keep fun b hb=>?_⟩,(((hBw.setCell (by simp) _).setCell (by simp) _).setCell (by simp) _).setCell (by simp) _⟩
        have:=hL b hb;rw [heap_setCell_other _ _ _ _ (by simp;omega),heap_setCell_other _ _ _ _ (by simp;omega),heap_setCell_other _ _ _ _ (by simp;omega),heap_setCell_other _ _ _ _ (by simp;omega)]
  have H1d:=Below.some (ab W) H1;have H2d:=Below.some (ab W) H2;have B2d:Below w.heap.size w W.drew:=bm B2 (ab W) B2.size;have hBx:Hid (∀q,Below w.heap.size w (W.alloc q).drew):=fun q=>bm (B2.alloc B2.size q) (ab _) (by simp;omega)
  have hBy:Hid (∀q r,Below w.heap.size w ((W.alloc q).alloc r).drew):=fun q r=>bm ((B2.alloc B2.size q).alloc (by simp;omega) r) (ab _) (by simp;omega)
  obtain⟨a0,a1,a2,a3⟩:=aa H1d;have hWx:Hid (∀q,Below W.heap.size W (W.alloc q).drew):=fun q=>bm (be W q) (ab _) (by simp)
  have hWy:Hid (∀q r,Below W.heap.size W ((W.alloc q).alloc r).drew):=fun q r=>bm ((be W q).alloc (by simp) r) (ab _) (by simp;omega)
  have hmk:Hid (∀(W4:World) (v:Value),W4.ownsRow (w.heap.size+2) 112 4 v s.1.length us→bf W4 (fun _=>False) (aA v) 4 (bxs s.1) v):=fun W4 v h=>od h (by simp) huw hus DG
  clear hf hus2 hul2 huA2 hr hb hs hK H2 H2d a1 hus huw B2d B2
  go_region_held3 (fun w'=>w'.cell? ⟨w.heap.size,0,none⟩=some (.slice A s.1.length c)∧w'.cell? ⟨w.heap.size,2,none⟩=some (.int .i64 s.2.2.1)∧w'.cell? ⟨w.heap.size,3,none⟩=some (.int .i64 s.2.2.2)) (first | (refine⟨?_,?_,?_⟩<;>assumption) | (refine EF (x1:=.slice A' s.2.1.length c') (t:=33) ?_;first | with_reducible exact H14 | with_reducible exact ah _ H14 | with_reducible exact sc _ _ _ _ (by omega) H14 | with_reducible exact sc _ _ _ _ (by omega) (ah _ H14) | with_reducible exact mz (ah _ H1) | with_reducible exact mz (ah _ (ah _ H1)) | with_reducible exact ah _ (mz H1) | with_reducible exact ah _ (ah _ (mz H1))))
    (first
      | (refine af _ rfl _ _ 30 rfl (w.heap.size+2) 112 i0 (.agg #[.string ⟨#[]⟩,.int .i64 0,.int .i64 0,.int .i64 0]) 4 40 Try.underlying30 hi0 hz0 hz1 hz2 rfl (by decide) (.slice (some ⟨W.heap.size,0,none⟩) 0 0) 0 [] (by simp [go_sem];done) (bR (by first | exact ac _ rfl | exact ah _ (ac _ rfl) | exact ac _ (by simp [HK])) (by omega)) A s.1.length c us (by simp [go_sem]) hul (fun h0=>by
          obtain⟨g,o,e,hFg,h1⟩:=huA h0;exact⟨g,o,e,fun j u hj=>(Ie (w:=w) ((hBx.out _).block g (hF g hFg))).trans (h1 j u hj)⟩) hu1 (by unfold maxLen;omega) (by omega) (by simp [HK];omega) ?_
         intro v1 w4 hown1 hg1 hat1;obtain⟨A1,n1,c1,rfl⟩:=am hown1;have H14:w4.heap[w.heap.size]?=some (.cells #[.slice A s.1.length c,.slice A' s.2.1.length c',.int .i64 s.2.2.1,.int .i64 s.2.2.2] 33 (0,0)):=(hg1.block _ (by simp [HK];omega) (by simp [Il];omega)).trans (ah _ H1);have hB14:Below W.heap.size W w4:=(hWx.out _).grown hg1 (by simp [HK];try omega) (fun k hk=>by have:W.heap.size=k:=HB hk;omega))
      | (refine af _ rfl _ _ 30 rfl (w.heap.size+2) 112 i0 (.agg #[.string ⟨#[]⟩,.int .i64 0,.int .i64 0,.int .i64 0]) 4 40 Try.underlying30 hi0 hz0 hz1 hz2 rfl (by decide) (.slice (some ⟨W.heap.size+1,0,none⟩) 0 0) 0 [] (by simp [go_sem];done) (bR (by first | exact ac _ rfl | exact ah _ (ac _ rfl) | exact ac _ (by simp [HK])) (by omega)) A s.1.length c us (by simp [go_sem]) hul (fun h0=>by
          obtain⟨g,o,e,hFg,h1⟩:=huA h0;exact⟨g,o,e,fun j u hj=>(Ie (w:=w) ((hBy.out _ _).block g (hF g hFg))).trans (h1 j u hj)⟩) hu1 (by unfold maxLen;omega) (by omega) (by simp [HK];omega) ?_
         intro v1 w4 hown1 hg1 hat1;obtain⟨A1,n1,c1,rfl⟩:=am hown1;have H14:w4.heap[w.heap.size]?=some (.cells #[.slice A s.1.length c,.slice A' s.2.1.length c',.int .i64 s.2.2.1,.int .i64 s.2.2.2] 33 (0,0)):=(hg1.block _ (by simp [HK];omega) (by simp [Il];omega)).trans (ah _ (ah _ H1));have hB14:Below W.heap.size W w4:=(hWy.out _ _).grown hg1 (by simp [HK];try omega) (fun k hk=>by have:W.heap.size+1=k:=HB hk;omega);have hz:w4.heap[W.heap.size]?=some (.cells #[.slice none 0 0,.slice none 0 0,.int .i64 0,.int .i64 0] 33 (0,0)):=(hg1.block _ (by simp [HK];try omega) (by simp [Il])).trans (ah _ (ac _ rfl));obtain⟨q0,q1,q2,q3⟩:=aa hz;have r0:=HD hz 0;have r1:=HD hz 1;have r2:=HD hz 2;have r3:=HD hz 3)
      | (refine af _ rfl _ _ 30 rfl (w.heap.size+2) 112 i0 (.agg #[.string ⟨#[]⟩,.int .i64 0,.int .i64 0,.int .i64 0]) 4 40 Try.underlying30 hi0 hz0 hz1 hz2 rfl (by decide) (.slice (some ⟨W.heap.size,0,none⟩) 0 0) 0 [] (by simp [go_sem];done) (bR (by first | exact ac _ rfl | exact ah _ (ac _ rfl) | exact ac _ (by simp [HK])) (by omega)) A s.1.length c us (by simp [go_sem]) hul (fun h0=>by
          obtain⟨g,o,e,hFg,h1⟩:=huA h0;exact⟨g,o,e,fun j u hj=>(Ie (w:=w) ((hBy.out _ _).block g (hF g hFg))).trans (h1 j u hj)⟩) hu1 (by unfold maxLen;omega) (by omega) (by simp [HK];omega) ?_
         intro v1 w4 hown1 hg1 hat1;obtain⟨A1,n1,c1,rfl⟩:=am hown1;have H14:w4.heap[w.heap.size]?=some (.cells #[.slice A s.1.length c,.slice A' s.2.1.length c',.int .i64 s.2.2.1,.int .i64 s.2.2.2] 33 (0,0)):=(hg1.block _ (by simp [HK];omega) (by simp [Il];omega)).trans (ah _ (ah _ H1));have hB14:Below W.heap.size W w4:=(hWy.out _ _).grown hg1 (by simp [HK];try omega) (fun k hk=>by have:W.heap.size=k:=HB hk;omega);have hz:w4.heap[W.heap.size+1]?=some (.cells #[.slice none 0 0,.slice none 0 0,.int .i64 0,.int .i64 0] 33 (0,0)):=(hg1.block _ (by simp [HK];try omega) (by simp [Il])).trans (ac _ (by simp [HK]));obtain⟨q0,q1,q2,q3⟩:=aa hz;have r0:=HD hz 0;have r1:=HD hz 1;have r2:=HD hz 2;have r3:=HD hz 3))
  · show K _ _
    have own1:=hmk.out _ _ (by simpa using hown1);have hlt:=uf hown1;have hsz:=hB14.size;exact hrest.out _ _ _ _ _ _ _ _ _ w4.heap.size A1 n1 c1 _ (by omega) (ac _ rfl) (aJ own1 fun b hb=>fi _ (cd own1 b hb)) (fun b hb=>by have:=hlt b hb;omega) (hB14.alloc hB14.size _)
  · show K _ _
    have own1:=hmk.out _ _ (by simpa using hown1);have hlt:=uf hown1;have hne:∀b,aA (.slice A1 n1 c1) b→W.heap.size+1≠b:=fun b hb=>by
      rcases hat1 with h | h
      · have h2:some b=some (W.heap.size):=hb.symm.trans h
        have:=HB h2;omega
      · have h2:=hb.symm.trans h
        simp [HK] at h2;omega
    exact hrest.out _ _ _ _ _ _ _ _ _ (W.heap.size+1) A1 n1 c1 _ (by omega) (aD _ _ _ _ hz) (zh _ _ _ _ own1 hne) (fun b hb=>⟨by have:=hlt b hb;omega,fun e=>hne b hb e.symm⟩) (bd _ _ _ _ hB14 (by omega))
  · show K _ _
    have own1:=hmk.out _ _ (by simpa using hown1);have hlt:=uf hown1;have hne:∀b,aA (.slice A1 n1 c1) b→W.heap.size≠b:=fun b hb=>by
      rcases hat1 with h | h
      · have h2:some b=some (W.heap.size+1):=hb.symm.trans h
        have:=HB h2;omega
      · have h2:=hb.symm.trans h
        simp [HK] at h2;omega
    exact hrest.out _ _ _ _ _ _ _ _ _ (W.heap.size) A1 n1 c1 _ (by omega) (aD _ _ _ _ hz) (zh _ _ _ _ own1 hne) (fun b hb=>⟨by have:=hlt b hb;omega,fun e=>hne b hb e.symm⟩) (bd _ _ _ _ hB14 (by omega))
set_option maxRecDepth 100000
theorem bt {w:World} {base:Nat} {e:TypeId} {z n:Nat} {v:Value} {us:List Value} (h:w.ownsRow base e z v n us):∃A c,v = .slice A n c:=by
 obtain⟨_,⟨rfl,rfl⟩ | ⟨g,cap,cur,rfl,_⟩⟩:=h
 ·exact⟨_,_,rfl⟩
 ·exact⟨_,_,rfl⟩
theorem dc {w:World} {base:Nat} {e:TypeId} {z n c:Nat} {A:Option Addr} {us:List Value} (h:w.ownsRow base e z (.slice A n c) n us) (hn:0<n):∃g,A=some ⟨g,0,none⟩:=by
 obtain⟨_,⟨e,rfl⟩ | ⟨g,cap,cur,e,_⟩⟩:=h
 ·omega
 ·cases e
  exact⟨g,rfl⟩
set_option maxRecDepth 100000
abbrev stV (x:Stp):Value:=.agg #[.int .i64 x.1,.int .i64 x.2.1,.string x.2.2.1,.int .i64 x.2.2.2]
theorem rP (w:World) (F:Nat→Prop) (x:Stp):aQ w F (stp x) (stV x):=by
 refine⟨[_,_,_,_],rfl,?_⟩
 simp only [RepC,aC,aP];exact⟨⟨[_],[_,_,_],rfl,⟨rfl,rfl⟩,[_],[_,_],rfl,⟨rfl,rfl⟩,[_],[_],rfl,⟨rfl,rfl⟩,[_],[],rfl,⟨rfl,rfl⟩,rfl⟩,rfl⟩
theorem xK (l:List Bx) (u:ByteArray) (hg:bI l=true) (hl:l.length≤1048576) (hu:u.size≤1000) {w:World} {F:Nat→Prop} {y:Value} (hr:aQ w F (bxs l) y) (hF:∀b,F b→b<w.heap.size) :
  Calls Try.prog 72 #[y,.string u] w (CF w 1 (txs (cI l u)) (.bool (sr l u))) :=
 jb (ds:=[bxs l,T u]) (F:=F) (HM Try.func72 (by kernel_rfl) rfl) rY (ub l (ia hg) hl u hu (pV hg u)) (by simp)
  (show ct w F _ (.dat 2) (bxs l) y∧ct w _ _ (.dat 0) (T u) (.string u)∧True from⟨.inr hr,.inr (dL.2 ⟨rfl,rfl⟩),trivial⟩) hF
theorem xB (l:List Bx) (u:ByteArray) (hg:bI l=true) (hl:l.length≤1048576) (hu:u.size≤1000) {w:World} {F:Nat→Prop} {y:Value} (hr:aQ w F (bxs l) y) (hF:∀b,F b→b<w.heap.size) :
  Calls Try.prog 75 #[y,.string u] w (CF w 1 (txs (cI l u)) (.bool (sr l u))) :=
 jb (ds:=[bxs l,T u]) (F:=F) (HM Try.func75 (by kernel_rfl) rfl) tn (tQ l (ia hg) hl u hu (pV hg u)) (by simp)
  (show ct w F _ (.dat 2) (bxs l) y∧ct w _ _ (.dat 0) (T u) (.string u)∧True from⟨.inr hr,.inr (dL.2 ⟨rfl,rfl⟩),trivial⟩) hF
theorem zR {f:Nat} {pm:List Kd} {ff:List D→Option Out} {ds:List D} {a b:Value} {args:Array Value} (he:∀args w,(callFunc f args).run Try.prog w = .ok (.enter f args) w) (hm:aH gl0 Try.prog f {pm:=pm,rm:=[.dat 0,.dat 0],f:=ff}) (hd:ff ds=some (.ret [.v a,.v b] [])) {w:World} {F:Nat→Prop}
  (ha:dM w F (fun _=>none) 0 pm ds args.toList) (hF:∀b,F b→b<w.heap.size):Calls Try.prog f args w fun e w'=>e = .returned (.tuple #[a,b])∧Below w.heap.size w w':=by
 refine(cE (ow:=fun _=>none) (F:=F) (ds:=ds) (rs:=[.v a,.v b]) (us:=[]) (args:=args) he hm hd eP ha (fun b hb=>⟨hF b hb,rfl⟩) (fun b i h=>by cases h)).mono ?_
 rintro e w' ⟨v,rfl,F',R,vs,rfl,hp⟩;have hl:=hp.len;obtain⟨u,u2,rfl⟩:=Bf (hl.trans rfl);have h0:=hp.res 0;have h1:=hp.res 1;rcases h0 with h0 | h0
 ·cases h0
 rcases h1 with h1 | h1
 ·cases h1
 obtain⟨hu,_⟩:=dL.1 h0;obtain⟨hu2,_⟩:=dL.1 h1;have hu':u=a:=hu;have hu2':u2=b:=hu2;subst hu' hu2';exact⟨rfl,hp.os,hp.tape,hp.output,hp.size,fun b hb=>hp.keep b hb rfl⟩
theorem pu (s:Sp) (n:Int) (h:cK s) {w:World} {F:Nat→Prop} {y:Value} (hr:aQ w F (sp s) y) (hF:∀b,F b→b<w.heap.size) :
  Calls Try.prog 94 #[y,.int .i64 n] w fun e w'=>e = .returned (.tuple #[.int .i64 (atF s.2.1 n:Int),.bool (eR s.2.1 n)])∧Below w.heap.size w w' :=
 zR (ds:=[sp s,I n]) (F:=F) (HM Try.func94 (by kernel_rfl) rfl) mN (sO s n h)
  (show ct w F _ (.dat 2) (sp s) y∧ct w _ _ (.dat 0) (I n) (.int .i64 n)∧True from⟨.inr hr,.inr (dL.2 ⟨rfl,rfl⟩),trivial⟩) hF
theorem ic (s:Sp) (n:Int) (h:cK s) (hok:aW s=true) {w:World} {F:Nat→Prop} {y:Value} (hr:aQ w F (sp s) y) (hF:∀b,F b→b<w.heap.size) :
  Calls Try.prog 115 #[y,.int .i64 n] w fun e w'=>e = .returned (.int .i64 (if eR s.2.1 n=true then(atF s.2.1 n:Int) else -1))∧Below w.heap.size w w' :=
 kT (HM Try.func115 (by kernel_rfl) rfl) nD (mu s n h hok) hr hF
theorem rL (x:Stp) (h:x.2.2.1.size≤9223372036854775807) {w:World} :
  Calls Try.prog 55 #[stV x] w fun e w'=>e = .returned (.bool (cN x))∧Below w.heap.size w w' :=
 fO (F:=fun _=>False) (ds:=[stp x]) (HM Try.func55 (by kernel_rfl) rfl) oE es rfl (pR x h) rfl eP (show ct w _ _ (.dat 0) (stp x) (stV x)∧True from⟨.inr (rP _ _ x),trivial⟩) (fun b h=>h.elim)
theorem zy (x:Stp) (h:x.2.2.1.size≤9223372036854775807) {w:World} :
  Calls Try.prog 90 #[stV x] w fun e w'=>e = .returned (.bool (cN x))∧Below w.heap.size w w' :=
 fO (F:=fun _=>False) (ds:=[stp x]) (HM Try.func90 (by kernel_rfl) rfl) vJ gQ rfl (uZ x h) rfl eP (show ct w _ _ (.dat 0) (stp x) (stV x)∧True from⟨.inr (rP _ _ x),trivial⟩) (fun b h=>h.elim)
def lu (w:World) (p B:Nat) (s:Sp):Prop:=∃A n c A' n' c' ys,w.heap[p]?=some (.cells #[.slice A n c,.slice A' n' c',.int .i64 s.2.2.1,.int .i64 s.2.2.2] 33 (0,0)) ∧
 ShopAt w B (.agg #[.slice A n c,.slice A' n' c',.int .i64 s.2.2.1,.int .i64 s.2.2.2]) (.slice A n c) (.slice A' n' c') ys s∧¬ShS (.slice A n c) (.slice A' n' c') ys p
theorem lu.below {w w':World} {p B:Nat} {s:Sp} (h:lu w p B s) (hB:Below w.heap.size w w'):lu w' p B s:=by
 obtain⟨A,n,c,A',n',c',ys,h1,h2,h3⟩:=h;exact⟨A,n,c,A',n',c',ys,Below.some hB h1,h2.below hB,h3⟩
theorem AP {w:World} {B g cap n:Nat} {l:List Fm} {ys:List Value} (h:FmsAt w B (.slice (some ⟨g,0,none⟩) n cap) ys l) {i:Nat} (hi:i≤l.length):FmsAt w B (.slice (some ⟨g,0,none⟩) i cap) (ys.take i) (l.take i):=by
 have hl:=h.len;refine⟨by simp [hl],?_,fun j x y hj hy=>?_,fun j y b hy hb=>?_,fun j k y z hjk hj hk=>?_⟩
 ·obtain⟨h1,⟨hn,_⟩ | ⟨g',cap',cur,e,h3,h4,h5,h6,h7,h8⟩⟩:=h.own
  ·cases hn
  ·cases e
   have hr:aV (l.take i) (ys.take i)=(aV l ys).take (i*4):=by
    have e1:=jV (l.take i) (l.drop i) (ys.take i) (ys.drop i) (by simp [hl]);rw [HQ,HQ] at e1;rw [e1,List.take_left' (by rw [bD _ _ (by simp [hl]),HH];omega)]
   refine⟨by rw [bD _ _ (by simp [hl])],.inr ⟨g,cap,cur,by rw [HH,Iz hi],h3,h4,by rw [HH];omega,h6,h7,?_⟩⟩
   rw [hr,←h8,List.take_take,HH];congr 1
   omega
 ·have hj':j<i:=by
   have:=(HJ.1 hj).1;rw [HH] at this;omega
  rw [HR,if_pos hj'] at hj hy;exact h.row j x y hj hy
 ·have hj':j<i:=by
   have:=(HJ.1 hy).1;rw [HH] at this;omega
  rw [HR,if_pos hj'] at hy;exact h.blk j y b hy hb
 ·have hj':j<i:=by
   have:=(HJ.1 hj).1;rw [HH] at this;omega
  have hk':k<i:=by
   have:=(HJ.1 hk).1;rw [HH] at this;omega
  rw [HR,if_pos hj'] at hj;rw [HR,if_pos hk'] at hk;exact h.dis j k y z hjk hj hk
theorem fP {w:World} {B g cap n:Nat} {l:List Fm} {ys:List Value} (h:FmsAt w B (.slice (some ⟨g,0,none⟩) n cap) ys l) (i:Nat) (hi:i≤l.length):∀(j:Nat) (u:Value),(aV (l.drop i) (ys.drop i))[j]?=some u→w.cell? ⟨g,i*4+j,none⟩=some u:=by
 intro j u hj;have hl:=h.len;have e1:=jV (l.take i) (l.drop i) (ys.take i) (ys.drop i) (by simp [hl]);rw [HQ,HQ] at e1;have h2:=(bD (l.take i) (ys.take i) (by simp [hl]))
 rw [HH,Iz hi] at h2;have h3:(aV l ys)[i*4+j]?=some u:=by rw [e1,List.getElem?_append_right (by omega),h2,Nat.add_sub_cancel_left];exact hj
 obtain⟨e,he⟩:∃e,n=l.length∨e=0:=⟨0,.inr rfl⟩
 have ho:=h.own;obtain⟨_,⟨hn,_⟩ | ⟨g',cap',cur,e',_⟩⟩:=h.own
 ·cases hn
 ·cases e'
  exact ax ho h3
theorem cR {w:World} {B:Nat} {V:Value} {l:List Fm} {ys:List Value} (h:FmsAt w B V ys l):∀y∈ys,∃A n c,y = .slice A n c:=fun y hy=>by
 obtain⟨i,hi⟩:=ID.1 hy;have hl:i<l.length:=by rw [←h.len];exact(HJ.1 hi).1
 exact aU (h.row i l[i] y (by simp) hi)
set_option maxRecDepth 100000
theorem gK:∀(l:List Fm) (ys:List Value) (i:Nat) (x x':Fm) (y y' v:Value) (k:Nat),k<4→l[i]?=some x→ys[i]?=some y→dn x' y'=(dn x y).set k v→aV (l.set i x') (ys.set i y')=(aV l ys).set (i*4+k) v
 | a::l,b::ys,0,x,x',y,y',v,k,hk,h1,h2,h3=>by
  cases h1;cases h2;simp only [List.set_cons_zero,aV,h3,Nat.zero_mul,IH];rw [List.set_append_left _ _ (by simpa [dn] using hk)]
 | a::l,b::ys,i+1,x,x',y,y',v,k,hk,h1,h2,h3=>by
  have ih:=gK l ys i x x' y y' v k hk h1 h2 h3;simp only [List.set_cons_succ,aV,ih];rw [List.set_append_right _ _ (by simp [dn];omega)];congr 2
  simp [dn];omega
 | [],_,_,_,_,_,_,_,_,_,h1,_,_=>by simp at h1
 | _::_,[],_,_,_,_,_,_,_,_,_,h2,_=>by simp at h2
theorem jQ {w w':World} {B g cap:Nat} {l:List Fm} {ys:List Value} (h:FmsAt w B (.slice (some ⟨g,0,none⟩) l.length cap) ys l) {i:Nat} (hi:i<l.length) {x:Fm} {y:Value} (hy:bf w' (fun _=>False) (aA y) 1 (txs x.2.1) y)
  (hb:∀b,aA y b→B≤b∧b≠g) (hd:∀j z,j≠i→ys[j]?=some z→y.ownBlock=none∨y.ownBlock≠z.ownBlock) (hw:∀j z b,j≠i→ys[j]?=some z→aA z b→w'.heap[b]?=w.heap[b]?)
  (ho:w'.ownsRow B 75 4 (.slice (some ⟨g,0,none⟩) l.length cap) l.length (aV (l.set i x) (ys.set i y))):FmsAt w' B (.slice (some ⟨g,0,none⟩) l.length cap) (ys.set i y) (l.set i x):=by
 refine⟨by simp [h.len],by rw [List.length_set];exact ho,fun j x' y' hj hyj=>?_,fun j y' b hyj hb'=>?_,fun j k y' z' hjk hj hk=>?_⟩
 ·by_cases e:j=i
  ·subst e
   rw [HN hi] at hj;rw [HN (by rw [h.len];exact hi)] at hyj;obtain rfl:=HB hj;obtain rfl:=HB hyj;exact hy
  ·rw [HU (fun h=>e h.symm)] at hj hyj
   exact aJ (h.row j x' y' hj hyj) fun b hb1=>hw j y' b e hyj hb1
 ·by_cases e:j=i
  ·subst e
   rw [HN (by rw [h.len];exact hi)] at hyj;obtain rfl:=HB hyj;exact⟨(hb b hb').1,fun h1=>(hb b hb').2 (HB h1).symm⟩
  ·rw [HU (fun h=>e h.symm)] at hyj
   exact h.blk j y' b hyj hb'
 ·by_cases e:j=i
  ·subst e
   rw [HN (by rw [h.len];exact hi)] at hj;obtain rfl:=HB hj;rw [HU hjk] at hk;exact hd k z' (fun h=>hjk h.symm) hk
  ·rw [HU (fun h=>e h.symm)] at hj
   by_cases e2:k=i
   ·subst e2
    rw [HN (by rw [h.len];exact hi)] at hk;obtain rfl:=HB hk;rcases hd j y' e hj with h1 | h1
    ·rw [h1]
     cases y'.ownBlock<;>simp
    ·exact .inr fun h2=>h1 h2.symm
   ·rw [HU (fun h=>e2 h.symm)] at hk
    exact h.dis j k y' z' hjk hj hk
theorem cv {w:World} {B g cap:Nat} {l:List Fm} {ys:List Value} (h:FmsAt w B (.slice (some ⟨g,0,none⟩) l.length cap) ys l) {i:Nat} (hi:i<l.length) {y:Value} (hy:ys[i]?=some y) {x':Fm} {k:Nat} {v:Value} (hk:k<4) (hx:x'.2.1=l[i].2.1) (hc:dn x' y=(dn l[i] y).set k v) :
  FmsAt (w.setCell ⟨g,i*4+k,none⟩ v) B (.slice (some ⟨g,0,none⟩) l.length cap) ys (l.set i x'):=by
 have hx1:l[i]?=some l[i]:=HA hi;have hys:ys.set i y=ys:=by
  apply List.ext_getElem?;intro j;by_cases e:i=j
  ·subst e
   rw [HN (by rw [h.len];exact hi),hy]
  ·rw [HU e]
 have hw:∀b,b≠g→(w.setCell ⟨g,i*4+k,none⟩ v).heap[b]?=w.heap[b]?:=fun b hb=>heap_setCell_other _ _ _ _ (by simpa using hb)
 have hg:∀(j:Nat) (z:Value) (b:Nat),ys[j]?=some z→aA z b→b≠g:=fun j z b hj hb e=>(h.blk j z b hj hb).2 (by rw [e];rfl)
 have:=jQ (w':=w.setCell ⟨g,i*4+k,none⟩ v) (x:=x') (y:=y) h hi (by rw [hx];exact aJ (h.row i _ y hx1 hy) fun b hb=>hw b (hg i y b hy hb)) (fun b hb=>⟨(h.blk i y b hy hb).1,hg i y b hy hb⟩)
  (fun j z hj hz=>h.dis i j y z (fun e=>hj e.symm) hy hz) (fun j z b hj hz hb=>hw b (hg j z b hz hb))
  (by rw [gK l ys i l[i] x' y y v k hk hx1 hy hc];exact bN h.own rfl _ _)
 rwa [hys] at this
theorem co {w:World} {F own:Nat→Prop} {z:Nat} {l:List D} {y:Value} (h:bf w F own z (.arr z l) y):∃A c,y = .slice A l.length c:=by
 obtain⟨l',e,_,h3⟩:=h;cases e;rcases h3 with ⟨rfl,rfl⟩ | ⟨g,o,c,us,cs,e,h4,_⟩
 ·exact⟨_,_,rfl⟩
 ·exact⟨_,_,h4⟩
theorem qW {s:Sp} (h:aW s=true) : -1000000≤s.2.2.2∧s.2.2.2≤1000000:=by
 have h1:0≤pQ s.2.1:=by
  obtain⟨hf,_⟩:=bv h;have key:∀(l:List Fm) (a:Int),(∀x∈l,0≤x.2.2.2)→a≤l.foldl (fun a x=>a+x.2.2.2) a:=by
   intro l;induction l with
   | nil=>intro a _;exact Int.le_refl _
   | cons x l ih =>
    intro a hx;have h2:=ih (a+x.2.2.2) fun y hy=>hx y (by simp [hy])
    have h3:=hx x (by simp);simp only [List.foldl_cons];omega
  refine key s.2.1 0 fun x hx=>?_
  obtain⟨j,hj,rfl⟩:=IG hx;exact(bL (hf j hj)).1
 unfold aW at h;simp only [HG,decide_eq_true_eq] at h;omega
def oh (w:World) (p B:Nat) (a:Bool) (t:Sp) (e:Ending) (w':World):Prop:=∃ok:Bool,e = .returned (.bool ok)∧(ok=true→a=true∧lu w' p B t)∧(ok=false→(a&&aW t)=false)∧Below B w w'
theorem Ab {s:Sp} {i:Nat} {f:Fm} (hi:i<s.2.1.length) (h0:f.2.1.length=0) (hl:f.2.2.1=true) (a b:Int) (m:List Bx):aW (m,s.2.1.set i f,a,b)=false:=by
 cases h:aW (m,s.2.1.set i f,a,b)
 ·rfl
 ·obtain⟨h1,_⟩:=bv h
  have h2:=h1 i (by simpa using hi);simp only [List.getElem_set_self] at h2;unfold fE at h2;simp [hl,h0] at h2
theorem kU {w w':World} {p B:Nat} {A A' A2:Option Addr} {bn c n' c' n2 c2:Nat} {v:Value} {ys ys':List Value} {l':List Fm} {x y:Int} {s:Sp} (hpl:p<w.heap.size) (hS:ShopAt w B v (.slice A bn c) (.slice A' n' c') ys s) (hnp:¬ShS (.slice A bn c) (.slice A' n' c') ys p)
  (hp':w'.heap[p]?=some (.cells #[.slice A bn c,.slice A2 n2 c2,.int .i64 x,.int .i64 y] 33 (0,0))) (hb:∀b,aA (.slice A bn c) b→w'.heap[b]?=w.heap[b]?) (hF':FmsAt w' B (.slice A2 n2 c2) ys' l') (hfo:∀b,FmS (.slice A2 n2 c2) ys' b→FmS (.slice A' n' c') ys b∨w.heap.size≤b):lu w' p B (s.1,l',x,y) :=
 ⟨_,_,_,_,_,_,ys',hp',⟨rfl,aJ hS.box hb,hS.bge,hF',fun b hb h=>(hfo b h).elim (hS.dis b hb) fun h=>by have:=cd hS.box b hb;omega⟩,fun h=>h.elim (fun h=>hnp (.inl h)) fun h=>(hfo p h).elim (fun h=>hnp (.inr h)) fun h=>by omega⟩
theorem yA {w:World} {own:Nat→Prop} {z:Nat} {l:List D} {A:Option Addr} {n c:Nat} (h:bf w (fun _=>False) own z (.arr z l) (.slice A n c)) {i:Nat} (hi:i≤l.length) (h0:0<l.length):bf w (fun _=>False) own z (.arr z (l.take i)) (.slice A i c):=by
 obtain⟨l',e,hw,h3⟩:=h;cases e;refine⟨_,rfl,fun d hd=>hw d (Io hd),?_⟩
 rcases h3 with ⟨_,rfl⟩ | ⟨g,o,c,us,cs,e,h4,h5,h6,h7,h8,h9,h10⟩
 ·simp at h0
 ·cases h4
  refine .inr ⟨g,o,_,us.take (i*z),cs,e,by rw [HH,Iz hi],by rw [HH];omega,h6,h7,(gD l us h8 hw i).1,fun j u hj=>?_,h10⟩
  rw [HR] at hj;split at hj
  ·exact h9 j u hj
  ·cases hj
theorem zi {w:World} {own:Nat→Prop} {z:Nat} {l:List D} {A:Option Addr} {n c:Nat} (h:bf w (fun _=>False) own z (.arr z l) (.slice A n c)) (h0:0<l.length):∃g o,A=some ⟨g,o,none⟩∧n=l.length∧l.length≤c:=by
 obtain⟨l',e,hw,h3⟩:=h;cases e;rcases h3 with ⟨_,rfl⟩ | ⟨g,o,c,us,cs,e,h4,h5,_⟩
 ·simp at h0
 ·cases h4
  exact⟨g,o,rfl,rfl,h5⟩
set_option maxHeartbeats 8000000 in
set_option maxRecDepth 1000000 in
theorem Dy (s:Sp) (hs:cK s) (hok:aW s=true) (i:Nat) (hi:i<s.2.1.length) (id:Int) (u:ByteArray) (n:Int) (hx:cN (2,id,u,n)=true) (w:World) (p B:Nat) (hbox:lu w p B s) (hpB:B≤p) :
  Calls Try.prog 95 #[.pointer (some ⟨p,0,none⟩),.int .i64 i,stV (2,id,u,n)] w (oh w p B (cG s i (2,id,u,n)) (eU s i (2,id,u,n))):=by
 obtain⟨hfm,hgc,_,hlost⟩:=bv hok;have hfi:=hfm i hi;obtain⟨A,bn,c,A',n',c',ys,hp0,hS0,hnp⟩:=hbox;obtain⟨fA,fc,efs⟩:=bt hS0.fms.own;cases efs;obtain⟨g,rfl⟩:=dc hS0.fms.own (by omega);have hpl:=aB hp0;have hgl:=(hS0.lt g (.inr (.inl rfl))).2;have hgB:=(hS0.lt g (.inr (.inl rfl))).1;have hgp:g≠p:=fun e=>hnp (.inr (.inl (by rw [e];rfl)))
 have hW:=be w (.cells #[.int .i64 2,.int .i64 id,.string u,.int .i64 n] 46);have hBW:Below B w (w.alloc (.cells #[.int .i64 2,.int .i64 id,.string u,.int .i64 n] 46)):=(Ik _ w).alloc (by omega) _;have hp:=Below.some hW hp0;have hS:=hS0.below hW;have hF:=hS.fms;have hq:(w.alloc (.cells #[.int .i64 2,.int .i64 id,.string u,.int .i64 n] 46)).heap[w.heap.size]?=some (.cells #[.int .i64 2,.int .i64 id,.string u,.int .i64 n] 46 (0,0)):=ac _ rfl;obtain⟨y,hy⟩:∃y,ys[i]?=some y:=⟨ys[i]'(by rw [hF.len];exact hi),HA _⟩
 have hgx:s.2.1[i]?=some s.2.1[i]:=HA hi;have hrow:=hF.row i _ y hgx hy;obtain⟨Ay,cy,rfl⟩:=co hrow;rw [HL] at hy hrow;have k1:=ax hF.own (j:=i*4+1) (u:=.slice Ay s.2.1[i].2.1.length cy) (by rw [aE _ _ i s.2.1[i] _ hgx hy 1 (by omega)];rfl);have k2:=ax hF.own (j:=i*4+2) (u:=.bool s.2.1[i].2.2.1) (by rw [aE _ _ i s.2.1[i] _ hgx hy 2 (by omega)];rfl);have k3:=ax hF.own (j:=i*4+3) (u:=.int .i64 s.2.1[i].2.2.2) (by rw [aE _ _ i s.2.1[i] _ hgx hy 3 (by omega)];rfl);have z1:=aN hF.own (i*4+1);have z2:=aN hF.own (i*4+2);have z3:=aN hF.own (i*4+3);have haS:eU s i (2,id,u,n)=(s.1,s.2.1.set i (s.2.1[i].1,s.2.1[i].2.1,true,s.2.1[i].2.2.2),s.2.2.1,s.2.2.2):=by
  unfold eU;rw [hgx];simp
 have haO:cG s i (2,id,u,n)=(!s.2.1[i].2.2.1):=by
  unfold cG;rw [hgx];simp
 rw [haS,haO];have hcel:=fun(k:Nat) (v:Value) (x':Fm) hk hx hc=>cv hF hi hy (x':=x') (k:=k) (v:=v) hk hx hc
 have hpi:(i:Int)<(s.2.1.length:Int):=by omega
 have hset:=dE hfi;have hprt:=bL hfi;obtain⟨m0,m1,m2,m3⟩:=aa hp;obtain⟨n0,n1,n2,n3⟩:=aG hp;obtain⟨q0,q1,q2,q3⟩:=aa hq;obtain⟨f,hf⟩:∃f,f=s.2.1[i]:=⟨_,rfl⟩
 rw [←hf] at hfi hgx hrow hy k1 k2 k3 hset hprt hcel ⊢;have hwy:∀b,aA (.slice Ay f.2.1.length cy) b→b≠g:=fun b hb e=>(hF.blk i _ b hy hb).2 (by rw [e];rfl)
 have hWs:w.heap.size<(w.alloc (.cells #[.int .i64 2,.int .i64 id,.string u,.int .i64 n] 46)).heap.size:=by simp
 clear haS haO hf
 go_enter Try.func95,Try.ntmps95
 go_upto_region 1 with fail
 generalize (w.alloc (.cells #[.int .i64 2,.int .i64 id,.string u,.int .i64 n] 46))=W at *;cases hb:f.2.2.1
 ·rw [hb] at k2
  have hp2:(W.setCell ⟨g,i*4+2,none⟩ (.bool true)).heap[p]?=some (.cells #[.slice A bn c,.slice (some ⟨g,0,none⟩) s.2.1.length c',.int .i64 s.2.2.1,.int .i64 s.2.2.2] 33 (0,0)):=(heap_setCell_other _ _ _ _ (by simpa using fun e=>hgp e.symm)).trans hp;have hF2:=hcel 2 (.bool true) (f.1,f.2.1,true,f.2.2.2) (by omega) rfl rfl;have hbx:=kU (s:=s) (x:=s.2.2.1) (y:=s.2.2.2) (by omega) hS hnp hp2 (fun b hb=>heap_setCell_other _ _ _ _ (by
   have:=hS.dis b hb;simp;exact fun e=>this (.inl (by rw [e];rfl)))) hF2 (fun b hb=>.inl hb)
  have hBe:Below B w (W.setCell ⟨g,i*4+2,none⟩ (.bool true)):=hBW.setCell hgB _;by_cases hm:0<f.2.1.length
  ·go_wp2
   go_ret
   exact⟨true,rfl,fun _=>⟨by simp [hb],hbx⟩,(fun h=>by cases h),hBe⟩
  ·go_wp2
   go_ret
   refine⟨false,rfl,(fun h=>by cases h),fun _=>?_,hBe⟩
   rw [Ab hi (f:=(f.1,f.2.1,true,f.2.2.2)) (by show f.2.1.length=0;omega) rfl];simp
 ·rw [hb] at k2
  have hp2:(W.setCell ⟨g,i*4+2,none⟩ (.bool true)).heap[p]?=some (.cells #[.slice A bn c,.slice (some ⟨g,0,none⟩) s.2.1.length c',.int .i64 s.2.2.1,.int .i64 s.2.2.2] 33 (0,0)):=(heap_setCell_other _ _ _ _ (by simpa using fun e=>hgp e.symm)).trans hp;have hF2:=hcel 2 (.bool true) (f.1,f.2.1,true,f.2.2.2) (by omega) rfl rfl;have hbx:=kU (s:=s) (x:=s.2.2.1) (y:=s.2.2.2) (by omega) hS hnp hp2 (fun b hb=>heap_setCell_other _ _ _ _ (by
   have:=hS.dis b hb;simp;exact fun e=>this (.inl (by rw [e];rfl)))) hF2 (fun b hb=>.inl hb)
  have hBe:Below B w (W.setCell ⟨g,i*4+2,none⟩ (.bool true)):=hBW.setCell hgB _
  go_wp2
  go_ret
  exact⟨false,rfl,(fun h=>by cases h),(fun _=>by simp [hb]),hBe⟩
set_option maxHeartbeats 8000000 in
set_option maxRecDepth 1000000 in
theorem DH (s:Sp) (hs:cK s) (hok:aW s=true) (i:Nat) (hi:i<s.2.1.length) (id:Int) (u:ByteArray) (n:Int) (hx:cN (4,id,u,n)=true) (w:World) (p B:Nat) (hbox:lu w p B s) (hpB:B≤p) :
  Calls Try.prog 95 #[.pointer (some ⟨p,0,none⟩),.int .i64 i,stV (4,id,u,n)] w (oh w p B (cG s i (4,id,u,n)) (eU s i (4,id,u,n))):=by
 obtain⟨hfm,hgc,_,hlost⟩:=bv hok;have hfi:=hfm i hi;obtain⟨A,bn,c,A',n',c',ys,hp0,hS0,hnp⟩:=hbox;obtain⟨fA,fc,efs⟩:=bt hS0.fms.own;cases efs;obtain⟨g,rfl⟩:=dc hS0.fms.own (by omega);have hpl:=aB hp0;have hgl:=(hS0.lt g (.inr (.inl rfl))).2;have hgB:=(hS0.lt g (.inr (.inl rfl))).1;have hgp:g≠p:=fun e=>hnp (.inr (.inl (by rw [e];rfl)))
 have hW:=be w (.cells #[.int .i64 4,.int .i64 id,.string u,.int .i64 n] 46);have hBW:Below B w (w.alloc (.cells #[.int .i64 4,.int .i64 id,.string u,.int .i64 n] 46)):=(Ik _ w).alloc (by omega) _;have hp:=Below.some hW hp0;have hS:=hS0.below hW;have hF:=hS.fms;have hq:(w.alloc (.cells #[.int .i64 4,.int .i64 id,.string u,.int .i64 n] 46)).heap[w.heap.size]?=some (.cells #[.int .i64 4,.int .i64 id,.string u,.int .i64 n] 46 (0,0)):=ac _ rfl;obtain⟨y,hy⟩:∃y,ys[i]?=some y:=⟨ys[i]'(by rw [hF.len];exact hi),HA _⟩
 have hgx:s.2.1[i]?=some s.2.1[i]:=HA hi;have hrow:=hF.row i _ y hgx hy;obtain⟨Ay,cy,rfl⟩:=co hrow;rw [HL] at hy hrow;have k1:=ax hF.own (j:=i*4+1) (u:=.slice Ay s.2.1[i].2.1.length cy) (by rw [aE _ _ i s.2.1[i] _ hgx hy 1 (by omega)];rfl);have k2:=ax hF.own (j:=i*4+2) (u:=.bool s.2.1[i].2.2.1) (by rw [aE _ _ i s.2.1[i] _ hgx hy 2 (by omega)];rfl);have k3:=ax hF.own (j:=i*4+3) (u:=.int .i64 s.2.1[i].2.2.2) (by rw [aE _ _ i s.2.1[i] _ hgx hy 3 (by omega)];rfl);have z1:=aN hF.own (i*4+1);have z2:=aN hF.own (i*4+2);have z3:=aN hF.own (i*4+3);have haS:eU s i (4,id,u,n)=(s.1,s.2.1.set i (s.2.1[i].1,s.2.1[i].2.1,false,s.2.1[i].2.2.2),s.2.2.1,s.2.2.2):=by
  unfold eU;rw [hgx];simp
 have haO:cG s i (4,id,u,n)=s.2.1[i].2.2.1:=by
  unfold cG;rw [hgx];simp
 rw [haS,haO];have hcel:=fun(k:Nat) (v:Value) (x':Fm) hk hx hc=>cv hF hi hy (x':=x') (k:=k) (v:=v) hk hx hc
 have hpi:(i:Int)<(s.2.1.length:Int):=by omega
 have hset:=dE hfi;have hprt:=bL hfi;obtain⟨m0,m1,m2,m3⟩:=aa hp;obtain⟨n0,n1,n2,n3⟩:=aG hp;obtain⟨q0,q1,q2,q3⟩:=aa hq;obtain⟨f,hf⟩:∃f,f=s.2.1[i]:=⟨_,rfl⟩
 rw [←hf] at hfi hgx hrow hy k1 k2 k3 hset hprt hcel ⊢;have hwy:∀b,aA (.slice Ay f.2.1.length cy) b→b≠g:=fun b hb e=>(hF.blk i _ b hy hb).2 (by rw [e];rfl)
 have hWs:w.heap.size<(w.alloc (.cells #[.int .i64 4,.int .i64 id,.string u,.int .i64 n] 46)).heap.size:=by simp
 clear haS haO hf
 go_enter Try.func95,Try.ntmps95
 go_upto_region 1 with fail
 generalize (w.alloc (.cells #[.int .i64 4,.int .i64 id,.string u,.int .i64 n] 46))=W at *;cases hb:f.2.2.1
 ·rw [hb] at k2
  have hp2:(W.setCell ⟨g,i*4+2,none⟩ (.bool false)).heap[p]?=some (.cells #[.slice A bn c,.slice (some ⟨g,0,none⟩) s.2.1.length c',.int .i64 s.2.2.1,.int .i64 s.2.2.2] 33 (0,0)):=(heap_setCell_other _ _ _ _ (by simpa using fun e=>hgp e.symm)).trans hp;have hF2:=hcel 2 (.bool false) (f.1,f.2.1,false,f.2.2.2) (by omega) rfl rfl;have hbx:=kU (s:=s) (x:=s.2.2.1) (y:=s.2.2.2) (by omega) hS hnp hp2 (fun b hb=>heap_setCell_other _ _ _ _ (by
   have:=hS.dis b hb;simp;exact fun e=>this (.inl (by rw [e];rfl)))) hF2 (fun b hb=>.inl hb)
  have hBe:Below B w (W.setCell ⟨g,i*4+2,none⟩ (.bool false)):=hBW.setCell hgB _
  go_wp2
  go_ret
  exact⟨false,rfl,(fun h=>by cases h),(fun _=>by simp [hb]),hBe⟩
 ·rw [hb] at k2
  have hp2:(W.setCell ⟨g,i*4+2,none⟩ (.bool false)).heap[p]?=some (.cells #[.slice A bn c,.slice (some ⟨g,0,none⟩) s.2.1.length c',.int .i64 s.2.2.1,.int .i64 s.2.2.2] 33 (0,0)):=(heap_setCell_other _ _ _ _ (by simpa using fun e=>hgp e.symm)).trans hp;have hF2:=hcel 2 (.bool false) (f.1,f.2.1,false,f.2.2.2) (by omega) rfl rfl;have hbx:=kU (s:=s) (x:=s.2.2.1) (y:=s.2.2.2) (by omega) hS hnp hp2 (fun b hb=>heap_setCell_other _ _ _ _ (by
   have:=hS.dis b hb;simp;exact fun e=>this (.inl (by rw [e];rfl)))) hF2 (fun b hb=>.inl hb)
  have hBe:Below B w (W.setCell ⟨g,i*4+2,none⟩ (.bool false)):=hBW.setCell hgB _
  go_wp2
  go_ret
  exact⟨true,rfl,fun _=>⟨by simp [hb],hbx⟩,(fun h=>by cases h),hBe⟩
set_option maxHeartbeats 8000000 in
set_option maxRecDepth 1000000 in
theorem DP (s:Sp) (hs:cK s) (hok:aW s=true) (i:Nat) (hi:i<s.2.1.length) (id:Int) (u:ByteArray) (n:Int) (hx:cN (3,id,u,n)=true) (w:World) (p B:Nat) (hbox:lu w p B s) (hpB:B≤p) :
  Calls Try.prog 95 #[.pointer (some ⟨p,0,none⟩),.int .i64 i,stV (3,id,u,n)] w (oh w p B (cG s i (3,id,u,n)) (eU s i (3,id,u,n))):=by
 obtain⟨hfm,hgc,_,hlost⟩:=bv hok;have hfi:=hfm i hi;obtain⟨A,bn,c,A',n',c',ys,hp0,hS0,hnp⟩:=hbox;obtain⟨fA,fc,efs⟩:=bt hS0.fms.own;cases efs;obtain⟨g,rfl⟩:=dc hS0.fms.own (by omega);have hpl:=aB hp0;have hgl:=(hS0.lt g (.inr (.inl rfl))).2;have hgB:=(hS0.lt g (.inr (.inl rfl))).1;have hgp:g≠p:=fun e=>hnp (.inr (.inl (by rw [e];rfl)))
 have hW:=be w (.cells #[.int .i64 3,.int .i64 id,.string u,.int .i64 n] 46);have hBW:Below B w (w.alloc (.cells #[.int .i64 3,.int .i64 id,.string u,.int .i64 n] 46)):=(Ik _ w).alloc (by omega) _;have hp:=Below.some hW hp0;have hS:=hS0.below hW;have hF:=hS.fms;have hq:(w.alloc (.cells #[.int .i64 3,.int .i64 id,.string u,.int .i64 n] 46)).heap[w.heap.size]?=some (.cells #[.int .i64 3,.int .i64 id,.string u,.int .i64 n] 46 (0,0)):=ac _ rfl;obtain⟨y,hy⟩:∃y,ys[i]?=some y:=⟨ys[i]'(by rw [hF.len];exact hi),HA _⟩
 have hgx:s.2.1[i]?=some s.2.1[i]:=HA hi;have hrow:=hF.row i _ y hgx hy;obtain⟨Ay,cy,rfl⟩:=co hrow;rw [HL] at hy hrow;have k1:=ax hF.own (j:=i*4+1) (u:=.slice Ay s.2.1[i].2.1.length cy) (by rw [aE _ _ i s.2.1[i] _ hgx hy 1 (by omega)];rfl);have k2:=ax hF.own (j:=i*4+2) (u:=.bool s.2.1[i].2.2.1) (by rw [aE _ _ i s.2.1[i] _ hgx hy 2 (by omega)];rfl);have k3:=ax hF.own (j:=i*4+3) (u:=.int .i64 s.2.1[i].2.2.2) (by rw [aE _ _ i s.2.1[i] _ hgx hy 3 (by omega)];rfl);have z1:=aN hF.own (i*4+1);have z2:=aN hF.own (i*4+2);have z3:=aN hF.own (i*4+3);have haS:eU s i (3,id,u,n)=(s.1,s.2.1.set i (s.2.1[i].1,s.2.1[i].2.1,s.2.1[i].2.2.1,s.2.1[i].2.2.2+n),s.2.2.1,s.2.2.2+n):=by
  unfold eU;rw [hgx];simp
 have haO:cG s i (3,id,u,n)=s.2.1[i].2.2.1:=by
  unfold cG;rw [hgx];simp
 rw [haS,haO];have hcel:=fun(k:Nat) (v:Value) (x':Fm) hk hx hc=>cv hF hi hy (x':=x') (k:=k) (v:=v) hk hx hc
 have hpi:(i:Int)<(s.2.1.length:Int):=by omega
 have hset:=dE hfi;have hprt:=bL hfi;obtain⟨m0,m1,m2,m3⟩:=aa hp;obtain⟨n0,n1,n2,n3⟩:=aG hp;obtain⟨q0,q1,q2,q3⟩:=aa hq;obtain⟨f,hf⟩:∃f,f=s.2.1[i]:=⟨_,rfl⟩
 rw [←hf] at hfi hgx hrow hy k1 k2 k3 hset hprt hcel ⊢;have hwy:∀b,aA (.slice Ay f.2.1.length cy) b→b≠g:=fun b hb e=>(hF.blk i _ b hy hb).2 (by rw [e];rfl)
 have hWs:w.heap.size<(w.alloc (.cells #[.int .i64 3,.int .i64 id,.string u,.int .i64 n] 46)).heap.size:=by simp
 clear haS haO hf
 go_enter Try.func95,Try.ntmps95
 go_upto_region 1 with fail
 generalize (w.alloc (.cells #[.int .i64 3,.int .i64 id,.string u,.int .i64 n] 46))=W at *;have hn:=AW hx rfl;have hsh:=(qW hok)
 have hw1:Iu.wrap (f.2.2.2+n)=f.2.2.2+n:=ao (by simp only at hn;omega) (by simp only at hn;omega);have hw2:Iu.wrap (s.2.2.2+n)=s.2.2.2+n:=ao (by simp only at hn;omega) (by simp only at hn;omega);have hfe:s.2.1[i]=f:=HB ((HA hi).symm.trans hgx);cases hb:f.2.2.1
 ·rw [hb] at k2
  go_wp2
  go_still_tail 7,(by kernel_rfl)
  change wpList _ _ _ _ _ W.drew
  have hS1:ShopAt W.drew B _ _ _ ys s:=hS.keep fun _ _=>rfl
  have hp1:W.drew.heap[p]?=_:=hp;have hq1:W.drew.heap[w.heap.size]?=_:=hq;have hB1:Below B w W.drew:=bm hBW (ab W) (by omega);have hWs1:w.heap.size<W.drew.heap.size:=hWs;have k31:=ax hS1.fms.own (j:=i*4+3) (u:=.int .i64 f.2.2.2) (by rw [aE _ _ i f _ hgx hy 3 (by omega)];rfl);have z31:=aN hS1.fms.own (i*4+3);have hF1:=cv hS1.fms hi hy (x':=(f.1,f.2.1,f.2.2.1,f.2.2.2+n)) (k:=3) (v:=.int .i64 (f.2.2.2+n)) (by omega) (by rw [hfe]) (by rw [hfe];rfl);generalize W.drew=W1 at *
  go_wp2
  have hp2:(W1.setCell ⟨g,i*4+3,none⟩ (.int .i64 (f.2.2.2+n))).heap[p]?=_:=(heap_setCell_other _ _ _ _ (by simpa using fun e=>hgp e.symm)).trans hp1;have hq2:(W1.setCell ⟨g,i*4+3,none⟩ (.int .i64 (f.2.2.2+n))).heap[w.heap.size]?=_:=(heap_setCell_other _ _ _ _ (by simp;omega)).trans hq1;have hB2:Below B w (W1.setCell ⟨g,i*4+3,none⟩ (.int .i64 (f.2.2.2+n))):=hB1.setCell hgB _;have hv2:∀b,aA (.slice A bn c) b→(W1.setCell ⟨g,i*4+3,none⟩ (.int .i64 (f.2.2.2+n))).heap[b]?=W1.heap[b]?:=fun b hb=>heap_setCell_other _ _ _ _ (by
   have:=hS1.dis b hb;simp;exact fun e=>this (.inl (by rw [e];rfl)))
  have hW2:w.heap.size<(W1.setCell ⟨g,i*4+3,none⟩ (.int .i64 (f.2.2.2+n))).heap.size:=by simp [HW];exact hWs1
  generalize W1.setCell ⟨g,i*4+3,none⟩ (.int .i64 (f.2.2.2+n))=W2 at *;obtain⟨a0,a1,a2,a3⟩:=aa hp2;obtain⟨b0,b1,b2,b3⟩:=aa hq2
  go_still_tail 7,(by kernel_rfl)
  change wpList _ _ _ _ _ W2.drew
  have hp3:W2.drew.heap[p]?=_:=hp2;have hB3:Below B w W2.drew:=bm hB2 (ab W2) (by omega);have hF3:FmsAt W2.drew B _ ys _:=hF1.keep fun _ _=>rfl
  have hv3:∀b,aA (.slice A bn c) b→W2.drew.heap[b]?=W1.heap[b]?:=hv2;generalize W2.drew=W3 at *;obtain⟨c0,c1,c2,c3⟩:=aa hp3;obtain⟨d0,d1,d2,d3⟩:=aG hp3;have hp4:(W3.setCell ⟨p,3,none⟩ (.int .i64 (s.2.2.2+n))).heap[p]?=some (.cells #[.slice A bn c,.slice (some ⟨g,0,none⟩) s.2.1.length c',.int .i64 s.2.2.1,.int .i64 (s.2.2.2+n)] 33 (0,0)):=heap_setCell_same _ _ 3 _ _ (.int .i64 (s.2.2.2+n)) hp3;have hbx:=kU (w':=W3.setCell ⟨p,3,none⟩ (.int .i64 (s.2.2.2+n))) (s:=s) (x:=s.2.2.1) (y:=s.2.2.2+n) (by omega) hS1 hnp hp4 (fun b hb=>(heap_setCell_other _ _ _ _ (by
   simp;exact fun e=>hnp (.inl (e ▸ hb)))).trans (hv3 b hb)) (hF3.keep fun b hb=>heap_setCell_other _ _ _ _ (by
   simp;exact fun e=>hnp (.inr (e ▸ hb)))) (fun b hb=>.inl hb)
  have hBe:Below B w (W3.setCell ⟨p,3,none⟩ (.int .i64 (s.2.2.2+n))):=hB3.setCell hpB _
  go_wp2
  go_ret
  exact⟨false,rfl,(fun h=>by cases h),(fun _=>by simp [hb]),hBe⟩
 ·rw [hb] at k2
  go_wp2
  go_still_tail 7,(by kernel_rfl)
  change wpList _ _ _ _ _ W.drew
  have hS1:ShopAt W.drew B _ _ _ ys s:=hS.keep fun _ _=>rfl
  have hp1:W.drew.heap[p]?=_:=hp;have hq1:W.drew.heap[w.heap.size]?=_:=hq;have hB1:Below B w W.drew:=bm hBW (ab W) (by omega);have hWs1:w.heap.size<W.drew.heap.size:=hWs;have k31:=ax hS1.fms.own (j:=i*4+3) (u:=.int .i64 f.2.2.2) (by rw [aE _ _ i f _ hgx hy 3 (by omega)];rfl);have z31:=aN hS1.fms.own (i*4+3);have hF1:=cv hS1.fms hi hy (x':=(f.1,f.2.1,f.2.2.1,f.2.2.2+n)) (k:=3) (v:=.int .i64 (f.2.2.2+n)) (by omega) (by rw [hfe]) (by rw [hfe];rfl);generalize W.drew=W1 at *
  go_wp2
  have hp2:(W1.setCell ⟨g,i*4+3,none⟩ (.int .i64 (f.2.2.2+n))).heap[p]?=_:=(heap_setCell_other _ _ _ _ (by simpa using fun e=>hgp e.symm)).trans hp1;have hq2:(W1.setCell ⟨g,i*4+3,none⟩ (.int .i64 (f.2.2.2+n))).heap[w.heap.size]?=_:=(heap_setCell_other _ _ _ _ (by simp;omega)).trans hq1;have hB2:Below B w (W1.setCell ⟨g,i*4+3,none⟩ (.int .i64 (f.2.2.2+n))):=hB1.setCell hgB _;have hv2:∀b,aA (.slice A bn c) b→(W1.setCell ⟨g,i*4+3,none⟩ (.int .i64 (f.2.2.2+n))).heap[b]?=W1.heap[b]?:=fun b hb=>heap_setCell_other _ _ _ _ (by
   have:=hS1.dis b hb;simp;exact fun e=>this (.inl (by rw [e];rfl)))
  have hW2:w.heap.size<(W1.setCell ⟨g,i*4+3,none⟩ (.int .i64 (f.2.2.2+n))).heap.size:=by simp [HW];exact hWs1
  generalize W1.setCell ⟨g,i*4+3,none⟩ (.int .i64 (f.2.2.2+n))=W2 at *;obtain⟨a0,a1,a2,a3⟩:=aa hp2;obtain⟨b0,b1,b2,b3⟩:=aa hq2
  go_still_tail 7,(by kernel_rfl)
  change wpList _ _ _ _ _ W2.drew
  have hp3:W2.drew.heap[p]?=_:=hp2;have hB3:Below B w W2.drew:=bm hB2 (ab W2) (by omega);have hF3:FmsAt W2.drew B _ ys _:=hF1.keep fun _ _=>rfl
  have hv3:∀b,aA (.slice A bn c) b→W2.drew.heap[b]?=W1.heap[b]?:=hv2;generalize W2.drew=W3 at *;obtain⟨c0,c1,c2,c3⟩:=aa hp3;obtain⟨d0,d1,d2,d3⟩:=aG hp3;have hp4:(W3.setCell ⟨p,3,none⟩ (.int .i64 (s.2.2.2+n))).heap[p]?=some (.cells #[.slice A bn c,.slice (some ⟨g,0,none⟩) s.2.1.length c',.int .i64 s.2.2.1,.int .i64 (s.2.2.2+n)] 33 (0,0)):=heap_setCell_same _ _ 3 _ _ (.int .i64 (s.2.2.2+n)) hp3;have hbx:=kU (w':=W3.setCell ⟨p,3,none⟩ (.int .i64 (s.2.2.2+n))) (s:=s) (x:=s.2.2.1) (y:=s.2.2.2+n) (by omega) hS1 hnp hp4 (fun b hb=>(heap_setCell_other _ _ _ _ (by
   simp;exact fun e=>hnp (.inl (e ▸ hb)))).trans (hv3 b hb)) (hF3.keep fun b hb=>heap_setCell_other _ _ _ _ (by
   simp;exact fun e=>hnp (.inr (e ▸ hb)))) (fun b hb=>.inl hb)
  have hBe:Below B w (W3.setCell ⟨p,3,none⟩ (.int .i64 (s.2.2.2+n))):=hB3.setCell hpB _
  go_wp2
  go_ret
  exact⟨true,rfl,fun _=>⟨hb,hbx⟩,(fun h=>by cases h),hBe⟩
set_option maxRecDepth 100000
theorem gZ {w:World} {B:Nat} {V:Value} {l:List Fm} {ys:List Value} (h:FmsAt w B V ys l) (k:Nat):(∀(i:Nat) (x:Fm) (y:Value),(l.drop k)[i]?=some x→(ys.drop k)[i]?=some y→bf w (fun _=>False) (aA y) 1 (txs x.2.1) y) ∧
  (∀(i:Nat) (y:Value) (b:Nat),(ys.drop k)[i]?=some y→aA y b→B≤b∧b<w.heap.size∧V.ownBlock≠some b∧∀j,j≤k→∀z∈ys.take j,¬aA z b) ∧
  (∀(i j:Nat) (y z:Value),i≠j→(ys.drop k)[i]?=some y→(ys.drop k)[j]?=some z→y.ownBlock=none∨y.ownBlock≠z.ownBlock):=by
 simp only [List.getElem?_drop];refine⟨fun i x y hx hy=>h.row _ x y hx hy,fun i y b hy hb=>?_,fun i j y z hij hy hz=>h.dis _ _ y z (by omega) hy hz⟩
 obtain⟨h1,h2⟩:=h.blk _ y b hy hb;refine⟨h1,(h.lt b (.inr ⟨y,Ip hy,hb⟩)).2,h2,fun j hj z hz hzb=>?_⟩
 obtain⟨m,hm⟩:=ID.1 hz;have hmj:m<j:=by
  have:=(HJ.1 hm).1;rw [HH] at this;omega
 rw [HR,if_pos hmj] at hm;rcases h.dis m (k+i) z y (by omega) hm hy with e | e
 ·rw [aA,e] at hzb
  cases hzb
 ·exact e (hzb.trans hb.symm)
theorem ji {w:World} {B g n c:Nat} {l:List Fm} {ys:List Value} (h:FmsAt w B (.slice (some ⟨g,0,none⟩) n c) ys l):l.length≤c∧c≤9223372036854775807:=by
 obtain⟨_,⟨e,_⟩ | ⟨g',cap,cur,e,_,_,h3,h4,_⟩⟩:=h.own
 ·cases e
 ·cases e
  exact⟨h3,h4⟩
set_option maxHeartbeats 8000000 in
set_option maxRecDepth 1000000 in
theorem El (s:Sp) (hs:cK s) (hok:aW s=true) (i:Nat) (hi:i<s.2.1.length) (id:Int) (u:ByteArray) (n:Int) (hx:cN (5,id,u,n)=true) (w:World) (p B:Nat) (hbox:lu w p B s) (hpB:B≤p) :
  Calls Try.prog 95 #[.pointer (some ⟨p,0,none⟩),.int .i64 i,stV (5,id,u,n)] w (oh w p B (cG s i (5,id,u,n)) (eU s i (5,id,u,n))):=by
 obtain⟨hfm,hgc,_,hlost⟩:=bv hok;have hfi:=hfm i hi;obtain⟨A,bn,c,A',n',c',ys,hp0,hS0,hnp⟩:=hbox;obtain⟨fA,fc,efs⟩:=bt hS0.fms.own;cases efs;obtain⟨g,rfl⟩:=dc hS0.fms.own (by omega);have hpl:=aB hp0;have hgl:=(hS0.lt g (.inr (.inl rfl))).2;have hgB:=(hS0.lt g (.inr (.inl rfl))).1;have hgp:g≠p:=fun e=>hnp (.inr (.inl (by rw [e];rfl)))
 have hW:=be w (.cells #[.int .i64 5,.int .i64 id,.string u,.int .i64 n] 46);have hBW:Below B w (w.alloc (.cells #[.int .i64 5,.int .i64 id,.string u,.int .i64 n] 46)):=(Ik _ w).alloc (by omega) _;have hp:=Below.some hW hp0;have hS:=hS0.below hW;have hF:=hS.fms;have hq:(w.alloc (.cells #[.int .i64 5,.int .i64 id,.string u,.int .i64 n] 46)).heap[w.heap.size]?=some (.cells #[.int .i64 5,.int .i64 id,.string u,.int .i64 n] 46 (0,0)):=ac _ rfl;obtain⟨y,hy⟩:∃y,ys[i]?=some y:=⟨ys[i]'(by rw [hF.len];exact hi),HA _⟩
 have hgx:s.2.1[i]?=some s.2.1[i]:=HA hi;have hrow:=hF.row i _ y hgx hy;obtain⟨Ay,cy,rfl⟩:=co hrow;rw [HL] at hy hrow;have k1:=ax hF.own (j:=i*4+1) (u:=.slice Ay s.2.1[i].2.1.length cy) (by rw [aE _ _ i s.2.1[i] _ hgx hy 1 (by omega)];rfl);have k2:=ax hF.own (j:=i*4+2) (u:=.bool s.2.1[i].2.2.1) (by rw [aE _ _ i s.2.1[i] _ hgx hy 2 (by omega)];rfl);have k3:=ax hF.own (j:=i*4+3) (u:=.int .i64 s.2.1[i].2.2.2) (by rw [aE _ _ i s.2.1[i] _ hgx hy 3 (by omega)];rfl);have z1:=aN hF.own (i*4+1);have z2:=aN hF.own (i*4+2);have z3:=aN hF.own (i*4+3);have haS:eU s i (5,id,u,n)=(s.1,s.2.1.set i (s.2.1[i].1,s.2.1[i].2.1.take (s.2.1[i].2.1.length - 1),s.2.1[i].2.2.1,s.2.1[i].2.2.2),s.2.2.1+1,s.2.2.2):=by
  unfold eU;rw [hgx];simp
 have haO:cG s i (5,id,u,n)=(!s.2.1[i].2.2.1 && !decide (s.2.1[i].2.1.length=0)):=by
  unfold cG;rw [hgx];simp
 rw [haS,haO];have hcel:=fun(k:Nat) (v:Value) (x':Fm) hk hx hc=>cv hF hi hy (x':=x') (k:=k) (v:=v) hk hx hc
 have hpi:(i:Int)<(s.2.1.length:Int):=by omega
 have hset:=dE hfi;have hprt:=bL hfi;obtain⟨m0,m1,m2,m3⟩:=aa hp;obtain⟨n0,n1,n2,n3⟩:=aG hp;obtain⟨q0,q1,q2,q3⟩:=aa hq;obtain⟨f,hf⟩:∃f,f=s.2.1[i]:=⟨_,rfl⟩
 rw [←hf] at hfi hgx hrow hy k1 k2 k3 hset hprt hcel ⊢;have hwy:∀b,aA (.slice Ay f.2.1.length cy) b→b≠g:=fun b hb e=>(hF.blk i _ b hy hb).2 (by rw [e];rfl)
 have hWs:w.heap.size<(w.alloc (.cells #[.int .i64 5,.int .i64 id,.string u,.int .i64 n] 46)).heap.size:=by simp
 clear haS haO hf
 go_enter Try.func95,Try.ntmps95
 go_upto_region 1 with fail
 generalize (w.alloc (.cells #[.int .i64 5,.int .i64 id,.string u,.int .i64 n] 46))=W at *;have hfe:s.2.1[i]=f:=HB ((HA hi).symm.trans hgx);by_cases hm:f.2.1.length=0
 ·go_wp2
  go_ret
  exact⟨false,rfl,(fun h=>by cases h),(fun _=>by simp [hm]),hBW⟩
 obtain⟨gy,oy,rfl,-,hlc⟩:=zi hrow (by simp;omega);rw [HL] at hlc;have hwm:Iu.wrap ((f.2.1.length:Int) - 1)=((f.2.1.length - 1:Nat):Int):=by rw [ao (by omega) (by omega)];omega
 have hwl:Iu.wrap (s.2.2.1+1)=s.2.2.1+1:=ao (by omega) (by omega);have hb1:(0:Int)≤((f.2.1.length - 1:Nat):Int):=by omega
 have hb2:((f.2.1.length - 1:Nat):Int)≤(cy:Int):=by omega
 have hrow':=yA (i:=f.2.1.length - 1) hrow (by simp) (by simp;omega);rw [←List.map_take] at hrow';have hwg:∀b,b≠g→(W.setCell ⟨g,i*4+1,none⟩ (.slice (some ⟨gy,oy,none⟩) (f.2.1.length - 1) cy)).heap[b]?=W.heap[b]?:=fun b hb=>heap_setCell_other _ _ _ _ (by simpa using hb)
 have hgyb:∀b,aA (.slice (some ⟨gy,oy,none⟩) (f.2.1.length - 1) cy) b→aA (.slice (some ⟨gy,oy,none⟩) f.2.1.length cy) b:=fun b hb=>hb
 have hF1:=jQ (w':=W.setCell ⟨g,i*4+1,none⟩ (.slice (some ⟨gy,oy,none⟩) (f.2.1.length - 1) cy)) (x:=(f.1,f.2.1.take (f.2.1.length - 1),f.2.2.1,f.2.2.2)) (y:=.slice (some ⟨gy,oy,none⟩) (f.2.1.length - 1) cy) hF hi (aJ hrow' fun b hb=>hwg b (hwy b (hgyb b hb))) (fun b hb=>⟨(hF.blk i _ b hy (hgyb b hb)).1,hwy b (hgyb b hb)⟩)
  (fun j z hj hz=>by have:=hF.dis i j _ z (fun e=>hj e.symm) hy hz;exact this) (fun j z b hj hz hb=>hwg b fun e=>(hF.blk j z b hz hb).2 (by rw [e];rfl))
  (by rw [gK s.2.1 ys i f (f.1,f.2.1.take (f.2.1.length - 1),f.2.2.1,f.2.2.2) _ _ (.slice (some ⟨gy,oy,none⟩) (f.2.1.length - 1) cy) 1 (by omega) hgx hy rfl];exact bN hF.own rfl _ _)
 have hp1:(W.setCell ⟨g,i*4+1,none⟩ (.slice (some ⟨gy,oy,none⟩) (f.2.1.length - 1) cy)).heap[p]?=_:=(hwg p (fun e=>hgp e.symm)).trans hp;have hB1:Below B w (W.setCell ⟨g,i*4+1,none⟩ (.slice (some ⟨gy,oy,none⟩) (f.2.1.length - 1) cy)):=hBW.setCell hgB _;have hv1:∀b,aA (.slice A bn c) b→(W.setCell ⟨g,i*4+1,none⟩ (.slice (some ⟨gy,oy,none⟩) (f.2.1.length - 1) cy)).heap[b]?=W.heap[b]?:=fun b hb=>hwg b fun e=>hS.dis b hb (.inl (by rw [e];rfl))
 obtain⟨a0,a1,a2,a3⟩:=aa hp1;obtain⟨b0,b1,b2,b3⟩:=aG hp1;have hp4:((W.setCell ⟨g,i*4+1,none⟩ (.slice (some ⟨gy,oy,none⟩) (f.2.1.length - 1) cy)).setCell ⟨p,2,none⟩ (.int .i64 (s.2.2.1+1))).heap[p]?=some (.cells #[.slice A bn c,.slice (some ⟨g,0,none⟩) s.2.1.length c',.int .i64 (s.2.2.1+1),.int .i64 s.2.2.2] 33 (0,0)):=heap_setCell_same _ _ 2 _ _ (.int .i64 (s.2.2.1+1)) hp1;have hfo:∀b,FmS (.slice (some ⟨g,0,none⟩) s.2.1.length c') (ys.set i (.slice (some ⟨gy,oy,none⟩) (f.2.1.length - 1) cy)) b→FmS (.slice (some ⟨g,0,none⟩) s.2.1.length c') ys b:=fun b hb=>by
  rcases hb with hb | ⟨y,hy',hb⟩
  ·exact .inl hb
  ·rcases List.mem_or_eq_of_mem_set hy' with h | rfl
   ·exact .inr ⟨y,h,hb⟩
   ·exact .inr ⟨_,Ip hy,hgyb b hb⟩
 have hbx:=kU (w':=(W.setCell ⟨g,i*4+1,none⟩ (.slice (some ⟨gy,oy,none⟩) (f.2.1.length - 1) cy)).setCell ⟨p,2,none⟩ (.int .i64 (s.2.2.1+1))) (s:=s) (x:=s.2.2.1+1) (y:=s.2.2.2) (by omega) hS hnp hp4 (fun b hb=>(heap_setCell_other _ _ _ _ (by
   simp;exact fun e=>hnp (.inl (e ▸ hb)))).trans (hv1 b hb)) (hF1.keep fun b hb=>heap_setCell_other _ _ _ _ (by
   simp;exact fun e=>hnp (.inr (hfo p (e ▸ hb))))) (fun b hb=>.inl (hfo b hb))
 have hBe:Below B w ((W.setCell ⟨g,i*4+1,none⟩ (.slice (some ⟨gy,oy,none⟩) (f.2.1.length - 1) cy)).setCell ⟨p,2,none⟩ (.int .i64 (s.2.2.1+1))):=hB1.setCell hpB _;cases hb:f.2.2.1
 ·rw [hb] at k2
  go_wp2
  go_ret
  exact⟨true,rfl,fun _=>⟨by simp [hb,hm],hbx⟩,(fun h=>by cases h),hBe⟩
 ·rw [hb] at k2
  go_wp2
  go_ret
  exact⟨false,rfl,(fun h=>by cases h),(fun _=>by simp [hb]),hBe⟩
set_option maxHeartbeats 8000000 in
set_option maxRecDepth 1000000 in
theorem DY (s:Sp) (hs:cK s) (hok:aW s=true) (i:Nat) (hi:i<s.2.1.length) (id:Int) (u:ByteArray) (n:Int) (hx:cN (6,id,u,n)=true) (w:World) (p B:Nat) (hbox:lu w p B s) (hpB:B≤p) :
    Calls Try.prog 95 #[.pointer (some ⟨p,0,none⟩),.int .i64 i,stV (6,id,u,n)] w (oh w p B (cG s i (6,id,u,n)) (eU s i (6,id,u,n))):=by
  obtain⟨hfm,hgc,_,hlost⟩:=bv hok;have hfi:=hfm i hi;obtain⟨A,bn,c,A',n',c',ys,hp0,hS0,hnp⟩:=hbox;obtain⟨fA,fc,efs⟩:=bt hS0.fms.own;cases efs;obtain⟨g,rfl⟩:=dc hS0.fms.own (by omega);have hpl:=aB hp0;have hgl:=(hS0.lt g (.inr (.inl rfl))).2;have hgB:=(hS0.lt g (.inr (.inl rfl))).1;have hgp:g≠p:=fun e=>hnp (.inr (.inl (by rw [e];rfl)))
  have hW:=be w (.cells #[.int .i64 6,.int .i64 id,.string u,.int .i64 n] 46);have hBW:Below B w (w.alloc (.cells #[.int .i64 6,.int .i64 id,.string u,.int .i64 n] 46)):=(Ik _ w).alloc (by omega) _;have hp:=Below.some hW hp0;have hS:=hS0.below hW;have hF:=hS.fms;have hq:(w.alloc (.cells #[.int .i64 6,.int .i64 id,.string u,.int .i64 n] 46)).heap[w.heap.size]?=some (.cells #[.int .i64 6,.int .i64 id,.string u,.int .i64 n] 46 (0,0)):=ac _ rfl;obtain⟨y,hy⟩:∃y,ys[i]?=some y:=⟨ys[i]'(by rw [hF.len];exact hi),HA _⟩
  have hgx:s.2.1[i]?=some s.2.1[i]:=HA hi;have hrow:=hF.row i _ y hgx hy;obtain⟨Ay,cy,rfl⟩:=co hrow;rw [HL] at hy hrow;have k1:=ax hF.own (j:=i*4+1) (u:=.slice Ay s.2.1[i].2.1.length cy) (by rw [aE _ _ i s.2.1[i] _ hgx hy 1 (by omega)];rfl);have k2:=ax hF.own (j:=i*4+2) (u:=.bool s.2.1[i].2.2.1) (by rw [aE _ _ i s.2.1[i] _ hgx hy 2 (by omega)];rfl);have k3:=ax hF.own (j:=i*4+3) (u:=.int .i64 s.2.1[i].2.2.2) (by rw [aE _ _ i s.2.1[i] _ hgx hy 3 (by omega)];rfl);have z1:=aN hF.own (i*4+1);have z2:=aN hF.own (i*4+2);have z3:=aN hF.own (i*4+3);have haS:eU s i (6,id,u,n)=(br (aK s.1) 1 s.1 s.2.1[i].2.1,s.2.1.take i++s.2.1.drop (i+1),s.2.2.1,s.2.2.2):=by
    unfold eU;rw [hgx];simp
  have haO:cG s i (6,id,u,n)=(!s.2.1[i].2.2.1&&bI (br (aK s.1) 1 s.1 s.2.1[i].2.1)):=by
    unfold cG;rw [hgx];simp
  rw [haS,haO];have hcel:=fun(k:Nat) (v:Value) (x':Fm) hk hx hc=>cv hF hi hy (x':=x') (k:=k) (v:=v) hk hx hc
  have hpi:(i:Int)<(s.2.1.length:Int):=by omega
  have hset:=dE hfi;have hprt:=bL hfi;obtain⟨m0,m1,m2,m3⟩:=aa hp;obtain⟨n0,n1,n2,n3⟩:=aG hp;obtain⟨q0,q1,q2,q3⟩:=aa hq;obtain⟨f,hf⟩:∃f,f=s.2.1[i]:=⟨_,rfl⟩
  rw [←hf] at hfi hgx hrow hy k1 k2 k3 hset hprt hcel ⊢;have hwy:∀b,aA (.slice Ay f.2.1.length cy) b→b≠g:=fun b hb e=>(hF.blk i _ b hy hb).2 (by rw [e];rfl)
  have hWs:w.heap.size<(w.alloc (.cells #[.int .i64 6,.int .i64 id,.string u,.int .i64 n] 46)).heap.size:=by simp
  clear haS haO hf
  go_enter Try.func95,Try.ntmps95
  go_upto_region 1 with fail
  generalize (w.alloc (.cells #[.int .i64 6,.int .i64 id,.string u,.int .i64 n] 46))=W at *;have hfe:s.2.1[i]=f:=HB ((HA hi).symm.trans hgx);have hin:=BD hfi
  go_wp2
  have hpd:=Below.some (ab W) hp;have hSd:=hS.below (ab W);have k1d:W.drew.cell? ⟨g,i*4+1,none⟩=some (.slice Ay f.2.1.length cy):=k1;obtain⟨e0,e1,e2,e3⟩:=aa hpd;have hrowd:=bf.below hrow (ab W);have hc:=uN s.1 f.2.1 hs.1 (by omega) hgc hin (dW hSd.box) (cd hSd.box) (dW hrowd) (cd hrowd)
  go_region_held3 (fun w'=>w'.cell? ⟨p,0,none⟩=some (.slice A bn c)∧w'.cell? ⟨g,i*4+1,none⟩=some (.slice Ay f.2.1.length cy)) (first | (refine⟨?_,?_⟩<;>assumption) | go_keep)
    (first
      | (go_at_call 51;refine hc.mono ?_;intro e w6 hout;obtain⟨A6,n6,c6,rfl,own6,hv6,b6⟩:=hout;have hp6:=Below.some b6 hpd;have hS6:=hSd.below b6;obtain⟨r0,r1,r2,r3⟩:=aa hp6;have k16:=ax hS6.fms.own (j:=i*4+1) (u:=.slice Ay f.2.1.length cy) (by rw [aE _ _ i f _ hgx hy 1 (by omega)];rfl))
      | fail)
  obtain⟨fr0,fr1,fr2,fr3⟩:=aG hp6;have B6:Below B w w6:=(hBW.trans ((ab W).mono (by omega))).trans (b6.mono (by show B≤W.heap.size;omega));have hs6:W.heap.size≤w6.heap.size:=b6.size;have hp7:(w6.setCell ⟨p,0,none⟩ (.slice A6 n6 c6)).heap[p]?=some (.cells #[.slice A6 n6 c6,.slice (some ⟨g,0,none⟩) s.2.1.length c',.int .i64 s.2.2.1,.int .i64 s.2.2.2] 33 (0,0)):=heap_setCell_same _ _ 0 _ _ (.slice A6 n6 c6) hp6;have hF7:=hS6.fms.keep (w':=w6.setCell ⟨p,0,none⟩ (.slice A6 n6 c6)) fun b hb=>heap_setCell_other _ _ _ _ (by simp;exact fun e=>hnp (.inr (e ▸ hb)))
  have hv6':∀b,aA (.slice A6 n6 c6) b→W.heap.size≤b:=fun b hb=>(hv6 b hb).1
  have own7:=aJ (w':=w6.setCell ⟨p,0,none⟩ (.slice A6 n6 c6)) own6 fun b hb=>heap_setCell_other _ _ _ _ (by have:=hv6' b hb;simp;omega)
  have B7:Below B w (w6.setCell ⟨p,0,none⟩ (.slice A6 n6 c6)):=B6.setCell hpB _;have hs7:W.heap.size≤(w6.setCell ⟨p,0,none⟩ (.slice A6 n6 c6)).heap.size:=by simp [HW];exact hs6
  have hFlt:=hS.fms.lt;clear hcel hS0 hp0 k1 k2 k3 z1 z2 z3 m0 m1 m2 m3 n0 n1 n2 n3 q0 q1 q2 q3 hq e0 e1 e2 e3 hc r0 r1 r2 r3 k16 k1d hSd hpd hrowd b6 B6 hs6 hS6;have hs7':=hs7
  go_wp2
  generalize w6.setCell ⟨p,0,none⟩ (.slice A6 n6 c6)=W7 at *;have hp8:=Below.some (ab W7) hp7;have hF8:FmsAt W7.drew B (.slice (some ⟨g,0,none⟩) s.2.1.length c') ys s.2.1:=hF7.keep fun _ _=>rfl
  obtain⟨a0,a1,a2,a3⟩:=aa hp8;have hb1:(0:Int)≤(i:Int):=by omega
  have hcp:=ji hF8;have hb2:(i:Int)≤(c':Int):=by omega
  have hw1:Iu.wrap ((i:Int)+1)=(i:Int)+1:=ao (by omega) (by omega);have hb3:(0:Int)≤(i:Int)+1:=by omega
  have hb4:(i:Int)+1≤(s.2.1.length:Int):=by omega
  have hb5:((i:Int)+1).toNat=i+1:=by omega
  obtain⟨i2,hi2,hx0,hx1,hx2⟩:=info_parts fy;have hpre:=AP hF8 (i:=i) (by omega)
  go_region_law (first
    | (refine af _ rfl _ _ 31 rfl B 75 i2 (.agg #[.int .i64 0,.slice none 0 0,.bool false,.int .i64 0]) 4 48 Try.underlying31 hi2 hx0 hx1 hx2 rfl (by decide) (.slice (some ⟨g,0,none⟩) i c') _ _ (by simp [go_sem];done) hpre.own (if c'=i+1 then some ⟨g,0,none⟩ else some ⟨g,(i+1)*4,none⟩) (s.2.1.length - (i+1)) (c' - (i+1)) (aV (s.2.1.drop (i+1)) (ys.drop (i+1))) (by simp [go_sem,sliced];done) (by rw [bD _ _ (by simp [hF8.len]),IQ]) (fun h0=>⟨g,(i+1)*4,by rw [if_neg (by omega)],fP hF8 (i+1) (by omega)⟩) (ck _ _ fun y hy=>cR hF8 y (Iq hy)) (by unfold maxLen;simp;omega) (by simp;omega) (show B≤W7.heap.size from Ij (Ij hpB (Nat.le_of_lt hpl)) B7.size) ?_
       intro v1 w8 hown1 hg1 hat1;obtain⟨A8,n8,c8,rfl⟩:=am hown1;have hp9:=(hg1.block p (II hpl B7.size) (fun e=>hgp (HB e).symm)).trans hp8;obtain⟨x0,x1,x2,x3⟩:=aa hp9;obtain⟨y0,y1,y2,y3⟩:=aG hp9)
    | fail)
  all_goals (
    have hd:=gZ hF8 (i+1);have hF9:=bE hpre (m:=s.2.1.drop (i+1)) (zs:=ys.drop (i+1)) (Ij (Ij hpB (Nat.le_of_lt hpl)) B7.size) (by rw [IQ];exact hown1) hg1 hat1 (by simp [hF8.len]) hd.1 (fun j y b hj hb=>by
      obtain⟨h1,h2,h3,h4⟩:=hd.2.1 j y b hj hb;exact⟨h1,h2,fun h=>h.elim (fun h=>h3 h) fun⟨z,hz,hzb⟩=>h4 i (by omega) z hz hzb⟩) hd.2.2
    have hS7:W7.drew.heap.size=W7.heap.size:=rfl;have hsz1:=hg1.size;have hfo:∀b,FmS (.slice A8 n8 c8) (ys.take i++ys.drop (i+1)) b→FmS (.slice (some ⟨g,0,none⟩) s.2.1.length c') ys b∨W7.heap.size≤b:=fun b hb=>by
      rcases hb with hb | ⟨z,hz,hzb⟩
      · rcases hat1 with h | h
        · exact .inl (.inl (hb.symm.trans h).symm)
        · have:some b=some W7.heap.size:=hb.symm.trans h
          exact .inr (by cases this;exact Im _)
      · rcases IA.1 hz with hz | hz
        · exact .inl (.inr ⟨z,Io hz,hzb⟩)
        · exact .inl (.inr ⟨z,Iq hz,hzb⟩)
    have hp10:(w8.setCell ⟨p,1,none⟩ (.slice A8 n8 c8)).heap[p]?=some (.cells #[.slice A6 n6 c6,.slice A8 n8 c8,.int .i64 s.2.2.1,.int .i64 s.2.2.2] 33 (0,0)):=heap_setCell_same _ _ 1 _ _ (.slice A8 n8 c8) hp9;have hWW:W.heap.size≤W7.heap.size:=hs7';have h6g:∀b,aA (.slice A6 n6 c6) b→b≠g∧b<W7.heap.size∧W.heap.size≤b:=fun b hb=>⟨by have:=hv6' b hb;omega,cd own7 b hb,hv6' b hb⟩
    have own9:=aJ (w':=w8.setCell ⟨p,1,none⟩ (.slice A8 n8 c8)) own7 fun b hb=>by
      obtain⟨h1,h2,h3⟩:=h6g b hb;rw [heap_setCell_other _ _ _ _ (by simp;omega)];exact hg1.block b h2 fun e=>h1 (HB e)
    have hpF:¬FmS (.slice A8 n8 c8) (ys.take i++ys.drop (i+1)) p:=fun h=>(hfo p h).elim (fun h=>hnp (.inr h)) fun h=>by have:=B7.size;omega
    have hF10:=hF9.keep (w':=w8.setCell ⟨p,1,none⟩ (.slice A8 n8 c8)) fun b hb=>heap_setCell_other _ _ _ _ (by simp;exact fun e=>hpF (e ▸ hb))
    have hbx:lu (w8.setCell ⟨p,1,none⟩ (.slice A8 n8 c8)) p B (mvd s.1 f.2.1 1,s.2.1.take i++s.2.1.drop (i+1),s.2.2.1,s.2.2.2) :=
      ⟨_,_,_,_,_,_,_,hp10,⟨rfl,own9,fun b hb=>by have:=(h6g b hb).2.2;omega,hF10,fun b hb h=>(hfo b h).elim (fun h=>by have:=(hFlt b h).2;have:=(h6g b hb).2.2;omega) fun h=>by have:=(h6g b hb).2.1;omega⟩,fun h=>h.elim (fun h=>by have:=(h6g p h).2.2;omega) hpF⟩
    have hBe:Below B w (w8.setCell ⟨p,1,none⟩ (.slice A8 n8 c8)):=((bm B7 (ab W7) (by have:=B7.size;omega)).grown hg1 (by rw [hS7];have:=B7.size;omega) (fun k hk=>by have:g=k:=HB hk;omega)).setCell hpB _;clear hat1 hfo;cases hgo:bI (br (aK s.1) 1 s.1 f.2.1)
    · go_wp2
      all_goals (go_ret;exact⟨false,rfl,(fun h=>by cases h),(fun _=>by simp),hBe⟩)
    · have em:mvd s.1 f.2.1 1=br (aK s.1) 1 s.1 f.2.1:=by
        unfold mvd;rw [if_pos hgo]
      rw [em] at hbx;cases hb:f.2.2.1
      · go_wp2
        all_goals (go_ret;exact⟨true,rfl,fun _=>⟨by simp,hbx⟩,(fun h=>by cases h),hBe⟩)
      · go_wp2
        all_goals (go_ret;exact⟨false,rfl,(fun h=>by cases h),(fun _=>by simp),hBe⟩))
set_option maxRecDepth 100000
theorem GY:TOk Try.prog 73 iU:=sg (by kernel_rfl)
theorem Ht:TOk Try.prog 9 ty9:=sg (by kernel_rfl)
theorem Gh {w:World} {F:Nat→Prop} {l:List ByteArray} {y:Value} (h:aQ w F (txs l) y):sY w (fun _=>False) (txs l) y:=by
 intro z m e;cases e;obtain⟨A,c,us,e1,hc,hr,hw,hA⟩:=h;simp only [List.cons.injEq,and_true] at e1;refine⟨A,c,us,e1,oe _ _ EN hr,hw,fun hne=>?_⟩
 obtain⟨b,o,e2,_,hcl⟩:=hA hne;exact⟨b,o,e2,hcl⟩
theorem vT (w:World) {o:Oper} {a:Act} {K:Act→World→Prop} {Q:Exit→Act→World→Prop} (s x:Operand)
  (ho:o.op = .call {callee:=.builtin .append,args:=#[s,x],argTypes:=#[73,73]}) (l m:List ByteArray) (ys yx:Value) (hs:a.eval s=ys) (hx:a.eval x=yx) (hown:bf w (fun _=>False) (aA ys) 1 (txs l) ys) {F:Nat→Prop} (hsrc:aQ w F (txs m) yx) (hlen:l.length+m.length≤1048576)
  (h:∀v w',bf w' (fun _=>False) (aA v) 1 (txs (l++m)) v→(∀b,aA v b→aA ys b∨w.heap.size≤b)→KeptX (aA ys) w w'→K (a.put o.dst v) w'):o.wp Try.prog a w K Q:=by
 obtain⟨v,w',hr,h1,h2,h3,h4,h5,h6⟩:=nM (P:=Try.prog) (t:=73) (ty:=o.type) GY (by kernel_rfl) Ht (G:=fun _=>False) (own:=aA ys) (fun b hb=>hb.elim) (l:=l.map T) (m:=m.map T) hown (Gh hsrc) (by simp only [HL];omega) (by simp only [HL];omega);have hv:∀b,aA v b→aA ys b∨w.heap.size≤b:=fun b hb=>by
  obtain⟨l',_,_,h7 | ⟨g,o,c,us,cs,e,h8,_,_,_,_,_,h9⟩⟩:=h1
  ·rw [h7.1] at hb
   cases hb
  ·rw [h8] at hb
   have:g=b:=HB hb;exact this ▸ h9
 have h1':bf w' (fun _=>False) (aA v) 1 (txs (l++m)) v:=by
  obtain⟨l',e,hw,h7⟩:=h1;refine⟨l',by rw [txs,List.map_append];exact e,hw,?_⟩
  rcases h7 with h7 | ⟨g,o,c,us,cs,e,h8,q1,q2,q3,q4,q5,_⟩
  ·exact .inl h7
  ·exact .inr ⟨g,o,c,us,cs,e,h8,q1,q2,q3,q4,q5,by rw [h8];rfl⟩
 unfold IJ execOp;simp only [ho,resolve,invoke,builtin,Sem.run_bind,Sem.run_pure,IK,IM,List.map_cons,List.map_nil,hs,hx,hr];exact h v w' h1' hv ⟨h4,h5,h6,h2,fun b hb hn=>h3 b hb hn⟩
theorem lp (w:World) {ops:Array Oper} {o:Oper} {a:Act} {K:Act→World→Prop} {Q:Exit→Act→World→Prop} {E:Prop} (hgd:o.guard=none) (s x:Operand)
  (ho:o.op = .call {callee:=.builtin .append,args:=#[s,x],argTypes:=#[73,73]}) (l m:List ByteArray) (ys yx:Value) (hs:a.eval s=ys) (hx:a.eval x=yx) (hown:bf w (fun _=>False) (aA ys) 1 (txs l) ys) {F:Nat→Prop} (hsrc:aQ w F (txs m) yx) (hlen:l.length+m.length≤1048576)
  (h:∀A n c w',bf w' (fun _=>False) (aA (.slice A n c)) 1 (txs (l++m)) (.slice A n c)→(∀b,aA (.slice A n c) b→aA ys b∨w.heap.size≤b)→KeptX (aA ys) w w'→K (a.put o.dst (.slice A n c)) w') :
  if HV o (yielded ops a.tmps)=true then IJ Try.prog o a w K Q else E:=by
 have hw:HV o (yielded ops a.tmps)=true:=by simp [HV,hgd]
 rw [if_pos hw];refine vT w s x ho l m ys yx hs hx hown hsrc hlen fun v w' h1 h2 h3=>?_
 obtain⟨A,n,c,rfl⟩:=aU h1;exact h A n c w' h1 h2 h3
def GZ (w wc:World) (p B:Nat) (Vb Vf:Value) (ys:List Value) (x y:Int) (l':List Fm):Prop:=∃A2 n2 c2 ys2,wc.heap[p]?=some (.cells #[Vb,.slice A2 n2 c2,.int .i64 x,.int .i64 y] 33 (0,0))∧FmsAt wc B (.slice A2 n2 c2) ys2 l' ∧
 (∀b,FmS (.slice A2 n2 c2) ys2 b→FmS Vf ys b∨w.heap.size≤b)∧(∀b,b<w.heap.size→b≠p→wc.heap[b]?=w.heap[b]?)∧w.heap.size≤wc.heap.size∧wc.os=w.os∧wc.tape=w.tape∧wc.output=w.output
theorem iR {w:World} {B:Nat} {V:Value} {l:List Fm} {ys:List Value} (h:FmsAt w B V ys l) (k:Nat):(∀(i:Nat) (x:Fm) (y:Value),(l.take k)[i]?=some x→(ys.take k)[i]?=some y→bf w (fun _=>False) (aA y) 1 (txs x.2.1) y) ∧
  (∀(i:Nat) (y:Value) (b:Nat),(ys.take k)[i]?=some y→aA y b→B≤b∧b<w.heap.size) ∧
  (∀(i j:Nat) (y z:Value),i≠j→(ys.take k)[i]?=some y→(ys.take k)[j]?=some z→y.ownBlock=none∨y.ownBlock≠z.ownBlock):=by
 have ht:∀{α:Type} {m:List α} {i:Nat} {y:α},(m.take k)[i]?=some y→m[i]?=some y:=fun {α m i y} h=>by
  rw [HR] at h;split at h
  ·exact h
  ·cases h
 exact⟨fun i x y hx hy=>h.row _ x y (ht hx) (ht hy),fun i y b hy hb=>⟨(h.blk i y b (ht hy) hb).1,(h.lt b (.inr ⟨y,Ip (ht hy),hb⟩)).2⟩,fun i j y z hij hy hz=>h.dis i j y z hij (ht hy) (ht hz)⟩
theorem gH {w:World} {B g cap n:Nat} {l:List Fm} {ys:List Value} (h:FmsAt w B (.slice (some ⟨g,0,none⟩) n cap) ys l) {i:Nat} (hi:i≤l.length):∀(j:Nat) (u:Value),(aV (l.take i) (ys.take i))[j]?=some u→w.cell? ⟨g,0+j,none⟩=some u:=by
 intro j u hj;have hl:=h.len;have e1:=jV (l.take i) (l.drop i) (ys.take i) (ys.drop i) (by simp [hl]);rw [HQ,HQ] at e1;have h3:(aV l ys)[j]?=some u:=by
  rw [e1,Ii (HJ.1 hj).1];exact hj
 have ho:=h.own;rw [IH];obtain⟨_,⟨hn,_⟩ | ⟨g',cap',cur,e',_⟩⟩:=h.own
 ·cases hn
 ·cases e'
  exact ax ho h3
theorem Do (l:List Fm) (n:Int):atF l n<(cL l n).length:=by
 unfold cL;split
 ·rename_i h
  exact(jt h).1
 ·have:=xj l n
  simp;omega
theorem pG {s:Sp} (hfm:∀(j:Nat) (hj:j<s.2.1.length),fE s.1 s.2.1[j]=true) (n:Int) (f:Fm) (h:f∈cL s.2.1 n):f.2.1.length≤40:=by
 have old:∀f∈s.2.1,f.2.1.length≤40:=fun f hf=>by
  obtain⟨j,hj,rfl⟩:=IG hf;exact dE (hfm j hj)
 unfold cL at h;split at h
 ·exact old f h
 ·rcases IA.1 h with h | h
  ·exact old f (Io h)
  ·rcases IF.1 h with rfl | h
   ·simp
   ·exact old f (Iq h)
set_option maxRecDepth 100000
theorem Hq {α:Type} {a:Array α} {p:α→Bool} (h:a.toList.any p=true):∃e,e∈a∧p e=true:=by
 obtain⟨e,he,hp⟩:=IU.1 h;exact⟨e,Ig.1 he,hp⟩
theorem Ho {α:Type} {a:Array α} {p:α→Bool} (h:a.toList.all p=true) (e:α) (he:e∈a):p e=true:=In.1 h e (Ig.2 he)
def pz (l:List Oper) (o:Oper):Bool :=
 (Iy l.length).all (fun i=>(o.after.toList.any fun e=>HX .any e&&e.on==i)||(Iy l.length).any fun j=>decide (i<j)&&(l[j]?.map fun oj=>oj.after.toList.any fun e=>HX .any e&&e.on==i).getD false)&&o.after.toList.all (fun e=>decide (e.on<l.length))&&o.guard.isNone &&
 (Iy l.length).all (fun i=>(l[i]?.map fun oi=>oi.guard.isNone&&oi.after.toList.all fun e=>!HX .any e||decide (e.on<i)).getD true)
def yt (P:Program) (o:Oper) (Q:Exit→Act→World→Prop):Exit→Act→World→Prop
 | .normal,a,w=>o.wp P a w (fun a w=>Q .normal a w) Q
 | e,a,w=>Q e a w
theorem BQ {P:Program} {o o':Oper} {Q:Exit→Act→World→Prop} {a:Act} {K:Act→World→Prop} {r:Result Next} (h:Oper.upon P o a K (yt P o' Q) r):Oper.upon P o a K Q r:=by
 cases r with
 | ok n w=>cases n<;>exact h
 | halt x w=>cases x<;>exact h
theorem zQ (md:IL) (ops:Array Oper) (fuel t:Nat) (listed:Array Bool) (acc:List Nat) :
  HI md ops (fuel+1) t listed acc=match (HE md ops listed)[t % (HE md ops listed).length]? with
   | some i=>HI md ops fuel (t / (HE md ops listed).length) (listed.setIfInBounds i true) (i::acc)
   | none=>acc.reverse:=by
 simp only [HI];rfl
theorem wu {listed:Array Bool} {i:Nat} {d:Bool} (hi:i<listed.size):(listed.push false).getD i d=listed.getD i d:=by
 simp [HY,hi,Nat.lt_succ_of_lt hi,Array.getElem_push]
theorem uq (listed:Array Bool) (i:Nat):(listed.push false).getD i false=listed.getD i false:=by
 by_cases hi:i<listed.size
 ·exact wu hi
 ·by_cases he:i=listed.size
  ·subst he
   simp [HY]
  ·simp [HY,hi,show ¬i<listed.size+1 by omega]
theorem BR {l:List Oper} {o:Oper} {listed:Array Bool} (hs:listed.size=l.length) (i:Nat) (hi:i<l.length) :
  (!(listed.push false).getD i true&&(((l++[o]).toArray[i]?).map (·.after.all fun e=>!HX .any e||(listed.push false).getD e.on false)).getD false)=(!listed.getD i true&&((l.toArray[i]?).map (·.after.all fun e=>!HX .any e||listed.getD e.on false)).getD false):=by
 rw [wu (by omega)];congr 2
 simp only [Ib,Ii hi];congr 1
 funext x
 simp only [uq]
def pA (l:List Oper) (listed:Array Bool):Prop:=∀(j:Nat) (oj:Oper),l[j]?=some oj→listed.getD j false=true→∀e∈oj.after,HX .any e=true→listed.getD e.on false=true
theorem sN {l:List Oper} {o:Oper} {listed:Array Bool} (hB:pz l o=true) (hs:listed.size=l.length) (hc:pA l listed) :
  HE .any (l++[o]).toArray (listed.push false)=HE .any l.toArray listed++(if (∀i,i<l.length→listed.getD i false=true) then [l.length] else []):=by
 simp only [pz,HG,In,HS] at hB;obtain⟨⟨⟨h1,h2⟩,_⟩,_⟩:=hB;unfold HE;simp only [Ia,Iv,Ic,List.range_succ,List.filter_append];congr 1
 ·refine List.filter_congr fun i hi=>?_
  exact BR hs i (HS.1 hi)
 ·have e1:(l++[o]).toArray[l.length]?=some o:=by simp
  simp only [IV,List.filter_nil];have e2:(listed.push false).getD l.length true=false:=by
   rw [HC,←hs,Array.getElem?_push_size];rfl
  have e3:(o.after.all fun e=>!HX .any e||(listed.push false).getD e.on false)=decide (∀i,i<l.length→listed.getD i false=true):=by
   rw [Bool.eq_iff_iff];simp only [uq,decide_eq_true_eq,Iw,IB,Ix];constructor
   ·intro h
    have key:∀n i,i<l.length→l.length≤i+n→listed.getD i false=true:=by
     intro n;induction n with
     | zero=>intro i hi hn;omega
     | succ n ih =>
      intro i hi hn;have h3:=h1 i hi;simp only [IB,IU,HS,HG,decide_eq_true_eq] at h3;rcases h3 with h3 | ⟨j,hj,hij,h3⟩
      ·obtain⟨e,he,hb1,hb2⟩:=h3
       have hb:HX .any e=true∧e.on=i:=⟨hb1,by simpa using hb2⟩
       rcases h e (Ig.1 he) with h | h
       ·rw [h] at hb
        cases hb.1
       ·rw [←hb.2]
        exact h
      ·rw [HA hj] at h3
       simp only [HZ,HO] at h3;obtain⟨e,he,hb⟩:=Hq h3;simp only [HG,beq_iff_eq] at hb;rw [←hb.2];exact hc j l[j] (HA hj) (ih j hj (by omega)) e he hb.1
    exact fun i hi=>key l.length i hi (by omega)
   ·intro h e he
    have:=h2 e (Ig.2 he);exact .inr (h e.on (of_decide_eq_true this))
  rw [e2,e1];simp only [HZ,HO,e3,IE,Bool.true_and,decide_eq_true_eq]
theorem Au {l:List Oper} {o:Oper} {listed:Array Bool} (hB:pz l o=true) (hs:listed.size=l.length) (hu:¬∀i,i<l.length→listed.getD i false=true):HE .any l.toArray listed≠[]:=by
 simp only [pz,HG,In,HS] at hB;obtain⟨_,h4⟩:=hB;have:∃i,i<l.length∧listed.getD i false=false:=by
  refine Ih fun h=>hu fun i hi=>?_
  cases hb:listed.getD i false
  ·exact absurd ⟨i,hi,hb⟩ h
  ·rfl
 have least:∀n,(∃i,i<n∧i<l.length∧listed.getD i false=false)→∃i,i<l.length∧listed.getD i false=false∧∀j,j<i→listed.getD j false=true:=by
  intro n;induction n with
  | zero=>rintro⟨i,hi,_⟩;omega
  | succ n ih =>
   rintro⟨i,hi,hl,hb⟩;by_cases hx:∃i,i<n∧i<l.length∧listed.getD i false=false
   ·exact ih hx
   ·have:i=n:=by
     refine Ih fun h=>hx ⟨i,by omega,hl,hb⟩
    subst this;refine⟨i,hl,hb,fun j hj=>?_⟩
    cases hjb:listed.getD j false
    ·exact absurd ⟨j,hj,by omega,hjb⟩ hx
    ·rfl
 obtain⟨i0,hi0,hb0⟩:=this;obtain⟨i,hi,hb,hj⟩:=least (i0+1) ⟨i0,by omega,hi0,hb0⟩;intro hnil;have hmem:i∈HE .any l.toArray listed:=by
  unfold HE;refine Ir.2 ⟨by simpa using hi,?_⟩
  have h5:=h4 i hi;rw [HA hi] at h5;simp only [HZ,HO,HG] at h5;have e1:l.toArray[i]?=some l[i]:=by simp [hi]
  have e2:listed.getD i true=false:=by
   simp only [HY,show i<listed.size by omega,dite_true] at hb ⊢;exact hb
  rw [e1,e2];simp only [HZ,HO,IE,Bool.true_and];refine Iw.2 fun e he=>?_
  have h6:=Ho h5.2 e he;simp only [IB,Ix,decide_eq_true_eq] at h6 ⊢;exact h6.imp id (hj e.on)
 rw [hnil] at hmem;cases hmem
theorem AL {l:List Oper} {listed:Array Bool} {i:Nat} (hs:listed.size=l.length) (hc:pA l listed) (hi:i∈HE .any l.toArray listed):pA l (listed.setIfInBounds i true):=by
 unfold HE at hi;obtain⟨h1,h2⟩:=Ir.1 hi;simp only [Ia,HS] at h1;simp only [HG,Ib,HA h1,HZ,HO] at h2;have hg:∀j,listed.getD j false=true→(listed.setIfInBounds i true).getD j false=true:=fun j hj=>by
  by_cases e:i=j
  ·subst e
   simp [HY,hs,h1]
  ·rw [HC,HT e,←HC]
   exact hj
 intro j oj hj hjl e he hb;by_cases e1:i=j
 ·subst e1
  rw [HA h1] at hj;obtain rfl:=HB hj;have:=Iw.1 h2.2 e he;rw [hb] at this;exact hg _ (by simpa using this)
 ·rw [HC,HT e1,←HC] at hjl
  exact hg _ (hc j oj hj hjl e he hb)
theorem tH {md:IL} {ops:Array Oper} {listed:Array Bool} {i:Nat} (h:i∈HE md ops listed):i<ops.size∧listed.getD i true=false:=by
 unfold HE at h;obtain⟨h1,h2⟩:=Ir.1 h;simp only [HG,Ix] at h2;exact⟨HS.1 h1,h2.1⟩
theorem tJ {l:List Oper} {listed:Array Bool} (hs:listed.size=l.length) (hall:∀i,i<l.length→listed.getD i false=true):HE .any l.toArray listed=[]:=by
 refine List.eq_nil_iff_forall_not_mem.2 fun i hi=>?_
 obtain⟨h1,h2⟩:=tH hi;have h3:=hall i (by simpa using h1);have:i<listed.size:=by rw [hs];simpa using h1
 simp only [HY,this,dite_true] at h2 h3;rw [h2] at h3;cases h3
def unl (n:Nat) (listed:Array Bool):Nat:=((Iy n).filter fun i=>!listed.getD i false).length
theorem EU {n:Nat} {listed:Array Bool} {i:Nat} (hs:listed.size=n) (hi:i<n) (hb:listed.getD i true=false):unl n (listed.setIfInBounds i true)<unl n listed:=by
 unfold unl;have hg:∀j,(listed.setIfInBounds i true).getD j false=if j=i then true else listed.getD j false:=fun j=>by
  by_cases e:j=i
  ·subst e
   simp [HY,hs,hi]
  ·rw [HC,HC,HT (fun h=>e h.symm),if_neg e]
 have hb':listed.getD i false=false:=by
  simp only [HY,show i<listed.size by omega,dite_true] at hb ⊢;exact hb
 have key:∀l:List Nat,(l.filter fun j=>!(listed.setIfInBounds i true).getD j false).length≤(l.filter fun j=>!listed.getD j false).length∧(i∈l→(l.filter fun j=>!(listed.setIfInBounds i true).getD j false).length<(l.filter fun j=>!listed.getD j false).length):=by
  intro l;induction l with
  | nil=>exact⟨Im _,fun h=>by cases h⟩
  | cons x l ih =>
   simp only [IV,hg x];by_cases e:x=i
   ·subst e
    simp only [if_true,Bool.not_true,Bool.false_eq_true,if_false,hb',IE,IW];exact⟨by omega,fun _=>by omega⟩
   ·simp only [if_neg e]
    split
    ·simp only [IW]
     refine⟨by omega,fun h=>?_⟩
     have:=ih.2 ((IF.1 h).resolve_left fun h=>e h.symm);omega
    ·refine⟨ih.1,fun h=>ih.2 ((IF.1 h).resolve_left fun h=>e h.symm)⟩
 exact(key _).2 (HS.2 hi)
theorem Fl {l:List Oper} {o:Oper} (hB:pz l o=true):∀(fuel t:Nat) (listed:Array Bool),listed.size=l.length→pA l listed→unl l.length listed≤fuel →
  HI .any (l++[o]).toArray (fuel+1) t (listed.push false) []=HI .any l.toArray fuel t listed []++[l.length]∧∀i∈HI .any l.toArray fuel t listed [],i<l.length:=by
 have full:∀(fuel t:Nat) (listed:Array Bool),listed.size=l.length→pA l listed→(∀i,i<l.length→listed.getD i false=true) →
   HI .any (l++[o]).toArray (fuel+1) t (listed.push false) []=[l.length]:=by
  intro fuel t listed hs hc hall;rw [zQ,sN hB hs hc,if_pos hall,tJ hs hall];simp only [IY,Ic,Nat.mod_one,List.getElem?_cons_zero];cases fuel with
  | zero=>rfl
  | succ fuel =>
   rw [zQ];have:HE .any (l++[o]).toArray ((listed.push false).setIfInBounds l.length true)=[]:=by
    refine List.eq_nil_iff_forall_not_mem.2 fun i hi=>?_
    obtain⟨h1,h2⟩:=tH hi;simp only [Ia,Iv,Ic] at h1;by_cases e:i=l.length
    ·subst e
     simp [HY,hs] at h2
    ·have h3:=hall i (by omega)
     have hil:i<listed.size:=by omega
     rw [HC,HT (by omega),Array.getElem?_push_lt hil] at h2;rw [HC,Array.getElem?_eq_getElem hil] at h3;simp only [HO] at h2 h3;rw [h2] at h3;cases h3
   rw [this];rfl
 intro fuel;induction fuel with
 | zero =>
  intro t listed hs hc hu;have hall:∀i,i<l.length→listed.getD i false=true:=fun i hi=>by
   cases hb:listed.getD i false
   ·exfalso
    have:i∈(Iy l.length).filter fun i=>!listed.getD i false:=Ir.2 ⟨HS.2 hi,by rw [hb];rfl⟩
    unfold unl at hu;have:=List.length_pos_of_mem this;omega
   ·rfl
  exact⟨full 0 t listed hs hc hall,fun i hi=>by simp [HI] at hi⟩
 | succ fuel ih =>
  intro t listed hs hc hu;by_cases hall:∀i,i<l.length→listed.getD i false=true
  ·have e:=zQ .any l.toArray fuel t listed []
   rw [tJ hs hall] at e;have e':HI .any l.toArray (fuel+1) t listed []=[]:=e;rw [e'];exact⟨full (fuel+1) t listed hs hc hall,fun i hi=>by cases hi⟩
  ·have hne:=Au hB hs hall
   rw [zQ,sN hB hs hc,if_neg hall,List.append_nil,zQ .any l.toArray fuel t listed []];have hlt:t % (HE .any l.toArray listed).length<(HE .any l.toArray listed).length:=Nat.mod_lt _ (List.length_pos_iff.2 hne);rw [HA hlt];simp only;have hmem:=IP hlt;generalize (HE .any l.toArray listed)[t % (HE .any l.toArray listed).length]=i at *;obtain⟨hi,hb⟩:=tH hmem;simp only [Ia] at hi;rw [linearise_go_acc,linearise_go_acc .any l.toArray];have hset:(listed.push false).setIfInBounds i true=(listed.setIfInBounds i true).push false:=by
    apply Array.ext_getElem?;intro j;simp only [Array.getElem?_setIfInBounds,Array.getElem?_push,Array.size_push,Array.size_setIfInBounds];by_cases e:i=j
    ·subst e
     simp only [hs,hi,show ¬i=l.length by omega,if_true,if_false,show i<l.length+1 by omega]
    ·simp [e]
   rw [hset];obtain⟨h1,h2⟩:=ih (t / (HE .any l.toArray listed).length) (listed.setIfInBounds i true) (by simp [hs]) (AL hs hc hmem) (by have:=EU hs hi hb;omega);rw [h1];refine⟨by simp,fun j hj=>?_⟩
   rcases IA.1 hj with hj | hj
   ·simp at hj
    omega
   ·exact h2 j hj
theorem sF {P:Program} {l:List Oper} {o:Oper} {Q:Exit→Act→World→Prop} (hB:pz l o=true):∀(order:List Nat) (a:Act) (w:World),(∀i∈order,i<l.length)→wpOps P l.toArray (yt P o Q) order a w→wpOps P (l++[o]).toArray Q (order++[l.length]) a w
 | [],a,w,_,h=>by
  have hg:o.guard=none:=by
   simp only [pz,HG] at hB;simpa using hB.1.2
  have h':o.wp P a w (fun a w=>Q .normal a w) Q:=h;simp only [IY,wpOps,Ib,List.getElem?_concat_length,HV,hg,if_true];exact .inl h'
 | i::order,a,w,hi,h=>by
  have hlt:=hi i (by simp);have hg:(l[i]).guard=none:=by
   simp only [pz,HG,In,HS] at hB;have:=hB.2 i hlt;rw [HA hlt] at this;simp only [HZ,HO,HG] at this;simpa using this.1
  rw [List.cons_append,wpOps_cons];rw [wpOps_cons] at h;unfold wpOp at h ⊢;simp only [Ib,Ii hlt,HA hlt,HV,hg,if_true] at h ⊢;rcases h with h | ⟨h1,h2⟩
  ·refine .inl ?_
   have h3:l[i].wp P a w (wpOps P (l++[o]).toArray Q (order++[l.length])) (yt P o Q):=Oper.wp_mono (fun a w=>sF hB order a w (fun j hj=>hi j (by simp [hj]))) h;exact BQ h3
  ·exact .inr ⟨h1,h2⟩
theorem bO {P:Program} {id:Nat} {l:List Oper} {o:Oper} {Q:Exit→Act→World→Prop} {S:World→Prop} {a:Act} {w:World} (hm:P.follows .mixedOrders=true) (hB:pz l o=true) (hS:S w.drew)
  (h:S w.drew→wpAnyH P .any l.toArray (yt P o Q) S l.length (IC l.length false) a w.drew):(Code.region id (l++[o]).toArray true).wp P Q a w :=
 wp_region_draw fun t=>by
  simp only [Region.schedule,hm,Bool.true_or,if_true];have e:Region.linearise .any (l++[o]).toArray t=HI .any (l++[o]).toArray (l.length+1) t ((IC l.length false).push false) []:=by
   simp only [Region.linearise,Ia,Iv,Ic];rw [Array.replicate_succ]
  obtain⟨h1,h2⟩:=Fl hB l.length t (IC l.length false) (by simp) (fun j oj hj hjl=>by
   rw [HC,Array.getElem?_replicate] at hjl;split at hjl<;>cases hjl) (by unfold unl;exact Ij (List.length_filter_le _ _) (by simp))
  rw [e,h1];exact sF hB _ _ _ h2 (wpAny_sound _ t _ _ _ (wpAny_of_held _ _ _ _ (h hS)))
theorem aL {P:Program} {md:IL} {ops:Array Oper} {o:Oper} {Q:Exit→Act→World→Prop} {S:World→Prop} {fuel:Nat} {listed:Array Bool} {a:Act} {w:World} (hr:HE md ops listed=[]) (h:o.wp P a w (fun a w=>Q .normal a w) Q):wpAnyH P md ops (yt P o Q) S fuel listed a w :=
 wpAnyH_done hr h fuel
end Go.Proofs.Ytkcojipciiakdaa

end
