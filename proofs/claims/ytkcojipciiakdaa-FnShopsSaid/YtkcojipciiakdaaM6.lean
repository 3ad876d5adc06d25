/-
  A part of the proof: contracts and plain forms of functions beneath the statement, made small by a program (names shortened, what is not needed left out).
-/
import Derived.Test.YtkcojipciiakdaaRows
import Derived.Test.YtkcojipciiakdaaM5
import Derived.Deep.RegionHeld3
import Derived.Deep.DrawnRows
import Derived.Deep.AppendLies
import Derived.StillTailTactics
import Derived.Deep.RegionLaw
import Derived.Deep.Cut
open List renaming getElem?_eq_getElem → Ji, length_take → Jo, getElem?_eq_some_iff → Jr, length_map → Jt, getElem?_set_self → Jv, take_append_drop → Jw, getElem?_take → Jx, mem_range → Jy, getElem?_set_ne → JA, size_toArray → JI, getElem?_toArray → JJ, length_singleton → JK, getElem?_append_left → JO, all_eq_true → JU, mem_of_mem_take → JV, mem_of_getElem? → JW, mem_of_mem_drop → JX, mem_filter → JY, eq_nil_of_length_eq_zero → JZ, length_append → Kc, range → Kg, mem_append → Ki, mem_iff_getElem? → Kl, mem_cons → Kn, getElem_of_mem → Ko, map_toArray → Ks, getElem_mem → Kt, length_drop → Ku, any_eq_true → Kv, filter_cons → Kw, length_cons → Kx, nil_append → Kz
open Option.some renaming inj → Jj
open Array renaming getD_eq_getD_getElem? → Jk, getElem?_setIfInBounds_ne → Jz, getD → JG, mem_toList_iff → JM, all_eq_true' → Ke, getElem?_eq_some_iff → Kf, replicate → Kk
open Go.Lib renaming frozen_of_heap → Jl
open Go.Region renaming ready → Jm, wanted → JD, binds → JF, Mode → Kr
open Go.Proofs renaming enters_of → Jn
open Bool renaming and_eq_true → Jp, not_eq_true' → JT, or_eq_true → Kj, not_false → Km
open Go.Region.linearise renaming go → Jq
open Go.World renaming drew → Js, setCell → JB, cell?_of_block → JL
open Classical renaming epsilon_spec → Ju, epsilon → JE, byContradiction → JN
open Option renaming getD_some → JC, map_some → JH
open Nat renaming lt_of_lt_of_le → JP, le_trans → JQ, le_refl → Ka, min_eq_left → Kh
open Go.RowKit.Below renaming refl → JR
open Go.Value renaming ownBlock → JS, int → KA
open Go.IntKind renaming i64 → Kb
open Go.Oper renaming wp → Kp
open Go.Result renaming andThen_ok → Kq
open Go.Ending renaming returned → Ky
set_option maxRecDepth 100000
set_option linter.unusedSimpArgs false
set_option linter.unusedVariables false
noncomputable section
namespace Go.Proofs.Ytkcojipciiakdaa
open Go Go.Proofs Go.V Go.RowKit
set_option maxRecDepth 100000
attribute [local go_sem ↓] Go.wp_at_zero Go.wp_at_succ
theorem uK {P:Program} (w:World) {o:Oper} {a:Act} {K:Act→World→Prop} {Q:Exit→Act→World→Prop} (s x:Operand) (t:TypeId)
  (ho:o.op = .call {callee:=.builtin .append,args:=#[s,x],argTypes:=#[t,t]})
  (base:Nat) (e:TypeId) (i:TypeInfo) (z:Value) (size bytes:Nat) (ht:P.underlying t=some (.slice e)) (hi:P.info? e=some i) (hz:i.zero=some z)
  (hsize:i.size=size) (hby:i.bytes=bytes) (hzs:z.cells.size=size) (hsz:0<size)
  (v:Value) (n:Nat) (xs:List Value) (hs:a.eval s=v) (hown:w.ownsRow base e size v n xs)
  (A:Option Addr) (m c:Nat) (news:List Value) (hx:a.eval x = .slice A m c) (hl:news.length=m*size) (hA:m≠0→∃g o,A=some ⟨g,o,none⟩∧∀j u,news[j]?=some u→w.cell? ⟨g,o+j,none⟩=some u) (h1:∀u∈news,u.oneCell'=true)
  (h63:n+m≤maxLen) (hbytes:(n+m)*bytes≤140737488355328) (hbase:base≤w.heap.size)
  (h:∀v' w',w'.ownsRow base e size v' (n+m) (xs++news)→w.grownBy w' v.ownBlock→(v'.ownBlock=v.ownBlock∨v'.ownBlock=some w.heap.size)→K (a.put o.dst v') w'):o.wp P a w K Q:=by
 cases A with
 | some ad =>
  have hn:∀j u,news[j]?=some u→w.cell? (ad.add j)=some u:=fun j u hj=>by
   have hm:m≠0:=by
    rintro rfl;have:news=[]:=JZ (by simpa using hl);subst this;simp at hj
   obtain⟨g,o,e1,h2⟩:=hA hm;cases e1;rw [show(⟨g,o,none⟩:Addr).add j=⟨g,o+j,none⟩ by cases j<;>simp [Addr.add]];exact h2 j u hj
  obtain⟨v',w',hr,h2,h3,_,h5⟩:=run_append_own_at (P:=P) w base t o.type e i z size bytes ht hi hz hsize hby hzs hsz v n xs hown ad m c news hl hn h1 h63 hbytes hbase;unfold Kp execOp;simp only [ho,resolve,invoke,builtin,Sem.run_bind,Sem.run_pure,Kq,Ks,List.map_cons,List.map_nil,hs,hx,hr];exact h v' w' h2 h3 h5
 | none =>
  have hm:m=0:=JN fun hm=>by
   obtain⟨_,_,e1,_⟩:=hA hm;cases e1
  subst hm;have hnews:news=[]:=JZ (by simpa using hl);subst hnews;have hrun:=kE (P:=P) w base t o.type e i size c ht hi v n xs hown;unfold Kp;simp [execOp,ho,resolve,invoke,builtin,hs,hx,hrun,Result.andThen];exact h v w (by simpa using hown) (World.grownBy.refl _ _) (.inl rfl)
theorem ai {P:Program} (w:World) {ops:Array Oper} {o:Oper} {a:Act} {K:Act→World→Prop} {Q:Exit→Act→World→Prop} {E:Prop} (hgd:o.guard=none) (s x:Operand) (t:TypeId)
  (ho:o.op = .call {callee:=.builtin .append,args:=#[s,x],argTypes:=#[t,t]})
  (base:Nat) (e:TypeId) (i:TypeInfo) (z:Value) (size bytes:Nat) (ht:P.underlying t=some (.slice e)) (hi:P.info? e=some i) (hz:i.zero=some z)
  (hsize:i.size=size) (hby:i.bytes=bytes) (hzs:z.cells.size=size) (hsz:0<size)
  (v:Value) (n:Nat) (xs:List Value) (hs:a.eval s=v) (hown:w.ownsRow base e size v n xs)
  (A:Option Addr) (m c:Nat) (news:List Value) (hx:a.eval x = .slice A m c) (hl:news.length=m*size) (hA:m≠0→∃g o,A=some ⟨g,o,none⟩∧∀j u,news[j]?=some u→w.cell? ⟨g,o+j,none⟩=some u) (h1:∀u∈news,u.oneCell'=true)
  (h63:n+m≤maxLen) (hbytes:(n+m)*bytes≤140737488355328) (hbase:base≤w.heap.size)
  (h:∀v' w',w'.ownsRow base e size v' (n+m) (xs++news)→w.grownBy w' v.ownBlock→(v'.ownBlock=v.ownBlock∨v'.ownBlock=some w.heap.size)→K (a.put o.dst v') w') :
  if JD o (yielded ops a.tmps)=true then Kp P o a w K Q else E:=by
 have hw:JD o (yielded ops a.tmps)=true:=by simp [JD,hgd]
 rw [if_pos hw];exact uK w s x t ho base e i z size bytes ht hi hz hsize hby hzs hsz v n xs hs hown A m c news hx hl hA h1 h63 hbytes hbase h
theorem xc (l:List ByteArray) (h:l.length≤1048576):lC [txs l]=some (.ret [txs l] []):=by
 rw [wO];have hk:iE (txs l)=some (txs l):=kw fun _=>rfl
 rw [gD,hk];simp only [Option.bind_some];rw [dK,if_pos (by simp only [Jt,true_or,true_and,List.length_nil];omega)];rfl
theorem zM (l:List ByteArray) (h:l.length≤1048576) {w:World} {F:Nat→Prop} {y:Value} (hr:aU w F (txs l) y) (hF:∀b,F b→b<w.heap.size) :
  Calls Try.prog 86 #[y] w fun e w'=>∃A n c,e = .returned (.slice A n c)∧bv w' (fun _=>False) (aH (.slice A n c)) 1 (txs l) (.slice A n c)∧(∀b,aH (.slice A n c) b→w.heap.size≤b∧b<w'.heap.size)∧Below w.heap.size w w' :=
 Du (Jn Try.func86 (by kernel_rfl) rfl) wV (xc l h) (by simp) hr hF
theorem Ft {w':World} {b:Nat} {x0 x1 x2 x3:Value} {t:TypeId} (h:w'.heap[b]?=some (.cells #[x0,x1,x2,x3] t (0,0))):w'.cell? ⟨b,0,none⟩=some x0∧w'.cell? ⟨b,2,none⟩=some x2∧w'.cell? ⟨b,3,none⟩=some x3:=⟨(aa h).1,(aa h).2.2.1,(aa h).2.2.2⟩
theorem uz {w':World} {b g:Nat} {o:Obj} (x0 x1 x2 x3:Value) (hg:g≠b) (h:w'.heap[b]?=some o):((((w'.setCell ⟨g,0,none⟩ x0).setCell ⟨g,1,none⟩ x1).setCell ⟨g,2,none⟩ x2).setCell ⟨g,3,none⟩ x3).heap[b]?=some o:=by
 rw [heap_setCell_other _ _ _ _ (by simp;omega),heap_setCell_other _ _ _ _ (by simp;omega),heap_setCell_other _ _ _ _ (by simp;omega),heap_setCell_other _ _ _ _ (by simp;omega)];exact h
theorem oW {w:World} {b:Nat} {o:Obj} (h:w.heap[b]?=some o):w.drew.heap[b]?=some o:=h
theorem Am {w':World} {g:Nat} {z:Nat} {d:D} {y:Value} (x0 x1 x2 x3:Value) (h:bv w' (fun _=>False) (aH y) z d y) (hg:∀b,aH y b→g≠b):bv ((((w'.setCell ⟨g,0,none⟩ x0).setCell ⟨g,1,none⟩ x1).setCell ⟨g,2,none⟩ x2).setCell ⟨g,3,none⟩ x3) (fun _=>False) (aH y) z d y :=
 ba h fun b hb=>by
  have:=hg b hb;rw [heap_setCell_other _ _ _ _ (by simp;omega),heap_setCell_other _ _ _ _ (by simp;omega),heap_setCell_other _ _ _ _ (by simp;omega),heap_setCell_other _ _ _ _ (by simp;omega)]
def Je (w:World) (p B:Nat) (Vb:Value) (x y:Int) (l:List Fm):Prop:=∃A n c ys,w.heap[p]?=some (.cells #[Vb,.slice A n c,.int .i64 x,.int .i64 y] 33 (0,0))∧FmsAt w B (.slice A n c) ys l
set_option maxHeartbeats 4000000 in
set_option maxRecDepth 1000000 in
theorem qX (s:Sp) (hs:bH s) (v0:Value) (w:World) (F:Nat→Prop) (hr:aU w F (sp s) v0) (hF:∀b,F b→b<w.heap.size) :
    Calls Try.prog 48 #[v0] w fun e w'=>∃v,e = .returned v∧nj w' w.heap.size v s∧Below w.heap.size w w':=by
  obtain⟨A,n,c,A',n',c',rfl,hb,hf⟩:=fK hr;obtain⟨i0,hi0,hz0,hz1,hz2⟩:=info_parts zO;obtain⟨us,hn,hul,hus,huw,hu1,huA⟩:=mz hb Cv;obtain⟨us2,hn2,hul2,hus2,_,_,huA2⟩:=mz hf Cr;rw [Jt] at hn hn2;subst hn hn2;have hbl:=hs.1.1
  go_enter Try.func48,Try.ntmps48
  go_wp2
  have hb2:∀a b,Below w.heap.size w ((w.alloc a).alloc b):=fun a b=>((JR _ w).alloc (Ka _) _).alloc (by simp) _
  have B2:=hb2 (.cells #[.slice A s.1.length c,.slice A' s.2.1.length c',.int .i64 s.2.2.1,.int .i64 s.2.2.2] 33) (.cells #[.slice none 0 0,.slice none 0 0,.int .i64 0,.int .i64 0] 33);have H1:((w.alloc (.cells #[.slice A s.1.length c,.slice A' s.2.1.length c',.int .i64 s.2.2.1,.int .i64 s.2.2.2] 33)).alloc (.cells #[.slice none 0 0,.slice none 0 0,.int .i64 0,.int .i64 0] 33)).heap[w.heap.size]?=some (.cells #[.slice A s.1.length c,.slice A' s.2.1.length c',.int .i64 s.2.2.1,.int .i64 s.2.2.2] 33 (0,0)):=ah _ (ae _ rfl);have H2:((w.alloc (.cells #[.slice A s.1.length c,.slice A' s.2.1.length c',.int .i64 s.2.2.1,.int .i64 s.2.2.2] 33)).alloc (.cells #[.slice none 0 0,.slice none 0 0,.int .i64 0,.int .i64 0] 33)).heap[w.heap.size+1]?=some (.cells #[.slice none 0 0,.slice none 0 0,.int .i64 0,.int .i64 0] 33 (0,0)):=ae _ (by simp);have S2:((w.alloc (.cells #[.slice A s.1.length c,.slice A' s.2.1.length c',.int .i64 s.2.2.1,.int .i64 s.2.2.2] 33)).alloc (.cells #[.slice none 0 0,.slice none 0 0,.int .i64 0,.int .i64 0] 33)).heap.size=w.heap.size+2:=by simp
  generalize (w.alloc (.cells #[.slice A s.1.length c,.slice A' s.2.1.length c',.int .i64 s.2.2.1,.int .i64 s.2.2.2] 33)).alloc (.cells #[.slice none 0 0,.slice none 0 0,.int .i64 0,.int .i64 0] 33)=W at *;clear hb2;have S2a:w.heap.size+2≤W.heap.size:=by omega
  have S2b:W.heap.size≤w.heap.size+2:=by omega
  clear S2;rename_i K hK;have hrest:Hid (∀(u6 u7 u8 u9 u10 u11 u12 u13 u14:Value) (p:Nat) (A1:Option Addr) (n1 c1:Nat) (W':World),w.heap.size+1<p→W'.heap[p]?=some (.cells #[.slice A1 n1 c1,.slice none 0 0,.int .i64 s.2.2.1,.int .i64 s.2.2.2] 33 (0,0)) →
      bv W' (fun _=>False) (aH (.slice A1 n1 c1)) 4 (bxs s.1) (.slice A1 n1 c1)→(∀b,aH (.slice A1 n1 c1) b→w.heap.size+1<b∧b≠p)→Below W.heap.size W W' →
      K {tmps:=#[.agg #[.slice A s.1.length c,.slice A' s.2.1.length c',.int .i64 s.2.2.1,.int .i64 s.2.2.2],.pointer (some ⟨w.heap.size,0,none⟩),.pointer (some ⟨w.heap.size+1,0,none⟩),.pointer (some ⟨p,0,none⟩),undef,undef,u6,u7,u8,u9,u10,u11,u12,u13,u14,
        undef,undef,undef,undef,undef,undef,undef,undef,undef,undef,undef,undef,undef,undef,undef,undef,undef,undef,undef],defers:=[]} W'):=by
    intro u6 u7 u8 u9 u10 u11 u12 u13 u14 p A1 n1 c1 W' hp0 H3 own1 hv1 hW;refine hK _ _ ?_
    have H1':=Below.some hW H1;have H2':=Below.some hW H2;have hpl:=bd H3;have c11:=(aa H1').2.1
    go_wp2
    obtain⟨i2,hi2,hx0,hx1,hx2⟩:=info_parts fE;have hln:=hs.2.1;have hsW:=hW.size;have hp1:p≠w.heap.size:=by omega
    have hp2:p≠w.heap.size+1:=by omega
    go_loopw [18] (fun vi wr=>∃i:Nat,vi = .int .i64 i∧i≤s.2.1.length∧Je wr p W'.heap.size (.slice A1 n1 c1) s.2.2.1 s.2.2.2 (s.2.1.take i)∧KeptX (fun b=>b=p) W' wr) (fun vi _=>s.2.1.length - (intOf vi).toNat)
    case atStart =>
      exact⟨0,rfl,Nat.zero_le _,⟨_,_,_,[],H3,by simpa using oS _ _⟩,KeptX.refl _ _⟩
    case round =>
      obtain⟨i,rfl,hin,⟨Vg,Vn,Vc,ys,H3r,hFr⟩,hX⟩:=hrel;have hsz:=hX.size;have hBw:Below w.heap.size w wr:=(B2.trans (hW.mono (by omega))).trans (hX.below (B:=w.heap.size) (fun b hb=>by omega) (by omega));have hFlt:=hFr.lt;by_cases hp:i<s.2.1.length
      · have hpi:(i:Int)<(s.2.1.length:Int):=by omega
        obtain⟨b,o,rfl,hFb,hcell⟩:=huA2 (by omega);obtain⟨Ax,nx,cx,u0,u1,u2,u3,hry⟩:=Av hus2 hp;have hcb:∀{k:Nat} {u:Value},us2[k]?=some u→wr.cell? ⟨b,o+k,none⟩=some u:=fun {k u} hu=>(JL (w:=w) (hBw.block b (hF b hFb))).trans (hcell k u hu)
        have k0:=hcb u0;have k1:=hcb u1;have k2:=hcb u2;have k3:=hcb u3;simp only [←Nat.add_assoc] at k1 k2 k3;have hxl:=hs.2.2 s.2.1[i] (Kt hp);have htk:=List.take_succ_eq_append_getElem hp;generalize s.2.1[i]=x at *;have hBa:∀q,Below w.heap.size w (wr.alloc q):=fun q=>hBw.alloc (by omega) _
        have hcall:=fun q=>zM x.2.1 hxl (w:=wr.alloc q) (aS (fun _ h=>h) (fun b hb=>(hBa q).block b (hF b hb)) hry) (fun b hb=>JP (hF b hb) (hBa q).size)
        go_wp2_with (go_at_call 86;refine(hcall _).mono ?_)
        rintro e w6 ⟨A2,n2,c2,rfl,own2,hv2,b6'⟩;have G1:w6.heap[wr.heap.size]?=some (.cells #[.int .i64 x.1,.slice Ax nx cx,.bool x.2.2.1,.int .i64 x.2.2.2] 75 (0,0)):=Below.some b6' (ae _ rfl);have S6:wr.heap.size<w6.heap.size:=bd G1;replace hv2:∀b,aH (.slice A2 n2 c2) b→wr.heap.size<b∧b<w6.heap.size:=fun b hb=>by
          have:=hv2 b hb;simp at this;omega
        have b6:Below wr.heap.size wr w6:=bI (au _ _) b6' (by simp);have H36:=(b6.block p (by omega)).trans H3r;have fg1:=Jl G1 1;have cg1:=(aa G1).2.1;have G2:(w6.setCell ⟨wr.heap.size,1,none⟩ (.slice A2 n2 c2)).heap[wr.heap.size]?=some (.cells #[.int .i64 x.1,.slice A2 n2 c2,.bool x.2.2.1,.int .i64 x.2.2.2] 75 (0,0)):=heap_setCell_same _ _ 1 _ _ (.slice A2 n2 c2) G1;obtain⟨e0,e1,e2,e3⟩:=aa G2;have H37:(w6.setCell ⟨wr.heap.size,1,none⟩ (.slice A2 n2 c2)).heap[p]?=some (.cells #[.slice A1 n1 c1,.slice Vg Vn Vc,.int .i64 s.2.2.1,.int .i64 s.2.2.2] 33 (0,0)):=(heap_setCell_other _ _ _ _ (by simp;omega)).trans H36;have cp1:=(aa H37).2.1;have b8:Below wr.heap.size wr ((w6.setCell ⟨wr.heap.size,1,none⟩ (.slice A2 n2 c2)).alloc (.cells #[.int .i64 x.1,.slice A2 n2 c2,.bool x.2.2.1,.int .i64 x.2.2.2] 75)):=(b6.setCell (Ka _) _).alloc (by simp [JB];omega) _;have hF8:=hFr.keep (w':=(w6.setCell ⟨wr.heap.size,1,none⟩ (.slice A2 n2 c2)).alloc (.cells #[.int .i64 x.1,.slice A2 n2 c2,.bool x.2.2.1,.int .i64 x.2.2.2] 75)) fun b hb=>b8.block b (hFlt b hb).2
        have own8:=ba (w':=(w6.setCell ⟨wr.heap.size,1,none⟩ (.slice A2 n2 c2)).alloc (.cells #[.int .i64 x.1,.slice A2 n2 c2,.bool x.2.2.1,.int .i64 x.2.2.2] 75)) own2 fun b hb=>by
          have:=hv2 b hb;rw [gX _ (by simp [JB];omega),heap_setCell_other _ _ _ _ (by simp;omega)]
        have hl8:(s.2.1.take i).length=i:=by rw [Jo];omega
        have S8:W'.heap.size≤((w6.setCell ⟨wr.heap.size,1,none⟩ (.slice A2 n2 c2)).alloc (.cells #[.int .i64 x.1,.slice A2 n2 c2,.bool x.2.2.1,.int .i64 x.2.2.2] 75)).heap.size:=by simp [JB];omega
        have H38:=ah (.cells #[.int .i64 x.1,.slice A2 n2 c2,.bool x.2.2.1,.int .i64 x.2.2.2] 75) H37
        go_wp2_with (at_builtin;refine cW _ rfl _ _ 31 rfl W'.heap.size 75 i2 (.agg #[.int .i64 0,.slice none 0 0,.bool false,.int .i64 0]) 4 48 Try.underlying31 hi2 hx0 hx1 hx2 rfl (by decide) (.slice Vg Vn Vc) _ _ rfl hF8.own (some ⟨w6.heap.size,0,none⟩) 1 1 [.int .i64 x.1,.slice A2 n2 c2,.bool x.2.2.1,.int .i64 x.2.2.2] (by simp [go_sem]) rfl (fun _=>⟨_,_,rfl,cq (ae _ (by simp [JB]))⟩) (by intro u hu;simp at hu;rcases hu with rfl | rfl | rfl | rfl<;>rfl) (by unfold maxLen;omega) (by omega) S8 ?_)
        intro v3 w9 hown9 hg9 hat9;have hF9:=cD (x:=x) (y:=.slice A2 n2 c2) hF8 S8 (by rw [hl8];exact hown9) hg9 (by simpa [JB] using hat9) own8 (fun b hb=>⟨by have:=(hv2 b hb).1;omega,fun h=>by have:=(hv2 b hb).1;have:=(hFlt b h).2;omega⟩);rw [←htk] at hF9;have hX9:KeptX (fun b=>b=p) W' w9:=by
          have h1:Below W'.heap.size W' W':=JR _ _;have h2:Below wr.heap.size wr w9∨True:=.inr trivial;refine⟨hg9.os.trans (b8.os.trans hX.os),hg9.tape.trans (b8.tape.trans hX.tape),hg9.output.trans (b8.output.trans hX.output),JQ S8 hg9.size,fun b hb hne=>?_⟩
          rw [hg9.block b (by omega) (fun e=>by have:=(hFlt b (.inl e.symm)).1;omega),b8.block b (by omega),hX.block b hb hne]
        have H39:=(hg9.block p (by omega) (fun e=>by have:=(hFlt p (.inl e.symm)).1;omega)).trans H38;have cq1:=(aa H39).2.1;have fq1:=Jl H39 1;obtain⟨A3,n3,c3,rfl⟩:=ax hF9.own;have H40:(w9.setCell ⟨p,1,none⟩ (.slice A3 n3 c3)).heap[p]?=some (.cells #[.slice A1 n1 c1,.slice A3 n3 c3,.int .i64 s.2.2.1,.int .i64 s.2.2.2] 33 (0,0)):=heap_setCell_same _ _ 1 _ _ (.slice A3 n3 c3) H39;have hF9lt:=hF9.lt;have hF10:=hF9.keep (w':=w9.setCell ⟨p,1,none⟩ (.slice A3 n3 c3)) fun b hb=>heap_setCell_other _ _ _ _ (by have:=(hF9lt b hb).1;simp;omega)
        go_wp2
        refine⟨⟨i+1,congrArg (KA .i64) (by omega),by omega,⟨_,_,_,_,H40,hF10⟩,hX9.set _ _ rfl⟩,?_⟩
        show s.2.1.length - ((i:Int)+1).toNat<s.2.1.length - (i:Int).toNat
        omega
      · have hpi:¬(i:Int)<(s.2.1.length:Int):=by omega
        have hie:i=s.2.1.length:=by omega
        subst hie;rw [List.take_length] at hFr;have K2:=(hX.block _ (by omega) (fun e=>hp2 e.symm)).trans H2';obtain⟨d0,d1,d2,d3⟩:=aa H3r;obtain⟨e0,e1,e2,e3⟩:=aa K2;have g0:=Jl K2 0;have g1:=Jl K2 1;have g2:=Jl K2 2;have g3:=Jl K2 3;have own9:=ba (w':=wr) own1 fun b hb=>hX.block b (dc own1 b hb) (hv1 b hb).2
        have hS1:ShopAt wr w.heap.size (.agg #[.slice A1 n1 c1,.slice Vg Vn Vc,.int .i64 s.2.2.1,.int .i64 s.2.2.2]) (.slice A1 n1 c1) (.slice Vg Vn Vc) ys s :=
          ⟨rfl,own9,fun b hb=>by have:=(hv1 b hb).1;omega,hFr.base (by omega),fun b hb h=>by have:=dc own1 b hb;have:=(hFlt b h).1;omega⟩
        have hL:∀b,ShS (.slice A1 n1 c1) (.slice Vg Vn Vc) ys b→w.heap.size+1<b:=fun b hb=>by
          rcases hb with hb | hb
          · exact(hv1 b hb).1
          · have:=(hFlt b hb).1
            omega
        go_wp2
        have H11:((((wr.setCell ⟨w.heap.size+1,0,none⟩ (.slice A1 n1 c1)).setCell ⟨w.heap.size+1,1,none⟩ (.slice Vg Vn Vc)).setCell ⟨w.heap.size+1,2,none⟩ (.int .i64 s.2.2.1)).setCell ⟨w.heap.size+1,3,none⟩ (.int .i64 s.2.2.2)).heap[w.heap.size+1]?=some (.cells #[.slice A1 n1 c1,.slice Vg Vn Vc,.int .i64 s.2.2.1,.int .i64 s.2.2.2] 33 (0,0)):=by
          rw [heap_setCell_same _ _ _ _ _ _ (heap_setCell_same _ _ _ _ _ _ (heap_setCell_same _ _ _ _ _ _ (heap_setCell_same _ _ _ _ _ _ K2)))];rfl
        obtain⟨d0,d1,d2,d3⟩:=aa H11;refine bodyPost_ret (by simp [results,Try.results48,go_sem,d0,d1,d2,d3];try rfl) rfl ?_
        refine⟨_,rfl,⟨_,_,ys,hS1.keep fun b hb=>?_⟩,(((hBw.setCell (by simp) _).setCell (by simp) _).setCell (by simp) _).setCell (by simp) _⟩
        have:=hL b hb;rw [heap_setCell_other _ _ _ _ (by simp;omega),heap_setCell_other _ _ _ _ (by simp;omega),heap_setCell_other _ _ _ _ (by simp;omega),heap_setCell_other _ _ _ _ (by simp;omega)]
  have H1d:=Below.some (ac W) H1;have H2d:=Below.some (ac W) H2;have B2d:Below w.heap.size w W.drew:=bI B2 (ac W) B2.size;have hBx:Hid (∀q,Below w.heap.size w (W.alloc q).drew):=fun q=>bI (B2.alloc B2.size q) (ac _) (by simp;omega)
  have hBy:Hid (∀q r,Below w.heap.size w ((W.alloc q).alloc r).drew):=fun q r=>bI ((B2.alloc B2.size q).alloc (by simp;omega) r) (ac _) (by simp;omega)
  obtain⟨a0,a1,a2,a3⟩:=aa H1d;have hWx:Hid (∀q,Below W.heap.size W (W.alloc q).drew):=fun q=>bI (au W q) (ac _) (by simp)
  have hWy:Hid (∀q r,Below W.heap.size W ((W.alloc q).alloc r).drew):=fun q r=>bI ((au W q).alloc (by simp) r) (ac _) (by simp;omega)
  have hmk:Hid (∀(W4:World) (v:Value),W4.ownsRow (w.heap.size+2) 112 4 v s.1.length us→bv W4 (fun _=>False) (aH v) 4 (bxs s.1) v):=fun W4 v h=>mH h (by simp) huw hus Ek
  clear hf hus2 hul2 huA2 hr hb hs hK H2 H2d a1 hus huw B2d B2
  go_region_held3 (fun w'=>w'.cell? ⟨w.heap.size,0,none⟩=some (.slice A s.1.length c)∧w'.cell? ⟨w.heap.size,2,none⟩=some (.int .i64 s.2.2.1)∧w'.cell? ⟨w.heap.size,3,none⟩=some (.int .i64 s.2.2.2)) (first | (refine⟨?_,?_,?_⟩<;>assumption) | (refine Ft (x1:=.slice A' s.2.1.length c') (t:=33) ?_;first | with_reducible exact H14 | with_reducible exact ah _ H14 | with_reducible exact uz _ _ _ _ (by omega) H14 | with_reducible exact uz _ _ _ _ (by omega) (ah _ H14) | with_reducible exact oW (ah _ H1) | with_reducible exact oW (ah _ (ah _ H1)) | with_reducible exact ah _ (oW H1) | with_reducible exact ah _ (ah _ (oW H1))))
    (first
      | (refine ai _ rfl _ _ 30 rfl (w.heap.size+2) 112 i0 (.agg #[.string ⟨#[]⟩,.int .i64 0,.int .i64 0,.int .i64 0]) 4 40 Try.underlying30 hi0 hz0 hz1 hz2 rfl (by decide) (.slice (some ⟨W.heap.size,0,none⟩) 0 0) 0 [] (by simp [go_sem];done) (cg (by first | exact ae _ rfl | exact ah _ (ae _ rfl) | exact ae _ (by simp [Js])) (by omega)) A s.1.length c us (by simp [go_sem]) hul (fun h0=>by
          obtain⟨g,o,e,hFg,h1⟩:=huA h0;exact⟨g,o,e,fun j u hj=>(JL (w:=w) ((hBx.out _).block g (hF g hFg))).trans (h1 j u hj)⟩) hu1 (by unfold maxLen;omega) (by omega) (by simp [Js];omega) ?_
         intro v1 w4 hown1 hg1 hat1;obtain⟨A1,n1,c1,rfl⟩:=ax hown1;have H14:w4.heap[w.heap.size]?=some (.cells #[.slice A s.1.length c,.slice A' s.2.1.length c',.int .i64 s.2.2.1,.int .i64 s.2.2.2] 33 (0,0)):=(hg1.block _ (by simp [Js];omega) (by simp [JS];omega)).trans (ah _ H1);have hB14:Below W.heap.size W w4:=(hWx.out _).grown hg1 (by simp [Js];try omega) (fun k hk=>by have:W.heap.size=k:=Jj hk;omega))
      | (refine ai _ rfl _ _ 30 rfl (w.heap.size+2) 112 i0 (.agg #[.string ⟨#[]⟩,.int .i64 0,.int .i64 0,.int .i64 0]) 4 40 Try.underlying30 hi0 hz0 hz1 hz2 rfl (by decide) (.slice (some ⟨W.heap.size+1,0,none⟩) 0 0) 0 [] (by simp [go_sem];done) (cg (by first | exact ae _ rfl | exact ah _ (ae _ rfl) | exact ae _ (by simp [Js])) (by omega)) A s.1.length c us (by simp [go_sem]) hul (fun h0=>by
          obtain⟨g,o,e,hFg,h1⟩:=huA h0;exact⟨g,o,e,fun j u hj=>(JL (w:=w) ((hBy.out _ _).block g (hF g hFg))).trans (h1 j u hj)⟩) hu1 (by unfold maxLen;omega) (by omega) (by simp [Js];omega) ?_
         intro v1 w4 hown1 hg1 hat1;obtain⟨A1,n1,c1,rfl⟩:=ax hown1;have H14:w4.heap[w.heap.size]?=some (.cells #[.slice A s.1.length c,.slice A' s.2.1.length c',.int .i64 s.2.2.1,.int .i64 s.2.2.2] 33 (0,0)):=(hg1.block _ (by simp [Js];omega) (by simp [JS];omega)).trans (ah _ (ah _ H1));have hB14:Below W.heap.size W w4:=(hWy.out _ _).grown hg1 (by simp [Js];try omega) (fun k hk=>by have:W.heap.size+1=k:=Jj hk;omega);have hz:w4.heap[W.heap.size]?=some (.cells #[.slice none 0 0,.slice none 0 0,.int .i64 0,.int .i64 0] 33 (0,0)):=(hg1.block _ (by simp [Js];try omega) (by simp [JS])).trans (ah _ (ae _ rfl));obtain⟨q0,q1,q2,q3⟩:=aa hz;have r0:=Jl hz 0;have r1:=Jl hz 1;have r2:=Jl hz 2;have r3:=Jl hz 3)
      | (refine ai _ rfl _ _ 30 rfl (w.heap.size+2) 112 i0 (.agg #[.string ⟨#[]⟩,.int .i64 0,.int .i64 0,.int .i64 0]) 4 40 Try.underlying30 hi0 hz0 hz1 hz2 rfl (by decide) (.slice (some ⟨W.heap.size,0,none⟩) 0 0) 0 [] (by simp [go_sem];done) (cg (by first | exact ae _ rfl | exact ah _ (ae _ rfl) | exact ae _ (by simp [Js])) (by omega)) A s.1.length c us (by simp [go_sem]) hul (fun h0=>by
          obtain⟨g,o,e,hFg,h1⟩:=huA h0;exact⟨g,o,e,fun j u hj=>(JL (w:=w) ((hBy.out _ _).block g (hF g hFg))).trans (h1 j u hj)⟩) hu1 (by unfold maxLen;omega) (by omega) (by simp [Js];omega) ?_
         intro v1 w4 hown1 hg1 hat1;obtain⟨A1,n1,c1,rfl⟩:=ax hown1;have H14:w4.heap[w.heap.size]?=some (.cells #[.slice A s.1.length c,.slice A' s.2.1.length c',.int .i64 s.2.2.1,.int .i64 s.2.2.2] 33 (0,0)):=(hg1.block _ (by simp [Js];omega) (by simp [JS];omega)).trans (ah _ (ah _ H1));have hB14:Below W.heap.size W w4:=(hWy.out _ _).grown hg1 (by simp [Js];try omega) (fun k hk=>by have:W.heap.size=k:=Jj hk;omega);have hz:w4.heap[W.heap.size+1]?=some (.cells #[.slice none 0 0,.slice none 0 0,.int .i64 0,.int .i64 0] 33 (0,0)):=(hg1.block _ (by simp [Js];try omega) (by simp [JS])).trans (ae _ (by simp [Js]));obtain⟨q0,q1,q2,q3⟩:=aa hz;have r0:=Jl hz 0;have r1:=Jl hz 1;have r2:=Jl hz 2;have r3:=Jl hz 3))
  · show K _ _
    have own1:=hmk.out _ _ (by simpa using hown1);have hlt:=mK hown1;have hsz:=hB14.size;exact hrest.out _ _ _ _ _ _ _ _ _ w4.heap.size A1 n1 c1 _ (by omega) (ae _ rfl) (ba own1 fun b hb=>gX _ (dc own1 b hb)) (fun b hb=>by have:=hlt b hb;omega) (hB14.alloc hB14.size _)
  · show K _ _
    have own1:=hmk.out _ _ (by simpa using hown1);have hlt:=mK hown1;have hne:∀b,aH (.slice A1 n1 c1) b→W.heap.size+1≠b:=fun b hb=>by
      rcases hat1 with h | h
      · have h2:some b=some (W.heap.size):=hb.symm.trans h
        have:=Jj h2;omega
      · have h2:=hb.symm.trans h
        simp [Js] at h2;omega
    exact hrest.out _ _ _ _ _ _ _ _ _ (W.heap.size+1) A1 n1 c1 _ (by omega) (aF _ _ _ _ hz) (Am _ _ _ _ own1 hne) (fun b hb=>⟨by have:=hlt b hb;omega,fun e=>hne b hb e.symm⟩) (bt _ _ _ _ hB14 (by omega))
  · show K _ _
    have own1:=hmk.out _ _ (by simpa using hown1);have hlt:=mK hown1;have hne:∀b,aH (.slice A1 n1 c1) b→W.heap.size≠b:=fun b hb=>by
      rcases hat1 with h | h
      · have h2:some b=some (W.heap.size+1):=hb.symm.trans h
        have:=Jj h2;omega
      · have h2:=hb.symm.trans h
        simp [Js] at h2;omega
    exact hrest.out _ _ _ _ _ _ _ _ _ (W.heap.size) A1 n1 c1 _ (by omega) (aF _ _ _ _ hz) (Am _ _ _ _ own1 hne) (fun b hb=>⟨by have:=hlt b hb;omega,fun e=>hne b hb e.symm⟩) (bt _ _ _ _ hB14 (by omega))
set_option maxRecDepth 100000
theorem aW {w:World} {base:Nat} {e:TypeId} {z n:Nat} {v:Value} {us:List Value} (h:w.ownsRow base e z v n us):∃A c,v = .slice A n c:=by
 obtain⟨_,⟨rfl,rfl⟩ | ⟨g,cap,cur,rfl,_⟩⟩:=h
 ·exact⟨_,_,rfl⟩
 ·exact⟨_,_,rfl⟩
theorem dQ {w:World} {base:Nat} {e:TypeId} {z n c:Nat} {A:Option Addr} {us:List Value} (h:w.ownsRow base e z (.slice A n c) n us) (hn:0<n):∃g,A=some ⟨g,0,none⟩:=by
 obtain⟨_,⟨e,rfl⟩ | ⟨g,cap,cur,e,_⟩⟩:=h
 ·omega
 ·cases e
  exact⟨g,rfl⟩
set_option maxRecDepth 100000
abbrev stV (x:Stp):Value:=.agg #[.int .i64 x.1,.int .i64 x.2.1,.string x.2.2.1,.int .i64 x.2.2.2]
theorem Ch (w:World) (F:Nat→Prop) (x:Stp):aU w F (stp x) (stV x):=by
 refine⟨[_,_,_,_],rfl,?_⟩
 simp only [RepC,aA,aP];exact⟨⟨[_],[_,_,_],rfl,⟨rfl,rfl⟩,[_],[_,_],rfl,⟨rfl,rfl⟩,[_],[_],rfl,⟨rfl,rfl⟩,[_],[],rfl,⟨rfl,rfl⟩,rfl⟩,rfl⟩
theorem yK (l:List Bx) (u:ByteArray) (hg:bg l=true) (hl:l.length≤1048576) (hu:u.size≤1000) {w:World} {F:Nat→Prop} {y:Value} (hr:aU w F (bxs l) y) (hF:∀b,F b→b<w.heap.size) :
  Calls Try.prog 72 #[y,.string u] w (Di w 1 (txs (bP l u)) (.bool (kJ l u))) :=
 kz (ds:=[bxs l,T u]) (F:=F) (Jn Try.func72 (by kernel_rfl) rfl) nt (ot l (gK hg) hl u hu (oO hg u)) (by simp)
  (show eo w F _ (.dat 2) (bxs l) y∧eo w _ _ (.dat 0) (T u) (.string u)∧True from⟨.inr hr,.inr (eG.2 ⟨rfl,rfl⟩),trivial⟩) hF
theorem yF (l:List Bx) (u:ByteArray) (hg:bg l=true) (hl:l.length≤1048576) (hu:u.size≤1000) {w:World} {F:Nat→Prop} {y:Value} (hr:aU w F (bxs l) y) (hF:∀b,F b→b<w.heap.size) :
  Calls Try.prog 75 #[y,.string u] w (Di w 1 (txs (bP l u)) (.bool (kJ l u))) :=
 kz (ds:=[bxs l,T u]) (F:=F) (Jn Try.func75 (by kernel_rfl) rfl) nO (om l (gK hg) hl u hu (oO hg u)) (by simp)
  (show eo w F _ (.dat 2) (bxs l) y∧eo w _ _ (.dat 0) (T u) (.string u)∧True from⟨.inr hr,.inr (eG.2 ⟨rfl,rfl⟩),trivial⟩) hF
theorem AX {f:Nat} {pm:List Kd} {ff:List D→Option Out} {ds:List D} {a b:Value} {args:Array Value} (he:∀args w,(callFunc f args).run Try.prog w = .ok (.enter f args) w) (hm:aM gl0 Try.prog f {pm:=pm,rm:=[.dat 0,.dat 0],f:=ff}) (hd:ff ds=some (.ret [.v a,.v b] [])) {w:World} {F:Nat→Prop}
  (ha:dA w F (fun _=>none) 0 pm ds args.toList) (hF:∀b,F b→b<w.heap.size):Calls Try.prog f args w fun e w'=>e = .returned (.tuple #[a,b])∧Below w.heap.size w w':=by
 refine(eV (ow:=fun _=>none) (F:=F) (ds:=ds) (rs:=[.v a,.v b]) (us:=[]) (args:=args) he hm hd jR ha (fun b hb=>⟨hF b hb,rfl⟩) (fun b i h=>by cases h)).mono ?_
 rintro e w' ⟨v,rfl,F',R,vs,rfl,hp⟩;have hl:=hp.len;obtain⟨u,u2,rfl⟩:=Ci (hl.trans rfl);have h0:=hp.res 0;have h1:=hp.res 1;rcases h0 with h0 | h0
 ·cases h0
 rcases h1 with h1 | h1
 ·cases h1
 obtain⟨hu,_⟩:=eG.1 h0;obtain⟨hu2,_⟩:=eG.1 h1;have hu':u=a:=hu;have hu2':u2=b:=hu2;subst hu' hu2';exact⟨rfl,hp.os,hp.tape,hp.output,hp.size,fun b hb=>hp.keep b hb rfl⟩
theorem rS (s:Sp) (n:Int) (h:bH s) {w:World} {F:Nat→Prop} {y:Value} (hr:aU w F (sp s) y) (hF:∀b,F b→b<w.heap.size) :
  Calls Try.prog 94 #[y,.int .i64 n] w fun e w'=>e = .returned (.tuple #[.int .i64 (atF s.2.1 n:Int),.bool (fx s.2.1 n)])∧Below w.heap.size w w' :=
 AX (ds:=[sp s,I n]) (F:=F) (Jn Try.func94 (by kernel_rfl) rfl) py (uR s n h)
  (show eo w F _ (.dat 2) (sp s) y∧eo w _ _ (.dat 0) (I n) (.int .i64 n)∧True from⟨.inr hr,.inr (eG.2 ⟨rfl,rfl⟩),trivial⟩) hF
theorem jw (s:Sp) (n:Int) (h:bH s) (hok:aD s=true) {w:World} {F:Nat→Prop} {y:Value} (hr:aU w F (sp s) y) (hF:∀b,F b→b<w.heap.size) :
  Calls Try.prog 115 #[y,.int .i64 n] w fun e w'=>e = .returned (.int .i64 (if fx s.2.1 n=true then(atF s.2.1 n:Int) else -1))∧Below w.heap.size w w' :=
 wx (Jn Try.func115 (by kernel_rfl) rfl) qk (oM s n h hok) hr hF
theorem uh (x:Stp) (h:x.2.2.1.size≤9223372036854775807) {w:World} :
  Calls Try.prog 55 #[stV x] w fun e w'=>e = .returned (.bool (dm x))∧Below w.heap.size w w' :=
 kZ (F:=fun _=>False) (ds:=[stp x]) (Jn Try.func55 (by kernel_rfl) rfl) ri fu rfl (sH x h) rfl jR (show eo w _ _ (.dat 0) (stp x) (stV x)∧True from⟨.inr (Ch _ _ x),trivial⟩) (fun b h=>h.elim)
theorem AF (x:Stp) (h:x.2.2.1.size≤9223372036854775807) {w:World} :
  Calls Try.prog 90 #[stV x] w fun e w'=>e = .returned (.bool (dm x))∧Below w.heap.size w w' :=
 kZ (F:=fun _=>False) (ds:=[stp x]) (Jn Try.func90 (by kernel_rfl) rfl) xi jc rfl (wP x h) rfl jR (show eo w _ _ (.dat 0) (stp x) (stV x)∧True from⟨.inr (Ch _ _ x),trivial⟩) (fun b h=>h.elim)
def ko (w:World) (p B:Nat) (s:Sp):Prop:=∃A n c A' n' c' ys,w.heap[p]?=some (.cells #[.slice A n c,.slice A' n' c',.int .i64 s.2.2.1,.int .i64 s.2.2.2] 33 (0,0)) ∧
 ShopAt w B (.agg #[.slice A n c,.slice A' n' c',.int .i64 s.2.2.1,.int .i64 s.2.2.2]) (.slice A n c) (.slice A' n' c') ys s∧¬ShS (.slice A n c) (.slice A' n' c') ys p
theorem ko.below {w w':World} {p B:Nat} {s:Sp} (h:ko w p B s) (hB:Below w.heap.size w w'):ko w' p B s:=by
 obtain⟨A,n,c,A',n',c',ys,h1,h2,h3⟩:=h;exact⟨A,n,c,A',n',c',ys,Below.some hB h1,h2.below hB,h3⟩
theorem BQ {w:World} {B g cap n:Nat} {l:List Fm} {ys:List Value} (h:FmsAt w B (.slice (some ⟨g,0,none⟩) n cap) ys l) {i:Nat} (hi:i≤l.length):FmsAt w B (.slice (some ⟨g,0,none⟩) i cap) (ys.take i) (l.take i):=by
 have hl:=h.len;refine⟨by simp [hl],?_,fun j x y hj hy=>?_,fun j y b hy hb=>?_,fun j k y z hjk hj hk=>?_⟩
 ·obtain⟨h1,⟨hn,_⟩ | ⟨g',cap',cur,e,h3,h4,h5,h6,h7,h8⟩⟩:=h.own
  ·cases hn
  ·cases e
   have hr:bu (l.take i) (ys.take i)=(bu l ys).take (i*4):=by
    have e1:=lP (l.take i) (l.drop i) (ys.take i) (ys.drop i) (by simp [hl]);rw [Jw,Jw] at e1;rw [e1,List.take_left' (by rw [ch _ _ (by simp [hl]),Jo];omega)]
   refine⟨by rw [ch _ _ (by simp [hl])],.inr ⟨g,cap,cur,by rw [Jo,Kh hi],h3,h4,by rw [Jo];omega,h6,h7,?_⟩⟩
   rw [hr,←h8,List.take_take,Jo];congr 1
   omega
 ·have hj':j<i:=by
   have:=(Jr.1 hj).1;rw [Jo] at this;omega
  rw [Jx,if_pos hj'] at hj hy;exact h.row j x y hj hy
 ·have hj':j<i:=by
   have:=(Jr.1 hy).1;rw [Jo] at this;omega
  rw [Jx,if_pos hj'] at hy;exact h.blk j y b hy hb
 ·have hj':j<i:=by
   have:=(Jr.1 hj).1;rw [Jo] at this;omega
  have hk':k<i:=by
   have:=(Jr.1 hk).1;rw [Jo] at this;omega
  rw [Jx,if_pos hj'] at hj;rw [Jx,if_pos hk'] at hk;exact h.dis j k y z hjk hj hk
theorem gJ {w:World} {B g cap n:Nat} {l:List Fm} {ys:List Value} (h:FmsAt w B (.slice (some ⟨g,0,none⟩) n cap) ys l) (i:Nat) (hi:i≤l.length):∀(j:Nat) (u:Value),(bu (l.drop i) (ys.drop i))[j]?=some u→w.cell? ⟨g,i*4+j,none⟩=some u:=by
 intro j u hj;have hl:=h.len;have e1:=lP (l.take i) (l.drop i) (ys.take i) (ys.drop i) (by simp [hl]);rw [Jw,Jw] at e1;have h2:=(ch (l.take i) (ys.take i) (by simp [hl]))
 rw [Jo,Kh hi] at h2;have h3:(bu l ys)[i*4+j]?=some u:=by rw [e1,List.getElem?_append_right (by omega),h2,Nat.add_sub_cancel_left];exact hj
 obtain⟨e,he⟩:∃e,n=l.length∨e=0:=⟨0,.inr rfl⟩
 have ho:=h.own;obtain⟨_,⟨hn,_⟩ | ⟨g',cap',cur,e',_⟩⟩:=h.own
 ·cases hn
 ·cases e'
  exact aJ ho h3
theorem dB {w:World} {B:Nat} {V:Value} {l:List Fm} {ys:List Value} (h:FmsAt w B V ys l):∀y∈ys,∃A n c,y = .slice A n c:=fun y hy=>by
 obtain⟨i,hi⟩:=Kl.1 hy;have hl:i<l.length:=by rw [←h.len];exact(Jr.1 hi).1
 exact bB (h.row i l[i] y (by simp) hi)
set_option maxRecDepth 100000
variable {Z:Nat→Prop}
def es (Z:Nat→Prop) (w:World) (q:Nat) (S:Nat→Prop) (d:D):Prop:=∃F:Nat→Prop,tw w F (fun g=>g=q) 3 d (.pointer (some ⟨q,0,none⟩))∧∀b,F b→b<w.heap.size∧b≠q∧¬S b∧¬Z b
theorem es.lt {w:World} {q:Nat} {S:Nat→Prop} {d:D} (h:es Z w q S d):q<w.heap.size:=by
 obtain⟨F,⟨l,us,g,e,_,h2,h3,_,_,_,h7⟩,_⟩:=h;subst h7;exact(Kf.1 h3).1
theorem es.kept {w w':World} {q:Nat} {S:Nat→Prop} {d:D} (h:es Z w q S d) (hq:¬S q) (hs:w.heap.size≤w'.heap.size) (hk:∀b,b<w.heap.size→¬S b→w'.heap[b]?=w.heap[b]?):es Z w' q S d:=by
 have hlt:=h.lt;obtain⟨F,⟨l,us,g,e,h1,h2,h3,h4,h5,h6,h7⟩,hF⟩:=h;subst h7;exact⟨F,⟨l,us,g,e,h1,h2,(hk g hlt hq).trans h3,bm (fun _ h=>h) (fun b hb=>hk b (hF b hb).1 (hF b hb).2.2.1) _ _ h4,h5,h6,rfl⟩,fun b hb=>⟨JP (hF b hb).1 hs,(hF b hb).2⟩⟩
theorem es.more {w:World} {q:Nat} {S T:Nat→Prop} {d:D} (h:es Z w q S d) (ht:∀b,T b→S b∨w.heap.size≤b):es Z w q T d:=by
 obtain⟨F,h1,hF⟩:=h;exact⟨F,h1,fun b hb=>⟨(hF b hb).1,(hF b hb).2.1,fun hT=>(ht b hT).elim (hF b hb).2.2.1 fun h=>by have:=(hF b hb).1;omega,(hF b hb).2.2.2⟩⟩
theorem es.below {w w':World} {q:Nat} {S T:Nat→Prop} {d:D} (h:es Z w q S d) (hB:Below w.heap.size w w') (ht:∀b,T b→S b∨w.heap.size≤b):es Z w' q T d:=by
 obtain⟨F,⟨l,us,g,e,h1,h2,h3,h4,h5,h6,h7⟩,hF⟩:=h.more ht;subst h7;exact⟨F,⟨l,us,g,e,h1,h2,(hB.block g (Kf.1 h3).1).trans h3,bm (fun _ h=>h) (fun b hb=>hB.block b (hF b hb).1) _ _ h4,h5,h6,rfl⟩,fun b hb=>⟨JP (hF b hb).1 hB.size,(hF b hb).2⟩⟩
theorem es.set {w:World} {q:Nat} {S:Nat→Prop} {d:D} (h:es Z w q S d) (hq:¬S q) (a:Addr) (v:Value) (ha:S a.block):es Z (w.setCell a v) q S d :=
 h.kept hq (by simp [JB]) fun b _ hb=>heap_setCell_other _ _ _ _ fun e=>hb (e ▸ ha)
structure CurPost (Z:Nat→Prop) (w:World) (q:Nat) (S:Nat→Prop) (d':D) (rm:List Kd) (rs:List D) (vs:List Value) (w':World) (F':Nat→Prop) (R:Nat→Option Nat):Prop where
 cur:es Z w' q (fun b=>S b∨∃j,R b=some j) d'
 keep:KeptX (fun b=>b=q) w w'
 len:vs.length=rm.length
 res:∀j,xS w' F' w.heap.size (fun g=>R g=some j) (ao rm j) (nth rs j) (vs.getD j undef)
 new:∀b j,R b=some j→w.heap.size≤b∧b<w'.heap.size
theorem oY {f:Nat} {pm rm:List Kd} {ff:List D→Option Out} {d d':D} {ds rs:List D} (he:∀args w,(callFunc f args).run Try.prog w = .ok (.enter f args) w) (hm:aM gl0 Try.prog f {pm:=.box 3 2 true::pm,rm:=rm,f:=ff})
  (hd:ff (d::ds)=some (.ret rs [d'])) (hio:(pm.all fun k=>!lE k)=true) (hdb:d' ≠ .bad) {w:World} {q:Nat} {S Fa:Nat→Prop} {ys:List Value} (hC:es Z w q S d) (hS:∀b,S b→b<w.heap.size) (hZ:∀b,Z b→b<w.heap.size) (hFa:∀b,Fa b→b<w.heap.size∧b≠q∧¬S b∧¬Z b)
  (ha:dA w Fa (fun b=>if b=q then some 0 else none) 1 pm ds ys) :
  Calls Try.prog f (.pointer (some ⟨q,0,none⟩)::ys).toArray w fun e w'=>∃vs F' R,e = .returned (jB vs)∧CurPost Z w q S d' rm rs vs w' F' R:=by
 have hlt:=hC.lt;obtain⟨F,hbox,hF⟩:=hC;have mono:∀(pm:List Kd) (ds:List D) (ys:List Value) (i:Nat),(pm.all fun k=>!lE k)=true→dA w Fa (fun b=>if b=q then some 0 else none) i pm ds ys→dA w (fun b=>F b∨Fa b) (fun b=>if b=q then some 0 else none) i pm ds ys:=by
  intro pm;induction pm with
  | nil =>
   intro ds ys i _ h;cases ds<;>cases ys<;>first | trivial | exact h.elim
  | cons k pm ih =>
   intro ds ys i hk h;simp only [List.all_cons,Jp,JT] at hk;cases ds with
   | nil=>cases ys<;>exact h.elim
   | cons e ds =>
    cases ys with
    | nil=>exact h.elim
    | cons y ys =>
     refine⟨?_,ih ds ys (i+1) hk.2 h.2⟩
     rcases h.1 with h1 | h1
     ·exact .inl h1
     ·refine .inr ?_
      cases k with
      | dat lv =>
       refine aS (fun b hb=>?_) (fun _ _=>rfl) h1
       match lv,hb with
       | 1,hb=>exact⟨.inr hb.1,hb.2⟩
       | n+2,hb=>exact .inr hb
      | own z lv io=>cases io<;>simp_all [lE]
      | box z lv io=>cases io<;>simp_all [lE]
      | _=>exact h1
 have e0:∀b i,(if b=q then some 0 else none:Option Nat)=some i→b=q:=fun b i h=>by
  by_cases hb:b=q
  ·exact hb
  ·rw [if_neg hb] at h;cases h
 refine(eV (ow:=fun b=>if b=q then some 0 else none) (F:=fun b=>F b∨Fa b) (ds:=d::ds) (rs:=rs) (us:=[d']) (args:=(.pointer (some ⟨q,0,none⟩)::ys).toArray) he hm hd jR
  ⟨.inr ?_,mono pm ds ys 1 hio ha⟩ (fun b hb=>?_) (fun b i h=>by rw [e0 b i h];exact hlt)).mono ?_
 ·exact gC (F:=F) (own:=fun g=>g=q) (fun b hb=>.inl hb) (fun _ _=>rfl) (fun g _ hg=>⟨by simp [hg],rfl⟩) hbox
 ·rcases hb with hb | hb
  ·exact⟨(hF b hb).1,if_neg (hF b hb).2.1⟩
  ·exact⟨(hFa b hb).1,if_neg (hFa b hb).2.1⟩
 ·rintro e w' ⟨v,rfl,F',R,vs,rfl,hp⟩
  have hu:=hp.us;simp only [lK,lE,if_true] at hu;obtain⟨_,hu1,_⟩:=hu;have hu2:=hu1.resolve_left hdb;refine⟨vs,F',R,rfl,?_,⟨hp.os,hp.tape,hp.output,hp.size,fun b hb hne=>hp.keep b hb (if_neg hne)⟩,hp.len,hp.res,hp.rn⟩
  refine⟨F',?_,fun b hb=>?_⟩
  ·obtain⟨l,us,g,e,h1,h2,h3,h4,h5,h6,h7⟩:=hu2
   have hg:g=q:=by injection h2 with h2;injection h2 with h2;injection h2 with h2;exact h2.symm
   exact⟨l,us,g,e,h1,h2,h3,h4,h5,h6,hg⟩
  ·obtain⟨h1,h2,h3⟩:=hp.fn b hb
   refine⟨h2,fun hbq=>?_,fun hSb=>?_,fun hz=>?_⟩
   ·subst hbq
    rcases h1 with (h1 | h1) | h1
    ·exact(hF b h1).2.1 rfl
    ·exact(hFa b h1).2.1 rfl
    ·omega
   ·rcases hSb with hSb | ⟨j,hj⟩
    ·rcases h1 with (h1 | h1) | h1
     ·exact(hF b h1).2.2.1 hSb
     ·exact(hFa b h1).2.2.1 hSb
     ·have:=hS b hSb
      omega
    ·rw [h3] at hj
     cases hj
   ·rcases h1 with (h1 | h1) | h1
    ·exact(hF b h1).2.2.2 hz
    ·exact(hFa b h1).2.2.2 hz
    ·have:=hZ b hz
     omega
theorem len_one {vs:List Value} (h:vs.length=1):∃a,vs=[a]:=match vs,h with
 | [a],_=>⟨a,rfl⟩
theorem qE {f:Nat} {pm:List Kd} {ff:List D→Option Out} {d d':D} {ds:List D} {v:Value} (he:∀args w,(callFunc f args).run Try.prog w = .ok (.enter f args) w) (hm:aM gl0 Try.prog f {pm:=.box 3 2 true::pm,rm:=[.dat 0],f:=ff})
  (hd:ff (d::ds)=some (.ret [.v v] [d'])) (hio:(pm.all fun k=>!lE k)=true) (hdb:d' ≠ .bad) {w:World} {q:Nat} {S Fa:Nat→Prop} {ys:List Value} (hC:es Z w q S d) (hS:∀b,S b→b<w.heap.size) (hZ:∀b,Z b→b<w.heap.size) (hFa:∀b,Fa b→b<w.heap.size∧b≠q∧¬S b∧¬Z b)
  (ha:dA w Fa (fun b=>if b=q then some 0 else none) 1 pm ds ys) :
  Calls Try.prog f (.pointer (some ⟨q,0,none⟩)::ys).toArray w fun e w'=>e = .returned v∧es Z w' q S d'∧KeptX (fun b=>b=q) w w':=by
 refine(oY he hm hd hio hdb hC hS hZ hFa ha).mono ?_
 rintro e w' ⟨vs,F',R,rfl,hp⟩;obtain⟨a,rfl⟩:=len_one hp.len;have h0:=hp.res 0;rcases h0 with h0 | h0
 ·cases h0
 exact⟨congrArg Ky (eG.1 h0).1,hp.cur.more fun b hb=>.inl (.inl hb),hp.keep⟩
end Go.Proofs.Ytkcojipciiakdaa

namespace Go.Proofs.Ytkcojipciiakdaa
open Go Go.Proofs Go.V Go.RowKit
set_option maxRecDepth 100000
variable {Z:Nat→Prop}
instance:Inhabited Cur:=⟨⟨[],0,0⟩⟩
theorem Cur.ok.at {c:Cur} {B:Nat} (h:c.ok B):c.ok c.at_:=⟨h.by_,h.len,Ka _,h.lo,h.hi⟩
theorem Cur.ok.up {c d:Cur} {B k:Nat} (h:c.ok B) (hd:d.ok (c.at_+k)):d.ok (B+k):=hd.mono (Nat.add_le_add_right h.at_ k)
def pk (c:Cur) (n:Int):Int × Cur:=JE fun p:Int × Cur=>aB [aV c,I n]=some (.ret [I p.1] [aV p.2])∧0≤p.1∧(p.1<n∨p.1=0)∧p.2.ok (c.at_+2)
theorem sx {c:Cur} {n:Int} {B:Nat} (h:c.ok B) (hB:B≤100000000000) (hn:n≤1000000000):aB [aV c,I n]=some (.ret [I (pk c n).1] [aV (pk c n).2])∧0≤(pk c n).1∧((pk c n).1<n∨(pk c n).1=0)∧(pk c n).2.ok (B+2):=by
 obtain⟨v,c',e,h1,h2,h3⟩:=gV c n c.at_ h.at (by have:=h.at_;omega) hn;obtain⟨g1,g2,g3,g4⟩:=Ju (p:=fun p:Int × Cur=>aB [aV c,I n]=some (.ret [I p.1] [aV p.2])∧0≤p.1∧(p.1<n∨p.1=0)∧p.2.ok (c.at_+2)) ⟨(v,c'),e,h1,h2,h3⟩;exact⟨g1,g2,g3,h.up g4⟩
def on (c:Cur) (n:Int):Bool × Cur:=JE fun p:Bool × Cur=>ci [aV c,I n]=some (.ret [B p.1] [aV p.2])∧p.2.ok (c.at_+2)
theorem Dy {c:Cur} {n:Int} {B:Nat} (h:c.ok B) (hB:B≤100000000000) (hn:n≤1000000000):ci [aV c,I n]=some (.ret [.v (.bool (on c n).1)] [aV (on c n).2])∧(on c n).2.ok (B+2):=by
 obtain⟨v,c',e,h3⟩:=Cf c n c.at_ h.at (by have:=h.at_;omega) hn;obtain⟨g1,g4⟩:=Ju (p:=fun p:Bool × Cur=>ci [aV c,I n]=some (.ret [.v (.bool p.1)] [aV p.2])∧p.2.ok (c.at_+2)) ⟨(v,c'),e,h3⟩;exact⟨g1,h.up g4⟩
def am (c:Cur) (l:List Int):Int × Cur:=JE fun p:Int × Cur=>aG [aV c,nL l]=some (.ret [I p.1] [aV p.2])∧p.1∈l∧p.2.ok (c.at_+2)
theorem wg {c:Cur} {l:List Int} {B:Nat} (h:c.ok B) (hB:B≤100000000000) (hl:l≠[]) (hn:l.length≤1000000000):aG [aV c,nL l]=some (.ret [I (am c l).1] [aV (am c l).2])∧(am c l).1∈l∧(am c l).2.ok (B+2):=by
 obtain⟨v,c',e,h1,h3⟩:=mC c l c.at_ h.at (by have:=h.at_;omega) hl hn;obtain⟨g1,g2,g4⟩:=Ju (p:=fun p:Int × Cur=>aG [aV c,nL l]=some (.ret [I p.1] [aV p.2])∧p.1∈l∧p.2.ok (c.at_+2)) ⟨(v,c'),e,h1,h3⟩;exact⟨g1,g2,h.up g4⟩
def fo (c:Cur):List (ByteArray × Int) × Cur:=JE fun p:List (ByteArray × Int) × Cur=>dl [aV c]=some (.ret [sos p.1] [aV p.2])∧(1≤p.1.length∧p.1.length≤12)∧(cdF p.1).Sublist L12∧p.2.ok (c.at_+100)
theorem FD {c:Cur} {B:Nat} (h:c.ok B) (hB:B≤1000000000):dl [aV c]=some (.ret [sos (fo c).1] [aV (fo c).2])∧(1≤(fo c).1.length∧(fo c).1.length≤12)∧(cdF (fo c).1).Sublist L12∧(fo c).2.ok (B+100):=by
 obtain⟨v,c',e,h1,h2,h3⟩:=Hu c c.at_ h.at (by have:=h.at_;omega);obtain⟨g1,g2,g3,g4⟩:=Ju (p:=fun p:List (ByteArray × Int) × Cur=>dl [aV c]=some (.ret [sos p.1] [aV p.2])∧(1≤p.1.length∧p.1.length≤12)∧(cdF p.1).Sublist L12∧p.2.ok (c.at_+100)) ⟨(v,c'),e,h1,h2,h3⟩;exact⟨g1,g2,g3,h.up g4⟩
def bo (c:Cur) (f:List (ByteArray × Int)):List Bx × Cur:=JE fun p:List Bx × Cur=>cS [aV c,sos f]=some (.ret [bxs p.1] [aV p.2])∧bg p.1=true∧p.1.length≤12∧(∀x∈p.1,0≤x.2.2.2∧x.2.2.2≤20)∧p.2.ok (c.at_+100)
theorem En {c:Cur} {f:List (ByteArray × Int)} {B:Nat} (h:c.ok B) (hB:B≤1000000000) (hf:1≤f.length∧f.length≤12) (hs:(cdF f).Sublist L12):cS [aV c,sos f]=some (.ret [bxs (bo c f).1] [aV (bo c f).2])∧bg (bo c f).1=true∧(bo c f).1.length≤12∧(∀x∈(bo c f).1,0≤x.2.2.2∧x.2.2.2≤20)∧(bo c f).2.ok (B+100):=by
 obtain⟨v,c',e,h1,h2,h3,h4⟩:=GO c f c.at_ h.at (by have:=h.at_;omega) hf hs;obtain⟨g1,g2,g3,g4,g5⟩:=Ju (p:=fun p:List Bx × Cur=>cS [aV c,sos f]=some (.ret [bxs p.1] [aV p.2])∧bg p.1=true∧p.1.length≤12∧(∀x∈p.1,0≤x.2.2.2∧x.2.2.2≤20)∧p.2.ok (c.at_+100)) ⟨(v,c'),e,h1,h2,h3,h4⟩;exact⟨g1,g2,g3,g4,h.up g5⟩
def sst (c:Cur):Stp × Cur:=JE fun p:Stp × Cur=>bq [aV c]=some (.ret [stp p.1] [aV p.2])∧p.1.2.2.1.size≤20∧p.2.ok (c.at_+100)
theorem BJ {c:Cur} {B:Nat} (h:c.ok B) (hB:B≤800000000):bq [aV c]=some (.ret [stp (sst c).1] [aV (sst c).2])∧(sst c).1.2.2.1.size≤20∧(sst c).2.ok (B+100):=by
 obtain⟨v,c',e,h1,h3⟩:=qQ c c.at_ h.at (by have:=h.at_;omega);obtain⟨g1,g2,g4⟩:=Ju (p:=fun p:Stp × Cur=>bq [aV c]=some (.ret [stp p.1] [aV p.2])∧p.1.2.2.1.size≤20∧p.2.ok (c.at_+100)) ⟨(v,c'),e,h1,h3⟩;exact⟨g1,g2,h.up g4⟩
theorem mv (c:Cur):aV c ≠ .bad:=by simp
theorem oZ {w:World} {q:Nat} {S:Nat→Prop} {c:Cur} {B:Nat} (h:c.ok B) (hB:B≤100000000000) {n:Int} (hn:n≤1000000000) (hC:es Z w q S (aV c)) (hS:∀b,S b→b<w.heap.size) (hZ:∀b,Z b→b<w.heap.size) :
  Calls Try.prog 68 #[.pointer (some ⟨q,0,none⟩),.int .i64 n] w fun e w'=>e = .returned (.int .i64 (pk c n).1)∧es Z w' q S (aV (pk c n).2)∧KeptX (fun b=>b=q) w w' :=
 qE (Fa:=fun _=>False) (ys:=[.int .i64 n]) (Jn Try.func68 (by kernel_rfl) rfl) bL (sx h hB hn).1 rfl (mv _) hC hS hZ (fun b h=>h.elim) ⟨.inr (eG.2 ⟨rfl,rfl⟩),trivial⟩
theorem zE {w:World} {q:Nat} {S:Nat→Prop} {c:Cur} {B:Nat} (h:c.ok B) (hB:B≤100000000000) {n:Int} (hn:n≤1000000000) (hC:es Z w q S (aV c)) (hS:∀b,S b→b<w.heap.size) (hZ:∀b,Z b→b<w.heap.size) :
  Calls Try.prog 69 #[.pointer (some ⟨q,0,none⟩),.int .i64 n] w fun e w'=>e = .returned (.bool (on c n).1)∧es Z w' q S (aV (on c n).2)∧KeptX (fun b=>b=q) w w' :=
 qE (Fa:=fun _=>False) (ys:=[.int .i64 n]) (Jn Try.func69 (by kernel_rfl) rfl) iL (Dy h hB hn).1 rfl (mv _) hC hS hZ (fun b h=>h.elim) ⟨.inr (eG.2 ⟨rfl,rfl⟩),trivial⟩
theorem qt {w:World} {q:Nat} {S Fa:Nat→Prop} {c:Cur} {B:Nat} (h:c.ok B) (hB:B≤100000000000) {l:List Int} (hl:l≠[]) (hn:l.length≤1000000000) {y:Value} (hC:es Z w q S (aV c)) (hS:∀b,S b→b<w.heap.size) (hZ:∀b,Z b→b<w.heap.size) (hFa:∀b,Fa b→b<w.heap.size∧b≠q∧¬S b∧¬Z b) (hy:aU w Fa (nL l) y) :
  Calls Try.prog 98 #[.pointer (some ⟨q,0,none⟩),y] w fun e w'=>e = .returned (.int .i64 (am c l).1)∧es Z w' q S (aV (am c l).2)∧KeptX (fun b=>b=q) w w' :=
 qE (Fa:=Fa) (ys:=[y]) (Jn Try.func98 (by kernel_rfl) rfl) gz (wg h hB hl hn).1 rfl (mv _) hC hS hZ hFa ⟨.inr hy,trivial⟩
theorem AA (w:World) (l:List Int) (cap:Nat) (hc:l.length≤cap) (t:TypeId) {g:Nat} {cs:Array Value} (h:w.heap[g]?=some (.cells cs t (0,0))) (hcs:∀(i:Nat) (n:Int),l[i]?=some n→cs[i]?=some (.int .i64 n)):aU w (fun b=>b=g) (nL l) (.slice (some ⟨g,0,none⟩) l.length cap):=by
 refine⟨some ⟨g,0,none⟩,cap,l.map (KA .i64),by simp,by simpa using hc,?_,fun d hd=>?_,fun _=>⟨g,0,rfl,rfl,fun i u hu=>?_⟩⟩
 ·clear hc hcs h
  induction l with
  | nil=>exact aP.2 rfl
  | cons x l ih=>exact aA.2 ⟨[.int .i64 x],l.map (KA .i64),rfl,by simp only [RepC];exact⟨trivial,rfl⟩,ih⟩
 ·obtain⟨x,_,rfl⟩:=List.mem_map.1 hd
  rfl
 ·rw [List.getElem?_map] at hu
  obtain⟨n,hn,rfl⟩:=Option.map_eq_some_iff.1 hu;have:=hcs i n hn;simp [World.cell?,h,this]
theorem Dn {w:World} {q:Nat} {S:Nat→Prop} {c:Cur} {B:Nat} (h:c.ok B) (hB:B≤1000000000) (hC:es Z w q S (aV c)) (hS:∀b,S b→b<w.heap.size) (hZ:∀b,Z b→b<w.heap.size) :
  Calls Try.prog 97 #[.pointer (some ⟨q,0,none⟩)] w fun e w'=>∃y,e = .returned y∧aU w' (fun b=>w.heap.size≤b∧b<w'.heap.size) (sos (fo c).1) y∧es Z w' q S (aV (fo c).2)∧KeptX (fun b=>b=q) w w':=by
 refine(oY (Fa:=fun _=>False) (ys:=[]) (ds:=[]) (pm:=[]) (Jn Try.func97 (by kernel_rfl) rfl) rF (FD h hB).1 rfl (mv _) hC hS hZ (fun b h=>h.elim) trivial).mono ?_
 rintro e w' ⟨vs,F',R,rfl,hp⟩;obtain⟨a,rfl⟩:=len_one hp.len;rcases hp.res 0 with h0 | h0
 ·cases h0
 have h0':bv w' (fun _=>False) (fun g=>R g=some 0∧w.heap.size≤g) 2 (sos (fo c).1) a:=h0;exact⟨a,rfl,sG h0' (fun _ h=>h.elim) fun b hb=>hp.new b 0 hb.1,hp.cur.more fun b hb=>.inl (.inl hb),hp.keep⟩
theorem DA {w:World} {own:Nat→Prop} {z:Nat} {d:D} {y:Value} (h:bv w (fun _=>False) own z d y):bv w (fun _=>False) (aH y) z d y∧∀b,aH y b→own b:=by
 obtain⟨l,rfl,h2,h3⟩:=h;rcases h3 with ⟨h3,h4⟩ | ⟨g,o,c,us,cs,e,h4,h5,h6,h7,h8,h9,h10⟩
 ·subst h3
  exact⟨⟨l,rfl,h2,.inl ⟨rfl,h4⟩⟩,fun b hb=>by cases hb⟩
 ·subst h4
  exact⟨⟨l,rfl,h2,.inr ⟨g,o,c,us,cs,e,rfl,h5,h6,h7,h8,h9,rfl⟩⟩,fun b hb=>by
   have hb':g=b:=Jj hb;subst hb';exact h10⟩
theorem Bv {w:World} {q:Nat} {S Fa:Nat→Prop} {c:Cur} {f:List (ByteArray × Int)} {B:Nat} (h:c.ok B) (hB:B≤1000000000) (hf:1≤f.length∧f.length≤12) (hs:(cdF f).Sublist L12) {y:Value} (hC:es Z w q S (aV c)) (hS:∀b,S b→b<w.heap.size) (hZ:∀b,Z b→b<w.heap.size) (hFa:∀b,Fa b→b<w.heap.size∧b≠q∧¬S b∧¬Z b) (hy:aU w Fa (sos f) y) :
  Calls Try.prog 96 #[.pointer (some ⟨q,0,none⟩),y] w fun e w'=>∃A n k,e = .returned (.slice A n k)∧bv w' (fun _=>False) (aH (.slice A n k)) 4 (bxs (bo c f).1) (.slice A n k)∧(∀b,aH (.slice A n k) b→w.heap.size≤b∧b<w'.heap.size)∧es Z w' q (fun b=>S b∨aH (.slice A n k) b) (aV (bo c f).2)∧KeptX (fun b=>b=q) w w':=by
 refine(oY (Fa:=Fa) (ys:=[y]) (ds:=[sos f]) (pm:=[.dat 2]) (Jn Try.func96 (by kernel_rfl) rfl) qF (En h hB hf hs).1 rfl (mv _) hC hS hZ hFa ⟨.inr hy,trivial⟩).mono ?_
 rintro e w' ⟨vs,F',R,rfl,hp⟩;obtain⟨a,rfl⟩:=len_one hp.len;rcases hp.res 0 with h0 | h0
 ·cases h0
 have h0':bv w' (fun _=>False) (fun g=>R g=some 0∧w.heap.size≤g) 4 (bxs (bo c f).1) a:=h0;obtain⟨h1,h2⟩:=DA h0';obtain⟨A,n,k,rfl⟩:=bB h1;exact⟨A,n,k,rfl,h1,fun b hb=>hp.new b 0 (h2 b hb).1,hp.cur.more fun b hb=>.inl (hb.imp (fun h=>h) fun h=>⟨0,(h2 b h).1⟩),hp.keep⟩
theorem Cg {w:World} {F:Nat→Prop} {x:Stp} {y:Value} (h:aU w F (stp x) y):y=stV x:=by
 obtain⟨vs,rfl,h⟩:=h;simp only [RepC,aA,aP] at h;obtain⟨⟨v1,v2,rfl,⟨rfl,_⟩,v3,v4,rfl,⟨rfl,_⟩,v5,v6,rfl,⟨rfl,_⟩,v7,v8,rfl,⟨rfl,_⟩,rfl⟩,_⟩:=h;rfl
theorem pN {w:World} {q:Nat} {S:Nat→Prop} {c:Cur} {B:Nat} (h:c.ok B) (hB:B≤800000000) (hC:es Z w q S (aV c)) (hS:∀b,S b→b<w.heap.size) (hZ:∀b,Z b→b<w.heap.size) :
  Calls Try.prog 60 #[.pointer (some ⟨q,0,none⟩)] w fun e w'=>e = .returned (stV (sst c).1)∧es Z w' q S (aV (sst c).2)∧KeptX (fun b=>b=q) w w':=by
 refine(oY (Fa:=fun _=>False) (ys:=[]) (ds:=[]) (pm:=[]) (Jn Try.func60 (by kernel_rfl) rfl) fp (BJ h hB).1 rfl (mv _) hC hS hZ (fun b h=>h.elim) trivial).mono ?_
 rintro e w' ⟨vs,F',R,rfl,hp⟩;obtain⟨a,rfl⟩:=len_one hp.len;rcases hp.res 0 with h0 | h0
 ·cases h0
 have h0':aU w' (fun _=>False) (stp (sst c).1) a:=h0;exact⟨congrArg Ky (Cg h0'),hp.cur.more fun b hb=>.inl (.inl hb),hp.keep⟩
end Go.Proofs.Ytkcojipciiakdaa

namespace Go.Proofs.Ytkcojipciiakdaa
open Go Go.Proofs Go.V Go.RowKit
set_option maxRecDepth 100000
theorem iT:∀(l:List Fm) (ys:List Value) (i:Nat) (x x':Fm) (y y' v:Value) (k:Nat),k<4→l[i]?=some x→ys[i]?=some y→er x' y'=(er x y).set k v→bu (l.set i x') (ys.set i y')=(bu l ys).set (i*4+k) v
 | a::l,b::ys,0,x,x',y,y',v,k,hk,h1,h2,h3=>by
  cases h1;cases h2;simp only [List.set_cons_zero,bu,h3,Nat.zero_mul,Nat.zero_add];rw [List.set_append_left _ _ (by simpa [er] using hk)]
 | a::l,b::ys,i+1,x,x',y,y',v,k,hk,h1,h2,h3=>by
  have ih:=iT l ys i x x' y y' v k hk h1 h2 h3;simp only [List.set_cons_succ,bu,ih];rw [List.set_append_right _ _ (by simp [er];omega)];congr 2
  simp [er];omega
 | [],_,_,_,_,_,_,_,_,_,h1,_,_=>by simp at h1
 | _::_,[],_,_,_,_,_,_,_,_,_,h2,_=>by simp at h2
theorem lI {w w':World} {B g cap:Nat} {l:List Fm} {ys:List Value} (h:FmsAt w B (.slice (some ⟨g,0,none⟩) l.length cap) ys l) {i:Nat} (hi:i<l.length) {x:Fm} {y:Value} (hy:bv w' (fun _=>False) (aH y) 1 (txs x.2.1) y)
  (hb:∀b,aH y b→B≤b∧b≠g) (hd:∀j z,j≠i→ys[j]?=some z→y.ownBlock=none∨y.ownBlock≠z.ownBlock) (hw:∀j z b,j≠i→ys[j]?=some z→aH z b→w'.heap[b]?=w.heap[b]?)
  (ho:w'.ownsRow B 75 4 (.slice (some ⟨g,0,none⟩) l.length cap) l.length (bu (l.set i x) (ys.set i y))):FmsAt w' B (.slice (some ⟨g,0,none⟩) l.length cap) (ys.set i y) (l.set i x):=by
 refine⟨by simp [h.len],by rw [List.length_set];exact ho,fun j x' y' hj hyj=>?_,fun j y' b hyj hb'=>?_,fun j k y' z' hjk hj hk=>?_⟩
 ·by_cases e:j=i
  ·subst e
   rw [Jv hi] at hj;rw [Jv (by rw [h.len];exact hi)] at hyj;obtain rfl:=Jj hj;obtain rfl:=Jj hyj;exact hy
  ·rw [JA (fun h=>e h.symm)] at hj hyj
   exact ba (h.row j x' y' hj hyj) fun b hb1=>hw j y' b e hyj hb1
 ·by_cases e:j=i
  ·subst e
   rw [Jv (by rw [h.len];exact hi)] at hyj;obtain rfl:=Jj hyj;exact⟨(hb b hb').1,fun h1=>(hb b hb').2 (Jj h1).symm⟩
  ·rw [JA (fun h=>e h.symm)] at hyj
   exact h.blk j y' b hyj hb'
 ·by_cases e:j=i
  ·subst e
   rw [Jv (by rw [h.len];exact hi)] at hj;obtain rfl:=Jj hj;rw [JA hjk] at hk;exact hd k z' (fun h=>hjk h.symm) hk
  ·rw [JA (fun h=>e h.symm)] at hj
   by_cases e2:k=i
   ·subst e2
    rw [Jv (by rw [h.len];exact hi)] at hk;obtain rfl:=Jj hk;rcases hd j y' e hj with h1 | h1
    ·rw [h1]
     cases y'.ownBlock<;>simp
    ·exact .inr fun h2=>h1 h2.symm
   ·rw [JA (fun h=>e2 h.symm)] at hk
    exact h.dis j k y' z' hjk hj hk
theorem cT {w:World} {B g cap:Nat} {l:List Fm} {ys:List Value} (h:FmsAt w B (.slice (some ⟨g,0,none⟩) l.length cap) ys l) {i:Nat} (hi:i<l.length) {y:Value} (hy:ys[i]?=some y) {x':Fm} {k:Nat} {v:Value} (hk:k<4) (hx:x'.2.1=l[i].2.1) (hc:er x' y=(er l[i] y).set k v) :
  FmsAt (w.setCell ⟨g,i*4+k,none⟩ v) B (.slice (some ⟨g,0,none⟩) l.length cap) ys (l.set i x'):=by
 have hx1:l[i]?=some l[i]:=Ji hi;have hys:ys.set i y=ys:=by
  apply List.ext_getElem?;intro j;by_cases e:i=j
  ·subst e
   rw [Jv (by rw [h.len];exact hi),hy]
  ·rw [JA e]
 have hw:∀b,b≠g→(w.setCell ⟨g,i*4+k,none⟩ v).heap[b]?=w.heap[b]?:=fun b hb=>heap_setCell_other _ _ _ _ (by simpa using hb)
 have hg:∀(j:Nat) (z:Value) (b:Nat),ys[j]?=some z→aH z b→b≠g:=fun j z b hj hb e=>(h.blk j z b hj hb).2 (by rw [e];rfl)
 have:=lI (w':=w.setCell ⟨g,i*4+k,none⟩ v) (x:=x') (y:=y) h hi (by rw [hx];exact ba (h.row i _ y hx1 hy) fun b hb=>hw b (hg i y b hy hb)) (fun b hb=>⟨(h.blk i y b hy hb).1,hg i y b hy hb⟩)
  (fun j z hj hz=>h.dis i j y z (fun e=>hj e.symm) hy hz) (fun j z b hj hz hb=>hw b (hg j z b hz hb))
  (by rw [iT l ys i l[i] x' y y v k hk hx1 hy hc];exact jn h.own rfl _ _)
 rwa [hys] at this
theorem cN {w:World} {F own:Nat→Prop} {z:Nat} {l:List D} {y:Value} (h:bv w F own z (.arr z l) y):∃A c,y = .slice A l.length c:=by
 obtain⟨l',e,_,h3⟩:=h;cases e;rcases h3 with ⟨rfl,rfl⟩ | ⟨g,o,c,us,cs,e,h4,_⟩
 ·exact⟨_,_,rfl⟩
 ·exact⟨_,_,h4⟩
theorem ou {s:Sp} (h:aD s=true) : -1000000≤s.2.2.2∧s.2.2.2≤1000000:=by
 have h1:0≤lj s.2.1:=by
  obtain⟨hf,_⟩:=bp h;have key:∀(l:List Fm) (a:Int),(∀x∈l,0≤x.2.2.2)→a≤l.foldl (fun a x=>a+x.2.2.2) a:=by
   intro l;induction l with
   | nil=>intro a _;exact Int.le_refl _
   | cons x l ih =>
    intro a hx;have h2:=ih (a+x.2.2.2) fun y hy=>hx y (by simp [hy])
    have h3:=hx x (by simp);simp only [List.foldl_cons];omega
  refine key s.2.1 0 fun x hx=>?_
  obtain⟨j,hj,rfl⟩:=Ko hx;exact(cb (hf j hj)).1
 unfold aD at h;simp only [Jp,decide_eq_true_eq] at h;omega
def qU (w:World) (p B:Nat) (a:Bool) (t:Sp) (e:Ending) (w':World):Prop:=∃ok:Bool,e = .returned (.bool ok)∧(ok=true→a=true∧ko w' p B t)∧(ok=false→(a&&aD t)=false)∧Below B w w'
theorem Bg {s:Sp} {i:Nat} {f:Fm} (hi:i<s.2.1.length) (h0:f.2.1.length=0) (hl:f.2.2.1=true) (a b:Int) (m:List Bx):aD (m,s.2.1.set i f,a,b)=false:=by
 cases h:aD (m,s.2.1.set i f,a,b)
 ·rfl
 ·obtain⟨h1,_⟩:=bp h
  have h2:=h1 i (by simpa using hi);simp only [List.getElem_set_self] at h2;unfold fY at h2;simp [hl,h0] at h2
theorem mQ {w w':World} {p B:Nat} {A A' A2:Option Addr} {bn c n' c' n2 c2:Nat} {v:Value} {ys ys':List Value} {l':List Fm} {x y:Int} {s:Sp} (hpl:p<w.heap.size) (hS:ShopAt w B v (.slice A bn c) (.slice A' n' c') ys s) (hnp:¬ShS (.slice A bn c) (.slice A' n' c') ys p)
  (hp':w'.heap[p]?=some (.cells #[.slice A bn c,.slice A2 n2 c2,.int .i64 x,.int .i64 y] 33 (0,0))) (hb:∀b,aH (.slice A bn c) b→w'.heap[b]?=w.heap[b]?) (hF':FmsAt w' B (.slice A2 n2 c2) ys' l') (hfo:∀b,FmS (.slice A2 n2 c2) ys' b→FmS (.slice A' n' c') ys b∨w.heap.size≤b):ko w' p B (s.1,l',x,y) :=
 ⟨_,_,_,_,_,_,ys',hp',⟨rfl,ba hS.box hb,hS.bge,hF',fun b hb h=>(hfo b h).elim (hS.dis b hb) fun h=>by have:=dc hS.box b hb;omega⟩,fun h=>h.elim (fun h=>hnp (.inl h)) fun h=>(hfo p h).elim (fun h=>hnp (.inr h)) fun h=>by omega⟩
theorem zN {w:World} {own:Nat→Prop} {z:Nat} {l:List D} {A:Option Addr} {n c:Nat} (h:bv w (fun _=>False) own z (.arr z l) (.slice A n c)) {i:Nat} (hi:i≤l.length) (h0:0<l.length):bv w (fun _=>False) own z (.arr z (l.take i)) (.slice A i c):=by
 obtain⟨l',e,hw,h3⟩:=h;cases e;refine⟨_,rfl,fun d hd=>hw d (JV hd),?_⟩
 rcases h3 with ⟨_,rfl⟩ | ⟨g,o,c,us,cs,e,h4,h5,h6,h7,h8,h9,h10⟩
 ·simp at h0
 ·cases h4
  refine .inr ⟨g,o,_,us.take (i*z),cs,e,by rw [Jo,Kh hi],by rw [Jo];omega,h6,h7,(iK l us h8 hw i).1,fun j u hj=>?_,h10⟩
  rw [Jx] at hj;split at hj
  ·exact h9 j u hj
  ·cases hj
theorem An {w:World} {own:Nat→Prop} {z:Nat} {l:List D} {A:Option Addr} {n c:Nat} (h:bv w (fun _=>False) own z (.arr z l) (.slice A n c)) (h0:0<l.length):∃g o,A=some ⟨g,o,none⟩∧n=l.length∧l.length≤c:=by
 obtain⟨l',e,hw,h3⟩:=h;cases e;rcases h3 with ⟨_,rfl⟩ | ⟨g,o,c,us,cs,e,h4,h5,_⟩
 ·simp at h0
 ·cases h4
  exact⟨g,o,rfl,rfl,h5⟩
set_option maxHeartbeats 8000000 in
set_option maxRecDepth 1000000 in
theorem Ea (s:Sp) (hs:bH s) (hok:aD s=true) (i:Nat) (hi:i<s.2.1.length) (id:Int) (u:ByteArray) (n:Int) (hx:dm (2,id,u,n)=true) (w:World) (p B:Nat) (hbox:ko w p B s) (hpB:B≤p) :
  Calls Try.prog 95 #[.pointer (some ⟨p,0,none⟩),.int .i64 i,stV (2,id,u,n)] w (qU w p B (dk s i (2,id,u,n)) (fP s i (2,id,u,n))):=by
 obtain⟨hfm,hgc,_,hlost⟩:=bp hok;have hfi:=hfm i hi;obtain⟨A,bn,c,A',n',c',ys,hp0,hS0,hnp⟩:=hbox;obtain⟨fA,fc,efs⟩:=aW hS0.fms.own;cases efs;obtain⟨g,rfl⟩:=dQ hS0.fms.own (by omega);have hpl:=bd hp0;have hgl:=(hS0.lt g (.inr (.inl rfl))).2;have hgB:=(hS0.lt g (.inr (.inl rfl))).1;have hgp:g≠p:=fun e=>hnp (.inr (.inl (by rw [e];rfl)))
 have hW:=au w (.cells #[.int .i64 2,.int .i64 id,.string u,.int .i64 n] 46);have hBW:Below B w (w.alloc (.cells #[.int .i64 2,.int .i64 id,.string u,.int .i64 n] 46)):=(JR _ w).alloc (by omega) _;have hp:=Below.some hW hp0;have hS:=hS0.below hW;have hF:=hS.fms;have hq:(w.alloc (.cells #[.int .i64 2,.int .i64 id,.string u,.int .i64 n] 46)).heap[w.heap.size]?=some (.cells #[.int .i64 2,.int .i64 id,.string u,.int .i64 n] 46 (0,0)):=ae _ rfl;obtain⟨y,hy⟩:∃y,ys[i]?=some y:=⟨ys[i]'(by rw [hF.len];exact hi),Ji _⟩
 have hgx:s.2.1[i]?=some s.2.1[i]:=Ji hi;have hrow:=hF.row i _ y hgx hy;obtain⟨Ay,cy,rfl⟩:=cN hrow;rw [Jt] at hy hrow;have k1:=aJ hF.own (j:=i*4+1) (u:=.slice Ay s.2.1[i].2.1.length cy) (by rw [aN _ _ i s.2.1[i] _ hgx hy 1 (by omega)];rfl);have k2:=aJ hF.own (j:=i*4+2) (u:=.bool s.2.1[i].2.2.1) (by rw [aN _ _ i s.2.1[i] _ hgx hy 2 (by omega)];rfl);have k3:=aJ hF.own (j:=i*4+3) (u:=.int .i64 s.2.1[i].2.2.2) (by rw [aN _ _ i s.2.1[i] _ hgx hy 3 (by omega)];rfl);have z1:=bf hF.own (i*4+1);have z2:=bf hF.own (i*4+2);have z3:=bf hF.own (i*4+3);have haS:fP s i (2,id,u,n)=(s.1,s.2.1.set i (s.2.1[i].1,s.2.1[i].2.1,true,s.2.1[i].2.2.2),s.2.2.1,s.2.2.2):=by
  unfold fP;rw [hgx];simp
 have haO:dk s i (2,id,u,n)=(!s.2.1[i].2.2.1):=by
  unfold dk;rw [hgx];simp
 rw [haS,haO];have hcel:=fun(k:Nat) (v:Value) (x':Fm) hk hx hc=>cT hF hi hy (x':=x') (k:=k) (v:=v) hk hx hc
 have hpi:(i:Int)<(s.2.1.length:Int):=by omega
 have hset:=dI hfi;have hprt:=cb hfi;obtain⟨m0,m1,m2,m3⟩:=aa hp;obtain⟨n0,n1,n2,n3⟩:=aI hp;obtain⟨q0,q1,q2,q3⟩:=aa hq;obtain⟨f,hf⟩:∃f,f=s.2.1[i]:=⟨_,rfl⟩
 rw [←hf] at hfi hgx hrow hy k1 k2 k3 hset hprt hcel ⊢;have hwy:∀b,aH (.slice Ay f.2.1.length cy) b→b≠g:=fun b hb e=>(hF.blk i _ b hy hb).2 (by rw [e];rfl)
 have hWs:w.heap.size<(w.alloc (.cells #[.int .i64 2,.int .i64 id,.string u,.int .i64 n] 46)).heap.size:=by simp
 clear haS haO hf
 go_enter Try.func95,Try.ntmps95
 go_upto_region 1 with fail
 generalize (w.alloc (.cells #[.int .i64 2,.int .i64 id,.string u,.int .i64 n] 46))=W at *;cases hb:f.2.2.1
 ·rw [hb] at k2
  have hp2:(W.setCell ⟨g,i*4+2,none⟩ (.bool true)).heap[p]?=some (.cells #[.slice A bn c,.slice (some ⟨g,0,none⟩) s.2.1.length c',.int .i64 s.2.2.1,.int .i64 s.2.2.2] 33 (0,0)):=(heap_setCell_other _ _ _ _ (by simpa using fun e=>hgp e.symm)).trans hp;have hF2:=hcel 2 (.bool true) (f.1,f.2.1,true,f.2.2.2) (by omega) rfl rfl;have hbx:=mQ (s:=s) (x:=s.2.2.1) (y:=s.2.2.2) (by omega) hS hnp hp2 (fun b hb=>heap_setCell_other _ _ _ _ (by
   have:=hS.dis b hb;simp;exact fun e=>this (.inl (by rw [e];rfl)))) hF2 (fun b hb=>.inl hb)
  have hBe:Below B w (W.setCell ⟨g,i*4+2,none⟩ (.bool true)):=hBW.setCell hgB _;by_cases hm:0<f.2.1.length
  ·go_wp2
   go_ret
   exact⟨true,rfl,fun _=>⟨by simp [hb],hbx⟩,(fun h=>by cases h),hBe⟩
  ·go_wp2
   go_ret
   refine⟨false,rfl,(fun h=>by cases h),fun _=>?_,hBe⟩
   rw [Bg hi (f:=(f.1,f.2.1,true,f.2.2.2)) (by show f.2.1.length=0;omega) rfl];simp
 ·rw [hb] at k2
  have hp2:(W.setCell ⟨g,i*4+2,none⟩ (.bool true)).heap[p]?=some (.cells #[.slice A bn c,.slice (some ⟨g,0,none⟩) s.2.1.length c',.int .i64 s.2.2.1,.int .i64 s.2.2.2] 33 (0,0)):=(heap_setCell_other _ _ _ _ (by simpa using fun e=>hgp e.symm)).trans hp;have hF2:=hcel 2 (.bool true) (f.1,f.2.1,true,f.2.2.2) (by omega) rfl rfl;have hbx:=mQ (s:=s) (x:=s.2.2.1) (y:=s.2.2.2) (by omega) hS hnp hp2 (fun b hb=>heap_setCell_other _ _ _ _ (by
   have:=hS.dis b hb;simp;exact fun e=>this (.inl (by rw [e];rfl)))) hF2 (fun b hb=>.inl hb)
  have hBe:Below B w (W.setCell ⟨g,i*4+2,none⟩ (.bool true)):=hBW.setCell hgB _
  go_wp2
  go_ret
  exact⟨false,rfl,(fun h=>by cases h),(fun _=>by simp [hb]),hBe⟩
set_option maxHeartbeats 8000000 in
set_option maxRecDepth 1000000 in
theorem El (s:Sp) (hs:bH s) (hok:aD s=true) (i:Nat) (hi:i<s.2.1.length) (id:Int) (u:ByteArray) (n:Int) (hx:dm (4,id,u,n)=true) (w:World) (p B:Nat) (hbox:ko w p B s) (hpB:B≤p) :
  Calls Try.prog 95 #[.pointer (some ⟨p,0,none⟩),.int .i64 i,stV (4,id,u,n)] w (qU w p B (dk s i (4,id,u,n)) (fP s i (4,id,u,n))):=by
 obtain⟨hfm,hgc,_,hlost⟩:=bp hok;have hfi:=hfm i hi;obtain⟨A,bn,c,A',n',c',ys,hp0,hS0,hnp⟩:=hbox;obtain⟨fA,fc,efs⟩:=aW hS0.fms.own;cases efs;obtain⟨g,rfl⟩:=dQ hS0.fms.own (by omega);have hpl:=bd hp0;have hgl:=(hS0.lt g (.inr (.inl rfl))).2;have hgB:=(hS0.lt g (.inr (.inl rfl))).1;have hgp:g≠p:=fun e=>hnp (.inr (.inl (by rw [e];rfl)))
 have hW:=au w (.cells #[.int .i64 4,.int .i64 id,.string u,.int .i64 n] 46);have hBW:Below B w (w.alloc (.cells #[.int .i64 4,.int .i64 id,.string u,.int .i64 n] 46)):=(JR _ w).alloc (by omega) _;have hp:=Below.some hW hp0;have hS:=hS0.below hW;have hF:=hS.fms;have hq:(w.alloc (.cells #[.int .i64 4,.int .i64 id,.string u,.int .i64 n] 46)).heap[w.heap.size]?=some (.cells #[.int .i64 4,.int .i64 id,.string u,.int .i64 n] 46 (0,0)):=ae _ rfl;obtain⟨y,hy⟩:∃y,ys[i]?=some y:=⟨ys[i]'(by rw [hF.len];exact hi),Ji _⟩
 have hgx:s.2.1[i]?=some s.2.1[i]:=Ji hi;have hrow:=hF.row i _ y hgx hy;obtain⟨Ay,cy,rfl⟩:=cN hrow;rw [Jt] at hy hrow;have k1:=aJ hF.own (j:=i*4+1) (u:=.slice Ay s.2.1[i].2.1.length cy) (by rw [aN _ _ i s.2.1[i] _ hgx hy 1 (by omega)];rfl);have k2:=aJ hF.own (j:=i*4+2) (u:=.bool s.2.1[i].2.2.1) (by rw [aN _ _ i s.2.1[i] _ hgx hy 2 (by omega)];rfl);have k3:=aJ hF.own (j:=i*4+3) (u:=.int .i64 s.2.1[i].2.2.2) (by rw [aN _ _ i s.2.1[i] _ hgx hy 3 (by omega)];rfl);have z1:=bf hF.own (i*4+1);have z2:=bf hF.own (i*4+2);have z3:=bf hF.own (i*4+3);have haS:fP s i (4,id,u,n)=(s.1,s.2.1.set i (s.2.1[i].1,s.2.1[i].2.1,false,s.2.1[i].2.2.2),s.2.2.1,s.2.2.2):=by
  unfold fP;rw [hgx];simp
 have haO:dk s i (4,id,u,n)=s.2.1[i].2.2.1:=by
  unfold dk;rw [hgx];simp
 rw [haS,haO];have hcel:=fun(k:Nat) (v:Value) (x':Fm) hk hx hc=>cT hF hi hy (x':=x') (k:=k) (v:=v) hk hx hc
 have hpi:(i:Int)<(s.2.1.length:Int):=by omega
 have hset:=dI hfi;have hprt:=cb hfi;obtain⟨m0,m1,m2,m3⟩:=aa hp;obtain⟨n0,n1,n2,n3⟩:=aI hp;obtain⟨q0,q1,q2,q3⟩:=aa hq;obtain⟨f,hf⟩:∃f,f=s.2.1[i]:=⟨_,rfl⟩
 rw [←hf] at hfi hgx hrow hy k1 k2 k3 hset hprt hcel ⊢;have hwy:∀b,aH (.slice Ay f.2.1.length cy) b→b≠g:=fun b hb e=>(hF.blk i _ b hy hb).2 (by rw [e];rfl)
 have hWs:w.heap.size<(w.alloc (.cells #[.int .i64 4,.int .i64 id,.string u,.int .i64 n] 46)).heap.size:=by simp
 clear haS haO hf
 go_enter Try.func95,Try.ntmps95
 go_upto_region 1 with fail
 generalize (w.alloc (.cells #[.int .i64 4,.int .i64 id,.string u,.int .i64 n] 46))=W at *;cases hb:f.2.2.1
 ·rw [hb] at k2
  have hp2:(W.setCell ⟨g,i*4+2,none⟩ (.bool false)).heap[p]?=some (.cells #[.slice A bn c,.slice (some ⟨g,0,none⟩) s.2.1.length c',.int .i64 s.2.2.1,.int .i64 s.2.2.2] 33 (0,0)):=(heap_setCell_other _ _ _ _ (by simpa using fun e=>hgp e.symm)).trans hp;have hF2:=hcel 2 (.bool false) (f.1,f.2.1,false,f.2.2.2) (by omega) rfl rfl;have hbx:=mQ (s:=s) (x:=s.2.2.1) (y:=s.2.2.2) (by omega) hS hnp hp2 (fun b hb=>heap_setCell_other _ _ _ _ (by
   have:=hS.dis b hb;simp;exact fun e=>this (.inl (by rw [e];rfl)))) hF2 (fun b hb=>.inl hb)
  have hBe:Below B w (W.setCell ⟨g,i*4+2,none⟩ (.bool false)):=hBW.setCell hgB _
  go_wp2
  go_ret
  exact⟨false,rfl,(fun h=>by cases h),(fun _=>by simp [hb]),hBe⟩
 ·rw [hb] at k2
  have hp2:(W.setCell ⟨g,i*4+2,none⟩ (.bool false)).heap[p]?=some (.cells #[.slice A bn c,.slice (some ⟨g,0,none⟩) s.2.1.length c',.int .i64 s.2.2.1,.int .i64 s.2.2.2] 33 (0,0)):=(heap_setCell_other _ _ _ _ (by simpa using fun e=>hgp e.symm)).trans hp;have hF2:=hcel 2 (.bool false) (f.1,f.2.1,false,f.2.2.2) (by omega) rfl rfl;have hbx:=mQ (s:=s) (x:=s.2.2.1) (y:=s.2.2.2) (by omega) hS hnp hp2 (fun b hb=>heap_setCell_other _ _ _ _ (by
   have:=hS.dis b hb;simp;exact fun e=>this (.inl (by rw [e];rfl)))) hF2 (fun b hb=>.inl hb)
  have hBe:Below B w (W.setCell ⟨g,i*4+2,none⟩ (.bool false)):=hBW.setCell hgB _
  go_wp2
  go_ret
  exact⟨true,rfl,fun _=>⟨by simp [hb],hbx⟩,(fun h=>by cases h),hBe⟩
set_option maxHeartbeats 8000000 in
set_option maxRecDepth 1000000 in
theorem Ev (s:Sp) (hs:bH s) (hok:aD s=true) (i:Nat) (hi:i<s.2.1.length) (id:Int) (u:ByteArray) (n:Int) (hx:dm (3,id,u,n)=true) (w:World) (p B:Nat) (hbox:ko w p B s) (hpB:B≤p) :
  Calls Try.prog 95 #[.pointer (some ⟨p,0,none⟩),.int .i64 i,stV (3,id,u,n)] w (qU w p B (dk s i (3,id,u,n)) (fP s i (3,id,u,n))):=by
 obtain⟨hfm,hgc,_,hlost⟩:=bp hok;have hfi:=hfm i hi;obtain⟨A,bn,c,A',n',c',ys,hp0,hS0,hnp⟩:=hbox;obtain⟨fA,fc,efs⟩:=aW hS0.fms.own;cases efs;obtain⟨g,rfl⟩:=dQ hS0.fms.own (by omega);have hpl:=bd hp0;have hgl:=(hS0.lt g (.inr (.inl rfl))).2;have hgB:=(hS0.lt g (.inr (.inl rfl))).1;have hgp:g≠p:=fun e=>hnp (.inr (.inl (by rw [e];rfl)))
 have hW:=au w (.cells #[.int .i64 3,.int .i64 id,.string u,.int .i64 n] 46);have hBW:Below B w (w.alloc (.cells #[.int .i64 3,.int .i64 id,.string u,.int .i64 n] 46)):=(JR _ w).alloc (by omega) _;have hp:=Below.some hW hp0;have hS:=hS0.below hW;have hF:=hS.fms;have hq:(w.alloc (.cells #[.int .i64 3,.int .i64 id,.string u,.int .i64 n] 46)).heap[w.heap.size]?=some (.cells #[.int .i64 3,.int .i64 id,.string u,.int .i64 n] 46 (0,0)):=ae _ rfl;obtain⟨y,hy⟩:∃y,ys[i]?=some y:=⟨ys[i]'(by rw [hF.len];exact hi),Ji _⟩
 have hgx:s.2.1[i]?=some s.2.1[i]:=Ji hi;have hrow:=hF.row i _ y hgx hy;obtain⟨Ay,cy,rfl⟩:=cN hrow;rw [Jt] at hy hrow;have k1:=aJ hF.own (j:=i*4+1) (u:=.slice Ay s.2.1[i].2.1.length cy) (by rw [aN _ _ i s.2.1[i] _ hgx hy 1 (by omega)];rfl);have k2:=aJ hF.own (j:=i*4+2) (u:=.bool s.2.1[i].2.2.1) (by rw [aN _ _ i s.2.1[i] _ hgx hy 2 (by omega)];rfl);have k3:=aJ hF.own (j:=i*4+3) (u:=.int .i64 s.2.1[i].2.2.2) (by rw [aN _ _ i s.2.1[i] _ hgx hy 3 (by omega)];rfl);have z1:=bf hF.own (i*4+1);have z2:=bf hF.own (i*4+2);have z3:=bf hF.own (i*4+3);have haS:fP s i (3,id,u,n)=(s.1,s.2.1.set i (s.2.1[i].1,s.2.1[i].2.1,s.2.1[i].2.2.1,s.2.1[i].2.2.2+n),s.2.2.1,s.2.2.2+n):=by
  unfold fP;rw [hgx];simp
 have haO:dk s i (3,id,u,n)=s.2.1[i].2.2.1:=by
  unfold dk;rw [hgx];simp
 rw [haS,haO];have hcel:=fun(k:Nat) (v:Value) (x':Fm) hk hx hc=>cT hF hi hy (x':=x') (k:=k) (v:=v) hk hx hc
 have hpi:(i:Int)<(s.2.1.length:Int):=by omega
 have hset:=dI hfi;have hprt:=cb hfi;obtain⟨m0,m1,m2,m3⟩:=aa hp;obtain⟨n0,n1,n2,n3⟩:=aI hp;obtain⟨q0,q1,q2,q3⟩:=aa hq;obtain⟨f,hf⟩:∃f,f=s.2.1[i]:=⟨_,rfl⟩
 rw [←hf] at hfi hgx hrow hy k1 k2 k3 hset hprt hcel ⊢;have hwy:∀b,aH (.slice Ay f.2.1.length cy) b→b≠g:=fun b hb e=>(hF.blk i _ b hy hb).2 (by rw [e];rfl)
 have hWs:w.heap.size<(w.alloc (.cells #[.int .i64 3,.int .i64 id,.string u,.int .i64 n] 46)).heap.size:=by simp
 clear haS haO hf
 go_enter Try.func95,Try.ntmps95
 go_upto_region 1 with fail
 generalize (w.alloc (.cells #[.int .i64 3,.int .i64 id,.string u,.int .i64 n] 46))=W at *;have hn:=ya hx rfl;have hsh:=(ou hok)
 have hw1:Kb.wrap (f.2.2.2+n)=f.2.2.2+n:=ay (by simp only at hn;omega) (by simp only at hn;omega);have hw2:Kb.wrap (s.2.2.2+n)=s.2.2.2+n:=ay (by simp only at hn;omega) (by simp only at hn;omega);have hfe:s.2.1[i]=f:=Jj ((Ji hi).symm.trans hgx);cases hb:f.2.2.1
 ·rw [hb] at k2
  go_wp2
  go_still_tail 7,(by kernel_rfl)
  change wpList _ _ _ _ _ W.drew
  have hS1:ShopAt W.drew B _ _ _ ys s:=hS.keep fun _ _=>rfl
  have hp1:W.drew.heap[p]?=_:=hp;have hq1:W.drew.heap[w.heap.size]?=_:=hq;have hB1:Below B w W.drew:=bI hBW (ac W) (by omega);have hWs1:w.heap.size<W.drew.heap.size:=hWs;have k31:=aJ hS1.fms.own (j:=i*4+3) (u:=.int .i64 f.2.2.2) (by rw [aN _ _ i f _ hgx hy 3 (by omega)];rfl);have z31:=bf hS1.fms.own (i*4+3);have hF1:=cT hS1.fms hi hy (x':=(f.1,f.2.1,f.2.2.1,f.2.2.2+n)) (k:=3) (v:=.int .i64 (f.2.2.2+n)) (by omega) (by rw [hfe]) (by rw [hfe];rfl);generalize W.drew=W1 at *
  go_wp2
  have hp2:(W1.setCell ⟨g,i*4+3,none⟩ (.int .i64 (f.2.2.2+n))).heap[p]?=_:=(heap_setCell_other _ _ _ _ (by simpa using fun e=>hgp e.symm)).trans hp1;have hq2:(W1.setCell ⟨g,i*4+3,none⟩ (.int .i64 (f.2.2.2+n))).heap[w.heap.size]?=_:=(heap_setCell_other _ _ _ _ (by simp;omega)).trans hq1;have hB2:Below B w (W1.setCell ⟨g,i*4+3,none⟩ (.int .i64 (f.2.2.2+n))):=hB1.setCell hgB _;have hv2:∀b,aH (.slice A bn c) b→(W1.setCell ⟨g,i*4+3,none⟩ (.int .i64 (f.2.2.2+n))).heap[b]?=W1.heap[b]?:=fun b hb=>heap_setCell_other _ _ _ _ (by
   have:=hS1.dis b hb;simp;exact fun e=>this (.inl (by rw [e];rfl)))
  have hW2:w.heap.size<(W1.setCell ⟨g,i*4+3,none⟩ (.int .i64 (f.2.2.2+n))).heap.size:=by simp [JB];exact hWs1
  generalize W1.setCell ⟨g,i*4+3,none⟩ (.int .i64 (f.2.2.2+n))=W2 at *;obtain⟨a0,a1,a2,a3⟩:=aa hp2;obtain⟨b0,b1,b2,b3⟩:=aa hq2
  go_still_tail 7,(by kernel_rfl)
  change wpList _ _ _ _ _ W2.drew
  have hp3:W2.drew.heap[p]?=_:=hp2;have hB3:Below B w W2.drew:=bI hB2 (ac W2) (by omega);have hF3:FmsAt W2.drew B _ ys _:=hF1.keep fun _ _=>rfl
  have hv3:∀b,aH (.slice A bn c) b→W2.drew.heap[b]?=W1.heap[b]?:=hv2;generalize W2.drew=W3 at *;obtain⟨c0,c1,c2,c3⟩:=aa hp3;obtain⟨d0,d1,d2,d3⟩:=aI hp3;have hp4:(W3.setCell ⟨p,3,none⟩ (.int .i64 (s.2.2.2+n))).heap[p]?=some (.cells #[.slice A bn c,.slice (some ⟨g,0,none⟩) s.2.1.length c',.int .i64 s.2.2.1,.int .i64 (s.2.2.2+n)] 33 (0,0)):=heap_setCell_same _ _ 3 _ _ (.int .i64 (s.2.2.2+n)) hp3;have hbx:=mQ (w':=W3.setCell ⟨p,3,none⟩ (.int .i64 (s.2.2.2+n))) (s:=s) (x:=s.2.2.1) (y:=s.2.2.2+n) (by omega) hS1 hnp hp4 (fun b hb=>(heap_setCell_other _ _ _ _ (by
   simp;exact fun e=>hnp (.inl (e ▸ hb)))).trans (hv3 b hb)) (hF3.keep fun b hb=>heap_setCell_other _ _ _ _ (by
   simp;exact fun e=>hnp (.inr (e ▸ hb)))) (fun b hb=>.inl hb)
  have hBe:Below B w (W3.setCell ⟨p,3,none⟩ (.int .i64 (s.2.2.2+n))):=hB3.setCell hpB _
  go_wp2
  go_ret
  exact⟨false,rfl,(fun h=>by cases h),(fun _=>by simp [hb]),hBe⟩
 ·rw [hb] at k2
  go_wp2
  go_still_tail 7,(by kernel_rfl)
  change wpList _ _ _ _ _ W.drew
  have hS1:ShopAt W.drew B _ _ _ ys s:=hS.keep fun _ _=>rfl
  have hp1:W.drew.heap[p]?=_:=hp;have hq1:W.drew.heap[w.heap.size]?=_:=hq;have hB1:Below B w W.drew:=bI hBW (ac W) (by omega);have hWs1:w.heap.size<W.drew.heap.size:=hWs;have k31:=aJ hS1.fms.own (j:=i*4+3) (u:=.int .i64 f.2.2.2) (by rw [aN _ _ i f _ hgx hy 3 (by omega)];rfl);have z31:=bf hS1.fms.own (i*4+3);have hF1:=cT hS1.fms hi hy (x':=(f.1,f.2.1,f.2.2.1,f.2.2.2+n)) (k:=3) (v:=.int .i64 (f.2.2.2+n)) (by omega) (by rw [hfe]) (by rw [hfe];rfl);generalize W.drew=W1 at *
  go_wp2
  have hp2:(W1.setCell ⟨g,i*4+3,none⟩ (.int .i64 (f.2.2.2+n))).heap[p]?=_:=(heap_setCell_other _ _ _ _ (by simpa using fun e=>hgp e.symm)).trans hp1;have hq2:(W1.setCell ⟨g,i*4+3,none⟩ (.int .i64 (f.2.2.2+n))).heap[w.heap.size]?=_:=(heap_setCell_other _ _ _ _ (by simp;omega)).trans hq1;have hB2:Below B w (W1.setCell ⟨g,i*4+3,none⟩ (.int .i64 (f.2.2.2+n))):=hB1.setCell hgB _;have hv2:∀b,aH (.slice A bn c) b→(W1.setCell ⟨g,i*4+3,none⟩ (.int .i64 (f.2.2.2+n))).heap[b]?=W1.heap[b]?:=fun b hb=>heap_setCell_other _ _ _ _ (by
   have:=hS1.dis b hb;simp;exact fun e=>this (.inl (by rw [e];rfl)))
  have hW2:w.heap.size<(W1.setCell ⟨g,i*4+3,none⟩ (.int .i64 (f.2.2.2+n))).heap.size:=by simp [JB];exact hWs1
  generalize W1.setCell ⟨g,i*4+3,none⟩ (.int .i64 (f.2.2.2+n))=W2 at *;obtain⟨a0,a1,a2,a3⟩:=aa hp2;obtain⟨b0,b1,b2,b3⟩:=aa hq2
  go_still_tail 7,(by kernel_rfl)
  change wpList _ _ _ _ _ W2.drew
  have hp3:W2.drew.heap[p]?=_:=hp2;have hB3:Below B w W2.drew:=bI hB2 (ac W2) (by omega);have hF3:FmsAt W2.drew B _ ys _:=hF1.keep fun _ _=>rfl
  have hv3:∀b,aH (.slice A bn c) b→W2.drew.heap[b]?=W1.heap[b]?:=hv2;generalize W2.drew=W3 at *;obtain⟨c0,c1,c2,c3⟩:=aa hp3;obtain⟨d0,d1,d2,d3⟩:=aI hp3;have hp4:(W3.setCell ⟨p,3,none⟩ (.int .i64 (s.2.2.2+n))).heap[p]?=some (.cells #[.slice A bn c,.slice (some ⟨g,0,none⟩) s.2.1.length c',.int .i64 s.2.2.1,.int .i64 (s.2.2.2+n)] 33 (0,0)):=heap_setCell_same _ _ 3 _ _ (.int .i64 (s.2.2.2+n)) hp3;have hbx:=mQ (w':=W3.setCell ⟨p,3,none⟩ (.int .i64 (s.2.2.2+n))) (s:=s) (x:=s.2.2.1) (y:=s.2.2.2+n) (by omega) hS1 hnp hp4 (fun b hb=>(heap_setCell_other _ _ _ _ (by
   simp;exact fun e=>hnp (.inl (e ▸ hb)))).trans (hv3 b hb)) (hF3.keep fun b hb=>heap_setCell_other _ _ _ _ (by
   simp;exact fun e=>hnp (.inr (e ▸ hb)))) (fun b hb=>.inl hb)
  have hBe:Below B w (W3.setCell ⟨p,3,none⟩ (.int .i64 (s.2.2.2+n))):=hB3.setCell hpB _
  go_wp2
  go_ret
  exact⟨true,rfl,fun _=>⟨hb,hbx⟩,(fun h=>by cases h),hBe⟩
set_option maxRecDepth 100000
theorem jm {w:World} {B:Nat} {V:Value} {l:List Fm} {ys:List Value} (h:FmsAt w B V ys l) (k:Nat):(∀(i:Nat) (x:Fm) (y:Value),(l.drop k)[i]?=some x→(ys.drop k)[i]?=some y→bv w (fun _=>False) (aH y) 1 (txs x.2.1) y) ∧
  (∀(i:Nat) (y:Value) (b:Nat),(ys.drop k)[i]?=some y→aH y b→B≤b∧b<w.heap.size∧V.ownBlock≠some b∧∀j,j≤k→∀z∈ys.take j,¬aH z b) ∧
  (∀(i j:Nat) (y z:Value),i≠j→(ys.drop k)[i]?=some y→(ys.drop k)[j]?=some z→y.ownBlock=none∨y.ownBlock≠z.ownBlock):=by
 simp only [List.getElem?_drop];refine⟨fun i x y hx hy=>h.row _ x y hx hy,fun i y b hy hb=>?_,fun i j y z hij hy hz=>h.dis _ _ y z (by omega) hy hz⟩
 obtain⟨h1,h2⟩:=h.blk _ y b hy hb;refine⟨h1,(h.lt b (.inr ⟨y,JW hy,hb⟩)).2,h2,fun j hj z hz hzb=>?_⟩
 obtain⟨m,hm⟩:=Kl.1 hz;have hmj:m<j:=by
  have:=(Jr.1 hm).1;rw [Jo] at this;omega
 rw [Jx,if_pos hmj] at hm;rcases h.dis m (k+i) z y (by omega) hm hy with e | e
 ·rw [aH,e] at hzb
  cases hzb
 ·exact e (hzb.trans hb.symm)
theorem kK {w:World} {B g n c:Nat} {l:List Fm} {ys:List Value} (h:FmsAt w B (.slice (some ⟨g,0,none⟩) n c) ys l):l.length≤c∧c≤9223372036854775807:=by
 obtain⟨_,⟨e,_⟩ | ⟨g',cap,cur,e,_,_,h3,h4,_⟩⟩:=h.own
 ·cases e
 ·cases e
  exact⟨h3,h4⟩
set_option maxHeartbeats 8000000 in
set_option maxRecDepth 1000000 in
theorem EU (s:Sp) (hs:bH s) (hok:aD s=true) (i:Nat) (hi:i<s.2.1.length) (id:Int) (u:ByteArray) (n:Int) (hx:dm (5,id,u,n)=true) (w:World) (p B:Nat) (hbox:ko w p B s) (hpB:B≤p) :
  Calls Try.prog 95 #[.pointer (some ⟨p,0,none⟩),.int .i64 i,stV (5,id,u,n)] w (qU w p B (dk s i (5,id,u,n)) (fP s i (5,id,u,n))):=by
 obtain⟨hfm,hgc,_,hlost⟩:=bp hok;have hfi:=hfm i hi;obtain⟨A,bn,c,A',n',c',ys,hp0,hS0,hnp⟩:=hbox;obtain⟨fA,fc,efs⟩:=aW hS0.fms.own;cases efs;obtain⟨g,rfl⟩:=dQ hS0.fms.own (by omega);have hpl:=bd hp0;have hgl:=(hS0.lt g (.inr (.inl rfl))).2;have hgB:=(hS0.lt g (.inr (.inl rfl))).1;have hgp:g≠p:=fun e=>hnp (.inr (.inl (by rw [e];rfl)))
 have hW:=au w (.cells #[.int .i64 5,.int .i64 id,.string u,.int .i64 n] 46);have hBW:Below B w (w.alloc (.cells #[.int .i64 5,.int .i64 id,.string u,.int .i64 n] 46)):=(JR _ w).alloc (by omega) _;have hp:=Below.some hW hp0;have hS:=hS0.below hW;have hF:=hS.fms;have hq:(w.alloc (.cells #[.int .i64 5,.int .i64 id,.string u,.int .i64 n] 46)).heap[w.heap.size]?=some (.cells #[.int .i64 5,.int .i64 id,.string u,.int .i64 n] 46 (0,0)):=ae _ rfl;obtain⟨y,hy⟩:∃y,ys[i]?=some y:=⟨ys[i]'(by rw [hF.len];exact hi),Ji _⟩
 have hgx:s.2.1[i]?=some s.2.1[i]:=Ji hi;have hrow:=hF.row i _ y hgx hy;obtain⟨Ay,cy,rfl⟩:=cN hrow;rw [Jt] at hy hrow;have k1:=aJ hF.own (j:=i*4+1) (u:=.slice Ay s.2.1[i].2.1.length cy) (by rw [aN _ _ i s.2.1[i] _ hgx hy 1 (by omega)];rfl);have k2:=aJ hF.own (j:=i*4+2) (u:=.bool s.2.1[i].2.2.1) (by rw [aN _ _ i s.2.1[i] _ hgx hy 2 (by omega)];rfl);have k3:=aJ hF.own (j:=i*4+3) (u:=.int .i64 s.2.1[i].2.2.2) (by rw [aN _ _ i s.2.1[i] _ hgx hy 3 (by omega)];rfl);have z1:=bf hF.own (i*4+1);have z2:=bf hF.own (i*4+2);have z3:=bf hF.own (i*4+3);have haS:fP s i (5,id,u,n)=(s.1,s.2.1.set i (s.2.1[i].1,s.2.1[i].2.1.take (s.2.1[i].2.1.length - 1),s.2.1[i].2.2.1,s.2.1[i].2.2.2),s.2.2.1+1,s.2.2.2):=by
  unfold fP;rw [hgx];simp
 have haO:dk s i (5,id,u,n)=(!s.2.1[i].2.2.1 && !decide (s.2.1[i].2.1.length=0)):=by
  unfold dk;rw [hgx];simp
 rw [haS,haO];have hcel:=fun(k:Nat) (v:Value) (x':Fm) hk hx hc=>cT hF hi hy (x':=x') (k:=k) (v:=v) hk hx hc
 have hpi:(i:Int)<(s.2.1.length:Int):=by omega
 have hset:=dI hfi;have hprt:=cb hfi;obtain⟨m0,m1,m2,m3⟩:=aa hp;obtain⟨n0,n1,n2,n3⟩:=aI hp;obtain⟨q0,q1,q2,q3⟩:=aa hq;obtain⟨f,hf⟩:∃f,f=s.2.1[i]:=⟨_,rfl⟩
 rw [←hf] at hfi hgx hrow hy k1 k2 k3 hset hprt hcel ⊢;have hwy:∀b,aH (.slice Ay f.2.1.length cy) b→b≠g:=fun b hb e=>(hF.blk i _ b hy hb).2 (by rw [e];rfl)
 have hWs:w.heap.size<(w.alloc (.cells #[.int .i64 5,.int .i64 id,.string u,.int .i64 n] 46)).heap.size:=by simp
 clear haS haO hf
 go_enter Try.func95,Try.ntmps95
 go_upto_region 1 with fail
 generalize (w.alloc (.cells #[.int .i64 5,.int .i64 id,.string u,.int .i64 n] 46))=W at *;have hfe:s.2.1[i]=f:=Jj ((Ji hi).symm.trans hgx);by_cases hm:f.2.1.length=0
 ·go_wp2
  go_ret
  exact⟨false,rfl,(fun h=>by cases h),(fun _=>by simp [hm]),hBW⟩
 obtain⟨gy,oy,rfl,-,hlc⟩:=An hrow (by simp;omega);rw [Jt] at hlc;have hwm:Kb.wrap ((f.2.1.length:Int) - 1)=((f.2.1.length - 1:Nat):Int):=by rw [ay (by omega) (by omega)];omega
 have hwl:Kb.wrap (s.2.2.1+1)=s.2.2.1+1:=ay (by omega) (by omega);have hb1:(0:Int)≤((f.2.1.length - 1:Nat):Int):=by omega
 have hb2:((f.2.1.length - 1:Nat):Int)≤(cy:Int):=by omega
 have hrow':=zN (i:=f.2.1.length - 1) hrow (by simp) (by simp;omega);rw [←List.map_take] at hrow';have hwg:∀b,b≠g→(W.setCell ⟨g,i*4+1,none⟩ (.slice (some ⟨gy,oy,none⟩) (f.2.1.length - 1) cy)).heap[b]?=W.heap[b]?:=fun b hb=>heap_setCell_other _ _ _ _ (by simpa using hb)
 have hgyb:∀b,aH (.slice (some ⟨gy,oy,none⟩) (f.2.1.length - 1) cy) b→aH (.slice (some ⟨gy,oy,none⟩) f.2.1.length cy) b:=fun b hb=>hb
 have hF1:=lI (w':=W.setCell ⟨g,i*4+1,none⟩ (.slice (some ⟨gy,oy,none⟩) (f.2.1.length - 1) cy)) (x:=(f.1,f.2.1.take (f.2.1.length - 1),f.2.2.1,f.2.2.2)) (y:=.slice (some ⟨gy,oy,none⟩) (f.2.1.length - 1) cy) hF hi (ba hrow' fun b hb=>hwg b (hwy b (hgyb b hb))) (fun b hb=>⟨(hF.blk i _ b hy (hgyb b hb)).1,hwy b (hgyb b hb)⟩)
  (fun j z hj hz=>by have:=hF.dis i j _ z (fun e=>hj e.symm) hy hz;exact this) (fun j z b hj hz hb=>hwg b fun e=>(hF.blk j z b hz hb).2 (by rw [e];rfl))
  (by rw [iT s.2.1 ys i f (f.1,f.2.1.take (f.2.1.length - 1),f.2.2.1,f.2.2.2) _ _ (.slice (some ⟨gy,oy,none⟩) (f.2.1.length - 1) cy) 1 (by omega) hgx hy rfl];exact jn hF.own rfl _ _)
 have hp1:(W.setCell ⟨g,i*4+1,none⟩ (.slice (some ⟨gy,oy,none⟩) (f.2.1.length - 1) cy)).heap[p]?=_:=(hwg p (fun e=>hgp e.symm)).trans hp;have hB1:Below B w (W.setCell ⟨g,i*4+1,none⟩ (.slice (some ⟨gy,oy,none⟩) (f.2.1.length - 1) cy)):=hBW.setCell hgB _;have hv1:∀b,aH (.slice A bn c) b→(W.setCell ⟨g,i*4+1,none⟩ (.slice (some ⟨gy,oy,none⟩) (f.2.1.length - 1) cy)).heap[b]?=W.heap[b]?:=fun b hb=>hwg b fun e=>hS.dis b hb (.inl (by rw [e];rfl))
 obtain⟨a0,a1,a2,a3⟩:=aa hp1;obtain⟨b0,b1,b2,b3⟩:=aI hp1;have hp4:((W.setCell ⟨g,i*4+1,none⟩ (.slice (some ⟨gy,oy,none⟩) (f.2.1.length - 1) cy)).setCell ⟨p,2,none⟩ (.int .i64 (s.2.2.1+1))).heap[p]?=some (.cells #[.slice A bn c,.slice (some ⟨g,0,none⟩) s.2.1.length c',.int .i64 (s.2.2.1+1),.int .i64 s.2.2.2] 33 (0,0)):=heap_setCell_same _ _ 2 _ _ (.int .i64 (s.2.2.1+1)) hp1;have hfo:∀b,FmS (.slice (some ⟨g,0,none⟩) s.2.1.length c') (ys.set i (.slice (some ⟨gy,oy,none⟩) (f.2.1.length - 1) cy)) b→FmS (.slice (some ⟨g,0,none⟩) s.2.1.length c') ys b:=fun b hb=>by
  rcases hb with hb | ⟨y,hy',hb⟩
  ·exact .inl hb
  ·rcases List.mem_or_eq_of_mem_set hy' with h | rfl
   ·exact .inr ⟨y,h,hb⟩
   ·exact .inr ⟨_,JW hy,hgyb b hb⟩
 have hbx:=mQ (w':=(W.setCell ⟨g,i*4+1,none⟩ (.slice (some ⟨gy,oy,none⟩) (f.2.1.length - 1) cy)).setCell ⟨p,2,none⟩ (.int .i64 (s.2.2.1+1))) (s:=s) (x:=s.2.2.1+1) (y:=s.2.2.2) (by omega) hS hnp hp4 (fun b hb=>(heap_setCell_other _ _ _ _ (by
   simp;exact fun e=>hnp (.inl (e ▸ hb)))).trans (hv1 b hb)) (hF1.keep fun b hb=>heap_setCell_other _ _ _ _ (by
   simp;exact fun e=>hnp (.inr (hfo p (e ▸ hb))))) (fun b hb=>.inl (hfo b hb))
 have hBe:Below B w ((W.setCell ⟨g,i*4+1,none⟩ (.slice (some ⟨gy,oy,none⟩) (f.2.1.length - 1) cy)).setCell ⟨p,2,none⟩ (.int .i64 (s.2.2.1+1))):=hB1.setCell hpB _;cases hb:f.2.2.1
 ·rw [hb] at k2
  go_wp2
  go_ret
  exact⟨true,rfl,fun _=>⟨by simp [hb,hm],hbx⟩,(fun h=>by cases h),hBe⟩
 ·rw [hb] at k2
  go_wp2
  go_ret
  exact⟨false,rfl,(fun h=>by cases h),(fun _=>by simp [hb]),hBe⟩
set_option maxHeartbeats 8000000 in
set_option maxRecDepth 1000000 in
theorem EE (s:Sp) (hs:bH s) (hok:aD s=true) (i:Nat) (hi:i<s.2.1.length) (id:Int) (u:ByteArray) (n:Int) (hx:dm (6,id,u,n)=true) (w:World) (p B:Nat) (hbox:ko w p B s) (hpB:B≤p) :
    Calls Try.prog 95 #[.pointer (some ⟨p,0,none⟩),.int .i64 i,stV (6,id,u,n)] w (qU w p B (dk s i (6,id,u,n)) (fP s i (6,id,u,n))):=by
  obtain⟨hfm,hgc,_,hlost⟩:=bp hok;have hfi:=hfm i hi;obtain⟨A,bn,c,A',n',c',ys,hp0,hS0,hnp⟩:=hbox;obtain⟨fA,fc,efs⟩:=aW hS0.fms.own;cases efs;obtain⟨g,rfl⟩:=dQ hS0.fms.own (by omega);have hpl:=bd hp0;have hgl:=(hS0.lt g (.inr (.inl rfl))).2;have hgB:=(hS0.lt g (.inr (.inl rfl))).1;have hgp:g≠p:=fun e=>hnp (.inr (.inl (by rw [e];rfl)))
  have hW:=au w (.cells #[.int .i64 6,.int .i64 id,.string u,.int .i64 n] 46);have hBW:Below B w (w.alloc (.cells #[.int .i64 6,.int .i64 id,.string u,.int .i64 n] 46)):=(JR _ w).alloc (by omega) _;have hp:=Below.some hW hp0;have hS:=hS0.below hW;have hF:=hS.fms;have hq:(w.alloc (.cells #[.int .i64 6,.int .i64 id,.string u,.int .i64 n] 46)).heap[w.heap.size]?=some (.cells #[.int .i64 6,.int .i64 id,.string u,.int .i64 n] 46 (0,0)):=ae _ rfl;obtain⟨y,hy⟩:∃y,ys[i]?=some y:=⟨ys[i]'(by rw [hF.len];exact hi),Ji _⟩
  have hgx:s.2.1[i]?=some s.2.1[i]:=Ji hi;have hrow:=hF.row i _ y hgx hy;obtain⟨Ay,cy,rfl⟩:=cN hrow;rw [Jt] at hy hrow;have k1:=aJ hF.own (j:=i*4+1) (u:=.slice Ay s.2.1[i].2.1.length cy) (by rw [aN _ _ i s.2.1[i] _ hgx hy 1 (by omega)];rfl);have k2:=aJ hF.own (j:=i*4+2) (u:=.bool s.2.1[i].2.2.1) (by rw [aN _ _ i s.2.1[i] _ hgx hy 2 (by omega)];rfl);have k3:=aJ hF.own (j:=i*4+3) (u:=.int .i64 s.2.1[i].2.2.2) (by rw [aN _ _ i s.2.1[i] _ hgx hy 3 (by omega)];rfl);have z1:=bf hF.own (i*4+1);have z2:=bf hF.own (i*4+2);have z3:=bf hF.own (i*4+3);have haS:fP s i (6,id,u,n)=(bj (aL s.1) 1 s.1 s.2.1[i].2.1,s.2.1.take i++s.2.1.drop (i+1),s.2.2.1,s.2.2.2):=by
    unfold fP;rw [hgx];simp
  have haO:dk s i (6,id,u,n)=(!s.2.1[i].2.2.1&&bg (bj (aL s.1) 1 s.1 s.2.1[i].2.1)):=by
    unfold dk;rw [hgx];simp
  rw [haS,haO];have hcel:=fun(k:Nat) (v:Value) (x':Fm) hk hx hc=>cT hF hi hy (x':=x') (k:=k) (v:=v) hk hx hc
  have hpi:(i:Int)<(s.2.1.length:Int):=by omega
  have hset:=dI hfi;have hprt:=cb hfi;obtain⟨m0,m1,m2,m3⟩:=aa hp;obtain⟨n0,n1,n2,n3⟩:=aI hp;obtain⟨q0,q1,q2,q3⟩:=aa hq;obtain⟨f,hf⟩:∃f,f=s.2.1[i]:=⟨_,rfl⟩
  rw [←hf] at hfi hgx hrow hy k1 k2 k3 hset hprt hcel ⊢;have hwy:∀b,aH (.slice Ay f.2.1.length cy) b→b≠g:=fun b hb e=>(hF.blk i _ b hy hb).2 (by rw [e];rfl)
  have hWs:w.heap.size<(w.alloc (.cells #[.int .i64 6,.int .i64 id,.string u,.int .i64 n] 46)).heap.size:=by simp
  clear haS haO hf
  go_enter Try.func95,Try.ntmps95
  go_upto_region 1 with fail
  generalize (w.alloc (.cells #[.int .i64 6,.int .i64 id,.string u,.int .i64 n] 46))=W at *;have hfe:s.2.1[i]=f:=Jj ((Ji hi).symm.trans hgx);have hin:=yN hfi
  go_wp2
  have hpd:=Below.some (ac W) hp;have hSd:=hS.below (ac W);have k1d:W.drew.cell? ⟨g,i*4+1,none⟩=some (.slice Ay f.2.1.length cy):=k1;obtain⟨e0,e1,e2,e3⟩:=aa hpd;have hrowd:=bv.below hrow (ac W);have hc:=wH s.1 f.2.1 hs.1 (by omega) hgc hin (eY hSd.box) (dc hSd.box) (eY hrowd) (dc hrowd)
  go_region_held3 (fun w'=>w'.cell? ⟨p,0,none⟩=some (.slice A bn c)∧w'.cell? ⟨g,i*4+1,none⟩=some (.slice Ay f.2.1.length cy)) (first | (refine⟨?_,?_⟩<;>assumption) | go_keep)
    (first
      | (go_at_call 51;refine hc.mono ?_;intro e w6 hout;obtain⟨A6,n6,c6,rfl,own6,hv6,b6⟩:=hout;have hp6:=Below.some b6 hpd;have hS6:=hSd.below b6;obtain⟨r0,r1,r2,r3⟩:=aa hp6;have k16:=aJ hS6.fms.own (j:=i*4+1) (u:=.slice Ay f.2.1.length cy) (by rw [aN _ _ i f _ hgx hy 1 (by omega)];rfl))
      | fail)
  obtain⟨fr0,fr1,fr2,fr3⟩:=aI hp6;have B6:Below B w w6:=(hBW.trans ((ac W).mono (by omega))).trans (b6.mono (by show B≤W.heap.size;omega));have hs6:W.heap.size≤w6.heap.size:=b6.size;have hp7:(w6.setCell ⟨p,0,none⟩ (.slice A6 n6 c6)).heap[p]?=some (.cells #[.slice A6 n6 c6,.slice (some ⟨g,0,none⟩) s.2.1.length c',.int .i64 s.2.2.1,.int .i64 s.2.2.2] 33 (0,0)):=heap_setCell_same _ _ 0 _ _ (.slice A6 n6 c6) hp6;have hF7:=hS6.fms.keep (w':=w6.setCell ⟨p,0,none⟩ (.slice A6 n6 c6)) fun b hb=>heap_setCell_other _ _ _ _ (by simp;exact fun e=>hnp (.inr (e ▸ hb)))
  have hv6':∀b,aH (.slice A6 n6 c6) b→W.heap.size≤b:=fun b hb=>(hv6 b hb).1
  have own7:=ba (w':=w6.setCell ⟨p,0,none⟩ (.slice A6 n6 c6)) own6 fun b hb=>heap_setCell_other _ _ _ _ (by have:=hv6' b hb;simp;omega)
  have B7:Below B w (w6.setCell ⟨p,0,none⟩ (.slice A6 n6 c6)):=B6.setCell hpB _;have hs7:W.heap.size≤(w6.setCell ⟨p,0,none⟩ (.slice A6 n6 c6)).heap.size:=by simp [JB];exact hs6
  have hFlt:=hS.fms.lt;clear hcel hS0 hp0 k1 k2 k3 z1 z2 z3 m0 m1 m2 m3 n0 n1 n2 n3 q0 q1 q2 q3 hq e0 e1 e2 e3 hc r0 r1 r2 r3 k16 k1d hSd hpd hrowd b6 B6 hs6 hS6;have hs7':=hs7
  go_wp2
  generalize w6.setCell ⟨p,0,none⟩ (.slice A6 n6 c6)=W7 at *;have hp8:=Below.some (ac W7) hp7;have hF8:FmsAt W7.drew B (.slice (some ⟨g,0,none⟩) s.2.1.length c') ys s.2.1:=hF7.keep fun _ _=>rfl
  obtain⟨a0,a1,a2,a3⟩:=aa hp8;have hb1:(0:Int)≤(i:Int):=by omega
  have hcp:=kK hF8;have hb2:(i:Int)≤(c':Int):=by omega
  have hw1:Kb.wrap ((i:Int)+1)=(i:Int)+1:=ay (by omega) (by omega);have hb3:(0:Int)≤(i:Int)+1:=by omega
  have hb4:(i:Int)+1≤(s.2.1.length:Int):=by omega
  have hb5:((i:Int)+1).toNat=i+1:=by omega
  obtain⟨i2,hi2,hx0,hx1,hx2⟩:=info_parts fE;have hpre:=BQ hF8 (i:=i) (by omega)
  go_region_law (first
    | (refine ai _ rfl _ _ 31 rfl B 75 i2 (.agg #[.int .i64 0,.slice none 0 0,.bool false,.int .i64 0]) 4 48 Try.underlying31 hi2 hx0 hx1 hx2 rfl (by decide) (.slice (some ⟨g,0,none⟩) i c') _ _ (by simp [go_sem];done) hpre.own (if c'=i+1 then some ⟨g,0,none⟩ else some ⟨g,(i+1)*4,none⟩) (s.2.1.length - (i+1)) (c' - (i+1)) (bu (s.2.1.drop (i+1)) (ys.drop (i+1))) (by simp [go_sem,sliced];done) (by rw [ch _ _ (by simp [hF8.len]),Ku]) (fun h0=>⟨g,(i+1)*4,by rw [if_neg (by omega)],gJ hF8 (i+1) (by omega)⟩) (cL _ _ fun y hy=>dB hF8 y (JX hy)) (by unfold maxLen;simp;omega) (by simp;omega) (show B≤W7.heap.size from JQ (JQ hpB (Nat.le_of_lt hpl)) B7.size) ?_
       intro v1 w8 hown1 hg1 hat1;obtain⟨A8,n8,c8,rfl⟩:=ax hown1;have hp9:=(hg1.block p (JP hpl B7.size) (fun e=>hgp (Jj e).symm)).trans hp8;obtain⟨x0,x1,x2,x3⟩:=aa hp9;obtain⟨y0,y1,y2,y3⟩:=aI hp9)
    | fail)
  all_goals (
    have hd:=jm hF8 (i+1);have hF9:=bR hpre (m:=s.2.1.drop (i+1)) (zs:=ys.drop (i+1)) (JQ (JQ hpB (Nat.le_of_lt hpl)) B7.size) (by rw [Ku];exact hown1) hg1 hat1 (by simp [hF8.len]) hd.1 (fun j y b hj hb=>by
      obtain⟨h1,h2,h3,h4⟩:=hd.2.1 j y b hj hb;exact⟨h1,h2,fun h=>h.elim (fun h=>h3 h) fun⟨z,hz,hzb⟩=>h4 i (by omega) z hz hzb⟩) hd.2.2
    have hS7:W7.drew.heap.size=W7.heap.size:=rfl;have hsz1:=hg1.size;have hfo:∀b,FmS (.slice A8 n8 c8) (ys.take i++ys.drop (i+1)) b→FmS (.slice (some ⟨g,0,none⟩) s.2.1.length c') ys b∨W7.heap.size≤b:=fun b hb=>by
      rcases hb with hb | ⟨z,hz,hzb⟩
      · rcases hat1 with h | h
        · exact .inl (.inl (hb.symm.trans h).symm)
        · have:some b=some W7.heap.size:=hb.symm.trans h
          exact .inr (by cases this;exact Ka _)
      · rcases Ki.1 hz with hz | hz
        · exact .inl (.inr ⟨z,JV hz,hzb⟩)
        · exact .inl (.inr ⟨z,JX hz,hzb⟩)
    have hp10:(w8.setCell ⟨p,1,none⟩ (.slice A8 n8 c8)).heap[p]?=some (.cells #[.slice A6 n6 c6,.slice A8 n8 c8,.int .i64 s.2.2.1,.int .i64 s.2.2.2] 33 (0,0)):=heap_setCell_same _ _ 1 _ _ (.slice A8 n8 c8) hp9;have hWW:W.heap.size≤W7.heap.size:=hs7';have h6g:∀b,aH (.slice A6 n6 c6) b→b≠g∧b<W7.heap.size∧W.heap.size≤b:=fun b hb=>⟨by have:=hv6' b hb;omega,dc own7 b hb,hv6' b hb⟩
    have own9:=ba (w':=w8.setCell ⟨p,1,none⟩ (.slice A8 n8 c8)) own7 fun b hb=>by
      obtain⟨h1,h2,h3⟩:=h6g b hb;rw [heap_setCell_other _ _ _ _ (by simp;omega)];exact hg1.block b h2 fun e=>h1 (Jj e)
    have hpF:¬FmS (.slice A8 n8 c8) (ys.take i++ys.drop (i+1)) p:=fun h=>(hfo p h).elim (fun h=>hnp (.inr h)) fun h=>by have:=B7.size;omega
    have hF10:=hF9.keep (w':=w8.setCell ⟨p,1,none⟩ (.slice A8 n8 c8)) fun b hb=>heap_setCell_other _ _ _ _ (by simp;exact fun e=>hpF (e ▸ hb))
    have hbx:ko (w8.setCell ⟨p,1,none⟩ (.slice A8 n8 c8)) p B (mvd s.1 f.2.1 1,s.2.1.take i++s.2.1.drop (i+1),s.2.2.1,s.2.2.2) :=
      ⟨_,_,_,_,_,_,_,hp10,⟨rfl,own9,fun b hb=>by have:=(h6g b hb).2.2;omega,hF10,fun b hb h=>(hfo b h).elim (fun h=>by have:=(hFlt b h).2;have:=(h6g b hb).2.2;omega) fun h=>by have:=(h6g b hb).2.1;omega⟩,fun h=>h.elim (fun h=>by have:=(h6g p h).2.2;omega) hpF⟩
    have hBe:Below B w (w8.setCell ⟨p,1,none⟩ (.slice A8 n8 c8)):=((bI B7 (ac W7) (by have:=B7.size;omega)).grown hg1 (by rw [hS7];have:=B7.size;omega) (fun k hk=>by have:g=k:=Jj hk;omega)).setCell hpB _;clear hat1 hfo;cases hgo:bg (bj (aL s.1) 1 s.1 f.2.1)
    · go_wp2
      all_goals (go_ret;exact⟨false,rfl,(fun h=>by cases h),(fun _=>by simp),hBe⟩)
    · have em:mvd s.1 f.2.1 1=bj (aL s.1) 1 s.1 f.2.1:=by
        unfold mvd;rw [if_pos hgo]
      rw [em] at hbx;cases hb:f.2.2.1
      · go_wp2
        all_goals (go_ret;exact⟨true,rfl,fun _=>⟨by simp,hbx⟩,(fun h=>by cases h),hBe⟩)
      · go_wp2
        all_goals (go_ret;exact⟨false,rfl,(fun h=>by cases h),(fun _=>by simp),hBe⟩))
set_option maxRecDepth 100000
theorem Ip:TOk Try.prog 73 lp:=uD (by kernel_rfl)
theorem IW:TOk Try.prog 9 ty9:=uD (by kernel_rfl)
theorem Hj {w:World} {F:Nat→Prop} {l:List ByteArray} {y:Value} (h:aU w F (txs l) y):uW w (fun _=>False) (txs l) y:=by
 intro z m e;cases e;obtain⟨A,c,us,e1,hc,hr,hw,hA⟩:=h;simp only [List.cons.injEq,and_true] at e1;refine⟨A,c,us,e1,qP _ _ BT hr,hw,fun hne=>?_⟩
 obtain⟨b,o,e2,_,hcl⟩:=hA hne;exact⟨b,o,e2,hcl⟩
theorem xr (w:World) {o:Oper} {a:Act} {K:Act→World→Prop} {Q:Exit→Act→World→Prop} (s x:Operand)
  (ho:o.op = .call {callee:=.builtin .append,args:=#[s,x],argTypes:=#[73,73]}) (l m:List ByteArray) (ys yx:Value) (hs:a.eval s=ys) (hx:a.eval x=yx) (hown:bv w (fun _=>False) (aH ys) 1 (txs l) ys) {F:Nat→Prop} (hsrc:aU w F (txs m) yx) (hlen:l.length+m.length≤1048576)
  (h:∀v w',bv w' (fun _=>False) (aH v) 1 (txs (l++m)) v→(∀b,aH v b→aH ys b∨w.heap.size≤b)→KeptX (aH ys) w w'→K (a.put o.dst v) w'):o.wp Try.prog a w K Q:=by
 obtain⟨v,w',hr,h1,h2,h3,h4,h5,h6⟩:=qC (P:=Try.prog) (t:=73) (ty:=o.type) Ip (by kernel_rfl) IW (G:=fun _=>False) (own:=aH ys) (fun b hb=>hb.elim) (l:=l.map T) (m:=m.map T) hown (Hj hsrc) (by simp only [Jt];omega) (by simp only [Jt];omega);have hv:∀b,aH v b→aH ys b∨w.heap.size≤b:=fun b hb=>by
  obtain⟨l',_,_,h7 | ⟨g,o,c,us,cs,e,h8,_,_,_,_,_,h9⟩⟩:=h1
  ·rw [h7.1] at hb
   cases hb
  ·rw [h8] at hb
   have:g=b:=Jj hb;exact this ▸ h9
 have h1':bv w' (fun _=>False) (aH v) 1 (txs (l++m)) v:=by
  obtain⟨l',e,hw,h7⟩:=h1;refine⟨l',by rw [txs,List.map_append];exact e,hw,?_⟩
  rcases h7 with h7 | ⟨g,o,c,us,cs,e,h8,q1,q2,q3,q4,q5,_⟩
  ·exact .inl h7
  ·exact .inr ⟨g,o,c,us,cs,e,h8,q1,q2,q3,q4,q5,by rw [h8];rfl⟩
 unfold Kp execOp;simp only [ho,resolve,invoke,builtin,Sem.run_bind,Sem.run_pure,Kq,Ks,List.map_cons,List.map_nil,hs,hx,hr];exact h v w' h1' hv ⟨h4,h5,h6,h2,fun b hb hn=>h3 b hb hn⟩
theorem nh (w:World) {ops:Array Oper} {o:Oper} {a:Act} {K:Act→World→Prop} {Q:Exit→Act→World→Prop} {E:Prop} (hgd:o.guard=none) (s x:Operand)
  (ho:o.op = .call {callee:=.builtin .append,args:=#[s,x],argTypes:=#[73,73]}) (l m:List ByteArray) (ys yx:Value) (hs:a.eval s=ys) (hx:a.eval x=yx) (hown:bv w (fun _=>False) (aH ys) 1 (txs l) ys) {F:Nat→Prop} (hsrc:aU w F (txs m) yx) (hlen:l.length+m.length≤1048576)
  (h:∀A n c w',bv w' (fun _=>False) (aH (.slice A n c)) 1 (txs (l++m)) (.slice A n c)→(∀b,aH (.slice A n c) b→aH ys b∨w.heap.size≤b)→KeptX (aH ys) w w'→K (a.put o.dst (.slice A n c)) w') :
  if JD o (yielded ops a.tmps)=true then Kp Try.prog o a w K Q else E:=by
 have hw:JD o (yielded ops a.tmps)=true:=by simp [JD,hgd]
 rw [if_pos hw];refine xr w s x ho l m ys yx hs hx hown hsrc hlen fun v w' h1 h2 h3=>?_
 obtain⟨A,n,c,rfl⟩:=bB h1;exact h A n c w' h1 h2 h3
def Ir (w wc:World) (p B:Nat) (Vb Vf:Value) (ys:List Value) (x y:Int) (l':List Fm):Prop:=∃A2 n2 c2 ys2,wc.heap[p]?=some (.cells #[Vb,.slice A2 n2 c2,.int .i64 x,.int .i64 y] 33 (0,0))∧FmsAt wc B (.slice A2 n2 c2) ys2 l' ∧
 (∀b,FmS (.slice A2 n2 c2) ys2 b→FmS Vf ys b∨w.heap.size≤b)∧(∀b,b<w.heap.size→b≠p→wc.heap[b]?=w.heap[b]?)∧w.heap.size≤wc.heap.size∧wc.os=w.os∧wc.tape=w.tape∧wc.output=w.output
theorem kh {w:World} {B:Nat} {V:Value} {l:List Fm} {ys:List Value} (h:FmsAt w B V ys l) (k:Nat):(∀(i:Nat) (x:Fm) (y:Value),(l.take k)[i]?=some x→(ys.take k)[i]?=some y→bv w (fun _=>False) (aH y) 1 (txs x.2.1) y) ∧
  (∀(i:Nat) (y:Value) (b:Nat),(ys.take k)[i]?=some y→aH y b→B≤b∧b<w.heap.size) ∧
  (∀(i j:Nat) (y z:Value),i≠j→(ys.take k)[i]?=some y→(ys.take k)[j]?=some z→y.ownBlock=none∨y.ownBlock≠z.ownBlock):=by
 have ht:∀{α:Type} {m:List α} {i:Nat} {y:α},(m.take k)[i]?=some y→m[i]?=some y:=fun {α m i y} h=>by
  rw [Jx] at h;split at h
  ·exact h
  ·cases h
 exact⟨fun i x y hx hy=>h.row _ x y (ht hx) (ht hy),fun i y b hy hb=>⟨(h.blk i y b (ht hy) hb).1,(h.lt b (.inr ⟨y,JW (ht hy),hb⟩)).2⟩,fun i j y z hij hy hz=>h.dis i j y z hij (ht hy) (ht hz)⟩
theorem iS {w:World} {B g cap n:Nat} {l:List Fm} {ys:List Value} (h:FmsAt w B (.slice (some ⟨g,0,none⟩) n cap) ys l) {i:Nat} (hi:i≤l.length):∀(j:Nat) (u:Value),(bu (l.take i) (ys.take i))[j]?=some u→w.cell? ⟨g,0+j,none⟩=some u:=by
 intro j u hj;have hl:=h.len;have e1:=lP (l.take i) (l.drop i) (ys.take i) (ys.drop i) (by simp [hl]);rw [Jw,Jw] at e1;have h3:(bu l ys)[j]?=some u:=by
  rw [e1,JO (Jr.1 hj).1];exact hj
 have ho:=h.own;rw [Nat.zero_add];obtain⟨_,⟨hn,_⟩ | ⟨g',cap',cur,e',_⟩⟩:=h.own
 ·cases hn
 ·cases e'
  exact aJ ho h3
theorem Bl (l:List Fm) (n:Int):atF l n<(dh l n).length:=by
 unfold dh;split
 ·rename_i h
  exact(jW h).1
 ·have:=yq l n
  simp;omega
theorem sq {s:Sp} (hfm:∀(j:Nat) (hj:j<s.2.1.length),fY s.1 s.2.1[j]=true) (n:Int) (f:Fm) (h:f∈dh s.2.1 n):f.2.1.length≤40:=by
 have old:∀f∈s.2.1,f.2.1.length≤40:=fun f hf=>by
  obtain⟨j,hj,rfl⟩:=Ko hf;exact dI (hfm j hj)
 unfold dh at h;split at h
 ·exact old f h
 ·rcases Ki.1 h with h | h
  ·exact old f (JV h)
  ·rcases Kn.1 h with rfl | h
   ·simp
   ·exact old f (JX h)
set_option maxRecDepth 100000
theorem IU {α:Type} {a:Array α} {p:α→Bool} (h:a.toList.any p=true):∃e,e∈a∧p e=true:=by
 obtain⟨e,he,hp⟩:=Kv.1 h;exact⟨e,JM.1 he,hp⟩
theorem IQ {α:Type} {a:Array α} {p:α→Bool} (h:a.toList.all p=true) (e:α) (he:e∈a):p e=true:=JU.1 h e (JM.2 he)
def rZ (l:List Oper) (o:Oper):Bool :=
 (Kg l.length).all (fun i=>(o.after.toList.any fun e=>JF .any e&&e.on==i)||(Kg l.length).any fun j=>decide (i<j)&&(l[j]?.map fun oj=>oj.after.toList.any fun e=>JF .any e&&e.on==i).getD false)&&o.after.toList.all (fun e=>decide (e.on<l.length))&&o.guard.isNone &&
 (Kg l.length).all (fun i=>(l[i]?.map fun oi=>oi.guard.isNone&&oi.after.toList.all fun e=>!JF .any e||decide (e.on<i)).getD true)
def zJ (P:Program) (o:Oper) (Q:Exit→Act→World→Prop):Exit→Act→World→Prop
 | .normal,a,w=>o.wp P a w (fun a w=>Q .normal a w) Q
 | e,a,w=>Q e a w
theorem CC {P:Program} {o o':Oper} {Q:Exit→Act→World→Prop} {a:Act} {K:Act→World→Prop} {r:Result Next} (h:Oper.upon P o a K (zJ P o' Q) r):Oper.upon P o a K Q r:=by
 cases r with
 | ok n w=>cases n<;>exact h
 | halt x w=>cases x<;>exact h
theorem AW (md:Kr) (ops:Array Oper) (fuel t:Nat) (listed:Array Bool) (acc:List Nat) :
  Jq md ops (fuel+1) t listed acc=match (Jm md ops listed)[t % (Jm md ops listed).length]? with
   | some i=>Jq md ops fuel (t / (Jm md ops listed).length) (listed.setIfInBounds i true) (i::acc)
   | none=>acc.reverse:=by
 simp only [Jq];rfl
theorem xC {listed:Array Bool} {i:Nat} {d:Bool} (hi:i<listed.size):(listed.push false).getD i d=listed.getD i d:=by
 simp [JG,hi,Nat.lt_succ_of_lt hi,Array.getElem_push]
theorem wu (listed:Array Bool) (i:Nat):(listed.push false).getD i false=listed.getD i false:=by
 by_cases hi:i<listed.size
 ·exact xC hi
 ·by_cases he:i=listed.size
  ·subst he
   simp [JG]
  ·simp [JG,hi,show ¬i<listed.size+1 by omega]
theorem CD {l:List Oper} {o:Oper} {listed:Array Bool} (hs:listed.size=l.length) (i:Nat) (hi:i<l.length) :
  (!(listed.push false).getD i true&&(((l++[o]).toArray[i]?).map (·.after.all fun e=>!JF .any e||(listed.push false).getD e.on false)).getD false)=(!listed.getD i true&&((l.toArray[i]?).map (·.after.all fun e=>!JF .any e||listed.getD e.on false)).getD false):=by
 rw [xC (by omega)];congr 2
 simp only [JJ,JO hi];congr 1
 funext x
 simp only [wu]
def sb (l:List Oper) (listed:Array Bool):Prop:=∀(j:Nat) (oj:Oper),l[j]?=some oj→listed.getD j false=true→∀e∈oj.after,JF .any e=true→listed.getD e.on false=true
theorem uQ {l:List Oper} {o:Oper} {listed:Array Bool} (hB:rZ l o=true) (hs:listed.size=l.length) (hc:sb l listed) :
  Jm .any (l++[o]).toArray (listed.push false)=Jm .any l.toArray listed++(if (∀i,i<l.length→listed.getD i false=true) then [l.length] else []):=by
 simp only [rZ,Jp,JU,Jy] at hB;obtain⟨⟨⟨h1,h2⟩,_⟩,_⟩:=hB;unfold Jm;simp only [JI,Kc,JK,List.range_succ,List.filter_append];congr 1
 ·refine List.filter_congr fun i hi=>?_
  exact CD hs i (Jy.1 hi)
 ·have e1:(l++[o]).toArray[l.length]?=some o:=by simp
  simp only [Kw,List.filter_nil];have e2:(listed.push false).getD l.length true=false:=by
   rw [Jk,←hs,Array.getElem?_push_size];rfl
  have e3:(o.after.all fun e=>!JF .any e||(listed.push false).getD e.on false)=decide (∀i,i<l.length→listed.getD i false=true):=by
   rw [Bool.eq_iff_iff];simp only [wu,decide_eq_true_eq,Ke,Kj,JT];constructor
   ·intro h
    have key:∀n i,i<l.length→l.length≤i+n→listed.getD i false=true:=by
     intro n;induction n with
     | zero=>intro i hi hn;omega
     | succ n ih =>
      intro i hi hn;have h3:=h1 i hi;simp only [Kj,Kv,Jy,Jp,decide_eq_true_eq] at h3;rcases h3 with h3 | ⟨j,hj,hij,h3⟩
      ·obtain⟨e,he,hb1,hb2⟩:=h3
       have hb:JF .any e=true∧e.on=i:=⟨hb1,by simpa using hb2⟩
       rcases h e (JM.1 he) with h | h
       ·rw [h] at hb
        cases hb.1
       ·rw [←hb.2]
        exact h
      ·rw [Ji hj] at h3
       simp only [JH,JC] at h3;obtain⟨e,he,hb⟩:=IU h3;simp only [Jp,beq_iff_eq] at hb;rw [←hb.2];exact hc j l[j] (Ji hj) (ih j hj (by omega)) e he hb.1
    exact fun i hi=>key l.length i hi (by omega)
   ·intro h e he
    have:=h2 e (JM.2 he);exact .inr (h e.on (of_decide_eq_true this))
  rw [e2,e1];simp only [JH,JC,e3,Km,Bool.true_and,decide_eq_true_eq]
theorem BB {l:List Oper} {o:Oper} {listed:Array Bool} (hB:rZ l o=true) (hs:listed.size=l.length) (hu:¬∀i,i<l.length→listed.getD i false=true):Jm .any l.toArray listed≠[]:=by
 simp only [rZ,Jp,JU,Jy] at hB;obtain⟨_,h4⟩:=hB;have:∃i,i<l.length∧listed.getD i false=false:=by
  refine JN fun h=>hu fun i hi=>?_
  cases hb:listed.getD i false
  ·exact absurd ⟨i,hi,hb⟩ h
  ·rfl
 have least:∀n,(∃i,i<n∧i<l.length∧listed.getD i false=false)→∃i,i<l.length∧listed.getD i false=false∧∀j,j<i→listed.getD j false=true:=by
  intro n;induction n with
  | zero=>rintro⟨i,hi,_⟩;omega
  | succ n ih =>
   rintro⟨i,hi,hl,hb⟩;by_cases hx:∃i,i<n∧i<l.length∧listed.getD i false=false
   ·exact ih hx
   ·have:i=n:=by
     refine JN fun h=>hx ⟨i,by omega,hl,hb⟩
    subst this;refine⟨i,hl,hb,fun j hj=>?_⟩
    cases hjb:listed.getD j false
    ·exact absurd ⟨j,hj,by omega,hjb⟩ hx
    ·rfl
 obtain⟨i0,hi0,hb0⟩:=this;obtain⟨i,hi,hb,hj⟩:=least (i0+1) ⟨i0,by omega,hi0,hb0⟩;intro hnil;have hmem:i∈Jm .any l.toArray listed:=by
  unfold Jm;refine JY.2 ⟨by simpa using hi,?_⟩
  have h5:=h4 i hi;rw [Ji hi] at h5;simp only [JH,JC,Jp] at h5;have e1:l.toArray[i]?=some l[i]:=by simp [hi]
  have e2:listed.getD i true=false:=by
   simp only [JG,show i<listed.size by omega,dite_true] at hb ⊢;exact hb
  rw [e1,e2];simp only [JH,JC,Km,Bool.true_and];refine Ke.2 fun e he=>?_
  have h6:=IQ h5.2 e he;simp only [Kj,JT,decide_eq_true_eq] at h6 ⊢;exact h6.imp id (hj e.on)
 rw [hnil] at hmem;cases hmem
theorem BM {l:List Oper} {listed:Array Bool} {i:Nat} (hs:listed.size=l.length) (hc:sb l listed) (hi:i∈Jm .any l.toArray listed):sb l (listed.setIfInBounds i true):=by
 unfold Jm at hi;obtain⟨h1,h2⟩:=JY.1 hi;simp only [JI,Jy] at h1;simp only [Jp,JJ,Ji h1,JH,JC] at h2;have hg:∀j,listed.getD j false=true→(listed.setIfInBounds i true).getD j false=true:=fun j hj=>by
  by_cases e:i=j
  ·subst e
   simp [JG,hs,h1]
  ·rw [Jk,Jz e,←Jk]
   exact hj
 intro j oj hj hjl e he hb;by_cases e1:i=j
 ·subst e1
  rw [Ji h1] at hj;obtain rfl:=Jj hj;have:=Ke.1 h2.2 e he;rw [hb] at this;exact hg _ (by simpa using this)
 ·rw [Jk,Jz e1,←Jk] at hjl
  exact hg _ (hc j oj hj hjl e he hb)
theorem vF {md:Kr} {ops:Array Oper} {listed:Array Bool} {i:Nat} (h:i∈Jm md ops listed):i<ops.size∧listed.getD i true=false:=by
 unfold Jm at h;obtain⟨h1,h2⟩:=JY.1 h;simp only [Jp,JT] at h2;exact⟨Jy.1 h1,h2.1⟩
theorem vG {l:List Oper} {listed:Array Bool} (hs:listed.size=l.length) (hall:∀i,i<l.length→listed.getD i false=true):Jm .any l.toArray listed=[]:=by
 refine List.eq_nil_iff_forall_not_mem.2 fun i hi=>?_
 obtain⟨h1,h2⟩:=vF hi;have h3:=hall i (by simpa using h1);have:i<listed.size:=by rw [hs];simpa using h1
 simp only [JG,this,dite_true] at h2 h3;rw [h2] at h3;cases h3
def unl (n:Nat) (listed:Array Bool):Nat:=((Kg n).filter fun i=>!listed.getD i false).length
theorem FM {n:Nat} {listed:Array Bool} {i:Nat} (hs:listed.size=n) (hi:i<n) (hb:listed.getD i true=false):unl n (listed.setIfInBounds i true)<unl n listed:=by
 unfold unl;have hg:∀j,(listed.setIfInBounds i true).getD j false=if j=i then true else listed.getD j false:=fun j=>by
  by_cases e:j=i
  ·subst e
   simp [JG,hs,hi]
  ·rw [Jk,Jk,Jz (fun h=>e h.symm),if_neg e]
 have hb':listed.getD i false=false:=by
  simp only [JG,show i<listed.size by omega,dite_true] at hb ⊢;exact hb
 have key:∀l:List Nat,(l.filter fun j=>!(listed.setIfInBounds i true).getD j false).length≤(l.filter fun j=>!listed.getD j false).length∧(i∈l→(l.filter fun j=>!(listed.setIfInBounds i true).getD j false).length<(l.filter fun j=>!listed.getD j false).length):=by
  intro l;induction l with
  | nil=>exact⟨Ka _,fun h=>by cases h⟩
  | cons x l ih =>
   simp only [Kw,hg x];by_cases e:x=i
   ·subst e
    simp only [if_true,Bool.not_true,Bool.false_eq_true,if_false,hb',Km,Kx];exact⟨by omega,fun _=>by omega⟩
   ·simp only [if_neg e]
    split
    ·simp only [Kx]
     refine⟨by omega,fun h=>?_⟩
     have:=ih.2 ((Kn.1 h).resolve_left fun h=>e h.symm);omega
    ·refine⟨ih.1,fun h=>ih.2 ((Kn.1 h).resolve_left fun h=>e h.symm)⟩
 exact(key _).2 (Jy.2 hi)
theorem Gh {l:List Oper} {o:Oper} (hB:rZ l o=true):∀(fuel t:Nat) (listed:Array Bool),listed.size=l.length→sb l listed→unl l.length listed≤fuel →
  Jq .any (l++[o]).toArray (fuel+1) t (listed.push false) []=Jq .any l.toArray fuel t listed []++[l.length]∧∀i∈Jq .any l.toArray fuel t listed [],i<l.length:=by
 have full:∀(fuel t:Nat) (listed:Array Bool),listed.size=l.length→sb l listed→(∀i,i<l.length→listed.getD i false=true) →
   Jq .any (l++[o]).toArray (fuel+1) t (listed.push false) []=[l.length]:=by
  intro fuel t listed hs hc hall;rw [AW,uQ hB hs hc,if_pos hall,vG hs hall];simp only [Kz,JK,Nat.mod_one,List.getElem?_cons_zero];cases fuel with
  | zero=>rfl
  | succ fuel =>
   rw [AW];have:Jm .any (l++[o]).toArray ((listed.push false).setIfInBounds l.length true)=[]:=by
    refine List.eq_nil_iff_forall_not_mem.2 fun i hi=>?_
    obtain⟨h1,h2⟩:=vF hi;simp only [JI,Kc,JK] at h1;by_cases e:i=l.length
    ·subst e
     simp [JG,hs] at h2
    ·have h3:=hall i (by omega)
     have hil:i<listed.size:=by omega
     rw [Jk,Jz (by omega),Array.getElem?_push_lt hil] at h2;rw [Jk,Array.getElem?_eq_getElem hil] at h3;simp only [JC] at h2 h3;rw [h2] at h3;cases h3
   rw [this];rfl
 intro fuel;induction fuel with
 | zero =>
  intro t listed hs hc hu;have hall:∀i,i<l.length→listed.getD i false=true:=fun i hi=>by
   cases hb:listed.getD i false
   ·exfalso
    have:i∈(Kg l.length).filter fun i=>!listed.getD i false:=JY.2 ⟨Jy.2 hi,by rw [hb];rfl⟩
    unfold unl at hu;have:=List.length_pos_of_mem this;omega
   ·rfl
  exact⟨full 0 t listed hs hc hall,fun i hi=>by simp [Jq] at hi⟩
 | succ fuel ih =>
  intro t listed hs hc hu;by_cases hall:∀i,i<l.length→listed.getD i false=true
  ·have e:=AW .any l.toArray fuel t listed []
   rw [vG hs hall] at e;have e':Jq .any l.toArray (fuel+1) t listed []=[]:=e;rw [e'];exact⟨full (fuel+1) t listed hs hc hall,fun i hi=>by cases hi⟩
  ·have hne:=BB hB hs hall
   rw [AW,uQ hB hs hc,if_neg hall,List.append_nil,AW .any l.toArray fuel t listed []];have hlt:t % (Jm .any l.toArray listed).length<(Jm .any l.toArray listed).length:=Nat.mod_lt _ (List.length_pos_iff.2 hne);rw [Ji hlt];simp only;have hmem:=Kt hlt;generalize (Jm .any l.toArray listed)[t % (Jm .any l.toArray listed).length]=i at *;obtain⟨hi,hb⟩:=vF hmem;simp only [JI] at hi;rw [linearise_go_acc,linearise_go_acc .any l.toArray];have hset:(listed.push false).setIfInBounds i true=(listed.setIfInBounds i true).push false:=by
    apply Array.ext_getElem?;intro j;simp only [Array.getElem?_setIfInBounds,Array.getElem?_push,Array.size_push,Array.size_setIfInBounds];by_cases e:i=j
    ·subst e
     simp only [hs,hi,show ¬i=l.length by omega,if_true,if_false,show i<l.length+1 by omega]
    ·simp [e]
   rw [hset];obtain⟨h1,h2⟩:=ih (t / (Jm .any l.toArray listed).length) (listed.setIfInBounds i true) (by simp [hs]) (BM hs hc hmem) (by have:=FM hs hi hb;omega);rw [h1];refine⟨by simp,fun j hj=>?_⟩
   rcases Ki.1 hj with hj | hj
   ·simp at hj
    omega
   ·exact h2 j hj
theorem uM {P:Program} {l:List Oper} {o:Oper} {Q:Exit→Act→World→Prop} (hB:rZ l o=true):∀(order:List Nat) (a:Act) (w:World),(∀i∈order,i<l.length)→wpOps P l.toArray (zJ P o Q) order a w→wpOps P (l++[o]).toArray Q (order++[l.length]) a w
 | [],a,w,_,h=>by
  have hg:o.guard=none:=by
   simp only [rZ,Jp] at hB;simpa using hB.1.2
  have h':o.wp P a w (fun a w=>Q .normal a w) Q:=h;simp only [Kz,wpOps,JJ,List.getElem?_concat_length,JD,hg,if_true];exact .inl h'
 | i::order,a,w,hi,h=>by
  have hlt:=hi i (by simp);have hg:(l[i]).guard=none:=by
   simp only [rZ,Jp,JU,Jy] at hB;have:=hB.2 i hlt;rw [Ji hlt] at this;simp only [JH,JC,Jp] at this;simpa using this.1
  rw [List.cons_append,wpOps_cons];rw [wpOps_cons] at h;unfold wpOp at h ⊢;simp only [JJ,JO hlt,Ji hlt,JD,hg,if_true] at h ⊢;rcases h with h | ⟨h1,h2⟩
  ·refine .inl ?_
   have h3:l[i].wp P a w (wpOps P (l++[o]).toArray Q (order++[l.length])) (zJ P o Q):=Oper.wp_mono (fun a w=>uM hB order a w (fun j hj=>hi j (by simp [hj]))) h;exact CC h3
  ·exact .inr ⟨h1,h2⟩
theorem ce {P:Program} {id:Nat} {l:List Oper} {o:Oper} {Q:Exit→Act→World→Prop} {S:World→Prop} {a:Act} {w:World} (hm:P.follows .mixedOrders=true) (hB:rZ l o=true) (hS:S w.drew)
  (h:S w.drew→wpAnyH P .any l.toArray (zJ P o Q) S l.length (Kk l.length false) a w.drew):(Code.region id (l++[o]).toArray true).wp P Q a w :=
 wp_region_draw fun t=>by
  simp only [Region.schedule,hm,Bool.true_or,if_true];have e:Region.linearise .any (l++[o]).toArray t=Jq .any (l++[o]).toArray (l.length+1) t ((Kk l.length false).push false) []:=by
   simp only [Region.linearise,JI,Kc,JK];rw [Array.replicate_succ]
  obtain⟨h1,h2⟩:=Gh hB l.length t (Kk l.length false) (by simp) (fun j oj hj hjl=>by
   rw [Jk,Array.getElem?_replicate] at hjl;split at hjl<;>cases hjl) (by unfold unl;exact JQ (List.length_filter_le _ _) (by simp))
  rw [e,h1];exact uM hB _ _ _ h2 (wpAny_sound _ t _ _ _ (wpAny_of_held _ _ _ _ (h hS)))
theorem bh {P:Program} {md:Kr} {ops:Array Oper} {o:Oper} {Q:Exit→Act→World→Prop} {S:World→Prop} {fuel:Nat} {listed:Array Bool} {a:Act} {w:World} (hr:Jm md ops listed=[]) (h:o.wp P a w (fun a w=>Q .normal a w) Q):wpAnyH P md ops (zJ P o Q) S fuel listed a w :=
 wpAnyH_done hr h fuel
end Go.Proofs.Ytkcojipciiakdaa

end
