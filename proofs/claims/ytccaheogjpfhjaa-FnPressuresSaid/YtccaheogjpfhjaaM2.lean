/-
  A part of the proof: contracts and plain forms of functions beneath the statement, made small by a program (names shortened, what is not needed left out).
-/
import Derived.Test.YtccaheogjpfhjaaRows
import Derived.Test.YtccaheogjpfhjaaM1
open Option renaming bind_eq_some_iff → Ix, map_none → IV, map_eq_some_iff → IW, map_some → Jd
open List.cons renaming injEq → Iy
open List renaming map_cons → Iz, map_nil → IA, append_nil → IC, getElem?_append_left → ID, getElem?_append_right → IF, length_take → IG, length_append → IH, append_assoc → II, getElem?_eq_some_iff → IJ, replicate → IL, getD_eq_getElem?_getD → IM, length_drop → IQ, getElem?_take_of_lt → IU, size_toArray → IX, mem_append → Jk, length_nil → Jm, getElem?_drop → Jo, drop_length_add_append → Jp, nil_append → Jw, singleton_append → Jx, mem_of_getElem? → Jz, mem_of_mem_take → JA, mem_map_of_mem → JC, cons_append → JH, length_set → JI
open Nat renaming lt_of_lt_of_le → IB, le_refl → IE, mul_le_mul_right → IP, add_assoc → Jh, zero_add → Jj, succ_mul → Jl, add_mul → Jn, le_max_right → Jr, le_trans → Js, add_zero → Jt, lt_or_ge → Ju, ble → JE, beq → JJ
open Go.Result renaming andThen_ok → IK
open Go.Sem renaming run_bind → IY, run_pure → IZ
open Array renaming toArray_toList → Ja, getElem?_eq_some_iff → Jb, length_toList → Jc, getD_eq_getD_getElem? → Jq
open Go.Builtin renaming append_ → Je
open Go.Addr renaming add_lit → Jf
open Option.some renaming injEq → Jg
open Bool renaming and_eq_true → Ji
open Go.Instr renaming buildSlice → Jv, fill → Jy, storeAt → JB, box → JD, sureAddr → JK, sliceAt → JL
open Function renaming comp_def → JF
open Go.World renaming cell? → JG
set_option maxRecDepth 100000
set_option linter.unusedSimpArgs false
set_option linter.unusedVariables false
noncomputable section
namespace Go.V
open Go.RowKit
set_option maxRecDepth 100000
def co (c:Cx) (A:Ac) (δ:List D) (k:List D→Option Out):Option Out :=
 match A with
 | .one rd d h=>(h (af δ rd)).bind fun z=>k (ae δ (d::eu d c.K 0) [z])
 | .many rd hw cw fn=>fn (af δ rd) fun outs=>k (ae δ (hw++(cw++aB c.K hw)) outs)
def Next (c:Cx) (B:Nat) (X:Nat→Prop) (w0:World) (F0:Nat→Prop) (k:List D→Option Out) (r:Out) (a:Act) (w:World):Prop :=
 ∃F O δ,Inv c B X w0 F0 F O a w δ∧k δ=some r
section
variable {P:Program} {c:Cx} {B:Nat} {X:Nat→Prop} {w0:World} {F0 F:Nat→Prop} {O:Nat→Option (Nat × Nat)} {a:Act} {w:World} {δ:List D}
theorem bk:∀(xs:List Operand),cq xs (af δ (jF xs))=xs.map (opD δ)
 | []=>rfl
 | .tmp t::xs=>by simp [cq,af,opD,bk xs]
 | .const v::xs=>by simp [cq,jF,opD,bk xs]
 | .func f::xs=>by simp [cq,jF,opD,bk xs]
 | .global g::xs=>by simp [cq,jF,opD,bk xs]
theorem po (a b:Nat):vN a b=max a b:=by
 unfold vN;cases h:JE a b
 ·have:¬a≤b:=fun hl=>by rw [Nat.ble_eq_true_of_le hl] at h;cases h
  simp only;omega
 ·have:=Nat.le_of_ble_eq_true h
  simp only;omega
theorem aT {a b:Nat}:JE a b=true↔a≤b:=⟨Nat.le_of_ble_eq_true,Nat.ble_eq_true_of_le⟩
theorem az {a b:Nat}:JJ a b=true↔a=b:=⟨Nat.eq_of_beq_eq_true,fun h=>by subst h;simp⟩
theorem gG {K:List Kd} {n:Nat}:∀{xs:List Operand},iL K xs≤n→∀x∈xs,cI K x≤n
 | [],_,x,hx=>by simp at hx
 | y::ys,h,x,hx=>by
  simp only [iL,po] at h;rcases List.mem_cons.1 hx with rfl | hx
  ·omega
  ·exact gG (by omega) x hx
theorem br (a:Act) (t:Nat):a.eval (.tmp t)=av a t:=rfl
theorem Inv.opd (h:Inv c B X w0 F0 F O a w δ) {x:Operand} (hx:cI c.K x≤2):bI w (FB F B (cI c.K x)) (opD δ x) (a.eval x):=by
 cases x with
 | tmp t =>
  simp only [cI] at hx ⊢;split at hx
  ·rename_i lv hk
   exact h.dat hk
  ·omega
 | const v =>
  simp only [cI] at hx ⊢;split at hx
  case h_2=>omega
  rename_i hv;refine .inr ?_
  simp only [opD,Act.eval];unfold okC at hv;split at hv<;>first
   | (cases hv;done)
   | exact qJ
   | exact dc rfl
 | func f =>
  refine .inr ?_
  simp only [Act.eval,bj,RepC];exact⟨[],rfl,aL.2 rfl⟩
 | global g=>simp only [cI] at hx;omega
theorem Ar {o:Oper} {y:Value} {K:Act→World→Prop} {Q:Exit→Act→World→Prop} {w':World} (hr:(execOp a.eval o).run P w = .ok (.value y) w') (hK:K (a.put o.dst y) w'):o.wp P a w K Q:=by
 unfold Oper.wp;rw [hr];exact hK
theorem zV {o:Oper} {K:Act→World→Prop} {Q:Exit→Act→World→Prop} {w':World} (hr:(execOp a.eval o).run P w = .ok .skip w') (hK:K (a.put o.dst undef) w'):o.wp P a w K Q:=by
 unfold Oper.wp;rw [hr];exact hK
theorem bx {o:Oper} {rd:List Nat} {d:Nat} {h:List D→Option D} (hI:Inv c B X w0 F0 F O a w δ) (hd:o.dst=some d) {k:List D→Option Out} {r:Out} (hg:co c (.one rd d h) δ k=some r)
  (hrun:∀z,h (af δ rd)=some z→∃y,(execOp a.eval o).run P w = .ok (.value y) w∧uj c.K B F a w δ d z y) (Q:Exit→Act→World→Prop):o.wp P a w (Next c B X w0 F0 k r) Q:=by
 simp only [co] at hg;obtain⟨z,hz,hk⟩:=Ix.1 hg;obtain⟨y,hy,hp⟩:=hrun z hz;exact Ar hy ⟨F,O,_,by rw [hd];exact hI.put hp,hk⟩
theorem fw {lv lv':Nat} (hl:lv≤lv') {z:D} {y:Value} (h:bI w (FB F B lv) z y):bI w (FB F B lv') z y:=h.imp id fun h=>aO (jm hl) (fun _ _=>rfl) h
theorem aH {o:Oper} {xs:List Operand} {lv:Nat} {h:List D→Option D} {A:Ac} (hA:ba c o.dst xs lv h=some A) (hI:Inv c B X w0 F0 F O a w δ) {k:List D→Option Out} {r:Out} (hg:co c A δ k=some r)
  (hrun:(∀x∈xs,cI c.K x≤2∧bI w (FB F B (cI c.K x)) (opD δ x) (a.eval x))→∀z,h (xs.map (opD δ))=some z→∃y,(execOp a.eval o).run P w = .ok (.value y) w∧bI w (FB F B lv) z y) (Q:Exit→Act→World→Prop):o.wp P a w (Next c B X w0 F0 k r) Q:=by
 unfold ba at hA;split at hA
 ·cases hA
 rename_i d hd;split at hA
 case h_2=>cases hA
 rename_i l hk;split at hA
 ·cases hA
 rename_i hlv;rw [aT] at hlv;have hops:∀x∈xs,cI c.K x≤2∧bI w (FB F B (cI c.K x)) (opD δ x) (a.eval x):=fun x hx=>⟨gG hlv x hx,hI.opd (gG hlv x hx)⟩
 have putOk:∀z y,bI w (FB F B l) z y→uj c.K B F a w δ d z y:=fun z y hz=>hz.imp id fun hz=>by rw [hk];exact hz
 split at hA
 ·rename_i hle
  rw [aT] at hle;cases hA;refine bx hI hd hg (fun z hz=>?_) Q
  rw [bk] at hz;obtain⟨y,h1,h2⟩:=hrun hops z hz;exact⟨y,h1,putOk z y (fw hle h2)⟩
 ·split at hA
  case h_2=>cases hA
  cases hA;refine bx hI hd hg (fun z hz=>?_) Q
  rw [bk] at hz;obtain⟨z',hz',hc⟩:=Ix.1 hz;obtain⟨y,h1,h2⟩:=hrun hops z' hz';unfold bE at hc;split at hc
  case isFalse=>cases hc
  rename_i hv;cases hc;refine⟨y,h1,putOk z y (.inr (my hv (h2.rep ?_)))⟩
  intro e;subst e;simp [D.isV] at hv
theorem bX {o:Oper} {s:Sem Value} {y:Value} {w':World} (he:execOp a.eval o=(do pure (.value (←s)))) (hs:s.run P w = .ok y w'):(execOp a.eval o).run P w = .ok (.value y) w':=by
 rw [he];simp [hs]
theorem gc {v:Value} (h:flat v=true) {G:Nat→Prop} {z:D} (hz:z = .v v):bI w G z v:=.inr (hz ▸ dc h)
theorem aQ {h:D→Option D} {l:List D} {z:D} (e:dT h l=some z):∃a,l=[a]∧h a=some z:=by
 unfold dT at e;split at e
 ·exact⟨_,rfl,e⟩
 ·cases e
theorem eN {h:D→D→Option D} {l:List D} {z:D} (e:rJ h l=some z):∃a b,l=[a,b]∧h a b=some z:=by
 unfold rJ at e;split at e
 ·exact⟨_,_,rfl,e⟩
 ·cases e
theorem sm {h:D→D→D→Option D} {l:List D} {z:D} (e:DM h l=some z):∃a b x,l=[a,b,x]∧h a b x=some z:=by
 unfold DM at e;split at e
 ·exact⟨_,_,_,rfl,e⟩
 ·cases e
def eZ (P:Program) (c:Cx) (o:Oper):Prop :=
 ∀(A:Ac),bC c o=some A→∀(B:Nat) (X:Nat→Prop) (w0:World) (F0 F:Nat→Prop) (O:Nat→Option (Nat × Nat)) (a:Act) (w:World) (δ:List D),Inv c B X w0 F0 F O a w δ →
  ∀(k:List D→Option Out) (r:Out),co c A δ k=some r→∀Q,o.wp P a w (Next c B X w0 F0 k r) Q
theorem ao {t:Nat} {f:TI→Option Ac} {A:Ac} (h:dw c t f=some A):∃i,bR c.T t=some i∧f i=some A:=by
 unfold dw at h;split at h
 ·exact⟨_,‹_›,h⟩
 ·cases h
theorem tok (hT:okT P c.T=true) {t:Nat} {i:TI} (h:bR c.T t=some i):TOk P t i:=Dg (Ev hT h)
theorem Bf {o:Oper} {q x y:Operand} (ho:o.op = .pick q x y):eZ P c o:=by
 intro A hA B X w0 F0 F O a w δ hI k r hg Q;simp only [bC,ho] at hA;refine aH hA hI hg (fun hx z hz=>?_) Q
 obtain⟨d1,d2,d3,e,hz⟩:=sm hz;simp only [Iz,IA,Iy,and_true] at e;obtain⟨rfl,rfl,rfl⟩:=e;have h1:=(hx q (by simp)).2;have h2:=(hx x (by simp)).2;have h3:=(hx y (by simp)).2;rw [po];obtain⟨v,hv,hr⟩:=Ea (P:=P) h1 (fw (Nat.le_max_left _ (cI c.K y)) h2) (fw (Jr (cI c.K x) _) h3) hz;refine⟨v,?_,hr⟩
 simp only [execOp,ho];simp only [IY,IZ] at hv ⊢;cases hb:(asBool (a.eval q)).run P w with
 | halt s t=>rw [hb] at hv;simp at hv
 | ok b w' =>
  rw [hb] at hv;simp only [IK,Result.ok.injEq] at hv ⊢;exact⟨by rw [hv.1],hv.2⟩
theorem Ak (hT:okT P c.T=true) {o:Oper} {op:BinOp} {t t':Nat} {x y:Operand} (ho:o.op = .binOp op t x y t'):eZ P c o:=by
 intro A hA B X w0 F0 F O a w δ hI k r hg Q;simp only [bC,ho] at hA;obtain⟨i,hi,hA⟩:=ao hA;split at hA
 ·rename_i hif
  refine aH hA hI hg (fun hx z hz=>?_) Q
  obtain⟨d1,d2,e,hz⟩:=eN hz;simp only [Iz,IA,Iy,and_true] at e;obtain⟨rfl,rfl⟩:=e;obtain⟨v,hv,hr,hf⟩:=Ek (P:=P) (tok hT hi) hif x y (fun hn=>by
   unfold Dt at hn;split at hn
   ·exact⟨_,rfl⟩
   ·cases hn) (hx x (by simp)).2 (hx y (by simp)).2 hz
  exact⟨v,bX (by simp only [execOp,ho]) hv,gc hf hr⟩
 split at hA
 ·rename_i hsl hny
  refine aH hA hI hg (fun hx z hz=>?_) Q
  obtain⟨d1,d2,e,hz⟩:=eN hz;simp only [Iz,IA,Iy,and_true] at e;obtain⟨rfl,rfl⟩:=e;have ey:y = .const (.slice none 0 0):=by
   unfold Fh at hny;split at hny
   ·rfl
   ·cases hny
  have ev:a.eval y = .slice none 0 0:=by rw [ey];rfl
  obtain⟨v,hv,hr,hf⟩:=DS (P:=P) (tok hT hi) hsl x y (hx x (by simp)).2 hz;rw [←ev] at hv;exact⟨v,bX (by simp only [execOp,ho]) hv,gc hf hr⟩
 refine aH hA hI hg (fun hx z hz=>?_) Q
 obtain⟨d1,d2,e,hz⟩:=eN hz;simp only [Iz,IA,Iy,and_true] at e;obtain⟨rfl,rfl⟩:=e;obtain⟨v,hv,hr,hf⟩:=Ge (P:=P) (tok hT hi) x y (hx x (by simp)).2 (hx y (by simp)).2 hz;exact⟨v,bX (by simp only [execOp,ho]) hv,gc hf hr⟩
theorem Ay {o:Oper} {op:UnOp} {t:Nat} {x:Operand} (ho:o.op = .unOp op t x):eZ P c o:=by
 intro A hA B X w0 F0 F O a w δ hI k r hg Q;simp only [bC,ho] at hA;refine aH hA hI hg (fun hx z hz=>?_) Q
 obtain⟨d1,e,hz⟩:=aQ hz;simp only [Iz,IA,Iy,and_true] at e;subst e;obtain⟨v,hv,hr,hf⟩:=GU (P:=P) (hx x (by simp)).2 hz;exact⟨v,bX (by simp only [execOp,ho]) hv,gc hf hr⟩
theorem na {i ti:TI} {f off:Nat} (h:rf c i f=some (off,ti)):∃ty,i.fs[f]?=some (off,ty)∧bR c.T ty=some ti:=by
 unfold rf at h;split at h
 ·rename_i o ty hf
  split at h
  ·rename_i j hj
   simp at h;obtain⟨rfl,rfl⟩:=h;rw [qY] at hf;exact⟨ty,hf,hj⟩
  ·cases h
 ·cases h
theorem yS (hT:okT P c.T=true) {o:Oper} {t f:Nat} {x:Operand} (ho:o.op = .field t x f):eZ P c o:=by
 intro A hA B X w0 F0 F O a w δ hI k r hg Q;simp only [bC,ho] at hA;obtain⟨i,hi,hA⟩:=ao hA;split at hA
 case h_2=>cases hA
 rename_i off ti hf;obtain⟨ty,hf,hti⟩:=na hf;refine aH hA hI hg (fun hx z hz=>?_) Q
 obtain⟨d1,e,hz⟩:=aQ hz;simp only [Iz,IA,Iy,and_true] at e;subst e;obtain⟨y,hy,hr⟩:=Fw (tok hT hi) (tok hT hti) hf (hx x (by simp)).2 hz;exact⟨y,bX (by simp only [execOp,ho]) hy,.inr hr⟩
theorem yf (hT:okT P c.T=true) {o:Oper} {t:Nat} {x y:Operand} (ho:o.op = .index t x y):eZ P c o:=by
 intro A hA B X w0 F0 F O a w δ hI k r hg Q;simp only [bC,ho] at hA;obtain⟨i,hi,hA⟩:=ao hA;unfold FD at hA;split at hA
 ·rename_i hs
  refine aH hA hI hg (fun hx z hz=>?_) Q
  obtain⟨d1,d2,e,hz⟩:=eN hz;simp only [Iz,IA,Iy,and_true] at e;obtain⟨rfl,rfl⟩:=e;obtain⟨v,hv,hr,hf⟩:=Eu (P:=P) (tok hT hi) hs (hx x (by simp)).2 (hx y (by simp)).2 hz;exact⟨v,bX (by simp only [execOp,ho]) hv,gc hf hr⟩
 ·split at hA
  ·cases hA
  ·rename_i n hn
   obtain⟨e',he,hA⟩:=ao hA;refine aH hA hI hg (fun hx z hz=>?_) Q
   obtain⟨d1,d2,e,hz⟩:=eN hz;simp only [Iz,IA,Iy,and_true] at e;obtain⟨rfl,rfl⟩:=e;obtain⟨v,hv,hr⟩:=Gi (P:=P) (tok hT hi) (tok hT he) (by intro h0;exact hn h0) rfl (hx x (by simp)).2 (hx y (by simp)).2 hz;exact⟨v,bX (by simp only [execOp,ho]) hv,.inr hr⟩
theorem ui {o:Oper} {f:Nat} {u v:Array Operand} (ho:o.op = .makeFunc (.func f) u v):eZ P c o:=by
 intro A hA B X w0 F0 F O a w δ hI k r hg Q;simp only [bC,ho] at hA;split at hA
 case h_3=>cases hA
 case h_2 =>
  rename_i x0 xs h1 h2;refine aH hA hI hg (fun hx z hz=>?_) Q
  have e1:u=#[]:=by simpa using h1
  subst e1;unfold HU at hz;split at hz
  case isFalse=>cases hz
  rename_i hall;cases hz;refine⟨.func (.func f) #[] (v.map a.eval),bX (s:=Instr.makeFunc (.func f) #[] (v.map a.eval)) (by simp [execOp,ho]) rfl,.inr ?_⟩
  simp only [bj,RepC];refine⟨(x0::xs).map a.eval,?_,?_⟩
  ·have:v=(x0::xs).toArray:=by rw [←h2]
   rw [this];simp
  ·have key:∀ys:List Operand,(∀y∈ys,y∈x0::xs)→(ys.map (opD δ)).all D.single=true→bh w (FB F B (iL c.K (x0::xs))) (ys.map (opD δ)) (ys.map a.eval):=by
    intro ys;induction ys with
    | nil=>intro _ _;exact aL.2 rfl
    | cons y ys ih =>
     intro hm hs;simp only [Iz,List.all_cons,Ji] at hs;have h3:=(hx y (hm y (by simp))).2;have hne:opD δ y ≠ .bad:=fun e=>by rw [e] at hs;simp [D.single] at hs
     have h4:=h3.rep hne;rw [gK hs.1] at h4;exact ax.2 ⟨[a.eval y],ys.map a.eval,rfl,RepC_mono (jm (gG (IE _) y (hm y (by simp)))) (fun _ _=>rfl) _ _ h4,ih (fun z hz=>hm z (by simp [hz])) hs.2⟩
   exact key (x0::xs) (fun _ h=>h) hall
 rename_i h1 h2;refine aH hA hI hg (fun hx z hz=>?_) Q
 simp at hz;subst hz;have e1:u=#[]:=by simpa using h1
 have e2:v=#[]:=by simpa using h2
 subst e1 e2;refine⟨.func (.func f) #[] #[],bX (s:=Instr.makeFunc (.func f) #[] #[]) (by simp [execOp,ho]) rfl,.inr ?_⟩
 simp only [bj,RepC];exact⟨[],rfl,aL.2 rfl⟩
theorem rV {K:List Kd} {t:Nat} {rd:List Nat} {lv:Nat} {r:Option Nat} (h:kE K (.tmp t)=some (rd,lv,r)) :
  (ah K t = .dat lv∧rd=[t]∧r=none)∨(∃z io,ah K t = .own z lv io∧rd=[t]∧r=some t)∨(∃q z io,ah K t = .via q∧ah K q = .own z lv io∧rd=[t,q]∧r=some q):=by
 simp only [kE] at h;split at h
 ·rename_i l hk
  simp at h;obtain⟨rfl,rfl,rfl⟩:=h;exact .inl ⟨hk,rfl,rfl⟩
 ·rename_i z l io hk
  simp at h;obtain⟨rfl,rfl,rfl⟩:=h;exact .inr (.inl ⟨z,io,hk,rfl,rfl⟩)
 ·rename_i q hk
  split at h
  ·rename_i z l io hq
   simp at h;obtain⟨rfl,rfl,rfl⟩:=h;exact .inr (.inr ⟨q,z,io,hk,hq,rfl,rfl⟩)
  ·cases h
 ·cases h
theorem iH {w:World} {F:Nat→Prop} {own:Nat→Prop} {z:Nat} {d:D} {y:Value} (h:iA w F own z d y):bj w (fun b=>F b∨own b) d y:=by
 obtain⟨l,rfl,h2,h3⟩:=h;simp only [bj,RepC];rcases h3 with ⟨rfl,rfl⟩ | ⟨g,o,c,us,cs,e,rfl,a2,a3,a4,a5,a6,a7⟩
 ·exact⟨none,0,[],rfl,IE _,aL.2 rfl,h2,fun h=>absurd rfl h⟩
 ·refine⟨_,c,us,rfl,a2,bm (fun b hb=>.inl hb) (fun _ _=>rfl) _ _ a5,h2,fun _=>⟨g,o,rfl,.inr a7,fun i u hu=>?_⟩⟩
  simp [JG,a3,a6 i u hu]
theorem Inv.own (h:Inv c B X w0 F0 F O a w δ) {s z lv:Nat} {io:Bool} (hk:ah c.K s = .own z lv io) (hb:nth δ s ≠ .bad):iA w (FB F B lv) (fun g=>O g=some (s,0)∧(io=false→B≤g)) z (nth δ s) (av a s):=by
 have h0:=(h.slot s).resolve_left hb;rw [hk] at h0;exact h0.resolve_left hb
theorem Inv.box (h:Inv c B X w0 F0 F O a w δ) {s n lv:Nat} {io:Bool} (hk:ah c.K s = .box n lv io) (hb:nth δ s ≠ .bad):tH w (FB F B lv) (fun g=>O g=some (s,0)∧(io=false→B≤g)) n (nth δ s) (av a s):=by
 have h0:=(h.slot s).resolve_left hb;rw [hk] at h0;exact h0.resolve_left hb
theorem Inv.via (h:Inv c B X w0 F0 F O a w δ) {s q:Nat} (hk:ah c.K s = .via q) (hb:nth δ s ≠ .bad):av a s=av a q∧nth δ s = .ref 0 0∧nth δ q ≠ .bad∧mC c.K q=true:=by
 have h0:=(h.slot s).resolve_left hb;rw [hk] at h0;exact h0
theorem Inv.ref (h:Inv c B X w0 F0 F O a w δ) {s q:Nat} (hk:ah c.K s = .ref q) (hb:nth δ s ≠ .bad):∃i f,nth δ s = .ref i f∧nth δ q ≠ .bad∧nB (ah c.K q) (av a q) i f (av a s):=by
 have h0:=(h.slot s).resolve_left hb;rw [hk] at h0;exact h0
theorem aS {p x y:D} (h:ab p x=some y):p ≠ .bad∧x=y:=by
 unfold ab at h;split at h
 ·cases h
 ·rename_i hp
  simp at h;exact⟨hp,h⟩
theorem Eh {k:Kd} {y p:Value} {i f:Nat} (h:nB k y i f p):∃g o,p = .pointer (some ⟨g,o,none⟩):=by
 unfold nB at h;split at h
 ·obtain⟨g,o,n,cc,_,e⟩:=h;exact⟨g,_,e⟩
 ·obtain⟨g,_,e⟩:=h;exact⟨g,_,e⟩
 ·exact h.elim
theorem uY {o:Oper} {x:Operand} (ho:o.op = .nilCheck x):eZ P c o:=by
 intro A hA B X w0 F0 F O a w δ hI k r hg Q;simp only [bC,ho] at hA;have dat:ba c o.dst [x] (cI c.K x) (dT En)=some A→o.wp P a w (Next c B X w0 F0 k r) Q:=by
  intro hA;refine aH hA hI hg (fun hx z hz=>?_) Q
  obtain⟨d1,e,hz⟩:=aQ hz;simp only [Iz,IA,Iy,and_true] at e;subst e;obtain⟨h1,h2⟩:=Fp (P:=P) (hx x (by simp)).2 hz o x a.eval ho rfl;exact⟨_,h1,.inr h2⟩
 have run:∀t g o',x = .tmp t→av a t = .pointer (some ⟨g,o',none⟩)→(execOp a.eval o).run P w = .ok (.value (av a t)) w:=by
  intro t g o' hx hv;subst hx;simp [execOp,ho,br,hv]
 unfold FU at hA;split at hA
 ·rename_i t
  split at hA
  ·rename_i n lv io hk
   split at hA
   ·cases hA
   rename_i d hd;split at hA
   case h_2=>cases hA
   rename_i rr hkd;split at hA
   case h_2=>cases hA
   rename_i hrt;rw [az] at hrt;subst hrt;cases hA;refine bx hI hd hg (fun z hz=>?_) Q
   obtain⟨d1,e,hz⟩:=aQ hz;simp only [af,Iy,and_true] at e;subst e;obtain⟨h1,rfl⟩:=aS hz;obtain⟨m,us,g,e,_,a1,_⟩:=hI.box hk h1;refine⟨_,run _ g 0 rfl a1,.inr ?_⟩
   rw [hkd];refine⟨0,0,rfl,h1,?_⟩
   rw [hk];exact⟨g,a1,a1⟩
  ·rename_i rr hk
   split at hA
   ·cases hA
   rename_i d hd;split at hA
   case h_2=>cases hA
   rename_i r' hkd;split at hA
   case h_2=>cases hA
   rename_i hrt;rw [az] at hrt;subst hrt;cases hA;refine bx hI hd hg (fun z hz=>?_) Q
   obtain⟨d1,e,hz⟩:=aQ hz;simp only [af,Iy,and_true] at e;subst e;obtain⟨h1,rfl⟩:=aS hz;obtain⟨ii,ff,g1,g2,g3⟩:=hI.ref hk h1;obtain⟨g,o',e⟩:=Eh g3;refine⟨_,run _ g o' rfl e,.inr ?_⟩
   rw [hkd];exact⟨ii,ff,g1,g2,g3⟩
  ·exact dat hA
 ·exact dat hA
theorem pu (hI:Inv c B X w0 F0 F O a w δ) {t:Nat} {rd:List Nat} {lv:Nat} {q:Option Nat} (h:kE c.K (.tmp t)=some (rd,lv,q)) {d:D}
  (hd:(match rd with
   | [_]=>some (nth (af δ rd) 0)
   | _=>ab (nth (af δ rd) 0) (nth (af δ rd) 1))=some d):∃G,bI w G d (av a t):=by
 rcases rV h with ⟨hk,rfl,rfl⟩ | ⟨z,io,hk,rfl,rfl⟩ | ⟨s,z,io,hk,hs,rfl,rfl⟩
 ·simp [af,nth] at hd
  subst hd;exact⟨_,hI.dat hk⟩
 ·simp [af,nth] at hd
  subst hd;by_cases hb:nth δ t = .bad
  ·exact⟨fun _=>True,.inl hb⟩
  ·exact⟨_,.inr (iH (hI.own hk hb))⟩
 ·simp only [af,nth] at hd
  obtain⟨h1,rfl⟩:=aS hd;obtain⟨g1,g2,g3,g4⟩:=hI.via hk h1;rw [g1];exact⟨_,.inr (iH (hI.own hs g3))⟩
theorem uE (hT:okT P c.T=true) {o:Oper} {x:Operand} {t:Nat} {str:Bool} (ho:o.op = .call {callee:=.builtin .len,args:=#[x],argTypes:=#[t]}) {i:TI} (hi:bR c.T t=some i)
  (hs:str=false→jz i=true) (hs':str=true→i.str=true) {A:Ac} (hA:Cy c o.dst str x=some A) (hI:Inv c B X w0 F0 F O a w δ) {k:List D→Option Out} {r:Out} (hg:co c A δ k=some r) (Q:Exit→Act→World→Prop):o.wp P a w (Next c B X w0 F0 k r) Q:=by
 have run:∀(G:Nat→Prop) (d z:D),bI w G d (a.eval x)→lenD str d=some z→∃v,(execOp a.eval o).run P w = .ok (.value v) w∧z = .v v∧flat v=true:=by
  intro G d z hd hz;obtain⟨v,h1,h2,h3⟩:=Fj (P:=P) (t:=t) (ty:=o.type) hd (fun h=>⟨_,(jW (tok hT hi) (hs h)).1⟩) (fun h=>((tok hT hi).str (hs' h)).1) hz;refine⟨v,?_,h2,h3⟩
  simp only [execOp,ho,resolve,invoke,builtin,IY,IZ,IK,List.map_toArray,Iz,IA,h1]
 have dat:∀A',ba c o.dst [x] 0 (dT (lenD str))=some A'→co c A' δ k=some r→o.wp P a w (Next c B X w0 F0 k r) Q:=by
  intro A' hA' hg';refine aH hA' hI hg' (fun hx z hz=>?_) Q
  obtain⟨d1,e,hz⟩:=aQ hz;simp only [Iz,IA,Iy,and_true] at e;subst e;obtain⟨v,h1,h2,h3⟩:=run _ _ z (hx x (by simp)).2 hz;exact⟨v,h1,gc h3 h2⟩
 unfold Cy at hA;split at hA
 ·rename_i t'
  split at hA
  ·exact dat A hA hg
  ·split at hA
   case h_2=>cases hA
   rename_i d rd lv q hd hsrc;split at hA
   case h_2=>cases hA
   rename_i lv' hk;cases hA;refine bx hI hd hg (fun z hz=>?_) Q
   have key:∃G dd,bI w G dd (av a t')∧lenD str dd=some z:=by
    have hsrc':=hsrc;rcases rV hsrc' with ⟨h1,rfl,rfl⟩ | ⟨_,_,h1,rfl,rfl⟩ | ⟨s,_,_,h1,h2,rfl,rfl⟩
    ·obtain⟨G,hG⟩:=pu hI hsrc (d:=nth δ t') (by simp [af,nth])
     exact⟨G,_,hG,by simpa [af,nth] using hz⟩
    ·obtain⟨G,hG⟩:=pu hI hsrc (d:=nth δ t') (by simp [af,nth])
     exact⟨G,_,hG,by simpa [af,nth] using hz⟩
    ·simp only [af,nth] at hz
     obtain⟨dd,e1,e2⟩:=Ix.1 hz;obtain⟨G,hG⟩:=pu hI hsrc (d:=dd) (by simpa [af,nth] using e1);exact⟨G,dd,hG,e2⟩
   obtain⟨G,dd,h1,h2⟩:=key;obtain⟨v,e1,e2,e3⟩:=run G dd z h1 h2;exact⟨v,e1,(gc (G:=FB F B lv') e3 e2).imp id fun h=>by rw [hk];exact h⟩
 ·exact dat A hA hg
end
end Go.V

namespace Go.V
open Go.RowKit
set_option maxRecDepth 100000
section
variable {P:Program} {c:Cx} {B:Nat} {X:Nat→Prop} {w0:World} {F0 F:Nat→Prop} {O:Nat→Option (Nat × Nat)} {a:Act} {w:World} {δ:List D}
theorem mi {cs:Array Value} {e:Nat} {g o:Nat} {us:List Value} (hg:w.heap[g]?=some (.cells cs e (0,0))) (h:∀(i:Nat) (u:Value),us[i]?=some u→cs[o+i]?=some u):ct w g o us:=fun i u hu=>by
 simp [JG,hg,h i u hu]
theorem GR (hI:Inv c B X w0 F0 F O a w δ) {q i f:Nat} {p:Value} (hb:nth δ q ≠ .bad) (hr:nB (ah c.K q) (av a q) i f p) {l:List D} (hl:atD (nth δ q) (.ref i f)=some l) :
  ∃g o us,p = .pointer (some ⟨g,o,none⟩)∧bh w (FB F B (dj c.K q)) l us∧l.all D.single=true∧ct w g o us:=by
 unfold nB at hr;split at hr
 ·rename_i z lv io hk
  obtain⟨g,o,n,cap,hy,rfl⟩:=hr;obtain⟨m,hd,hw,hrest⟩:=hI.own hk hb;rw [hd] at hl;simp only [atD] at hl;obtain⟨d,hdi,rfl⟩:=IW.1 hl;rcases hrest with ⟨e,_⟩ | ⟨g',o',c',us,cs,e,a1,a2,a3,a4,a5,a6,a7⟩
  ·rw [hy] at e;cases e
  rw [hy] at a1;simp at a1;obtain⟨⟨rfl,rfl⟩,rfl,rfl⟩:=a1;obtain⟨p',mm,q',rfl,h1,h2,h3,_⟩:=mw m us a5 hw i d hdi;have hcell:=mi (o:=o) a3 a6;have hrr:bh w (FB F B lv) d.cells mm∧d.cells.all D.single=true:=by
   rcases kf h3 with ⟨l,rfl⟩ | hs
   ·simpa only [RepC,D.cells] using h3
   ·rw [(dF hs).2]
    exact⟨ax.2 ⟨mm,[],by simp,h3,aL.2 rfl⟩,by simp [hs]⟩
  refine⟨g,_,mm.drop f,rfl,?_,mg hrr.2 f,?_⟩
  ·simp only [dj,hk]
   exact(js _ _ hrr.2 hrr.1 f).2
  ·rw [←h1]
   exact(ct.part hcell).drop f
 ·rename_i n lv io hk
  obtain⟨g,hy,rfl⟩:=hr;obtain⟨m,us,g',e,hd,a1,a2,a3,a4,a5,a6⟩:=hI.box hk hb;rw [hy] at a1;simp at a1;subst a1;rw [hd] at hl;simp only [atD,Jg] at hl;subst hl;have hcell:ct w g 0 us:=mi a2 (fun i u hu=>by simpa using hu);refine⟨g,f,us.drop f,rfl,?_,mg a4 f,by simpa using hcell.drop f⟩
  simp only [dj,hk];exact(js _ _ a4 a3 f).2
 ·exact hr.elim
theorem sX {o:Oper} {rd:List Nat} {d lv l:Nat} {h:List D→Option D} {A:Ac} (hk:ah c.K d = .dat l) (hd:o.dst=some d) (hA:Gg (fun h=>Ac.one rd d h) (xg lv l h)=some A)
  (hI:Inv c B X w0 F0 F O a w δ) {k:List D→Option Out} {r:Out} (hg:co c A δ k=some r)
  (hrun:∀z,h (af δ rd)=some z→∃y,(execOp a.eval o).run P w = .ok (.value y) w∧bI w (FB F B lv) z y) (Q:Exit→Act→World→Prop):o.wp P a w (Next c B X w0 F0 k r) Q:=by
 unfold xg at hA;split at hA
 ·rename_i hle
  rw [aT] at hle;cases hA;refine bx hI hd hg (fun z hz=>?_) Q
  obtain⟨y,h1,h2⟩:=hrun z hz;exact⟨y,h1,(fw hle h2).imp id fun h=>by rw [hk];exact h⟩
 ·split at hA
  case h_2=>cases hA
  cases hA;refine bx hI hd hg (fun z hz=>?_) Q
  obtain⟨z',hz',hc⟩:=Ix.1 hz;obtain⟨y,h1,h2⟩:=hrun z' hz';unfold bE at hc;split at hc
  case isFalse=>cases hc
  rename_i hv;cases hc;refine⟨y,h1,.inr ?_⟩
  rw [hk];refine my hv (h2.rep ?_)
  intro e;subst e;simp [D.isV] at hv
theorem AD (hT:okT P c.T=true) {o:Oper} {t:Nat} {p:Operand} (ho:o.op = .load t p):eZ P c o:=by
 intro A hA B X w0 F0 F O a w δ hI k r hg Q;simp only [bC,ho] at hA;have hA0:=ao hA;clear hA;obtain⟨i,hi,hA⟩:=hA0;have hti:=tok hT hi;unfold FJ at hA;split at hA
 case h_2=>cases hA
 rename_i q;have hex:execOp a.eval o=(do pure (.value (←Instr.loadAt t (av a q)))):=by simp only [execOp,ho,br]
 split at hA
 ·rename_i lv hk
  refine aH hA hI hg (fun hx z hz=>?_) Q
  obtain⟨d1,e,hz⟩:=aQ hz;simp only [Iz,IA,Iy,and_true] at e;subst e;have hx':=hx (.tmp q) (by simp);simp only [cI,hk] at hx';obtain⟨y,hy,hr⟩:=GI hti hx'.2 hz;exact⟨y,bX hex hy,.inr hr⟩
 ·rename_i n lv io hk
  split at hA
  ·cases hA
  rename_i d hd;split at hA
  case h_2=>cases hA
  rename_i l hkd;refine sX hkd hd hA hI hg (fun z hz=>?_) Q
  simp only [af,nth] at hz;by_cases hb:nth δ q = .bad
  ·rw [hb] at hz;simp [mQ] at hz
  obtain⟨m,us,g,e,hd',a1,a2,a3,a4,a5,a6⟩:=hI.box hk hb;rw [hd'] at hz;simp only [mQ,List.drop_zero] at hz;have hcell:ct w g 0 us:=mi a2 (fun i u hu=>by simpa using hu);obtain⟨y,hy,hr⟩:=qW (P:=P) hti a3 a4 hcell hz;exact⟨y,bX hex (by rw [a1];exact hy),.inr hr⟩
 ·rename_i s hk
  split at hA
  ·cases hA
  rename_i d hd;split at hA
  case h_2=>cases hA
  rename_i l hkd;refine sX hkd hd hA hI hg (fun z hz=>?_) Q
  simp only [af,nth] at hz;obtain⟨m,hm,hz⟩:=Ix.1 hz;have hb:nth δ q ≠ .bad:=by
   intro e;rw [e] at hm;unfold atD at hm;split at hm<;>first | (cases hm;done) | (rename_i h;cases h)
  obtain⟨ii,f,h1,h2,h3⟩:=hI.ref hk hb;rw [h1] at hm;obtain⟨g,o',us,e,g1,g2,g3⟩:=GR hI h2 h3 hm;obtain⟨y,hy,hr⟩:=qW (P:=P) hti g1 g2 g3 hz;exact⟨y,bX hex (by rw [e];exact hy),.inr hr⟩
 ·cases hA
theorem te (hT:okT P c.T=true) {o:Oper} {t f:Nat} {p:Operand} (ho:o.op = .fieldAddr t p f):eZ P c o:=by
 intro A hA B X w0 F0 F O a w δ hI k r hg Q;simp only [bC,ho] at hA;have hA0:=ao hA;clear hA;obtain⟨i,hi,hA⟩:=hA0;have hti:=tok hT hi;unfold Ga at hA;split at hA
 case h_2=>cases hA
 rename_i q off ti hf;have hf0:=na hf;clear hf;obtain⟨ty,hf,_⟩:=hf0;have hex:execOp a.eval o=(do pure (.value (←Instr.fieldAt t (av a q) f))):=by simp only [execOp,ho,br]
 split at hA
 ·rename_i lv hk
  refine aH hA hI hg (fun hx z hz=>?_) Q
  obtain⟨d1,e,hz⟩:=aQ hz;simp only [Iz,IA,Iy,and_true] at e;subst e;have hx':=hx (.tmp q) (by simp);simp only [cI,hk] at hx';obtain⟨y,hy,hr⟩:=Fm hti hf hx'.2 hz;exact⟨y,bX hex hy,.inr hr⟩
 ·rename_i n lv io hk
  split at hA
  ·cases hA
  rename_i d hd;split at hA
  case h_2=>cases hA
  rename_i r' hkd;split at hA
  case h_2=>cases hA
  rename_i hrq;rw [az] at hrq;subst hrq;cases hA;refine bx hI hd hg (fun z hz=>?_) Q
  obtain⟨d1,e,hz⟩:=aQ hz;simp only [af,Iy,and_true] at e;subst e;obtain⟨hb,rfl⟩:=aS hz;obtain⟨m,us,g,e,hd',a1,a2,a3,a4,a5,a6⟩:=hI.box hk hb;refine⟨_,bX hex (by rw [a1];exact oc hti hf g 0),.inr ?_⟩
  rw [hkd];refine⟨0,off,rfl,hb,?_⟩
  rw [hk];exact⟨g,a1,by rw [Jj]⟩
 ·rename_i s hk
  split at hA
  ·cases hA
  rename_i d hd;split at hA
  case h_2=>cases hA
  rename_i r' hkd;split at hA
  case h_2=>cases hA
  rename_i hrq;rw [az] at hrq;subst hrq;cases hA;refine bx hI hd hg (fun z hz=>?_) Q
  obtain⟨d1,e,hz⟩:=aQ hz;simp only [af,Iy,and_true] at e;subst e;unfold bF at hz;split at hz
  case h_2=>cases hz
  rename_i ii ff hd1;simp at hz;subst hz;obtain⟨i',f',h1,h2,h3⟩:=hI.ref hk (by rw [hd1];simp);rw [hd1] at h1;cases h1;have key:∃g o,av a q = .pointer (some ⟨g,o,none⟩)∧nB (ah c.K s) (av a s) ii (ff+off) (.pointer (some ⟨g,o+off,none⟩)):=by
   unfold nB at h3 ⊢;split at h3
   ·obtain⟨g,o,n,cc,e1,e2⟩:=h3
    exact⟨g,_,e2,g,o,n,cc,e1,by rw [Jh]⟩
   ·obtain⟨g,e1,e2⟩:=h3
    exact⟨g,_,e2,g,e1,rfl⟩
   ·exact h3.elim
  obtain⟨g,o',e1,e2⟩:=key;refine⟨_,bX hex (by rw [e1];exact oc hti hf g o'),.inr ?_⟩
  rw [hkd];exact⟨ii,ff+off,rfl,h2,e2⟩
 ·cases hA
theorem tu (hT:okT P c.T=true) {o:Oper} {t:Nat} {x ix:Operand} (ho:o.op = .indexAddr t x ix):eZ P c o:=by
 intro A hA B X w0 F0 F O a w δ hI k r hg Q;simp only [bC,ho] at hA;have hA0:=ao hA;clear hA;obtain⟨i,hi,hA⟩:=hA0;have hti:=tok hT hi;unfold Gu at hA;split at hA
 case h_2=>cases hA
 rename_i q hix;have hix':cI c.K ix≤2:=aT.1 hix;have hj:=hI.opd hix';have hex:execOp a.eval o=(do pure (.value (←Instr.indexAt t (av a q) (a.eval ix)))):=by simp only [execOp,ho,br]
 have own:∀(s:Nat) (z:D) (d:Nat),wC c.K s=true→nth δ s ≠ .bad→av a q=av a s→ah c.K d = .ref s→jz i=true→fR i.ez (nth δ s) (opD δ ix)=some z→∃y,(execOp a.eval o).run P w = .ok (.value y) w∧uj c.K B F a w δ d z y:=by
  intro s z d hown hb hav hkd hsl hz;obtain⟨zz,lv,io,hks⟩:∃zz lv io,ah c.K s = .own zz lv io:=by
   unfold wC at hown;split at hown
   ·exact⟨_,_,_,‹_›⟩
   ·cases hown
  obtain⟨l,hd,hw,hrest⟩:=hI.own hks hb;rw [hd] at hz;unfold fR at hz;split at hz
  case h_2=>cases hz
  rename_i z' l' k' n e1 e2;cases e1;split at hz
  case isFalse=>cases hz
  rename_i hc;obtain⟨rfl,h0,h1⟩:=hc;simp at hz;subst hz;rw [e2] at hj;obtain⟨hj,_⟩:=aK hj;rcases hrest with ⟨_,e⟩ | ⟨g,o',cc,us,cs,e,a1,a2,a3,a4,a5,a6,a7⟩
  ·subst e;simp at h1;omega
  refine⟨_,bX hex (by rw [hav,a1,hj];exact sK hti hsl g o' _ cc k' n h0 h1),.inr ?_⟩
  rw [hkd];refine⟨n.toNat,0,rfl,hb,?_⟩
  rw [hks];exact⟨g,o',_,cc,a1,rfl⟩
 split at hA
 ·rename_i hsl
  split at hA
  ·rename_i lv hk
   refine aH hA hI hg (fun hx z hz=>?_) Q
   obtain⟨d1,d2,e,hz⟩:=eN hz;simp only [Iz,IA,Iy,and_true] at e;obtain⟨rfl,rfl⟩:=e;obtain⟨l,hl,rfl⟩:=IW.1 hz;have hx':=hx (.tmp q) (by simp);simp only [cI,hk] at hx';obtain⟨y,hy,hr⟩:=Es hti hsl hx'.2 hj hl;exact⟨y,bX hex hy,.inr hr⟩
  ·rename_i z lv io hk
   split at hA
   ·cases hA
   rename_i d hd;split at hA
   case h_2=>cases hA
   rename_i r' hkd;split at hA
   case h_2=>cases hA
   rename_i hrq;rw [az] at hrq;subst hrq;cases hA;refine bx hI hd hg (fun z hz=>?_) Q
   simp only [af] at hz;rw [bk] at hz;obtain⟨d1,e,hz⟩:=aQ hz;simp only [Iz,IA,Iy,and_true] at e;subst e;refine own _ z d (by simp [wC,hk]) ?_ rfl hkd hsl hz
   intro e;rw [e] at hz;simp [fR] at hz
  ·rename_i s hk
   split at hA
   ·cases hA
   rename_i d hd;split at hA
   case h_2=>cases hA
   rename_i r' hkd;split at hA
   case h_2=>cases hA
   rename_i hrq hown;rw [az] at hrq;subst hrq;cases hA;refine bx hI hd hg (fun z hz=>?_) Q
   simp only [af] at hz;obtain⟨b,hb,hz⟩:=Ix.1 hz;obtain⟨hpb,rfl⟩:=aS hb;rw [bk] at hz;obtain⟨d1,e,hz⟩:=aQ hz;simp only [Iz,IA,Iy,and_true] at e;subst e;obtain⟨g1,g2,g3,g4⟩:=hI.via hk hpb;exact own _ z d hown g3 g1 hkd hsl hz
  ·cases hA
 ·split at hA
  ·cases hA
  rename_i n hn;have hal:i.alen≠0:=by intro h0;exact hn h0
  have step:∀(s:Nat) (ii f:Nat) (z:D) (p:D) (d:Nat) (g o':Nat),nth δ s ≠ .bad→p = .ref ii f→av a q = .pointer (some ⟨g,o',none⟩)→(∀x,nB (ah c.K s) (av a s) ii (f+x) (.pointer (some ⟨g,o'+x,none⟩)))→ah c.K d = .ref s→zE i.alen i.ez p (opD δ ix)=some z→∃y,(execOp a.eval o).run P w = .ok (.value y) w∧uj c.K B F a w δ d z y:=by
   intro s ii f z p d g o' hb hp hav hR hkd hz;subst hp;unfold zE at hz;split at hz
   case h_2=>cases hz
   rename_i j f' k' m e1 e2;cases e1;split at hz
   case isFalse=>cases hz
   rename_i hc;simp at hz;subst hz;rw [e2] at hj;obtain⟨hj,_⟩:=aK hj;refine⟨_,bX hex (by rw [hav,hj];exact sO hti hal g o' k' m hc.1 hc.2),.inr ?_⟩
   rw [hkd];exact⟨ii,_,rfl,hb,hR _⟩
  split at hA
  ·rename_i lv hk
   refine aH hA hI hg (fun hx z hz=>?_) Q
   obtain⟨d1,d2,e,hz⟩:=eN hz;simp only [Iz,IA,Iy,and_true] at e;obtain⟨rfl,rfl⟩:=e;have hx':=hx (.tmp q) (by simp);simp only [cI,hk] at hx';obtain⟨y,hy,hr⟩:=FH hti hal hx'.2 hj hz;exact⟨y,bX hex hy,.inr hr⟩
  ·rename_i nn lv io hk
   split at hA
   ·cases hA
   rename_i d hd;split at hA
   case h_2=>cases hA
   rename_i r' hkd;split at hA
   case h_2=>cases hA
   rename_i hrq;rw [az] at hrq;subst hrq;cases hA;refine bx hI hd hg (fun z hz=>?_) Q
   simp only [af] at hz;obtain⟨b,hb,hz⟩:=Ix.1 hz;obtain⟨hpb,rfl⟩:=aS hb;rw [bk] at hz;obtain⟨d1,e,hz⟩:=aQ hz;simp only [Iz,IA,Iy,and_true] at e;subst e;obtain⟨m,us,g,e,hd',a1,a2,a3,a4,a5,a6⟩:=hI.box hk hpb;refine step _ 0 0 z _ d g 0 hpb rfl a1 (fun x=>?_) hkd hz
   rw [hk];exact⟨g,a1,rfl⟩
  ·rename_i s hk
   split at hA
   ·cases hA
   rename_i d hd;split at hA
   case h_2=>cases hA
   rename_i r' hkd;split at hA
   case h_2=>cases hA
   rename_i hrq;rw [az] at hrq;subst hrq;cases hA;refine bx hI hd hg (fun z hz=>?_) Q
   simp only [af] at hz;rw [bk] at hz;obtain⟨d1,e,hz⟩:=aQ hz;simp only [Iz,IA,Iy,and_true] at e;subst e;have hb:nth δ q ≠ .bad:=by
    intro e;rw [e] at hz;simp [zE] at hz
   obtain⟨ii,f,h1,h2,h3⟩:=hI.ref hk hb;have key:∃g o',av a q = .pointer (some ⟨g,o',none⟩)∧∀x,nB (ah c.K s) (av a s) ii (f+x) (.pointer (some ⟨g,o'+x,none⟩)):=by
    unfold nB at h3 ⊢;split at h3
    ·obtain⟨g,o,n,cc,e1,e2⟩:=h3
     exact⟨g,_,e2,fun x=>⟨g,o,n,cc,e1,by rw [Jh]⟩⟩
    ·obtain⟨g,e1,e2⟩:=h3
     exact⟨g,_,e2,fun x=>⟨g,e1,rfl⟩⟩
    ·exact h3.elim
   obtain⟨g,o',e1,e2⟩:=key;exact step s ii f z _ d g o' h2 h1 e1 e2 hkd hz
  ·cases hA
end
end Go.V

namespace Go.V
open Go.RowKit
set_option maxRecDepth 100000
section
variable {P:Program} {c:Cx} {B:Nat} {X:Nat→Prop} {w0:World} {F0 F:Nat→Prop} {O:Nat→Option (Nat × Nat)} {a:Act} {w:World} {δ:List D}
theorem vd {lo:Option Operand} {G:Nat→Prop} (hl:bI w G (opD δ (oh lo)) (a.eval (oh lo))):LoV w G (opD δ (oh lo)) (lo.map a.eval):=by
 cases lo with
 | some l=>exact .inl ⟨_,rfl,hl⟩
 | none=>exact .inr ⟨rfl,rfl⟩
theorem yq {lo:D} {v:Option Value} {G G':Nat→Prop} (hG:∀b,G b→G' b) (h:LoV w G lo v):LoV w G' lo v:=by
 rcases h with ⟨y,h1,h2⟩ | h
 ·exact .inl ⟨y,h1,h2.imp id fun h=>aO hG (fun _ _=>rfl) h⟩
 ·exact .inr h
theorem tq (hT:okT P c.T=true) {o:Oper} {t:Nat} {q lv:Nat} {lo hi:Option Operand} (ho:o.op = .slice t (.tmp q) lo hi none) {i:TI} (hi':bR c.T t=some i) (hsl:i.str=false→jz i=true) (hk:ah c.K q = .dat lv)
  {A:Ac} (hA:wj c o.dst i (.tmp q) lo hi=some A) (hI:Inv c B X w0 F0 F O a w δ) {k:List D→Option Out} {r:Out} (hg:co c A δ k=some r) (Q:Exit→Act→World→Prop):o.wp P a w (Next c B X w0 F0 k r) Q:=by
 have hti:=tok hT hi';simp only [wj,hk] at hA;cases hi with
 | some h =>
  simp only at hA;refine aH hA hI hg (fun hx z hz=>?_) Q
  obtain⟨d1,d2,d3,e,hz⟩:=sm hz;simp only [Iz,IA,Iy,and_true] at e;obtain⟨rfl,rfl,rfl⟩:=e;have h1:=(hx (.tmp q) (by simp)).2;have h2:=vd (hx _ (.tail _ (.head _))).2;have h3:=(hx h (by simp)).2;simp only [cI,hk] at h1;obtain⟨v,hv,hr⟩:=wv (P:=P) (G:=fun _=>True) hti hsl h1 (yq (fun _ _=>trivial) h2) (h3.imp id fun h=>aO (fun _ _=>trivial) (fun _ _=>rfl) h) hz;exact⟨v,bX (by simp only [execOp,ho,Jd,IV]) hv,.inr hr⟩
 | none =>
  simp only at hA;refine aH hA hI hg (fun hx z hz=>?_) Q
  obtain⟨d1,d2,e,hz⟩:=eN hz;simp only [Iz,IA,Iy,and_true] at e;obtain⟨rfl,rfl⟩:=e;have h1:=(hx (.tmp q) (by simp)).2;have h2:=vd (hx _ (.tail _ (.head _))).2;simp only [cI,hk] at h1;obtain⟨v,hv,hr⟩:=sQ (P:=P) hti hsl h1 h2 hz;exact⟨v,bX (by simp only [execOp,ho,IV]) hv,.inr hr⟩
theorem tk (hT:okT P c.T=true) {o:Oper} {t:Nat} {cs:ByteArray} {lo hi:Option Operand} (ho:o.op = .slice t (.const (.string cs)) lo hi none) {i:TI} (hi':bR c.T t=some i) (hsl:i.str=false→jz i=true)
  {A:Ac} (hA:wj c o.dst i (.const (.string cs)) lo hi=some A) (hI:Inv c B X w0 F0 F O a w δ) {k:List D→Option Out} {r:Out} (hg:co c A δ k=some r) (Q:Exit→Act→World→Prop):o.wp P a w (Next c B X w0 F0 k r) Q:=by
 have hti:=tok hT hi';simp only [wj] at hA;cases hi with
 | some h =>
  simp only at hA;refine aH hA hI hg (fun hx z hz=>?_) Q
  obtain⟨d1,d2,d3,e,hz⟩:=sm hz;simp only [Iz,IA,Iy,and_true] at e;obtain⟨rfl,rfl,rfl⟩:=e;have h1:=(hx (.const (.string cs)) (by simp)).2;have h2:=vd (hx _ (.tail _ (.head _))).2;have h3:=(hx h (by simp)).2;simp only [cI] at h1;obtain⟨v,hv,hr⟩:=wv (P:=P) (G:=fun _=>True) hti hsl h1 (yq (fun _ _=>trivial) h2) (h3.imp id fun h=>aO (fun _ _=>trivial) (fun _ _=>rfl) h) hz;exact⟨v,bX (by simp only [execOp,ho,Jd,IV]) hv,.inr hr⟩
 | none =>
  simp only at hA;refine aH hA hI hg (fun hx z hz=>?_) Q
  obtain⟨d1,d2,e,hz⟩:=eN hz;simp only [Iz,IA,Iy,and_true] at e;obtain⟨rfl,rfl⟩:=e;have h1:=(hx (.const (.string cs)) (by simp)).2;have h2:=vd (hx _ (.tail _ (.head _))).2;simp only [cI] at h1;obtain⟨v,hv,hr⟩:=sQ (P:=P) hti hsl h1 h2 hz;exact⟨v,bX (by simp only [execOp,ho,IV]) hv,.inr hr⟩
theorem Dx {x:Operand} {rd:List Nat} {lv:Nat} {q:Option Nat} (h:kE c.K x=some (rd,lv,q)) (hne:rd≠[]):∃t,x = .tmp t:=by
 unfold kE at h;split at h
 ·exact⟨_,rfl⟩
 ·simp at h
  exact absurd h.1.symm (by simpa using hne)
 ·cases h
theorem vJ (hT:okT P c.T=true) {o:Oper} {s t:Nat} {x:Operand} (ho:o.op = .convert s t x):eZ P c o:=by
 intro A hA B X w0 F0 F O a w δ hI k r hg Q;simp only [bC,ho] at hA;have hA0:=ao hA;clear hA;obtain⟨si,hs,hA⟩:=hA0;have hA0:=ao hA;clear hA;obtain⟨di,hd,hA⟩:=hA0;have hsi:=tok hT hs;have hdi:=tok hT hd;unfold Gd at hA;split at hA
 ·rename_i e1 e2 e3
  split at hA
  case h_2=>cases hA
  rename_i d rd lv q hdst hsrc;split at hA
  case h_2=>cases hA
  rename_i lv' hk hb;cases hA;unfold GB at hb;split at hb
  case h_2=>cases hb
  rename_i hsl;split at hb
  case h_2=>cases hb
  rename_i ei hei;split at hb
  case h_2=>cases hb
  rename_i hik;refine bx hI hdst hg (fun z hz=>?_) Q
  have hne:rd≠[]:=by
   intro e;subst e;cases hz
  obtain⟨t',rfl⟩:=Dx hsrc hne;have key:∃G dd,bI w G dd (av a t')∧CC dd=some z:=by
   have hsrc':=hsrc;rcases rV hsrc' with ⟨h1,rfl,rfl⟩ | ⟨_,_,h1,rfl,rfl⟩ | ⟨s,_,_,h1,h2,rfl,rfl⟩
   ·obtain⟨G,hG⟩:=pu hI hsrc (d:=nth δ t') (by simp [af,nth])
    exact⟨G,_,hG,by simpa [af,nth] using hz⟩
   ·obtain⟨G,hG⟩:=pu hI hsrc (d:=nth δ t') (by simp [af,nth])
    exact⟨G,_,hG,by simpa [af,nth] using hz⟩
   ·simp only [af,nth] at hz
    obtain⟨dd,e1,e2⟩:=Ix.1 hz;obtain⟨G,hG⟩:=pu hI hsrc (d:=dd) (by simpa [af,nth] using e1);exact⟨G,dd,hG,e2⟩
  obtain⟨G,dd,h1,h2⟩:=key;have hdd:dd ≠ .bad:=by
   intro e;subst e;simp [CC] at h2
  obtain⟨v,g1,g2,g3⟩:=Gj (P:=P) hsi hdi (tok hT hei) hsl hik e1 (h1.rep hdd) h2;refine⟨v,bX (by simp only [execOp,ho,br]) g1,(gc (G:=FB F B lv') g3 g2).imp id fun h=>by rw [hk];exact h⟩
 ·rename_i e1 e2 e3
  refine aH hA hI hg (fun hx z hz=>?_) Q
  obtain⟨d1,e,hz⟩:=aQ hz;simp only [Iz,IA,Iy,and_true] at e;subst e;obtain⟨v,g1,g2,g3⟩:=EU (P:=P) hsi hdi e1 (hx x (by simp)).2 hz;exact⟨v,bX (by simp only [execOp,ho]) g1,gc g3 g2⟩
 ·refine aH hA hI hg (fun hx z hz=>?_) Q
  obtain⟨d1,e,hz⟩:=aQ hz;simp only [Iz,IA,Iy,and_true] at e;subst e;obtain⟨v,g1,g2,g3⟩:=Fg (P:=P) hsi hdi (hx x (by simp)).2 hz;exact⟨v,bX (by simp only [execOp,ho]) g1,gc g3 g2⟩
theorem rM {G:Nat→Prop}:∀(xs:List Operand),(∀x∈xs,bI w G (opD δ x) (a.eval x))→rg w G (xs.map (opD δ)) (xs.map a.eval)
 | [],_=>trivial
 | x::xs,h=>⟨h x (by simp),rM xs fun y hy=>h y (by simp [hy])⟩
theorem uO (K:List Kd):∀{xs:List Operand},∀x∈xs,cI K x≤iL K xs
 | y::ys,x,hx=>by
  simp only [iL,po];rcases List.mem_cons.1 hx with rfl | hx
  ·omega
  ·have:=uO K x hx
   omega
theorem wD {P:Program}:∀(fs:List Field) (l:List (Nat × Nat)),vP P fs l=true→∃places,fs.mapM (fun f=>(P.info? f.type).map fun i=>(f.offset,i.size))=some places ∧
  ∀(f:Nat) (fl:Field),fs[f]?=some fl→∃y,P.info? fl.type=some y∧places[f]?=some (fl.offset,y.size)
 | [],l,_=>⟨[],by simp,by simp⟩
 | g::fs,[],h=>by simp [vP] at h
 | g::fs,(o,t)::l,h=>by
  simp only [vP,Ji,beq_iff_eq] at h;obtain⟨⟨⟨h1,h2⟩,h3⟩,h4⟩:=h;obtain⟨places,hp,hq⟩:=wD fs l h4;split at h3
  case h_2=>cases h3
  rename_i x hx;refine⟨(g.offset,x.size)::places,by simp [List.mapM_cons,h2,hx,hp],fun f fl hf=>?_⟩
  cases f with
  | zero =>
   simp at hf;subst hf;exact⟨x,by rw [h2];exact hx,by simp⟩
  | succ f=>exact hq f fl (by simpa using hf)
theorem uN (hT:okT P c.T=true) {t:Nat} {i:TI} (hi:TOk P t i) {fs:List Field} {arr:Array Field} (hu:P.underlying t=some (.struct arr)) (hfs:arr.toList=fs) {places:List (Nat × Nat)}
  (hq:∀(f:Nat) (fl:Field),fs[f]?=some fl→∃y,P.info? fl.type=some y∧places[f]?=some (fl.offset,y.size)) (ρ:Operand→Value) :
  ∀(parts:List (Nat × Operand)) (ps:List (Nat × Nat)),qR c i parts=some ps→(parts.map fun p=>(p.1,ρ p.2)).map (fun p=>places.toArray[p.1]?)=ps.map some
 | [],ps,h=>by
  simp [qR] at h;subst h;rfl
 | (f,x)::parts,ps,h=>by
  simp only [qR] at h;split at h
  case h_2=>cases h
  rename_i off ti l hf hl;simp at h;subst h;have ih:=uN hT hi hu hfs hq ρ parts l hl;obtain⟨ty,h1,h2⟩:=na hf;obtain⟨fs',fl,g1,g2,g3,g4,_⟩:=hi.fs _ _ _ h1;rw [hu] at g1;simp at g1;subst g1;obtain⟨y,e1,e2⟩:=hq f fl (by rw [←hfs];simpa using g2);obtain⟨xx,_,k1,k2,_⟩:=(tok hT h2).info;rw [g4,k1] at e1;cases e1;simp only [Iz,Iy];exact⟨by rw [g3,k2] at e2;simpa using e2,ih⟩
theorem tY (z:Nat) (ρ:Operand→Value):∀(parts:List (Nat × Operand)),(parts.map fun p=>(p.1,ρ p.2)).map (fun p=>some (p.1*z,z))=(tO z parts).map some
 | []=>rfl
 | p::parts=>by simp [tO,tY z ρ parts]
theorem Af (hT:okT P c.T=true) {o:Oper} {t:Nat} {parts:Array (Nat × Operand)} (ho:o.op = .build t parts):eZ P c o:=by
 intro A hA B X w0 F0 F O a w δ hI k r hg Q;simp only [bC,ho] at hA;have hA0:=ao hA;clear hA;obtain⟨i,hi,hA⟩:=hA0;have hti:=tok hT hi;obtain⟨x,z,hinf,hsz,hzz,hzo,haz⟩:=hti.info;have main:∀(ps:List (Nat × Nat)) (place:Nat→Option (Nat × Nat)) (A':Ac),ba c o.dst (lV (fun p=>p.2) parts.toList) (iL c.K (lV (fun p=>p.2) parts.toList)) (lX ps i.zero)=some A'→co c A' δ k=some r →
   (parts.toList.map fun p=>(p.1,a.eval p.2)).map (fun p=>place p.1)=ps.map some→(∀vs cells,vs=(parts.map fun p=>(p.1,a.eval p.2))→Jy place z.cells vs.toList=some cells→P.built t vs.toList=some cells) →
   o.wp P a w (Next c B X w0 F0 k r) Q:=by
  intro ps place A' hA' hg' hp hb;refine aH hA' hI hg' (fun hx zz hz=>?_) Q
  unfold lX at hz;obtain⟨cs',h1,rfl⟩:=IW.1 hz;obtain⟨zr,zs⟩:=cO (w:=w) (F:=FB F B (iL c.K (lV (fun p=>p.2) parts.toList))) _ _ hzo;have hbs:rg w (FB F B (iL c.K (lV (fun p=>p.2) parts.toList))) ((lV (fun p=>p.2) parts.toList).map (opD δ)) ((lV (fun p=>p.2) parts.toList).map a.eval):=rM _ fun x hxm=>fw (uO _ x hxm) (hx x hxm).2
  obtain⟨us',e1,e2,e3⟩:=rE place (parts.toList.map fun p=>(p.1,a.eval p.2)) ps _ i.zero cs' z.cells.toList hp (by rw [pd] at hbs ⊢;simpa [List.map_map,JF] using hbs) zs zr h1;have hbuilt:=hb (parts.map fun p=>(p.1,a.eval p.2)) us'.toArray rfl (by simpa using e1);refine⟨.agg us'.toArray,bX (s:=Instr.build t (parts.map fun(i,x)=>(i,a.eval x))) (by simp only [execOp,ho]) (run_build w t _ _ hbuilt),.inr ?_⟩
  simp only [bj];exact⟨us',rfl,e2,e3⟩
 unfold Gb at hA;simp only at hA;split at hA
 ·rename_i hal hag
  split at hA
  case h_2=>cases hA
  rename_i ps hps;obtain⟨arr,hu,hfs⟩:=hti.st hag hal;obtain⟨places,hp,hq⟩:=wD arr.toList i.fs hfs;refine main ps (places.toArray[·]?) _ hA hg (uN hT hti hu rfl hq _ parts.toList ps hps) (fun vs cells hvs hf=>?_)
  unfold Program.built;simp only [hinf,hu,hzz,hp];exact hf
 ·cases hA
 ·rename_i h1 h2
  have hal:i.alen≠0:=by
   intro e;cases hg:i.agg
   ·exact h2 e hg
   ·exact h1 e hg
  obtain⟨hu,hag,hez,hn,y,hy,hys⟩:=hti.ar hal;refine main _ (fun j=>some (j*i.ez,i.ez)) _ hA hg (tY i.ez _ parts.toList) (fun vs cells hvs hf=>?_)
  unfold Program.built;simp only [hinf,hu,hzz,hy,hys];exact hf
theorem sP {o:Oper} {bi:Builtin} {xs:List Operand} {q:Call} (ho:o.op = .call q) (hq:q.callee = .builtin bi) (hxs:q.args.toList=xs) {f:D→D→Option D} {g:Value→Value→Sem Value}
  (hf:∀(w:World) (G:Nat→Prop) (a b z:D) (x y:Value),bI w G a x→bI w G b y→f a b=some z→∃v,(g x y).run P w = .ok v w∧z = .v v∧flat v=true)
  (hb:∀(x:Value) (rest:List Value) (v:Value),q.args.map a.eval=(x::rest).toArray→(rest.foldlM g x).run P w = .ok v w→(builtin bi q.argTypes o.type (q.args.map fun | .const _=>true | _=>false) (q.args.map a.eval)).run P w = .ok (.value v) w)
  {A:Ac} (hA:ba c o.dst xs 0 (uJ f)=some A) (hI:Inv c B X w0 F0 F O a w δ) {k:List D→Option Out} {r:Out} (hg:co c A δ k=some r) (Q:Exit→Act→World→Prop):o.wp P a w (Next c B X w0 F0 k r) Q:=by
 refine aH hA hI hg (fun hx z hz=>?_) Q
 have hG:∀y∈xs,bI w (FB F B 2) (opD δ y) (a.eval y):=fun y hy=>fw (hx y hy).1 (hx y hy).2
 match xs,hxs,hG,hz with
 | [],_,_,hz=>simp [uJ] at hz
 | [_],_,_,hz=>simp [uJ] at hz
 | x::y::xs,hxs,hG,hz =>
  simp only [Iz,uJ] at hz;obtain⟨v,h1,h2,h3⟩:=Ch (P:=P) (fun a b z x y=>hf w (FB F B 2) a b z x y) (ds:=xs.map (opD δ)) (ys:=xs.map a.eval) (hG x (by simp)) (hG y (by simp)) (rM xs fun y hy=>hG y (by simp [hy])) hz;have he:q.args.map a.eval=(a.eval x::(a.eval y::xs.map a.eval)).toArray:=by
   rw [←Ja (xs:=q.args),hxs];simp
  have hrun:=hb _ _ _ he h1;refine⟨v,?_,gc h3 h2⟩
  simp only [execOp,ho,resolve,hq,IY,IZ,IK,invoke];exact hrun
end
end Go.V

namespace Go.V
open Go.RowKit
set_option maxRecDepth 100000
def qd (K:List Kd) (B:Nat) (F:Nat→Prop) (O:Nat→Option (Nat × Nat)) (a:Act) (w:World) (s:Nat) (d:D):Prop :=
 d = .bad∨match ah K s with
  | .via _=>False
  | .ref _=>False
  | .tup ms=>∃l vs,d = .tup l∧av a s = .tuple vs∧∀i,rY B F O w (s,i+1) (ah ms i) (nth l i) (vs.getD i undef)
  | .no=>True
  | k=>rY B F O w (s,0) k d (av a s)
section
variable {P:Program} {c:Cx} {B:Nat} {X:Nat→Prop} {w0:World} {F0 F:Nat→Prop} {O:Nat→Option (Nat × Nat)} {a:Act} {w:World} {δ:List D}
theorem qd.ok {K:List Kd} {F:Nat→Prop} {O:Nat→Option (Nat × Nat)} {a:Act} {w:World} {δ:List D} {s:Nat} (h:qd K B F O a w s (nth δ s)):qu K B F O a w δ s:=by
 unfold qd at h;unfold qu;rcases h with h | h
 ·exact .inl h
 ·refine .inr ?_
  generalize ah K s=k at h;cases k<;>first | exact h | exact h.elim
theorem Inv.many (h:Inv c B X w0 F0 F O a w δ) {hw cw:List Nat} {outs:List D} {F':Nat→Prop} {O':Nat→Option (Nat × Nat)} {a':Act} {w':World}
  (hlen:outs.length=(hw++cw).length) (la:a'.tmps.size=a.tmps.size) (df:a'.defers=a.defers) (hav:∀s,s∉hw→av a' s=av a s)
  (hcw:∀r∈cw,r∉hw→nth δ r ≠ .bad→nth (ae δ (hw++cw) outs) r ≠ .bad)
  (hU:∀s∈hw++cw,qd c.K B F' O' a' w' s (nth (ae δ (hw++cw) outs) s))
  (hF:∀b,F b→F' b) (hw':∀b,F b→w'.heap[b]?=w.heap[b]?)
  (ho:∀b p,O b=some p→p.1∉hw++cw→O' b=some p∧w'.heap[b]?=w.heap[b]?)
  (fl:∀b,F' b→b<w'.heap.size∧O' b=none) (ol:∀b p,O' b=some p→b<w'.heap.size∧(B≤b∨X b)) (fn:∀b,F' b→F b∨B≤b) (sz:w.heap.size≤w'.heap.size)
  (os:w'.os=w.os) (tape:w'.tape=w.tape) (output:w'.output=w.output) (keep:∀b,b<B→¬X b→w'.heap[b]?=w.heap[b]?) :
  Inv c B X w0 F0 F' O' a' w' (ae δ (hw++(cw++aB c.K hw)) outs):=by
 rw [←II,oB _ _ _ _ hlen];have nd:∀s,nth (ae (ae δ (hw++cw) outs) (aB c.K hw) []) s=nth (ae δ (hw++cw) outs) s∨nth (ae (ae δ (hw++cw) outs) (aB c.K hw) []) s = .bad:=fun s=>iw _ _ s
 refine h.step (fun s=>s∈hw++cw) la (by rw [bV,bV]) df (fun s hs=>⟨hav s fun hm=>hs (List.mem_append_left _ hm),?_⟩) hF hw' ho (fun s r hs hv hb=>?_) (fun s hs=>?_) fl ol fn sz os tape output keep
 ·rcases nd s with e | e
  ·exact .inl (e.trans (am _ _ _ _ hs))
  ·exact .inr e
 ·by_cases hr:r∈hw
  ·exact absurd (iE _ _ _ (gw hv hw hr)) hb
  ·refine⟨hav r hr,?_⟩
   have e:nth (ae (ae δ (hw++cw) outs) (aB c.K hw) []) s=nth (ae δ (hw++cw) outs) s:=(nd s).resolve_right hb;rw [e,am _ _ _ _ hs] at hb;obtain⟨h1,h2⟩:=h.root hv hb;rw [am _ _ _ _ (lS h1 hw)];by_cases hc:r∈cw
   ·exact hcw r hc hr h2
   ·rw [am _ _ _ _ (fun hm=>(Jk.1 hm).elim hr hc)]
    exact h2
 ·rcases nd s with e | e
  ·refine qd.ok ?_
   rw [e];exact hU s hs
  ·exact .inl e
def blk:Value→Option Nat
 | .slice (some ⟨g,_,_⟩) _ _=>some g
 | .pointer (some ⟨g,_,_⟩)=>some g
 | _=>none
def dE (O:Nat→Option (Nat × Nat)) (y:Value) (x:Option (Nat × Nat)):Nat→Option (Nat × Nat):=fun b=>if blk y=some b then x else O b
def pC (F:Nat→Prop) (y:Value):Nat→Prop:=fun b=>F b∨blk y=some b
theorem iA.blk {F:Nat→Prop} {own:Nat→Prop} {z:Nat} {d:D} {y:Value} (h:iA w F own z d y):∀b,blk y=some b→own b∧b<w.heap.size:=by
 intro b hb;obtain⟨l,_,_,h3⟩:=h;rcases h3 with ⟨rfl,_⟩ | ⟨g,o,c,us,cs,e,rfl,a2,a3,a4,a5,a6,a7⟩
 ·simp [V.blk] at hb
 ·simp [V.blk] at hb
  subst hb;exact⟨a7,(Jb.1 a3).1⟩
theorem iA.own {F:Nat→Prop} {own own':Nat→Prop} {z:Nat} {d:D} {y:Value} (h:iA w F own z d y) (ho:∀b,V.blk y=some b→own b→own' b):iA w F own' z d y:=by
 obtain⟨l,h1,h2,h3⟩:=h;refine⟨l,h1,h2,?_⟩
 rcases h3 with h3 | ⟨g,o,c,us,cs,e,rfl,a2,a3,a4,a5,a6,a7⟩
 ·exact .inl h3
 ·exact .inr ⟨g,o,c,us,cs,e,rfl,a2,a3,a4,a5,a6,ho g rfl a7⟩
theorem cm {w w':World} {F F':Nat→Prop} {own own':Nat→Prop} {z:Nat} {d:D} {y:Value} (hF:∀b,F b→F' b) (hw:∀b,F b→w'.heap[b]?=w.heap[b]?)
  (ho:∀g,V.blk y=some g→own g→own' g∧w'.heap[g]?=w.heap[g]?) (h:iA w F own z d y):iA w' F' own' z d y:=by
 obtain⟨l,h1,h2,h3⟩:=h;refine⟨l,h1,h2,?_⟩
 rcases h3 with h3 | ⟨g,o,c,us,cs,e,rfl,a2,a3,a4,a5,a6,a7⟩
 ·exact .inl h3
 ·exact .inr ⟨g,o,c,us,cs,e,rfl,a2,(ho g rfl a7).2.trans a3,a4,bm hF hw _ _ a5,a6,(ho g rfl a7).1⟩
theorem mS:∀(ts:List Nat) (δ:List D) (s:Nat),s∈ts→nth (ae δ ts (ts.map fun _=>D.bad)) s = .bad
 | t::ts,δ,s,h=>by
  simp only [Iz,ae];by_cases hs:s∈ts
  ·exact mS ts _ s hs
  ·rw [am _ _ _ _ hs]
   have:s=t:=by simpa [hs] using h
   subst this;rw [aV];split<;>rfl
theorem mX {K:List Kd} {d z lv:Nat} (h:fM K d z lv=true):(∃l,ah K d = .own z l false∧lv≤l)∨∃l,ah K d = .dat l∧1≤l∧lv≤l:=by
 unfold fM at h;split at h
 ·rename_i z' l hk
  split at h
  ·rename_i hz
   rw [az] at hz;subst hz;exact .inl ⟨l,hk,aT.1 h⟩
  ·cases h
 ·rename_i l hk
  split at h
  ·rename_i h1
   exact .inr ⟨l,hk,aT.1 h1,aT.1 h⟩
  ·cases h
 ·cases h
theorem dG {δ:List D} {d s:Nat} {ts:List Nat} {x:D} (hs:s∈d::ts):nth (ae δ (d::ts) (x::ts.map fun _=>D.bad)) s = .bad∨(s=d∧d<δ.length∧nth (ae δ (d::ts) (x::ts.map fun _=>D.bad)) s=x):=by
 simp only [ae];by_cases ht:s∈ts
 ·exact .inl (mS ts _ s ht)
 ·rw [am _ _ _ _ ht]
  have:s=d:=by simpa [ht] using hs
  subst this;rw [aV];split
  ·exact .inr ⟨rfl,‹_›,rfl⟩
  ·exact .inl rfl
theorem Inv.install (h:Inv c B X w0 F0 F O a w δ) {d z lv:Nat} {ts:List Nat} {x:D} {y:Value} {w':World} (hk:fM c.K d z lv=true)
  (hv:iA w' (FB F B lv) (fun g=>B≤g∧(w.heap.size≤g∨∃p,O g=some p∧p.1∈ts)) z x y)
  (sz:w.heap.size≤w'.heap.size) (hw:∀b,b<w.heap.size→(∀p,O b=some p→p.1∉ts)→w'.heap[b]?=w.heap[b]?)
  (os:w'.os=w.os) (tape:w'.tape=w.tape) (output:w'.output=w.output) :
  ∃F' O',Inv c B X w0 F0 F' O' (a.put (some d) y) w' (ae δ ((d::ts)++([]++aB c.K (d::ts))) (x::ts.map fun _=>.bad)):=by
 have hblk:∀b,V.blk y=some b→(B≤b∧(w.heap.size≤b∨∃p,O b=some p∧p.1∈ts))∧b<w'.heap.size:=hv.blk;have hFb:∀b,F b→V.blk y≠some b:=fun b hb e=>by
  obtain⟨⟨_,h1⟩,_⟩:=hblk b e;obtain⟨h2,h3⟩:=h.fl b hb;rcases h1 with h1 | ⟨p,h1,_⟩
  ·omega
  ·rw [h3] at h1;cases h1
 have hwF:∀b,F b→w'.heap[b]?=w.heap[b]?:=fun b hb=>hw b (h.fl b hb).1 fun p hp=>by rw [(h.fl b hb).2] at hp;cases hp
 have hwK:∀b,b<B→¬X b→w'.heap[b]?=w.heap[b]?:=fun b hb hx=>hw b (IB hb h.bb) fun p hp=>by
  rcases(h.ol b p hp).2 with h1 | h1
  ·omega
  ·exact absurd h1 hx
 have hoO:∀(x':Option (Nat × Nat)) b p,O b=some p→p.1∉(d::ts)++[]→dE O y x' b=some p∧w'.heap[b]?=w.heap[b]?:=fun x' b p hp hm=>by
  have hm':p.1∉ts:=fun hm'=>hm (by simp [hm'])
  have hlt:=(h.ol b p hp).1;refine⟨?_,hw b hlt fun p' hp'=>by rw [hp] at hp';cases hp';exact hm'⟩
  unfold dE;rw [if_neg]
  ·exact hp
  ·intro e
   obtain⟨⟨_,h1⟩,_⟩:=hblk b e;rcases h1 with h1 | ⟨p',h1,h2⟩
   ·omega
   ·rw [hp] at h1;cases h1;exact hm' h2
 have hol:∀(x':Option (Nat × Nat)) b p,dE O y x' b=some p→b<w'.heap.size∧(B≤b∨X b):=fun x' b p hp=>by
  unfold dE at hp;split at hp
  ·rename_i e
   exact⟨(hblk b e).2,.inl (hblk b e).1.1⟩
  ·obtain⟨h1,h2⟩:=h.ol b p hp
   exact⟨by omega,h2⟩
 have hav:∀s,s∉d::ts→av (a.put (some d) y) s=av a s:=fun s hs=>bz fun e=>hs (by simp [e])
 have hlen:(x::ts.map fun _=>D.bad).length=((d::ts)++[]).length:=by simp
 rcases mX hk with ⟨l,hk,hl⟩ | ⟨l,hk,h1l,hl⟩
 ·refine⟨F,dE O y (some (d,0)),h.many hlen em rfl hav (by simp) (fun s hs=>?_) (fun _ hb=>hb) hwF (hoO _) (fun b hb=>?_) (hol _) (fun _ hb=>.inl hb) sz os tape output hwK⟩
  ·rw [IC] at hs ⊢
   rcases dG (δ:=δ) (x:=x) hs with e | ⟨rfl,hd,e⟩
   ·exact .inl e
   ·refine .inr ?_
    rw [hk,e,cy (by rw [h.la,←h.ld];exact hd)];refine .inr ?_
    exact cm (jm hl) (fun _ _=>rfl) (fun g hg ho=>⟨⟨by unfold dE;rw [if_pos hg],fun _=>ho.1⟩,rfl⟩) hv
  ·refine⟨IB (h.fl b hb).1 sz,?_⟩
   unfold dE;rw [if_neg (hFb b hb)];exact(h.fl b hb).2
 ·refine⟨pC F y,dE O y none,h.many hlen em rfl hav (by simp) (fun s hs=>?_) (fun _ hb=>.inl hb) hwF (hoO _) (fun b hb=>?_) (hol _) (fun b hb=>?_) sz os tape output hwK⟩
  ·rw [IC] at hs ⊢
   rcases dG (δ:=δ) (x:=x) hs with e | ⟨rfl,hd,e⟩
   ·exact .inl e
   ·refine .inr ?_
    rw [hk,e,cy (by rw [h.la,←h.ld];exact hd)];refine .inr ?_
    refine aO (fun b hb=>?_) (fun _ _=>rfl) (iH (hv.own (own':=fun g=>B≤g∧V.blk y=some g) fun b hb ho=>⟨ho.1,hb⟩))
    rcases hb with hb | ⟨hb1,hb2⟩
    ·exact jm hl _ (eX (fun _ h=>.inl h) _ hb)
    ·have hx:pC F y b:=.inr hb2
     match l,h1l with
     | 1,_=>exact⟨hx,hb1⟩
     | _+2,_=>exact hx
  ·rcases hb with hb | hb
   ·refine⟨IB (h.fl b hb).1 sz,?_⟩
    unfold dE;rw [if_neg (hFb b hb)];exact(h.fl b hb).2
   ·exact⟨(hblk b hb).2,by unfold dE;rw [if_pos hb]⟩
  ·rcases hb with hb | hb
   ·exact .inl hb
   ·exact .inr (hblk b hb).1.1
theorem bt {o:Oper} {F':Nat→Prop} {O':Nat→Option (Nat × Nat)} {y:Value} {w':World} {d:Nat} {δ':List D} (hd:o.dst=some d) {k:List D→Option Out} {r:Out}
  (hr:(execOp a.eval o).run P w = .ok (.value y) w') (hI:Inv c B X w0 F0 F' O' (a.put (some d) y) w' δ') (hk:k δ'=some r) (Q:Exit→Act→World→Prop):o.wp P a w (Next c B X w0 F0 k r) Q :=
 Ar hr ⟨F',O',δ',by rw [hd];exact hI,hk⟩
theorem qX {K:List Kd} {r:Nat} (h:tT K r=true):∃z lv,ah K r = .own z lv false:=by
 unfold tT at h;split at h
 ·exact⟨_,_,‹_›⟩
 ·cases h
theorem Inv.pass (h:Inv c B X w0 F0 F O a w δ) {d r z lv:Nat} {x:D} {y:Value} (hk:fM c.K d z lv=true)
  (hv:iA w (FB F B lv) (fun g=>O g=some (r,0)∧B≤g) z x y) :
  ∃F' O',Inv c B X w0 F0 F' O' (a.put (some d) y) w (ae δ ([d,r]++([]++aB c.K [d,r])) [x,.bad]) :=
 h.install (ts:=[r]) hk (hv.own fun _ _ ho=>⟨ho.2,.inr ⟨_,ho.1,by simp⟩⟩) (IE _) (fun _ _ _=>rfl) rfl rfl rfl
theorem Inv.fresh (h:Inv c B X w0 F0 F O a w δ) {d z lv:Nat} {x:D} {y:Value} {w':World} (hk:fM c.K d z lv=true)
  (hv:iA w' (FB F B lv) (fun g=>w.heap.size≤g) z x y) (sz:w.heap.size≤w'.heap.size) (hw:∀b,b<w.heap.size→w'.heap[b]?=w.heap[b]?)
  (os:w'.os=w.os) (tape:w'.tape=w.tape) (output:w'.output=w.output) :
  ∃F' O',Inv c B X w0 F0 F' O' (a.put (some d) y) w' (ae δ ([d]++([]++aB c.K [d])) [x]) :=
 h.install (ts:=[]) hk (hv.own fun _ _ ho=>⟨Js h.bb ho,.inl ho⟩) sz (fun b hb _=>hw b hb) os tape output
theorem uz {F:Nat→Prop} {own:Nat→Prop} {z:Nat}:iA w F own z (.arr z []) (.slice none 0 0):=⟨[],rfl,by simp,.inl ⟨rfl,rfl⟩⟩
theorem Inv.dead (h:Inv c B X w0 F0 F O a w δ) (d:Nat) (ts:List Nat) (y:Value) :
  Inv c B X w0 F0 F O (a.put (some d) y) w (ae δ ((d::ts)++([]++aB c.K (d::ts))) (.bad::ts.map fun _=>.bad)):=by
 refine h.many (by simp) em rfl (fun s hs=>bz fun e=>hs (by simp [e])) (by simp) (fun s hs=>.inl ?_) (fun _ hb=>hb) (fun _ _=>rfl) (fun _ _ hp _=>⟨hp,rfl⟩) h.fl h.ol (fun _ hb=>.inl hb) (IE _) rfl rfl rfl (fun _ _ _=>rfl)
 rw [IC] at hs ⊢;rcases dG (δ:=δ) (x:=.bad) hs with e | ⟨_,_,e⟩<;>exact e
theorem Inv.over (h:Inv c B X w0 F0 F O a w δ) {d r z lv:Nat} (hr:ah c.K r = .own z lv false) (hk:fM c.K d z lv=true) :
  ∃F' O',Inv c B X w0 F0 F' O' (a.put (some d) (av a r)) w (ae δ ([d,r]++([]++aB c.K [d,r])) [nth δ r,.bad]):=by
 by_cases hb:nth δ r = .bad
 ·rw [hb]
  exact⟨F,O,h.dead d [r] _⟩
 ·exact h.pass hk ((h.own hr hb).own fun _ _ ho=>⟨ho.1,ho.2 rfl⟩)
theorem sg:∀{ms ns:List Kd},eU ms ns=true→∀i,ah ns i=ah ms i∧(ah ms i = .no∨(∃lv,ah ms i = .dat lv)∨∃z lv,ah ms i = .own z lv false)
 | [],[],_,i=>by simp [ah]
 | m::ms,n::ns,h,i=>by
  have:n=m∧((∃lv,m = .dat lv)∨∃z lv,m = .own z lv false)∧eU ms ns=true:=by
   cases m with
   | dat a =>
    cases n<;>simp only [eU] at h<;>try cases h
    split at h
    case h_2=>cases h
    rename_i e;rw [az] at e;subst e;exact⟨rfl,.inl ⟨_,rfl⟩,h⟩
   | own z a io =>
    cases io
    case true=>cases n<;>simp [eU] at h
    cases n with
    | own z' a' io' =>
     cases io'
     case true=>simp [eU] at h
     simp only [eU] at h;split at h
     case h_2=>cases h
     rename_i e1 e2;rw [az] at e1 e2;subst e1 e2;exact⟨rfl,.inr ⟨_,_,rfl⟩,h⟩
    | _=>simp [eU] at h
   | _=>cases n<;>simp [eU] at h
  obtain⟨rfl,h1,h2⟩:=this;cases i with
  | zero=>exact⟨rfl,.inr h1⟩
  | succ i=>exact sg h2 i
 | [],_::_,h,_=>by simp [eU] at h
 | m::_,[],h,_=>by cases m<;>first | (simp [eU] at h;done) | (rename_i io;cases io<;>simp [eU] at h)
theorem Inv.overT (h:Inv c B X w0 F0 F O a w δ) {d t:Nat} {ms ns:List Kd} (ht:ah c.K t = .tup ms) (hd:ah c.K d = .tup ns) (hs':eU ms ns=true) (hdt:JJ d t=false) :
  ∃F' O',Inv c B X w0 F0 F' O' (a.put (some d) (av a t)) w (ae δ ([d,t]++([]++aB c.K [d,t])) [nth δ t,.bad]):=by
 have hne:d≠t:=fun e=>by subst e;simp at hdt
 refine⟨F,fun b=>match O b with
  | some p=>if p.1=t∧p.2≠0 then some (d,p.2) else some p
  | none=>none,h.many rfl em rfl (fun s hs=>bz fun e=>hs (by simp [e])) (by simp) (fun s hs=>?_) (fun _ hb=>hb) (fun _ _=>rfl) (fun b p hp hm=>⟨?_,rfl⟩) (fun b hb=>⟨(h.fl b hb).1,by simp only [(h.fl b hb).2]⟩) (fun b p hp=>?_) (fun _ hb=>.inl hb) (IE _) rfl rfl rfl (fun _ _ _=>rfl)⟩
 ·rw [IC] at hs ⊢
  rcases dG (δ:=δ) (x:=nth δ t) (ts:=[t]) hs with e | ⟨rfl,hl,e⟩
  ·exact .inl e
  ·simp only [Iz,IA] at e
   rw [e];by_cases hb:nth δ t = .bad
   ·exact .inl hb
   have h0:=(h.slot t).resolve_left hb;rw [ht] at h0;obtain⟨l,vs,h1,h2,h3⟩:=h0;refine .inr ?_
   rw [hd,cy (by rw [h.la,←h.ld];exact hl)];refine⟨l,vs,h1,h2,fun i=>?_⟩
   rw [(sg hs' i).1];exact pk (fun _ hb=>hb) (fun _ _=>rfl) (fun g hg=>⟨by simp [hg],rfl⟩) (h3 i)
 ·have:p.1≠t:=fun e=>hm (by simp [e])
  simp only [hp,this,false_and,if_false]
 ·cases hO:O b with
  | none=>simp only [hO] at hp;cases hp
  | some q=>exact h.ol b q hO
theorem xd {K:List Kd} {d z z' lv lv':Nat} (hk:ah K d = .own z' lv' false) (h1:JJ z z'=true) (h2:JE lv lv'=true):fM K d z lv=true:=by simp only [fM,hk,h1,h2]
theorem xp {K:List Kd} {d z lv lv':Nat} (hk:ah K d = .dat lv') (h1:JE 1 lv'=true) (h2:JE lv lv'=true):fM K d z lv=true:=by simp only [fM,hk,h1,h2]
theorem Inv.mpo (h:Inv c B X w0 F0 F O a w δ) {s:Nat} (hk:ah c.K s = .mpo) (hb:nth δ s ≠ .bad):FM w (fun g=>O g=some (s,0)∧B≤g) (nth δ s) (av a s):=by
 have h0:=(h.slot s).resolve_left hb;rw [hk] at h0;exact h0.resolve_left hb
def zQ (O:Nat→Option (Nat × Nat)) (g:Nat) (x:Option (Nat × Nat)):Nat→Option (Nat × Nat):=fun b=>if b=g then x else O b
theorem BL {O:Nat→Option (Nat × Nat)} {g:Nat} {x:Option (Nat × Nat)}:zQ O g x g=x:=by simp [zQ]
theorem tQ {O:Nat→Option (Nat × Nat)} {g b:Nat} {x:Option (Nat × Nat)} (h:b≠g):zQ O g x b=O b:=by simp [zQ,h]
theorem Inv.installM (h:Inv c B X w0 F0 F O a w δ) {d g:Nat} {ts:List Nat} {l:List (Int × Bool)} {es:Array MapEntry} {clock:Nat} {w':World}
  (hk:ah c.K d = .mpo∨∃lv,ah c.K d = .dat lv∧1≤lv) (hv:w'.heap[g]?=some (.map es clock)) (he:nv es clock l) (hB:B≤g) (hg:w.heap.size≤g∨∃p,O g=some p∧p.1∈ts)
  (sz:w.heap.size≤w'.heap.size) (hw:∀b,b<w.heap.size→w'.heap[b]?=w.heap[b]?) (os:w'.os=w.os) (tape:w'.tape=w.tape) (output:w'.output=w.output) :
  ∃F' O',Inv c B X w0 F0 F' O' (a.put (some d) (.map (some g))) w' (ae δ ((d::ts)++([]++aB c.K (d::ts))) (.mp l::ts.map fun _=>.bad)):=by
 have hgl:g<w'.heap.size:=(Jb.1 hv).1;have hFg:∀b,F b→b≠g:=fun b hb e=>by
  subst e;obtain⟨h2,h3⟩:=h.fl b hb;rcases hg with h1 | ⟨p,h1,_⟩
  ·omega
  ·rw [h3] at h1;cases h1
 have hav:∀s,s∉d::ts→av (a.put (some d) (.map (some g))) s=av a s:=fun s hs=>bz fun e=>hs (by simp [e])
 have hlen:(D.mp l::ts.map fun _=>D.bad).length=((d::ts)++[]).length:=by simp
 have hoO:∀(x':Option (Nat × Nat)) b p,O b=some p→p.1∉(d::ts)++[]→zQ O g x' b=some p∧w'.heap[b]?=w.heap[b]?:=fun x' b p hp hm=>by
  have hlt:=(h.ol b p hp).1;refine⟨?_,hw b hlt⟩
  rw [tQ]
  ·exact hp
  ·intro e
   subst e;rcases hg with h1 | ⟨p',h1,h2⟩
   ·omega
   ·rw [hp] at h1;cases h1;exact hm (by simp [h2])
 have hol:∀(x':Option (Nat × Nat)) b p,zQ O g x' b=some p→b<w'.heap.size∧(B≤b∨X b):=fun x' b p hp=>by
  by_cases e:b=g
  ·subst e
   exact⟨hgl,.inl hB⟩
  ·rw [tQ e] at hp
   obtain⟨h1,h2⟩:=h.ol b p hp;exact⟨by omega,h2⟩
 have hwK:∀b,b<B→¬X b→w'.heap[b]?=w.heap[b]?:=fun b hb _=>hw b (IB hb h.bb)
 have hwF:∀b,F b→w'.heap[b]?=w.heap[b]?:=fun b hb=>hw b (h.fl b hb).1
 rcases hk with hk | ⟨lv,hk,h1l⟩
 ·refine⟨F,zQ O g (some (d,0)),h.many hlen em rfl hav (by simp) (fun s hs=>?_) (fun _ hb=>hb) hwF (hoO _) (fun b hb=>⟨IB (h.fl b hb).1 sz,by rw [tQ (hFg b hb)];exact(h.fl b hb).2⟩) (hol _) (fun _ hb=>.inl hb) sz os tape output hwK⟩
  rw [IC] at hs ⊢;rcases dG (δ:=δ) (x:=.mp l) hs with e | ⟨rfl,hd,e⟩
  ·exact .inl e
  ·refine .inr ?_
   rw [hk,e,cy (by rw [h.la,←h.ld];exact hd)];exact .inr ⟨l,g,es,clock,rfl,rfl,hv,he,BL,hB⟩
 ·refine⟨fun b=>F b∨b=g,zQ O g none,h.many hlen em rfl hav (by simp) (fun s hs=>?_) (fun _ hb=>.inl hb) hwF (hoO _) (fun b hb=>?_) (hol _) (fun b hb=>?_) sz os tape output hwK⟩
  ·rw [IC] at hs ⊢
   rcases dG (δ:=δ) (x:=.mp l) hs with e | ⟨rfl,hd,e⟩
   ·exact .inl e
   ·refine .inr ?_
    rw [hk,e,cy (by rw [h.la,←h.ld];exact hd)];refine .inr ?_
    simp only [bj,RepC];refine .inr ⟨g,es,clock,rfl,?_,hv,he⟩
    match lv,h1l with
    | 1,_=>exact⟨.inr rfl,hB⟩
    | _+2,_=>exact .inr rfl
  ·rcases hb with hb | rfl
   ·exact⟨IB (h.fl b hb).1 sz,by rw [tQ (hFg b hb)];exact(h.fl b hb).2⟩
   ·exact⟨hgl,BL⟩
  ·rcases hb with hb | rfl
   ·exact .inl hb
   ·exact .inr hB
theorem Inv.overM (h:Inv c B X w0 F0 F O a w δ) {d r:Nat} (hr:ah c.K r = .mpo) (hk:ah c.K d = .mpo∨∃lv,ah c.K d = .dat lv∧1≤lv) :
  ∃F' O',Inv c B X w0 F0 F' O' (a.put (some d) (av a r)) w (ae δ ([d,r]++([]++aB c.K [d,r])) [nth δ r,.bad]):=by
 by_cases hb:nth δ r = .bad
 ·rw [hb]
  exact⟨F,O,h.dead d [r] _⟩
 ·obtain⟨l,g,es,clock,e1,e2,e3,e4,e5,e6⟩:=h.mpo hr hb
  rw [e1,e2];exact h.installM (ts:=[r]) hk e3 e4 e6 (.inr ⟨_,e5,by simp⟩) (IE _) (fun _ _=>rfl) rfl rfl rfl
theorem zK {o:Oper} {x:Operand} (ho:o.op = .move x∨o.op = .assign x) {A:Ac} (hA:yn c o.dst x o.type=some A) (hI:Inv c B X w0 F0 F O a w δ)
  {k:List D→Option Out} {r:Out} (hg:co c A δ k=some r) (Q:Exit→Act→World→Prop):o.wp P a w (Next c B X w0 F0 k r) Q:=by
 have hex:(execOp a.eval o).run P w = .ok (.value (a.eval x)) w:=by
  rcases ho with ho | ho<;>simp [execOp,ho]
 have dat:∀(lv:Nat) (A:Ac),lv=cI c.K x→ba c o.dst [x] lv (dT some)=some A→co c A δ k=some r→o.wp P a w (Next c B X w0 F0 k r) Q:=by
  intro lv A hlv hA hg;refine aH hA hI hg (fun hx z hz=>?_) Q
  obtain⟨d1,e,hz⟩:=aQ hz;simp only [Iz,IA,Iy,and_true] at e;subst e;cases hz;exact⟨_,hex,by rw [hlv];exact(hx x (by simp)).2⟩
 have via:∀(t rr d:Nat),x = .tmp t→o.dst=some d→ah c.K d = .via rr→mC c.K rr=true→(nth δ t ≠ .bad→nth δ rr ≠ .bad∧av a t=av a rr)→(co c (.one [t] d fun is=>(dT fun x=>ab x (.ref 0 0)) is) δ k=some r)→o.wp P a w (Next c B X w0 F0 k r) Q:=by
  intro t rr d hx hd hk hown hb hg;subst hx;refine bx hI hd hg (fun z hz=>?_) Q
  obtain⟨d1,e,hz⟩:=aQ hz;simp only [af,Iy,and_true] at e;subst e;obtain⟨h1,rfl⟩:=aS hz;obtain⟨h2,h3⟩:=hb h1;refine⟨_,hex,.inr ?_⟩
  rw [hk];exact⟨h3,rfl,h2,hown⟩
 have over:∀(t rr d z lv:Nat),x = .tmp t→o.dst=some d→av a t=av a rr→ah c.K rr = .own z lv false→fM c.K d z lv=true→k (ae δ ([d,rr]++([]++aB c.K [d,rr])) [nth δ rr,.bad])=some r→o.wp P a w (Next c B X w0 F0 k r) Q:=by
  intro t rr d z lv hx hd hav hkr hkd hk;subst hx;obtain⟨F',O',hI'⟩:=hI.over hkr hkd;exact bt hd hex (by rw [br,hav];exact hI') hk Q
 have over2:∀(t rr d z lv:Nat),x = .tmp t→o.dst=some d→ah c.K t = .via rr→ah c.K rr = .own z lv false→fM c.K d z lv=true →
   co c (.many [t,rr] [d,rr] [] fun is k=>cU is 0 fun p=>cU is 1 fun x=>(ab p x).bind fun y=>k [y,.bad]) δ k=some r→o.wp P a w (Next c B X w0 F0 k r) Q:=by
  intro t rr d z lv hx hd hkt hkr hkd hg;simp only [co,af,cU] at hg;obtain⟨y,h1,h2⟩:=Ix.1 hg;obtain⟨hb,rfl⟩:=aS h1;exact over t rr d z lv hx hd (hI.via hkt hb).1 hkr hkd h2
 unfold yn at hA;split at hA
 ·rename_i t
  split at hA
  ·rename_i z lv io hk
   split at hA
   ·cases hA
   rename_i d hd;split at hA
   ·rename_i rr hkd
    split at hA
    case h_2=>cases hA
    rename_i hrt;rw [az] at hrt;subst hrt;cases hA;exact via rr rr d rfl hd hkd (by simp [mC,hk]) (fun hb=>⟨hb,rfl⟩) hg
   ·rename_i z' lv' hkd
    split at hA
    case h_2=>cases hA
    rename_i h1 h2;cases hA;refine over t t d z lv rfl hd rfl hk (xd hkd h1 h2) ?_
    simpa only [co,af,cU] using hg
   ·rename_i lv' hkd
    split at hA
    case h_2=>cases hA
    rename_i h1 h2;cases hA;refine over t t d z lv rfl hd rfl hk (xp hkd h1 h2) ?_
    simpa only [co,af,cU] using hg
   ·cases hA
  ·rename_i rr hk
   split at hA
   ·cases hA
   rename_i d hd;split at hA
   case h_3=>cases hA
   case h_2 =>
    rename_i hkr;split at hA
    ·rename_i r' hkd
     split at hA
     case h_2=>cases hA
     rename_i hrt;rw [az] at hrt;subst hrt;cases hA;exact via t rr d rfl hd hkd (by simp [mC,hkr]) (fun hb=>⟨(hI.via hk hb).2.2.1,(hI.via hk hb).1⟩) hg
    ·rename_i hkd
     cases hA;simp only [co,af,cU] at hg;obtain⟨y,h1,h2⟩:=Ix.1 hg;obtain⟨hb,rfl⟩:=aS h1;have hav:=(hI.via hk hb).1;obtain⟨F',O',hI'⟩:=hI.overM hkr (.inl hkd);exact bt hd hex (by rw [br,hav];exact hI') h2 Q
    ·rename_i lv' hkd
     split at hA
     case h_2=>cases hA
     rename_i hle;cases hA;simp only [co,af,cU] at hg;obtain⟨y,h1,h2⟩:=Ix.1 hg;obtain⟨hb,rfl⟩:=aS h1;have hav:=(hI.via hk hb).1;obtain⟨F',O',hI'⟩:=hI.overM hkr (.inr ⟨lv',hkd,aT.1 hle⟩);exact bt hd hex (by rw [br,hav];exact hI') h2 Q
    ·cases hA
   rename_i z lv io hkr;split at hA
   ·rename_i r' hkd
    split at hA
    case h_2=>cases hA
    rename_i hrt;rw [az] at hrt;subst hrt;cases hA;exact via t rr d rfl hd hkd (by simp [mC,hkr]) (fun hb=>⟨(hI.via hk hb).2.2.1,(hI.via hk hb).1⟩) hg
   ·rename_i z' lv' hkd
    split at hA
    case h_2=>cases hA
    rename_i h1 h2;cases hA;exact over2 t rr d z lv rfl hd hk hkr (xd hkd h1 h2) hg
   ·rename_i lv' hkd
    split at hA
    case h_2=>cases hA
    rename_i h1 h2;cases hA;exact over2 t rr d z lv rfl hd hk hkr (xp hkd h1 h2) hg
   ·cases hA
  ·rename_i n lv io hk
   split at hA
   ·cases hA
   rename_i d hd;split at hA
   case h_2=>cases hA
   rename_i rr hkd;split at hA
   case h_2=>cases hA
   rename_i hrt;rw [az] at hrt;subst hrt;cases hA;refine bx hI hd hg (fun z hz=>?_) Q
   obtain⟨d1,e,hz⟩:=aQ hz;simp only [af,Iy,and_true] at e;subst e;obtain⟨h1,rfl⟩:=aS hz;refine⟨_,hex,.inr ?_⟩
   rw [hkd];obtain⟨m,us,g,e,_,a1,_⟩:=hI.box hk h1;refine⟨0,0,rfl,h1,?_⟩
   rw [hk];exact⟨g,a1,a1⟩
  ·rename_i rr hk
   split at hA
   ·cases hA
   rename_i d hd;split at hA
   case h_2=>cases hA
   rename_i r' hkd;split at hA
   case h_2=>cases hA
   rename_i hrt;rw [az] at hrt;subst hrt;cases hA;refine bx hI hd hg (fun z hz=>?_) Q
   obtain⟨d1,e,hz⟩:=aQ hz;simp only [af,Iy,and_true] at e;subst e;obtain⟨h1,rfl⟩:=aS hz;refine⟨_,hex,.inr ?_⟩
   rw [hkd];exact hI.ref hk h1
  ·rename_i hk
   split at hA
   ·cases hA
   rename_i d hd;split at hA
   ·rename_i rr hkd
    split at hA
    case h_2=>cases hA
    rename_i hrt;rw [az] at hrt;subst hrt;cases hA;exact via rr rr d rfl hd hkd (by simp [mC,hk]) (fun hb=>⟨hb,rfl⟩) hg
   ·rename_i hkd
    cases hA;simp only [co,af,cU] at hg;obtain⟨F',O',hI'⟩:=hI.overM hk (.inl hkd);exact bt hd hex hI' hg Q
   ·rename_i lv hkd
    split at hA
    case h_2=>cases hA
    rename_i h1;cases hA;simp only [co,af,cU] at hg;obtain⟨F',O',hI'⟩:=hI.overM hk (.inr ⟨lv,hkd,aT.1 h1⟩);exact bt hd hex hI' hg Q
   ·cases hA
  ·rename_i lv hk
   exact dat lv _ (by simp [cI,hk]) hA hg
  ·rename_i ms hk
   split at hA
   ·cases hA
   rename_i d hd;split at hA
   case h_2=>cases hA
   rename_i ns hkd;split at hA
   case h_2=>cases hA
   rename_i h1 h2;cases hA;obtain⟨F',O',hI'⟩:=hI.overT hk hkd h1 h2;refine bt hd hex (by rw [br];exact hI') ?_ Q
   simpa only [co,af,cU] using hg
  ·cases hA
 ·split at hA
  ·cases hA
  rename_i d hd;split at hA
  ·rename_i z lv hk
   cases hA;simp only [co] at hg;obtain⟨F',O',hI'⟩:=hI.fresh (d:=d) (z:=z) (lv:=lv) (w':=w) (by simp [fM,hk]) uz (IE _) (fun _ _=>rfl) rfl rfl rfl;exact bt hd hex hI' hg Q
  ·split at hA
   ·refine aH hA hI hg (fun hx z hz=>?_) Q
    cases hz;exact⟨_,hex,.inr (fd.2 ⟨rfl,rfl⟩)⟩
   have hA0:=ao hA;clear hA;obtain⟨i,hi,hA⟩:=hA0;refine aH hA hI hg (fun hx z hz=>?_) Q
   cases hz;refine⟨_,hex,.inr ?_⟩
   simp only [Act.eval,bj];exact qJ
  ·cases hA
 ·split at hA
  ·cases hA
  split at hA
  ·refine aH hA hI hg (fun hx z hz=>?_) Q
   cases hz;refine⟨_,hex,.inr ?_⟩
   show RepC _ _ (.mp []) [Value.map none]
   simp [RepC]
  ·cases hA
 ·exact dat _ _ rfl hA hg
end
end Go.V

namespace Go.V
open Go.RowKit
set_option maxRecDepth 100000
section
variable {P:Program} {c:Cx} {B:Nat} {X:Nat→Prop} {w0:World} {F0 F:Nat→Prop} {O:Nat→Option (Nat × Nat)} {a:Act} {w:World} {δ:List D}
theorem qS {O:Nat→Option (Nat × Nat)} {y:Value} {x:Option (Nat × Nat)} {b:Nat} (h:blk y=some b):dE O y x b=x:=by unfold dE;rw [if_pos h]
theorem eI {O:Nat→Option (Nat × Nat)} {y:Value} {x:Option (Nat × Nat)} {b:Nat} (h:blk y≠some b):dE O y x b=O b:=by unfold dE;rw [if_neg h]
theorem oV {g o:Nat} {s:Option Nat} {b:Nat}:blk (.pointer (some ⟨g,o,s⟩))=some b↔g=b:=by simp [blk]
theorem Inv.fresh1 (h:Inv c B X w0 F0 F O a w δ) {d n lv:Nat} {x:D} {y:Value} {w':World} (hk:ah c.K d = .box n lv false)
  (hv:tH w' (FB F B lv) (fun g=>w.heap.size≤g) n x y) (sz:w.heap.size≤w'.heap.size) (hw:∀b,b<w.heap.size→w'.heap[b]?=w.heap[b]?)
  (os:w'.os=w.os) (tape:w'.tape=w.tape) (output:w'.output=w.output) :
  ∃F' O',Inv c B X w0 F0 F' O' (a.put (some d) y) w' (ae δ ([d]++([]++aB c.K [d])) [x]):=by
 obtain⟨l,us,g,e,h1,h2,h3,h4,h5,h6,h7⟩:=hv;subst h2;have hg:g<w'.heap.size:=(Jb.1 h3).1;refine⟨F,dE O (.pointer (some ⟨g,0,none⟩)) (some (d,0)),h.many (by simp) em rfl (fun s hs=>bz fun e=>hs (by simp [e])) (by simp) (fun s hs=>?_) (fun _ hb=>hb) (fun b hb=>hw b (h.fl b hb).1) (fun b p hp _=>⟨?_,hw b (h.ol b p hp).1⟩) (fun b hb=>⟨IB (h.fl b hb).1 sz,?_⟩) (fun b p hp=>?_) (fun _ hb=>.inl hb) sz os tape output (fun b hb _=>hw b (IB hb h.bb))⟩
 ·rw [IC] at hs ⊢
  rcases dG (δ:=δ) (x:=x) (ts:=[]) hs with e | ⟨rfl,hd,e⟩
  ·exact .inl e
  ·refine .inr ?_
   simp only [IA] at e;rw [hk,e,cy (by rw [h.la,←h.ld];exact hd)];exact .inr ⟨l,us,g,_,h1,rfl,h3,h4,h5,h6,qS rfl,fun _=>Js h.bb h7⟩
 ·have:=(h.ol b p hp).1
  rw [eI (fun e=>by rw [oV] at e;omega)];exact hp
 ·have:=(h.fl b hb).1
  rw [eI (fun e=>by rw [oV] at e;omega)];exact(h.fl b hb).2
 ·by_cases e:g=b
  ·subst e
   exact⟨hg,.inl (Js h.bb h7)⟩
  ·rw [eI (fun e'=>e (oV.1 e'))] at hp
   exact⟨IB (h.ol b p hp).1 sz,(h.ol b p hp).2⟩
theorem Inv.freshP (h:Inv c B X w0 F0 F O a w δ) {d lv t:Nat} (hk:ah c.K d = .dat lv) (h1:1≤lv) {l:List D} {v:Value} (hr:bh w (FB F B lv) l v.cells.toList) (hsl:l.all D.single=true) :
  ∃F' O',Inv c B X w0 F0 F' O' (a.put (some d) (.pointer (some ⟨w.heap.size,0,none⟩))) (w.alloc (.cells v.cells t)) (ae δ ([d]++([]++aB c.K [d])) [.ptr l]):=by
 have sz:w.heap.size≤(w.alloc (.cells v.cells t)).heap.size:=by simp
 have hw:∀b,b<w.heap.size→(w.alloc (.cells v.cells t)).heap[b]?=w.heap[b]?:=fun b hb=>heap_alloc_old w _ hb
 have hg:w.heap.size<(w.alloc (.cells v.cells t)).heap.size:=by simp
 refine⟨fun b=>F b∨b=w.heap.size,O,h.many (by simp) em rfl (fun s hs=>bz fun e=>hs (by simp [e])) (by simp) (fun s hs=>?_) (fun _ hb=>.inl hb) (fun b hb=>hw b (h.fl b hb).1) (fun b p hp _=>⟨hp,hw b (h.ol b p hp).1⟩) (fun b hb=>?_) (fun b p hp=>⟨IB (h.ol b p hp).1 sz,(h.ol b p hp).2⟩) (fun b hb=>?_) sz rfl rfl rfl (fun b hb _=>hw b (IB hb h.bb))⟩
 ·rw [IC] at hs ⊢
  rcases dG (δ:=δ) (x:=.ptr l) (ts:=[]) hs with e | ⟨rfl,hd,e⟩
  ·exact .inl e
  ·refine .inr ?_
   simp only [IA] at e;rw [hk,e,cy (by rw [h.la,←h.ld];exact hd)];refine .inr ?_
   simp only [bj,RepC];refine⟨w.heap.size,0,v.cells.toList,rfl,bm (eX fun b hb=>.inl hb) (fun b hb=>hw b (h.fl b (en b hb)).1) _ _ hr,hsl,?_,fun i u hu=>?_⟩
   ·match lv,h1 with
    | 1,_=>exact⟨.inr rfl,h.bb⟩
    | n+2,_=>exact .inr rfl
   ·have hn:=heap_alloc_new w (.cells v.cells t)
    simp only [JG,hn];simpa using hu
 ·rcases hb with hb | rfl
  ·exact⟨IB (h.fl b hb).1 sz,(h.fl b hb).2⟩
  ·refine⟨hg,?_⟩
   cases ho:O w.heap.size with
   | none=>rfl
   | some p=>exact absurd (h.ol _ _ ho).1 (Nat.lt_irrefl _)
 ·rcases hb with hb | rfl
  ·exact .inl hb
  ·exact .inr h.bb
theorem Ai {F:Nat→Prop} {n t:Nat} {l:List D} {v:Value} (hr:bh w F l v.cells.toList) (hs:l.all D.single=true) (hn:l.length=n) (hF:∀b,F b→b<w.heap.size) :
  tH (w.alloc (.cells v.cells t)) F (fun g=>w.heap.size≤g) n (.agg l) (.pointer (some ⟨w.heap.size,0,none⟩)) :=
 ⟨l,v.cells.toList,_,t,rfl,rfl,by simpa using heap_alloc_new w _,bm (fun _ h=>h) (fun b hb=>heap_alloc_old w _ (hF b hb)) _ _ hr,hs,hn,IE _⟩
theorem yi (hT:okT P c.T=true) {o:Oper} {t:Nat} (ho:o.op = .alloc t):eZ P c o:=by
 intro A hA B X w0 F0 F O a w δ hI k r hg Q;simp only [bC,ho] at hA;have hA0:=ao hA;clear hA;obtain⟨i,hi,hA⟩:=hA0;have hti:=tok hT hi;unfold FI at hA;split at hA
 ·cases hA
 rename_i d hd;split at hA
 case h_2=>cases hA
 rename_i n lv hk;split at hA
 case h_2=>cases hA
 rename_i hn;rw [az] at hn;cases hA;simp only [co] at hg;obtain⟨z,hz,hr,hs,hsz⟩:=hti.zero;have hrun:(execOp a.eval o).run P w = .ok (.value (.pointer (some ⟨w.heap.size,0,none⟩))) (w.alloc (.cells z.cells t)):=by
  refine bX (s:=Instr.alloc t true (.tuple #[])) (by simp only [execOp,ho]) ?_
  simp [Instr.alloc,hz w,newVar,newRow]
 obtain⟨F',O',hI'⟩:=hI.fresh1 hk (Ai (w:=w) (t:=t) (v:=z) (F:=FB F B lv) (hr w _).2 hs (hti.zl.trans hn.symm) fun b hb=>(hI.fl b (en b hb)).1) (by simp) (fun b hb=>heap_alloc_old w _ hb) rfl rfl rfl;exact bt hd hrun hI' hg Q
theorem Cj {o:Oper} {t:Nat} {x:Operand} (ho:o.op = .box t x):eZ P c o:=by
 intro A hA B X w0 F0 F O a w δ hI k r hg Q;simp only [bC,ho] at hA;have hA0:=ao hA;clear hA;obtain⟨i,hi,hA⟩:=hA0;unfold Gq at hA;split at hA
 ·cases hA
 rename_i d hd;split at hA
 case h_3=>cases hA
 case h_2 =>
  rename_i lv hk;split at hA
  case h_2=>cases hA
  rename_i hx h1 hle;have hx:cI c.K x≤2:=aT.1 hx;rw [aT] at h1 hle;cases hA;simp only [co] at hg;rw [bk] at hg;obtain⟨y,h2,h3⟩:=Ix.1 hg;obtain⟨d1,e,h2⟩:=aQ h2;simp only [Iz,IA,Iy,and_true] at e;subst e;unfold qp at h2;split at h2
  case isFalse=>cases h2
  rename_i hc;cases h2;simp only [HM,Option.bind_some] at h3;have hne:opD δ x ≠ .bad:=by
   intro e;rw [e] at hc;simp [D.cells,D.single] at hc
  obtain⟨_,_,g3⟩:=dQ ((fw hle (hI.opd hx)).rep hne) (mF hc.2);have hrun:(execOp a.eval o).run P w = .ok (.value (.pointer (some ⟨w.heap.size,0,none⟩))) (w.alloc (.cells (a.eval x).cells t)):=by
   refine bX (s:=JD t (a.eval x)) (by simp only [execOp,ho]) ?_
   simp [JD,newVar,newRow]
  obtain⟨F',O',hI'⟩:=hI.freshP (t:=t) hk h1 g3 hc.2;exact bt hd hrun hI' h3 Q
 rename_i n lv hk;split at hA
 case h_2=>cases hA
 rename_i hn hx;have hx:cI c.K x≤2:=aT.1 hx;have hop:=hI.opd hx;have main:∀y:D,qp n (opD δ x)=some y→bI w (FB F B lv) (opD δ x) (a.eval x)→k (ae δ ([d]++([]++aB c.K [d])) [y])=some r→o.wp P a w (Next c B X w0 F0 k r) Q:=by
  intro y hy hrep hk';unfold qp at hy;split at hy
  case isFalse=>cases hy
  rename_i hc;cases hy;have hne:opD δ x ≠ .bad:=by
   intro e;rw [e] at hc;simp [D.cells,D.single] at hc
  obtain⟨_,_,g3⟩:=dQ (hrep.rep hne) (mF hc.2);have hrun:(execOp a.eval o).run P w = .ok (.value (.pointer (some ⟨w.heap.size,0,none⟩))) (w.alloc (.cells (a.eval x).cells t)):=by
   refine bX (s:=JD t (a.eval x)) (by simp only [execOp,ho]) ?_
   simp [JD,newVar,newRow]
  obtain⟨F',O',hI'⟩:=hI.fresh1 hk (Ai (w:=w) (t:=t) (F:=FB F B lv) g3 hc.2 hc.1 fun b hb=>(hI.fl b (en b hb)).1) (by simp) (fun b hb=>heap_alloc_old w _ hb) rfl rfl rfl;exact bt hd hrun hI' hk' Q
 split at hA
 ·rename_i hle
  rw [aT] at hle;cases hA;simp only [co] at hg;rw [bk] at hg;obtain⟨y,h1,h2⟩:=Ix.1 hg;obtain⟨d1,e,h1⟩:=aQ h1;simp only [Iz,IA,Iy,and_true] at e;subst e;exact main y h1 (fw hle hop) h2
 ·split at hA
  case h_2=>cases hA
  cases hA;simp only [co] at hg;rw [bk] at hg;obtain⟨y,h1,h2⟩:=Ix.1 hg;obtain⟨d1,e,h1⟩:=aQ h1;simp only [Iz,IA,Iy,and_true] at e;subst e;obtain⟨z,hc,h1⟩:=Ix.1 h1;unfold bE at hc;split at hc
  case isFalse=>cases hc
  rename_i hv;cases hc;refine main y h1 (.inr (my hv (hop.rep ?_))) h2
  intro e;rw [e] at hv;simp [D.isV] at hv
theorem nR (w:World) (g:Nat) (cs:Array Value):(w.setRow g cs).heap.size=w.heap.size:=by simp [World.setRow]
theorem Inv.write (h:Inv c B X w0 F0 F O a w δ) {r:Nat} {ts:List Nat} {x:D} {y:Value} {g:Nat} {w':World} (hts:r∉ts)
  (hy:∀b,blk y=some b→B≤b∧∃p,O b=some p∧p.1∈ts) (hx:x ≠ .bad) (hrt:cr c.K r) (hr0:O g=some (r,0))
  (hrep:rY B (pC F y) (dE O y none) w' (r,0) (ah c.K r) x (av a r))
  (hw:∀b,b≠g→w'.heap[b]?=w.heap[b]?) (sz:w'.heap.size=w.heap.size) (os:w'.os=w.os) (tape:w'.tape=w.tape) (output:w'.output=w.output) (hkeep:B≤g∨X g) :
  ∃F' O',Inv c B X w0 F0 F' O' a w' (ae δ (ts++([r]++aB c.K ts)) ((ts.map fun _=>.bad)++[x])):=by
 have hFg:∀b,F b→b≠g:=fun b hb e=>by
  subst e;rw [(h.fl b hb).2] at hr0;cases hr0
 have hset:∀s,nth (ae δ (ts++[r]) ((ts.map fun _=>.bad)++[x])) s=if s=r then(if r<δ.length then x else .bad) else if s∈ts then .bad else nth δ s:=by
  intro s;have e:ae δ (ts++[r]) ((ts.map fun _=>.bad)++[x])=eL (ae δ ts (ts.map fun _=>.bad)) r x:=by
   have:∀(ts:List Nat) (δ:List D),ae δ (ts++[r]) ((ts.map fun _=>D.bad)++[x])=eL (ae δ ts (ts.map fun _=>.bad)) r x:=by
    intro ts;induction ts with
    | nil=>intro δ;simp [ae]
    | cons t ts ih=>intro δ;simp only [JH,Iz,ae];exact ih _
   exact this ts δ
  rw [e];by_cases hs:s=r
  ·subst hs
   rw [aV,if_pos rfl,bV]
  ·rw [bN _ _ _ _ hs,if_neg hs]
   split
   ·exact mS ts δ s ‹_›
   ·exact am _ _ _ _ ‹_›
 have hlt:g<w.heap.size:=(h.ol g _ hr0).1;have hrd:r<δ.length:=by
  rw [h.ld];by_cases hd:r<c.K.length
  ·exact hd
  ·exfalso
   have:∀(K:List Kd) (r:Nat),¬r<K.length→ah K r = .no:=by
    intro K;induction K with
    | nil=>intro r _;rfl
    | cons k K ih =>
     intro r hr;cases r with
     | zero=>simp at hr
     | succ r=>exact ih r (by simpa using hr)
   rw [cr,this c.K r hd] at hrt;exact hrt
 refine⟨pC F y,dE O y none,h.many (by simp) rfl rfl (fun _ _=>rfl) (fun s hs _ _=>?_) (fun s hs=>?_) (fun _ hb=>.inl hb) (fun b hb=>hw b (hFg b hb)) (fun b p hp hm=>?_) (fun b hb=>?_) (fun b p hp=>?_) (fun b hb=>?_) (Nat.le_of_eq sz.symm) os tape output (fun b hb hx=>hw b fun e=>?_)⟩
 ·have:s=r:=by simpa using hs
  subst this;rw [hset,if_pos rfl,if_pos hrd];exact hx
 ·rw [hset]
  by_cases hsr:s=r
  ·subst hsr
   rw [if_pos rfl,if_pos hrd];refine .inr ?_
   unfold cr at hrt;generalize ah c.K s=kk at hrt hrep;cases kk<;>first | exact hrt.elim | exact hrep
  ·have:s∈ts:=by simpa [hsr] using hs
   rw [if_neg hsr,if_pos this];exact .inl rfl
 ·have hpr:p.1≠r:=fun e=>hm (by simp [e])
  have hpt:p.1∉ts:=fun e=>hm (by simp [e])
  refine⟨?_,hw b fun e=>?_⟩
  ·unfold dE
   rw [if_neg]
   ·exact hp
   ·intro e
    obtain⟨_,q,hq,hq'⟩:=hy b e;rw [hp] at hq;cases hq;exact hpt hq'
  ·subst e
   rw [hp] at hr0;cases hr0;exact hpr rfl
 ·rw [sz]
  rcases hb with hb | hb
  ·refine⟨(h.fl b hb).1,?_⟩
   unfold dE;rw [if_neg]
   ·exact(h.fl b hb).2
   ·intro e
    obtain⟨_,q,hq,_⟩:=hy b e;rw [(h.fl b hb).2] at hq;cases hq
  ·obtain⟨_,q,hq,_⟩:=hy b hb
   exact⟨(h.ol b q hq).1,by unfold dE;rw [if_pos hb]⟩
 ·rw [sz]
  unfold dE at hp;split at hp
  ·cases hp
  ·exact h.ol b p hp
 ·rcases hb with hb | hb
  ·exact .inl hb
  ·exact .inr (hy b hb).1
 ·subst e
  rcases hkeep with h1 | h1
  ·omega
  ·exact hx h1
theorem rk {t n g o:Nat} {e:Nat} {cs:Array Value} {y:Value} (hsz:(sizeOf t).run P w = .ok n w) (hn:y.cells.size=n) (hg:w.heap[g]?=some (.cells cs e (0,0))) (hle:o+n≤cs.size) (h1:∀v∈y.cells.toList,v.oneCell'=true) :
  (storeVar t ⟨g,o,none⟩ y).run P w = .ok () (w.setRow g (cs.toList.take o++y.cells.toList++cs.toList.drop (o+n)).toArray):=by
 have hst:=run_storeCells_at P g o e y.cells.toList 0 cs w hg (by simpa [hn] using hle) h1;simp only [Jt,Jc,hn] at hst;simp [storeVar,hsz,hn,hst]
end
end Go.V

namespace Go.V
open Go.RowKit
set_option maxRecDepth 100000
section
variable {P:Program} {c:Cx} {B:Nat} {X:Nat→Prop} {w0:World} {F0 F:Nat→Prop} {O:Nat→Option (Nat × Nat)} {a:Act} {w:World} {δ:List D}
theorem xZ {l vs:List D} {f:Nat} (h:f+vs.length≤l.length):(putCells l f vs).length=l.length:=by
 unfold putCells;simp only [IH,IG,IQ];omega
theorem EC {d:D} {m ws:List Value} {vs:List D} {f:Nat} (h:RepC w F d m) (hv:vs.all D.single=true) (hw:bh w F vs ws) (hf:f+vs.length≤d.width) :
  RepC w F (d.ofCells (putCells d.cells f vs)) (m.take f++ws++m.drop (f+ws.length))∧(d.ofCells (putCells d.cells f vs)).width=d.width:=by
 rcases kf h with ⟨l,rfl⟩ | hs
 ·simp only [RepC] at h
  obtain⟨h1,h2⟩:=qT h.2 hv h.1 hw f;exact⟨by simp only [D.ofCells,D.cells,RepC];exact⟨h1,h2⟩,xZ hf⟩
 ·obtain⟨hw1,hc1⟩:=dF hs
  rw [hw1] at hf;have hr:bh w F [d] m:=ax.2 ⟨m,[],by simp,h,aL.2 rfl⟩;obtain⟨h1,h2⟩:=qT (by simp [hs]) hv hr hw f;have h3:(putCells [d] f vs).length=1:=xZ (by simpa using hf);obtain⟨e,he⟩:=List.length_eq_one_iff.1 h3;rw [hc1,he];rw [he] at h1 h2;have e2:d.ofCells [e]=e:=by cases d<;>first | rfl | simp [D.single] at hs
  rw [e2,hw1];obtain⟨v1,v2,e3,h4,h5⟩:=ax.1 h1;rw [aL] at h5;subst h5;rw [e3,IC];exact⟨h4,(dF (by simpa using h2)).1⟩
theorem CU {us cs ws:List Value} {o k n:Nat} (h:∀(j:Nat) (u:Value),us[j]?=some u→cs[o+j]?=some u) (hk:k+n≤us.length) (hn:ws.length=n) (hc:o+us.length≤cs.length) :
  ∀(j:Nat) (u:Value),(us.take k++ws++us.drop (k+n))[j]?=some u→(cs.take (o+k)++ws++cs.drop (o+k+n))[o+j]?=some u:=by
 intro j u hj;have l1:(us.take k).length=k:=by rw [IG];omega
 have l2:(cs.take (o+k)).length=o+k:=by rw [IG];omega
 rcases Ju j k with hjk | hjk
 ·rw [II,ID (by omega),IU hjk] at hj
  rw [II,ID (by omega),IU (by omega)];exact h j u hj
 ·rcases Ju j (k+n) with hj2 | hj2
  ·rw [II,IF (by omega),l1,ID (by omega)] at hj
   rw [II,IF (by omega),l2,ID (by omega)];rw [show o+j - (o+k)=j - k from by omega];exact hj
  ·have l3:(us.take k++ws).length=k+n:=by rw [IH];omega
   have l4:(cs.take (o+k)++ws).length=o+k+n:=by rw [IH];omega
   rw [IF (by omega),l3,Jo] at hj;rw [IF (by omega),l4,Jo];have:=h _ u hj;rw [←this];congr 1
   omega
theorem Fi {p m q ws:List Value} {f n:Nat} (h:f+n≤m.length) :
  p++(m.take f++ws++m.drop (f+n))++q=(p++m++q).take (p.length+f)++ws++(p++m++q).drop (p.length+f+n):=by
 rw [II p m q,List.take_length_add_append,Jh,Jp,List.take_append_of_le_length (by omega),List.drop_append_of_le_length (by omega)];simp
theorem tX (hI:Inv c B X w0 F0 F O a w δ) {r i f t n:Nat} {p yv yy:Value} {x b':D} (hb:nth δ r ≠ .bad) (hr:nB (ah c.K r) (av a r) i f p) (hst:stD n (nth δ r) (.ref i f) x=some b') (hsz:(sizeOf t).run P w = .ok n w)
  (hx:∀w',(∀b,pC F yy b→w'.heap[b]?=w.heap[b]?)→bj w' (FB (pC F yy) B (dj c.K r)) x yv) (hyg:∀g,O g=some (r,0)→blk yy≠some g) :
  ∃g w',(JB t p yv).run P w = .ok () w'∧O g=some (r,0)∧(B≤g∨X g)∧(∀b,b≠g→w'.heap[b]?=w.heap[b]?)∧w'.heap.size=w.heap.size∧w'.os=w.os∧w'.tape=w.tape∧w'.output=w.output∧b' ≠ .bad ∧
   rY B (pC F yy) (dE O yy none) w' (r,0) (ah c.K r) b' (av a r):=by
 unfold nB at hr;split at hr
 ·rename_i z lv io hk
  obtain⟨g,o,nn,cap,hy,rfl⟩:=hr;obtain⟨l,hd,hwid,hrest⟩:=hI.own hk hb;rcases hrest with ⟨e,_⟩ | ⟨g',o',c',us,cs,e,a1,a2,a3,a4,a5,a6,a7⟩
  ·rw [hy] at e;cases e
  rw [hy] at a1;simp at a1;obtain⟨⟨rfl,rfl⟩,rfl,rfl⟩:=a1;rw [hd] at hst;simp only [stD] at hst;split at hst
  case h_2=>cases hst
  rename_i d hdi;split at hst
  case isFalse=>cases hst
  rename_i hc;obtain⟨hc1,hc2,hc3⟩:=hc;simp only [Jg] at hst;subst hst;obtain⟨pp,mm,q,hus,h1,h2,h3,h4,h5⟩:=mw l us a5 hwid i d hdi;have hwd:d.width=z:=hwid d (Jz hdi);have hil:i<l.length:=(IJ.1 hdi).1;have hulen:=cY l us a5 hwid;have hcz:l.length*z≤cap*z:=IP _ a2;have hiz:(i+1)*z≤l.length*z:=IP _ hil;rw [Jl] at hiz;have hFg:∀b,pC F yy b→b≠g:=fun b hbF e=>by
   subst e;rcases hbF with hbF | hbF
   ·rw [(hI.fl b hbF).2] at a7;cases a7.1
   ·exact hyg b a7.1 hbF
  have hheap:∀(cs':Array Value) b,b≠g→(w.setRow g cs').heap[b]?=w.heap[b]?:=fun cs' b hne=>setRow_other w g b cs' hne
  have hxr:=hx w (fun _ _=>rfl);obtain⟨_,g2,g3⟩:=dQ hxr (mF hc3);have hyn:yv.cells.toList.length=n:=by rw [(bY _ _ g2 g3).1,hc1]
  have hone:∀v∈yv.cells.toList,v.oneCell'=true:=fun v hv=>((bY _ _ g2 g3).2.1 v hv).1
  have hoff:o+i*z+f+n≤cs.size:=by omega
  have hrun:=rk (P:=P) (t:=t) (n:=n) (y:=yv) (o:=o+i*z+f) hsz (by simpa using hyn) a3 hoff hone;obtain⟨cs',hcs'⟩:∃x:Array Value,x=(cs.toList.take (o+i*z+f)++yv.cells.toList++cs.toList.drop (o+i*z+f+n)).toArray:=⟨_,rfl⟩
  rw [←hcs'] at hrun;refine⟨g,w.setRow g cs',?_,a7.1,(hI.ol g _ a7.1).2,hheap cs',nR w g cs',rfl,rfl,rfl,by simp,.inr ?_⟩
  ·simp only [JB,JK,IY,IZ,IK]
   exact hrun
  rw [hk];have hmono:∀b,FB F B lv b→FB (pC F yy) B lv b:=eX fun _ h=>.inl h
  have hrl:dj c.K r=lv:=by simp [dj,hk]
  rw [hrl] at hx;have hx':=hx (w.setRow g cs') (fun b hb=>hheap _ b (hFg b hb));obtain⟨_,_,g3'⟩:=dQ hx' (mF hc3);have mono:∀{l:List D} {us:List Value},bh w (FB F B lv) l us→bh (w.setRow g cs') (FB (pC F yy) B lv) l us :=
   fun h=>bm hmono (fun b hb=>hheap _ b (hFg b (.inl (en b hb)))) _ _ h
  have h3':=RepC_mono hmono (fun b hb=>hheap cs' b (hFg b (.inl (en b hb)))) _ _ h3;obtain⟨r1,r2⟩:=EC (f:=f) h3' hc3 g3' (by rw [hc1];exact hc2);refine⟨_,rfl,fun e he=>?_,.inr ⟨g,o,cap,pp++(mm.take f++yv.cells.toList++mm.drop (f+n))++q,cs',e,by rw [hy,JI],by rw [JI];exact a2,setRow_heap w g cs _ e (0,0) a3,?_,?_,?_,?_,a7.2⟩⟩
  ·rcases List.mem_or_eq_of_mem_set he with he | he
   ·exact hwid e he
   ·rw [he,r2,hwd]
  ·subst hcs'
   simp only [IX,IH,IG,IQ,Jc,hyn];omega
  ·have e1:l.set i (d.ofCells (putCells d.cells f x.cells))=l.take i++(d.ofCells (putCells d.cells f x.cells))::l.drop (i+1):=List.set_eq_take_append_cons_drop.trans (by rw [if_pos hil])
   rw [e1,II];exact(cF _ _ _).2 ⟨_,_,rfl,mono h4,ax.2 ⟨_,_,rfl,by rw [hyn] at r1;exact r1,mono h5⟩⟩
  ·subst hcs'
   rw [Fi (by omega),←hus,h1];intro j u hj;have:=CU (o:=o) (cs:=cs.toList) (fun j u hj=>by simpa using a6 j u hj) (k:=i*z+f) (n:=n) (by omega) hyn (by simpa using by omega) j u hj;simpa [Jh] using this
  ·exact(eI (hyg g a7.1)).trans a7.1
 ·rename_i n' lv io hk
  obtain⟨g,hy,rfl⟩:=hr;obtain⟨l,us,g',e,hd,a1,a2,a3,a4,a5,a6⟩:=hI.box hk hb;rw [hy] at a1;simp at a1;subst a1;rw [hd] at hst;simp only [stD] at hst;split at hst
  case isFalse=>cases hst
  rename_i hc;obtain⟨hc1,hc2,hc3⟩:=hc;simp only [Jg] at hst;subst hst;have hFg:∀b,pC F yy b→b≠g:=fun b hbF e=>by
   subst e;rcases hbF with hbF | hbF
   ·rw [(hI.fl b hbF).2] at a6;cases a6.1
   ·exact hyg b a6.1 hbF
  have hheap:∀(cs':Array Value) b,b≠g→(w.setRow g cs').heap[b]?=w.heap[b]?:=fun cs' b hne=>setRow_other w g b cs' hne
  have hxr:=hx w (fun _ _=>rfl);obtain⟨_,g2,g3⟩:=dQ hxr (mF hc3);have hyn:yv.cells.toList.length=n:=by rw [(bY _ _ g2 g3).1,hc1]
  have hone:∀v∈yv.cells.toList,v.oneCell'=true:=fun v hv=>((bY _ _ g2 g3).2.1 v hv).1
  have hul:=(bY _ _ a4 a3).1;have hrun:=rk (P:=P) (t:=t) (n:=n) (y:=yv) (o:=f) hsz (by simpa using hyn) a2 (by simp;omega) hone;obtain⟨cs',hcs'⟩:∃x:Array Value,x=(us.toArray.toList.take f++yv.cells.toList++us.toArray.toList.drop (f+n)).toArray:=⟨_,rfl⟩
  rw [←hcs'] at hrun;refine⟨g,w.setRow g cs',?_,a6.1,(hI.ol g _ a6.1).2,hheap cs',nR w g cs',rfl,rfl,rfl,by simp,.inr ?_⟩
  ·simp only [JB,JK,IY,IZ,IK]
   exact hrun
  rw [hk];have hrl:dj c.K r=lv:=by simp [dj,hk]
  rw [hrl] at hx;have hx':=hx (w.setRow g cs') (fun b hb=>hheap _ b (hFg b hb));obtain⟨_,_,g3'⟩:=dQ hx' (mF hc3);have a3':=bm (eX (F':=pC F yy) fun _ h=>.inl h) (fun b hb=>hheap cs' b (hFg b (.inl (en b hb)))) _ _ a3;obtain⟨r1,r2⟩:=qT a4 hc3 a3' g3' f;rw [hyn] at r1;subst hcs';exact⟨_,_,g,e,rfl,hy,setRow_heap w g _ _ e (0,0) a2,by simpa using r1,r2,by rw [xZ (by omega)];exact a5,(eI (hyg g a6.1)).trans a6.1,a6.2⟩
 ·exact hr.elim
end
end Go.V

namespace Go.V
open Go.RowKit
set_option maxRecDepth 100000
section
variable {P:Program} {c:Cx} {B:Nat} {X:Nat→Prop} {w0:World} {F0 F:Nat→Prop} {O:Nat→Option (Nat × Nat)} {a:Act} {w:World} {δ:List D}
theorem zx {o:Oper} (hd:o.dst=none) {w':World} {δ':List D} {F':Nat→Prop} {O':Nat→Option (Nat × Nat)} {k:List D→Option Out} {r:Out}
  (hr:(execOp a.eval o).run P w = .ok .skip w') (hI:Inv c B X w0 F0 F' O' a w' δ') (hk:k δ'=some r) (Q:Exit→Act→World→Prop):o.wp P a w (Next c B X w0 F0 k r) Q :=
 zV hr ⟨F',O',δ',by rw [hd];exact hI,hk⟩
theorem nO {n:Nat} {b p x b':D} (h:stD n b p x=some b'):b ≠ .bad∧x ≠ .bad∧∃i f,p = .ref i f:=by
 unfold stD at h;split at h
 ·refine⟨by simp,?_,_,_,rfl⟩
  rintro rfl;split at h
  ·split at h
   ·rename_i hc
    simp [D.cells,D.single] at hc
   ·cases h
  ·cases h
 ·refine⟨by simp,?_,_,_,rfl⟩
  rintro rfl;split at h
  ·rename_i hc
   simp [D.cells,D.single] at hc
  ·cases h
 ·cases h
theorem CO (hI:Inv c B X w0 F0 F O a w δ) {o:Oper} {t:Nat} {q r:Nat} {x:Operand} (ho:o.op = .store t (.tmp q) x) (hd:o.dst=none) {i:TI} (hi:TOk P t i) {ii f:Nat} (hb:nth δ r ≠ .bad)
  (hr:nB (ah c.K r) (av a r) ii f (av a q)) {y b':D} (hst:stD i.n (nth δ r) (.ref ii f) y=some b') (hy:bj w (FB F B (dj c.K r)) y (a.eval x))
  {k:List D→Option Out} {rr:Out} (hk:k (ae δ ([]++([r]++aB c.K [])) [b'])=some rr) (Q:Exit→Act→World→Prop):o.wp P a w (Next c B X w0 F0 k rr) Q:=by
 obtain⟨g,w',h1,h2,h3,h4,h5,h6,h7,h8,h9,h10⟩:=tX hI (yy:=.nilFunc) hb hr hst (hi.size w) (fun w' hw=>aO (eX fun _ h=>.inl h) (fun b hb=>hw b (.inl (en b hb))) hy) (fun g _=>by simp [blk]);obtain⟨F',O',hI'⟩:=hI.write (ts:=[]) (y:=.nilFunc) (by simp) (fun b hb=>by simp [blk] at hb) h9 (gI hr) h2 h10 h4 h5 h6 h7 h8 h3;refine zx hd (w':=w') ?_ hI' hk Q
 simp only [execOp,ho,IY,br,h1,IK,IZ]
theorem uX (q r:Nat) (more:List Nat) (k:D→D→List D→Option Out):goP q r (af δ (app (rdP q r) more)) k=k (nth δ r) (if q=r then .ref 0 0 else nth δ q) (af δ more):=by
 unfold goP rdP;cases h:JJ q r
 ·have hne:q≠r:=fun e=>by subst e;simp at h
  simp [hne,app,af]
 ·have:=az.1 h
  simp [this,app,af]
theorem uS {o:Oper} {t:Nat} {q r:Nat} {x:Operand} (ho:o.op = .store t (.tmp q) x) (hd:o.dst=none) {i:TI} (hi:TOk P t i) (hI:Inv c B X w0 F0 F O a w δ)
  (hpl:∀(y b':D),stD i.n (nth δ r) (if q=r then .ref 0 0 else nth δ q) y=some b'→∃ii f,(if q=r then .ref 0 0 else nth δ q)=D.ref ii f∧nB (ah c.K r) (av a r) ii f (av a q))
  {A:Ac} (hA:yZ c i q r (dj c.K r) x=some A) {k:List D→Option Out} {rr:Out} (hg:co c A δ k=some rr) (Q:Exit→Act→World→Prop):o.wp P a w (Next c B X w0 F0 k rr) Q:=by
 have dat:∀(y:D),bI w (FB F B (dj c.K r)) y (a.eval x)→stK false i.n (nth δ r) (if q=r then .ref 0 0 else nth δ q) y (fun b=>k (ae δ ([]++([r]++aB c.K [])) [b]))=some rr→o.wp P a w (Next c B X w0 F0 k rr) Q:=by
  intro y hy hk;simp only [stK] at hk;obtain⟨b',h1,h2⟩:=Ix.1 hk;obtain⟨ii,f,h3,h4⟩:=hpl y b' h1;obtain⟨g1,g2,_⟩:=nO h1;rw [h3] at h1;exact CO hI ho hd hi g1 h4 h1 (hy.rep g2) h2 Q
 unfold yZ at hA;split at hA
 ·rename_i s
  split at hA
  ·rename_i l hk
   split at hA
   ·rename_i hl
    cases hA;simp only [co,uX] at hg;exact dat (nth δ s) (fw (aT.1 hl) (hI.dat hk)) hg
   ·rename_i hl h0
    cases hA;simp only [co,uX,stK,af,cU] at hg;obtain⟨y,h1,h2⟩:=Ix.1 hg;unfold bE at h1;split at h1
    case isFalse=>cases h1
    rename_i hv;cases h1;refine dat (nth δ s) (.inr (my hv ((hI.dat hk).rep ?_))) h2
    intro e;rw [e] at hv;simp [D.isV] at hv
   ·cases hA
  ·rename_i z l hk
   split at hA
   case h_2=>cases hA
   rename_i h1 h2 h3;have hsr:s≠r:=fun e=>by subst e;simp at h3
   rw [aT] at h1 h2;cases hA;simp only [co,uX,stK,af,cU] at hg;obtain⟨b',e1,e2⟩:=Ix.1 hg;obtain⟨ii,f,e3,e4⟩:=hpl _ _ e1;obtain⟨g1,g2,_⟩:=nO e1;rw [e3] at e1;have hown:=hI.own hk g2;have hblk:=hown.blk;have hy:∀b,blk (av a s)=some b→B≤b∧∃p,O b=some p∧p.1∈[s]:=fun b hb=>⟨(hblk b hb).1.2 rfl,_,(hblk b hb).1.1,by simp⟩
   have hrep:bj w (FB (pC F (av a s)) B (dj c.K r)) (nth δ s) (av a s):=by
    refine aO (fun b hb=>?_) (fun _ _=>rfl) (iH (hown.own (own':=fun g=>B≤g∧V.blk (av a s)=some g) fun b hb ho=>⟨ho.2 rfl,hb⟩))
    rcases hb with hb | ⟨hb1,hb2⟩
    ·exact jm h2 _ (eX (fun _ h=>.inl h) _ hb)
    ·have hx:pC F (av a s) b:=.inr hb2
     generalize dj c.K r=lv at h1
     match lv,h1 with
     | 1,_=>exact⟨hx,hb1⟩
     | _+2,_=>exact hx
   obtain⟨g,w',h1',h2',h3',h4',h5',h6',h7',h8',h9',h10'⟩:=tX hI (yy:=av a s) (yv:=av a s) g1 e4 e1 (hi.size w) (fun w' hw=>aO (fun _ h=>h) (fun b hb=>hw b (en b hb)) hrep) (fun g hg hb=>by
    obtain⟨_,p,hp,hp'⟩:=hy g hb;rw [hg] at hp;cases hp;have e:r=s:=by simpa using hp'
    exact hsr e.symm)
   obtain⟨F',O',hI'⟩:=hI.write (ts:=[s]) (y:=av a s) (by simpa using fun e=>hsr e.symm) hy h9' (gI e4) h2' h10' h4' h5' h6' h7' h8' h3';refine zx hd (w':=w') ?_ hI' e2 Q
   simp only [execOp,ho,IY,br,h1',IK,IZ]
  ·cases hA
 ·cases hA
 ·rename_i v
  split at hA
  case h_2=>cases hA
  rename_i hv;cases hA;simp only [co,uX] at hg;refine dat (qz v) ?_ hg
  have:=hI.opd (x:=.const v) (by simp [cI,hv]);simp only [cI,hv,opD] at this;exact fw (Nat.zero_le _) this
 ·rename_i f
  cases hA;simp only [co,uX] at hg;refine dat (.clo f []) ?_ hg
  have:=hI.opd (x:=.func f) (by simp [cI]);simp only [cI,opD] at this;exact fw (Nat.zero_le _) this
theorem yz (hT:okT P c.T=true) {o:Oper} {t:Nat} {p x:Operand} (ho:o.op = .store t p x):eZ P c o:=by
 intro A hA B X w0 F0 F O a w δ hI k rr hg Q;simp only [bC,ho] at hA;split at hA
 case h_2=>cases hA
 rename_i hd;have hA0:=ao hA;clear hA;obtain⟨i,hi,hA⟩:=hA0;have hti:=tok hT hi;unfold DU at hA;split at hA
 case h_2=>cases hA
 rename_i q;split at hA
 ·rename_i n lv io hk
  have hlv:dj c.K q=lv:=by simp [dj,hk]
  rw [←hlv] at hA;refine uS ho hd hti hI (fun y b' hst=>?_) hA hg Q
  rw [if_pos rfl] at hst ⊢;obtain⟨hb,_,_⟩:=nO hst;obtain⟨l,us,g,e,_,a1,_⟩:=hI.box hk hb;refine⟨0,0,rfl,?_⟩
  rw [hk];exact⟨g,a1,a1⟩
 ·rename_i r hk
  refine uS ho hd hti hI (fun y b' hst=>?_) hA hg Q
  by_cases e:q=r
  ·subst e
   obtain⟨hb,_,_⟩:=nO hst;obtain⟨i',f',h1,_⟩:=hI.ref hk hb;rw [h1] at hst;simp [stD] at hst
  ·rw [if_neg e] at hst ⊢
   obtain⟨_,_,ii,f,hp⟩:=nO hst;obtain⟨i',f',h1,h2,h3⟩:=hI.ref hk (by rw [hp];simp);exact⟨i',f',h1,h3⟩
 ·cases hA
end
end Go.V

namespace Go.V
open Go.RowKit
set_option maxRecDepth 100000
section
variable {P:Program} {c:Cx} {B:Nat} {X:Nat→Prop} {w0:World} {F0 F:Nat→Prop} {O:Nat→Option (Nat × Nat)} {a:Act} {w:World} {δ:List D}
theorem vD {F:Nat→Prop} {z n cap t:Nat} {l:List D} {us:List Value} {cs:Array Value} (hr:bh w F l us) (hl:∀d∈l,d.width=z) (hn:l.length=n) (hc:n≤cap) (hs:cap*z≤cs.size) (hu:∀(i:Nat) (u:Value),us[i]?=some u→cs[i]?=some u)
  (hF:∀b,F b→b<w.heap.size):iA (w.alloc (.cells cs t)) F (fun g=>w.heap.size≤g) z (.arr z l) (.slice (some ⟨w.heap.size,0,none⟩) n cap) :=
 ⟨l,rfl,hl,.inr ⟨w.heap.size,0,cap,us,cs,t,by rw [hn],by rw [hn];exact hc,heap_alloc_new w _,by simpa using hs,bm (fun _ h=>h) (fun b hb=>heap_alloc_old w _ (hF b hb)) _ _ hr,by simpa using hu,IE _⟩⟩
theorem Bp {z n:Nat} {l:List D} (h:kH z n l=true):(∀d∈l,d.width=z)∧∀d∈l,d ≠ .bad∧∀m,d ≠ .tup m:=by
 unfold kH at h;rw [List.all_eq_true] at h;refine⟨fun d hd=>?_,fun d hd=>⟨fun e=>?_,fun m e=>?_⟩⟩
 ·have:=h d hd
  simp only [Ji,beq_iff_eq] at this;exact this.1.1
 ·have:=h d hd
  subst e;simp [D.single] at this
 ·have:=h d hd
  subst e;simp [D.single] at this
theorem sC {G:Nat→Prop}:∀(ds:List D) (ys:List Value),rg w G ds ys→(∀d∈ds,d ≠ .bad∧∀m,d ≠ .tup m)→bh w G ds (ys.flatMap fun y=>y.cells.toList)
 | [],[],_,_=>aL.2 rfl
 | d::ds,y::ys,h,hb=>ax.2 ⟨_,_,rfl,(dQ (h.1.rep (hb d (by simp)).1) (hb d (by simp)).2).1,sC ds ys h.2 fun e he=>hb e (by simp [he])⟩
 | [],_::_,h,_=>h.elim
 | _::_,[],h,_=>h.elim
theorem ym (ρ:Operand→Value):∀(parts:List (Nat × Operand)) (k n:Nat),Av k parts n=true→n=k+parts.length∧∀(j:Nat) (p:Nat × Operand),parts[j]?=some p→p.1=k+j
 | [],k,n,h=>by
  simp only [Av] at h;exact⟨(az.1 h).symm,by simp⟩
 | (i,x)::ps,k,n,h=>by
  simp only [Av] at h;split at h
  case h_2=>cases h
  rename_i hi;rw [az] at hi;obtain⟨h1,h2⟩:=ym ρ ps (k+1) n h;refine⟨by simp;omega,fun j p hj=>?_⟩
  cases j with
  | zero=>simp at hj;subst hj;simp [hi]
  | succ j=>rw [h2 j p (by simpa using hj)];omega
theorem wB {z:Nat}:∀(parts:List (Nat × Value)) (k:Nat) (us:List Value),(∀(j:Nat) (p:Nat × Value),parts[j]?=some p→p.1=k+j∧p.2.cells.size=z)→(k+parts.length)*z≤us.length →
  Jy (fun i=>some (i*z,z)) us.toArray parts=some (us.take (k*z)++(parts.flatMap fun p=>p.2.cells.toList)++us.drop ((k+parts.length)*z)).toArray
 | [],k,us,_,_=>by simp [Jy]
 | (i,v)::ps,k,us,h,hl=>by
  obtain⟨h1,h2⟩:=h 0 (i,v) rfl;simp only [Jt] at h1 h2;simp only [List.length_cons] at hl;have hkz:(k+(ps.length+1))*z=k*z+z+ps.length*z:=by rw [Jn,Jl];omega
  rw [hkz] at hl;have hvl:v.cells.toList.length=z:=by simpa using h2
  have hfs:=ua v.cells.toList (k*z) 0 us (by rw [hvl];omega);simp only [Jt,hvl] at hfs;have ih:=wB ps (k+1) (us.take (k*z)++v.cells.toList++us.drop (k*z+z)) (fun j p hj=>by
   obtain⟨g1,g2⟩:=h (j+1) p (by simpa using hj);exact⟨by omega,g2⟩) (by
   simp only [IH,IG,IQ,hvl];rw [show k+1+ps.length=k+(ps.length+1) from by omega,hkz];omega)
  simp only [Jy,h1,h2];rw [if_neg (by simp;omega)];have e1:(v.cells.zipIdx.foldl (fun cs (c,j)=>cs.setIfInBounds (k*z+j) c) us.toArray)=(us.take (k*z)++v.cells.toList++us.drop (k*z+z)).toArray:=by
   rw [←hfs];rw [←Array.foldl_toList];simp
  rw [e1,ih];have l1:(us.take (k*z)).length=k*z:=by rw [IG];omega
  have l2:(us.take (k*z)++v.cells.toList).length=(k+1)*z:=by rw [IH,l1,hvl,Jl]
  have t1:(us.take (k*z)++v.cells.toList++us.drop (k*z+z)).take ((k+1)*z)=us.take (k*z)++v.cells.toList:=by rw [←l2];exact List.take_left
  have t2:(us.take (k*z)++v.cells.toList++us.drop (k*z+z)).drop ((k+1+ps.length)*z)=us.drop ((k+(ps.length+1))*z):=by
   rw [Jn,←l2,Jp,List.drop_drop];congr 1
   rw [hkz]
  rw [t1,t2];simp
theorem sd (hT:okT P c.T=true) {o:Oper} {t n:Nat} {parts:Array (Nat × Operand)} (ho:o.op = .buildSlice t n parts):eZ P c o:=by
 intro A hA B X w0 F0 F O a w δ hI k r hg Q;simp only [bC,ho] at hA;have hA0:=ao hA;clear hA;obtain⟨i,hi,hA⟩:=hA0;have hA0:=ao hA;clear hA;obtain⟨e,he,hA⟩:=hA0;have hti:=tok hT hi;have hte:=tok hT he;split at hA
 case h_2=>cases hA
 rename_i hsl;obtain⟨hu,_,hez,_,y,hy,hys,_⟩:=jW hti hsl;unfold FF at hA;simp only at hA;split at hA
 ·cases hA
 rename_i d hd;split at hA
 case h_2=>cases hA
 rename_i h1 h2 h3 h4;rw [aT] at h2 h4;cases hA;simp only [co] at hg;rw [bk] at hg;obtain⟨z,hz,hk⟩:=Ix.1 hg;unfold aW at hz;split at hz
 case isFalse=>cases hz
 rename_i hok;cases hz;obtain⟨hw1,hb1⟩:=Bp hok;have hxs:(lV (fun p=>p.2) parts.toList).map a.eval=(parts.toList.map fun p=>(p.1,a.eval p.2)).map (·.2):=by rw [pd];simp [JF]
 have hbs:rg w (FB F B (iL c.K (lV (fun p=>p.2) parts.toList))) ((lV (fun p=>p.2) parts.toList).map (opD δ)) ((lV (fun p=>p.2) parts.toList).map a.eval) :=
  rM _ fun x hx=>fw (uO _ x hx) (hI.opd (gG h4 x hx))
 have hrl:=sC _ _ hbs hb1;obtain⟨hn,hix⟩:=ym a.eval parts.toList 0 n h1;simp only [Jj] at hn hix;have hsz:∀(j:Nat) (p:Nat × Value),(parts.toList.map fun p=>(p.1,a.eval p.2))[j]?=some p→p.1=0+j∧p.2.cells.size=i.ez:=by
  intro j p hj;rw [List.getElem?_map] at hj;obtain⟨q,hq,rfl⟩:=IW.1 hj;refine⟨by rw [hix j q hq,Jj],?_⟩
  have hmem:q.2∈lV (fun p=>p.2) parts.toList:=by rw [pd];exact JC (Jz hq)
  have hrb:=hI.opd (gG h4 _ hmem);have hdm:opD δ q.2∈(lV (fun p=>p.2) parts.toList).map (opD δ):=JC hmem;have hc:=mP (dQ (hrb.rep (hb1 _ hdm).1) (hb1 _ hdm).2).1;rw [hw1 _ hdm] at hc;simpa using hc
 obtain⟨y',zv,k1,k2,k3,_⟩:=hte.info;rw [hy] at k1;cases k1;generalize hus:((Array.range (n*i.ez)).map (fun j=>(if n*i.ez=0 then(#[]:Array Value) else zv.cells)[j % (if n*i.ez=0 then(#[]:Array Value) else zv.cells).size]!))=us0;have husl:us0.size=n*i.ez:=by rw [←hus];simp
 have hfill:=wB (z:=i.ez) (parts.toList.map fun p=>(p.1,a.eval p.2)) 0 us0.toList hsz (by simp [husl,hn]);have hdrop:us0.toList.drop ((0+(parts.toList.map fun p=>(p.1,a.eval p.2)).length)*i.ez)=[]:=List.drop_eq_nil_of_le (by simp [husl,hn]);rw [hdrop] at hfill;simp only [Nat.zero_mul,List.take_zero,Jw,IC,Ja] at hfill;have hfl:((parts.toList.map fun p=>(p.1,a.eval p.2)).flatMap fun p=>p.2.cells.toList)=((lV (fun p=>p.2) parts.toList).map a.eval).flatMap fun y=>y.cells.toList:=by
  rw [pd];simp [List.flatMap_map]
 rw [hfl] at hfill;have hrun:(execOp a.eval o).run P w = .ok (.value (.slice (some ⟨w.heap.size,0,none⟩) n n)) (w.alloc (.cells (((lV (fun p=>p.2) parts.toList).map a.eval).flatMap fun y=>y.cells.toList).toArray i.elem)):=by
  refine bX (s:=Jv t n (parts.map fun(i,x)=>(i,a.eval x))) (by simp only [execOp,ho]) ?_
  have hnot:¬(16777216<n*i.ez):=by omega
  by_cases h0:n*i.ez=0
  ·simp only [h0,if_true] at hus
   simp [Jv,run_underlying hu,sizeOf,typeInfo,hy,hys,h0];have e0:us0=#[]:=Array.eq_empty_of_size_eq_zero (husl.trans h0);have e1:Array.map (fun _=>(default:Value)) (Array.range 0)=us0:=by rw [e0,Array.range_zero',Array.map_empty]
   rw [e1,hfill];simp [newRow]
  ·simp only [h0,if_false] at hus
   simp [Jv,run_underlying hu,sizeOf,typeInfo,hy,hys,h0,hnot,zeroValue,k3];rw [hus,hfill];simp [newRow]
 have hlenE:((lV (fun p=>p.2) parts.toList).map (opD δ)).length=n:=by rw [pd];simp [hn]
 have hlenU:=cY _ _ hrl hw1;obtain⟨F',O',hI'⟩:=hI.fresh (d:=d) h3 (vD (w:=w) (t:=i.elem) (cap:=n) (cs:=(((lV (fun p=>p.2) parts.toList).map a.eval).flatMap fun y=>y.cells.toList).toArray) hrl hw1 hlenE (IE _) (by simp only [IX,hlenU,hlenE];exact IE _) (fun j u hu=>by simpa using hu) (fun b hb=>(hI.fl b (en b hb)).1)) (by simp) (fun b hb=>heap_alloc_old w _ hb) rfl rfl rfl;exact bt hd hrun hI' hk Q
theorem tV {G:Nat→Prop} {d:D} {y:Value} (h:bI w G d y):∀{n:Nat},rg w G (IL n d) (IL n y)
 | 0=>trivial
 | _+1=>⟨h,tV h⟩
theorem zB {α:Type} {zs:List α} (hz:0<zs.length):∀(m j:Nat) (u:α),((IL m zs).flatten)[j]?=some u→j<m*zs.length∧zs[j % zs.length]?=some u
 | 0,j,u,h=>by simp at h
 | m+1,j,u,h=>by
  rw [List.replicate_succ,List.flatten_cons] at h;rcases Ju j zs.length with hj | hj
  ·rw [ID hj] at h
   refine⟨by rw [Jl];omega,by rw [Nat.mod_eq_of_lt hj];exact h⟩
  ·rw [IF hj] at h
   obtain⟨h1,h2⟩:=zB hz m _ u h;refine⟨by rw [Jl];omega,?_⟩
   rw [←h2,Nat.mod_eq_sub_mod hj]
theorem EK {z:Value} {ez n m:Nat} (hz:z.cells.size=ez) (hez:0<ez) (hle:m*ez≤n) {j:Nat} {u:Value} (h:((IL m z).flatMap fun y=>y.cells.toList)[j]?=some u):(madeCells z.cells n)[j]?=some u:=by
 have e:((IL m z).flatMap fun y=>y.cells.toList)=(IL m z.cells.toList).flatten:=by
  rw [List.flatMap_def];simp
 rw [e] at h;obtain⟨h1,h2⟩:=zB (by simpa [hz] using hez) m j u h;have hl:z.cells.toList.length=ez:=by simpa using hz
 rw [hl] at h1 h2;have hjn:j<n:=by omega
 have hlt:j % ez<z.cells.size:=by rw [hz];exact Nat.mod_lt _ hez
 simp only [madeCells,Array.getElem?_map,Array.getElem?_range,hjn,if_true,Jd,hz,Jg];rw [Array.getElem!_eq_getD,Jq];have:z.cells[j % ez]?=some u:=by simpa using h2
 rw [this];rfl
theorem tC (hT:okT P c.T=true) {o:Oper} {t:Nat} {n m:Operand} (ho:o.op = .makeSlice t n m):eZ P c o:=by
 intro A hA B X w0 F0 F O a w δ hI k r hg Q;simp only [bC,ho] at hA;have hA0:=ao hA;clear hA;obtain⟨i,hi,hA⟩:=hA0;have hA0:=ao hA;clear hA;obtain⟨e,he,hA⟩:=hA0;have hti:=tok hT hi;have hte:=tok hT he;split at hA
 case h_2=>cases hA
 rename_i hsl;obtain⟨hu,_,hez,heb,y,hy,hys,hyb⟩:=jW hti hsl;unfold Gc at hA;split at hA
 case h_2=>cases hA
 rename_i d hd hn hm;split at hA
 case h_2=>cases hA
 rename_i hk3;cases hA;simp only [co] at hg;rw [bk] at hg;obtain⟨z,hz,hk⟩:=Ix.1 hg;simp only [Iz,IA] at hz;unfold yF at hz;split at hz
 case h_2=>cases hz
 rename_i k1 l k2 cp e1 e2;split at hz
 case isFalse=>cases hz
 rename_i hc;obtain⟨c1,c2,c3,c4⟩:=hc;cases hz;have hn':=hI.opd (aT.1 hn);have hm':=hI.opd (aT.1 hm);rw [e1] at hn';rw [e2] at hm';obtain⟨hn',_⟩:=aK hn';obtain⟨hm',_⟩:=aK hm';obtain⟨y',zv,q1,q2,q3,q4,q5⟩:=hte.info;rw [hy] at q1;cases q1;have hrun:(execOp a.eval o).run P w = .ok (.value (.slice (some ⟨w.heap.size,0,none⟩) l.toNat cp.toNat)) (w.alloc (.cells (madeCells zv.cells (cp.toNat*y.size)) i.elem)):=by
  refine bX (s:=Instr.makeSlice t (a.eval n) (a.eval m)) (by simp only [execOp,ho]) ?_
  rw [hn',hm'];exact run_make w t i.elem y zv hu hy q3 k1 k2 l cp c1 c2 (by rw [hyb,Int.mul_comm];omega) (by omega)
 obtain⟨z',hz1,hz2,hz3,hz4⟩:=hte.zero;have hzt:∀m,sR e ≠ .tup m:=fun m hm=>CD hz3 hm
 have hzz:z'=zv:=by
  have h1:=hz1 w;simp [zeroValue,typeInfo,hy,q3] at h1;exact h1.symm
 subst hzz;have hzs:z'.cells.size=i.ez:=by rw [hz4,hte.zl,←q2,hys]
 have hwz:(sR e).width=i.ez:=by
  have:=mP (dQ (hz2 w (FB F B 0)).1 hzt).1;rw [←this];simpa using hzs
 have hrl:bh w (FB F B 0) (IL l.toNat (sR e)) ((IL l.toNat z').flatMap fun y=>y.cells.toList) :=
  sC _ _ (tV (.inr (hz2 w _).1)) fun d hd=>by rw [(List.mem_replicate.1 hd).2];exact⟨FQ (hz2 w (FB F B 0)).1,hzt⟩
 obtain⟨F',O',hI'⟩:=hI.fresh (d:=d) hk3 (vD (w:=w) (t:=i.elem) (n:=l.toNat) (cap:=cp.toNat) (cs:=madeCells z'.cells (cp.toNat*y.size)) hrl (fun d hd=>by rw [(List.mem_replicate.1 hd).2];exact hwz) (by simp) (by omega) (by rw [size_madeCells,hys];exact IE _) (fun j u hu=>EK (by simpa using hzs) hez (by rw [hys];exact IP _ (by omega)) hu) (fun b hb=>(hI.fl b (en b hb)).1)) (by simp) (fun b hb=>heap_alloc_old w _ hb) rfl rfl rfl;exact bt hd hrun hI' hk Q
end
end Go.V

namespace Go.V
open Go.RowKit
set_option maxRecDepth 100000
section
variable {P:Program} {c:Cx} {B:Nat} {X:Nat→Prop} {w0:World} {F0 F:Nat→Prop} {O:Nat→Option (Nat × Nat)} {a:Act} {w:World} {δ:List D}
theorem fT:∀(x y:List Nat),af δ (x++y)=af δ x++af δ y
 | [],_=>rfl
 | s::x,y=>by simp [af,fT x y]
theorem kZ:∀(x:List Nat),(af δ x).length=x.length
 | []=>rfl
 | _::x=>by simp [af,kZ x]
def vU (w:World) (G:Nat→Prop) (d:D) (y:Value):Prop :=
 ∀z l,d = .arr z l→∃A cc us,y = .slice A l.length cc∧bh w G l us∧(∀e∈l,e.width=z)∧(l≠[]→∃b o,A=some ⟨b,o,none⟩∧ct w b o us)
theorem DV {G:Nat→Prop} {d:D} {y:Value} (h:bI w G d y):vU w G d y:=by
 intro z l e;subst e;obtain⟨A,cc,us,h1,_,h3,h4,h5⟩:=ml (h.rep (by simp));exact⟨A,cc,us,h1,h3,h4,fun hne=>by
  obtain⟨b,o,e,_,hc⟩:=h5 hne;exact⟨b,o,e,hc⟩⟩
theorem zy {G own:Nat→Prop} {z:Nat} {d:D} {y:Value} (h:iA w G own z d y):vU w G d y:=by
 intro z' l e;subst e;obtain⟨l',e,h2,h3⟩:=h;cases e;rcases h3 with ⟨rfl,rfl⟩ | ⟨g,o,cc,us,cs,e,rfl,a2,a3,a4,a5,a6,a7⟩
 ·exact⟨none,0,[],rfl,aL.2 rfl,h2,fun h=>absurd rfl h⟩
 ·exact⟨_,cc,us,rfl,a5,h2,fun _=>⟨g,o,rfl,mi a3 a6⟩⟩
theorem uR (hI:Inv c B X w0 F0 F O a w δ) {x:Operand} {rd more:List Nat} {lv:Nat} {q:Option Nat} (h:kE c.K x=some (rd,lv,q)) {kk:D→Option Out} {rr:Out} (hk:iy rd (af δ (app rd more)) kk=some rr) :
  ∃dx,kk dx=some rr∧nm (fQ rd) (af δ (app rd more))=af δ more∧vU w (FB F B lv) dx (a.eval x) ∧
   ((q=none∧(rd=[]→x = .const (.slice none 0 0)∧dx = .arr 0 []))∨∃r z io,q=some r∧rd≠[]∧dx=nth δ r∧a.eval x=av a r∧ah c.K r = .own z lv io):=by
 rw [kw] at hk ⊢;have hdrop:nm (fQ rd) (af δ (rd++more))=af δ more:=by
  rw [rh,iY,fT,←kZ (δ:=δ) rd,List.drop_left]
 unfold kE at h;split at h
 ·rename_i t
  split at h
  ·rename_i l hkt
   simp at h;obtain⟨rfl,rfl,rfl⟩:=h;simp only [iy,af,Jx] at hk;exact⟨_,hk,hdrop,DV (hI.dat hkt),.inl ⟨rfl,fun e=>by cases e⟩⟩
  ·rename_i z l io hkt
   simp at h;obtain⟨rfl,rfl,rfl⟩:=h;simp only [iy,af,Jx] at hk;refine⟨_,hk,hdrop,?_,.inr ⟨t,z,io,rfl,by simp,rfl,rfl,hkt⟩⟩
   by_cases hb:nth δ t = .bad
   ·intro z' l' e
    rw [hb] at e;cases e
   ·exact zy (hI.own hkt hb)
  ·rename_i s hkt
   split at h
   case h_2=>cases h
   rename_i z l io hks;simp at h;obtain⟨rfl,rfl,rfl⟩:=h;simp only [iy,cM,af,JH,Jw,nth] at hk;obtain⟨y,h1,h2⟩:=Ix.1 hk;obtain⟨hb,rfl⟩:=aS h1;obtain⟨g1,g2,g3,g4⟩:=hI.via hkt hb;refine⟨_,h2,hdrop,?_,.inr ⟨s,z,io,rfl,by simp,rfl,g1,hks⟩⟩
   rw [br,g1];exact zy (hI.own hks g3)
  ·cases h
 ·simp at h
  obtain⟨rfl,rfl,rfl⟩:=h;simp only [iy] at hk;refine⟨_,hk,hdrop,?_,.inl ⟨rfl,fun _=>⟨rfl,rfl⟩⟩⟩
  intro z l e;cases e;exact⟨none,0,[],rfl,aL.2 rfl,by simp,fun h=>absurd rfl h⟩
 ·cases h
theorem xi {w w':World} {G G':Nat→Prop}:∀(l:List D) (us:List Value),l.all D.isV=true→bh w G l us→bh w' G' l us
 | [],us,_,h=>by rw [aL] at h ⊢;exact h
 | d::l,us,hv,h=>by
  obtain⟨v1,v2,rfl,h1,h2⟩:=ax.1 h;simp only [List.all_cons,Ji] at hv;refine ax.2 ⟨v1,v2,rfl,?_,xi l v2 hv.2 h2⟩
  cases d with
  | v x=>simpa only [RepC] using h1
  | agg m =>
   simp only [RepC] at h1 ⊢;exact⟨ul m v1 hv.1 h1.1,h1.2⟩
  | _=>simp [D.isV] at hv
theorem tD {t ty e:Nat} {i:TypeInfo} (ht:P.underlying t=some (.slice e)) (hi:P.info? e=some i) {g o et sLen sCap m cx:Nat} {cur:Array Value} (hg:w.heap[g]?=some (.cells cur et (0,0))) {A:Option Addr} {news:List Value}
  (hx:(Builtin.firstCells i.size m (.slice A m cx)).run P w = .ok news.toArray w) (h1:∀u∈news,u.oneCell'=true) (hroom:sLen+m≤sCap) (hfit:o+sLen*i.size+news.length≤cur.size) :
  (Je #[t,t] ty #[.slice (some ⟨g,o,none⟩) sLen sCap,.slice A m cx]).run P w =
   .ok (.slice (some ⟨g,o,none⟩) (sLen+m) sCap) (w.setRow g (cur.toList.take (o+sLen*i.size)++news++cur.toList.drop (o+sLen*i.size+news.length)).toArray):=by
 have hst:=run_storeCells_at P g (o+sLen*i.size) et news 0 cur w hg (by simpa using hfit) h1;simp only [Jt] at hst;simp [Je,run_underlying ht,sizeOf,typeInfo,hi,Builtin.lenOf,hroom,hx,Jf,hst]
theorem CM {G:Nat→Prop} {z m cx:Nat} {l:List D} {us:List Value} {A:Option Addr} (hl:l.length=m) (hr:bh w G l us) (hw:∀e∈l,e.width=z) (hc:l≠[]→∃b o,A=some ⟨b,o,none⟩∧ct w b o us) :
  (Builtin.firstCells z m (.slice A m cx)).run P w = .ok us.toArray w:=by
 have hul:=cY l us hr hw;cases A with
 | none =>
  have:l=[]:=by
   by_cases h:l=[]
   ·exact h
   ·obtain⟨b,o,e,_⟩:=hc h
    cases e
  subst this;rw [aL] at hr;subst hr;exact run_firstCells_none w z m m cx
 | some ad =>
  refine run_firstCells_some w z m ad m cx us (by rw [hul,hl]) (fun j v hj=>?_)
  obtain⟨b,o,e,hcell⟩:=hc (by
   intro e;subst e;rw [aL] at hr;subst hr;simp at hj)
  cases e;rw [Jf];exact hcell j v hj
theorem zI {G:Nat→Prop}:∀(l:List D) (us:List Value),bh w G l us→∀u∈us,u.oneCell'=true
 | [],us,h=>by rw [aL] at h;subst h;simp
 | d::l,us,h=>by
  obtain⟨v1,v2,rfl,h1,h2⟩:=ax.1 h;intro u hu;rcases Jk.1 hu with hu | hu
  ·rcases kf h1 with ⟨m,rfl⟩ | hs
   ·simp only [RepC] at h1
    exact((bY _ _ h1.2 h1.1).2.1 u hu).1
   ·obtain⟨y,rfl,_,hy⟩:=kU _ _ hs h1
    simp at hu;subst hu;exact hy
  ·exact zI l v2 h2 u hu
theorem Ct {us ws cs:List Value} {o k:Nat} (hu:us.length=k) (h:∀(j:Nat) (u:Value),us[j]?=some u→cs[o+j]?=some u) (hc:o+k+ws.length≤cs.length) :
  ∀(j:Nat) (u:Value),(us++ws)[j]?=some u→(cs.take (o+k)++ws++cs.drop (o+k+ws.length))[o+j]?=some u:=by
 intro j u hj;have l1:(cs.take (o+k)).length=o+k:=by rw [IG];omega
 rcases Ju j us.length with hju | hju
 ·rw [ID hju] at hj
  rw [II,ID (by omega),IU (by omega)];exact h j u hj
 ·rw [IF hju] at hj
  have hjw:=(IJ.1 hj).1;rw [II,IF (by omega),l1,ID (by omega)];rw [←hj];congr 1
  omega
theorem uw {t ty:Nat} {i e:TI} (hi:TOk P t i) (hsl:jz i=true) (he:TOk P i.elem e) {G own:Nat→Prop} (hG:∀b,G b→b<w.heap.size∧¬own b) {l m:List D} {ys yx:Value} (hs:iA w G own i.ez (.arr i.ez l) ys) (hx:vU w G (.arr i.ez m) yx)
  (hb:(l.length+m.length)*i.eb≤140737488355328) (hb2:l.length+m.length≤1152921504606846976) :
  ∃v w',(Je #[t,t] ty #[ys,yx]).run P w = .ok v w'∧iA w' G (fun g=>own g∨w.heap.size≤g) i.ez (.arr i.ez (l++m)) v∧w.heap.size≤w'.heap.size∧(∀b,b<w.heap.size→¬own b→w'.heap[b]?=w.heap[b]?) ∧
   w'.os=w.os∧w'.tape=w.tape∧w'.output=w.output:=by
 obtain⟨hu,_,hez,heb,y,hy,hys,hyb⟩:=jW hi hsl;obtain⟨y',zv,q1,q2,q3,q4,q5⟩:=he.info;rw [hy] at q1;cases q1;have hzs:zv.cells.size=i.ez:=by
  obtain⟨z',hz1,_,_,hz4⟩:=he.zero;have h1:=hz1 w;simp [zeroValue,typeInfo,hy,q3] at h1;subst h1;rw [hz4,he.zl,←q2,hys]
 obtain⟨A,cx,ws,hyx,hm,hmw,hmc⟩:=hx _ _ rfl;subst hyx;have hwl:=cY m ws hm hmw;obtain⟨l',el,hlw,hrest⟩:=hs;cases el;have grow:∀(us:List Value) (old cap':Nat),us.length=l.length*i.ez→bh w G l us→iA (w.drew.alloc (.cells (us.toArray++ws.toArray++Builtin.zeroCells zv.cells (grownCap w (l.length+m.length) old i.elem - (l.length+m.length))) i.elem)) G (fun g=>own g∨w.heap.size≤g) i.ez (.arr i.ez (l++m)) (.slice (some ⟨w.heap.size,0,none⟩) (l.length+m.length) (grownCap w (l.length+m.length) old i.elem)):=by
  intro us old _ hul hr;have hge:=grownCap_ge w (l.length+m.length) old i.elem;have:=vD (w:=w.drew) (F:=G) (z:=i.ez) (n:=l.length+m.length) (cap:=grownCap w (l.length+m.length) old i.elem) (t:=i.elem) (l:=l++m) (us:=us++ws) (cs:=us.toArray++ws.toArray++Builtin.zeroCells zv.cells (grownCap w (l.length+m.length) old i.elem - (l.length+m.length)))
   ((cF _ _ _).2 ⟨_,_,rfl,bm (w:=w) (w':=w.drew) (fun _ h=>h) (fun _ _=>rfl) _ _ hr,bm (w:=w) (w':=w.drew) (fun _ h=>h) (fun _ _=>rfl) _ _ hm⟩) (fun d hd=>(Jk.1 hd).elim (hlw d) (hmw d)) (by simp) hge (by
    simp only [Array.size_append,IX,size_zeroCells,hzs,hul,hwl,←Jn];exact IP _ (by omega)) (fun j u hj=>by
    rw [Array.getElem?_append_left]
    ·simpa using hj
    ·simp only [Array.size_append,IX]
     have:=(IJ.1 hj).1;simpa using this) (fun b hb=>(hG b hb).1)
  exact this.own fun _ _ h=>.inr h
 have hfirst:=CM (P:=P) (w:=w) (m:=m.length) (cx:=cx) rfl hm hmw hmc;have hb':(l.length+m.length)*y.bytes≤140737488355328:=by rw [hyb];exact hb
 rcases hrest with ⟨rfl,rfl⟩ | ⟨g,o,cc,us,cs,et,rfl,a2,a3,a4,a5,a6,a7⟩
 ·by_cases hm0:m=[]
  ·subst hm0
   refine⟨.slice none 0 0,w,?_,⟨[],rfl,by simp,.inl ⟨rfl,rfl⟩⟩,IE _,fun _ _ _=>rfl,rfl,rfl,rfl⟩
   have hws:ws=[]:=aL.1 hm;subst hws;simp only [Jm] at hfirst;rw [←hys] at hfirst;simp [Je,run_underlying hu,sizeOf,typeInfo,hy,Builtin.lenOf,hfirst]
  ·obtain⟨b,o,rfl,hcell⟩:=hmc hm0
   have hmp:0<m.length:=List.length_pos_iff.2 hm0;simp only [Jm,Jj] at hb' hb2;have hr:=run_append_nil (P:=P) w t ty i.elem y zv hu hy q3 ⟨b,o,none⟩ m.length cx ws (by rw [hwl,hys]) (fun j v hj=>by rw [Jf];exact hcell j v hj) hmp (by omega) (by omega);have hg:=grow [] 0 0 (by simp) (aL.2 rfl);simp only [Jm,Jj,Jw,Array.empty_append] at hg;exact⟨_,_,hr,hg,by simp,fun b hb _=>heap_alloc_old w.drew _ hb,rfl,rfl,rfl⟩
 ·have hul:=cY l us a5 hlw
  by_cases hroom:l.length+m.length≤cc
  ·have hlen:(l.length+m.length)*i.ez≤cc*i.ez:=IP _ hroom
   rw [Jn] at hlen;have hr:=tD (P:=P) (ty:=ty) (o:=o) hu hy a3 (A:=A) (news:=ws) (sLen:=l.length) (sCap:=cc) (by rw [hys];exact hfirst) (zI _ _ hm) hroom (by rw [hys,hwl];omega);have hFg:∀b,G b→b≠g:=fun b hb e=>(hG b hb).2 (e ▸ a7)
   refine⟨_,_,hr,?_,by rw [nR];exact IE _,fun b _ hb=>setRow_other w g b _ fun e=>hb (e ▸ a7),rfl,rfl,rfl⟩
   refine⟨l++m,rfl,fun d hd=>(Jk.1 hd).elim (hlw d) (hmw d),.inr ⟨g,o,cc,us++ws,_,et,by rw [IH],by rw [IH];exact hroom,setRow_heap w g cs _ et (0,0) a3,?_,?_,?_,.inl a7⟩⟩
   ·simp only [IX,IH,IG,IQ,Jc,hys,hwl]
    omega
   ·exact(cF _ _ _).2 ⟨_,_,rfl,bm (fun _ h=>h) (fun b hb=>setRow_other w g b _ (hFg b hb)) _ _ a5,bm (fun _ h=>h) (fun b hb=>setRow_other w g b _ (hFg b hb)) _ _ hm⟩
   ·intro j u hj
    rw [hys];simp only [List.getElem?_toArray];exact Ct (o:=o) (ws:=ws) (cs:=cs.toList) (k:=l.length*i.ez) hul (fun j u hj=>by simpa using a6 j u hj) (by
     rw [hwl];have e:cs.toList.length=cs.size:=Jc;rw [e];clear hb hb' hfirst hmc;omega) j u hj
  ·have hm0:m≠[]:=fun e=>hroom (by subst e;simpa using a2)
   obtain⟨b,o',rfl,hcell⟩:=hmc hm0;have hr:=run_append_grow (P:=P) w t ty i.elem y zv hu hy q3 ⟨g,o,none⟩ l.length cc us (by rw [hul,hys]) (fun j v hj=>by rw [Jf];exact mi a3 a6 j v hj) ⟨b,o',none⟩ m.length cx ws (by rw [hwl,hys]) (fun j v hj=>by rw [Jf];exact hcell j v hj) (by omega) (by omega) (growslice_fits (by omega) hb');exact⟨_,_,hr,grow us cc 0 hul a5,by simp,fun b hb _=>heap_alloc_old w.drew _ hb,rfl,rfl,rfl⟩
theorem yb (hT:okT P c.T=true) {o:Oper} {s x:Operand} {t:Nat} {q:Call} (ho:o.op = .call q) (hcl:q.callee = .builtin .append) (hargs:q.args.toList=[s,x]) (hty:q.argTypes.toList=[t,t]) {i e:TI} (hi:bR c.T t=some i) (he:bR c.T i.elem=some e) (hsl:jz i=true)
  {A:Ac} (hA:EO c o.dst i s x=some A) (hI:Inv c B X w0 F0 F O a w δ) {k:List D→Option Out} {r:Out} (hg:co c A δ k=some r) (Q:Exit→Act→World→Prop):o.wp P a w (Next c B X w0 F0 k r) Q:=by
 have hti:=tok hT hi;have hte:=tok hT he;have e1:q.args=#[s,x]:=by rw [←Ja (xs:=q.args),hargs]
 have e2:q.argTypes=#[t,t]:=by rw [←Ja (xs:=q.argTypes),hty]
 have hex:∀v w',(Je #[t,t] o.type #[a.eval s,a.eval x]).run P w = .ok v w'→(execOp a.eval o).run P w = .ok (.value v) w':=by
  intro v w' h;simp [execOp,ho,resolve,hcl,invoke,builtin,e1,e2,h]
 have appD_some:∀{a b y:D},ew i.ez i.eb a b=some y→∃l m,(∃z,a = .arr z l∧(z=i.ez∨l=[]))∧(∃z,b = .arr z m∧(z=i.ez∨m=[]))∧y = .arr i.ez (l++m)∧(l.length+m.length)*i.eb≤140737488355328∧l.length+m.length≤1152921504606846976:=by
  intro a b y h;unfold ew at h;split at h
  ·split at h
   ·rename_i hc
    cases h;exact⟨_,_,⟨_,rfl,hc.1⟩,⟨_,rfl,hc.2.1⟩,rfl,hc.2.2.1,hc.2.2.2⟩
   ·cases h
  ·cases h
 have srcz:∀{G:Nat→Prop} {z:Nat} {m:List D} {y:Value},(z=i.ez∨m=[])→vU w G (.arr z m) y→vU w G (.arr i.ez m) y:=by
  intro G z m y hz h;rcases hz with rfl | rfl
  ·exact h
  ·intro z' l e
   cases e;obtain⟨A,cc,us,h1,h2,_,_⟩:=h _ _ rfl;exact⟨A,cc,us,h1,h2,by simp,fun h=>absurd rfl h⟩
 have srcle:∀{lv lv':Nat} {d:D} {y:Value},lv≤lv'→vU w (FB F B lv) d y→vU w (FB F B lv') d y:=by
  intro lv lv' d y hle h z l e;obtain⟨A,cc,us,h1,h2,h3,h4⟩:=h z l e;exact⟨A,cc,us,h1,bm (jm hle) (fun _ _=>rfl) _ _ h2,h3,h4⟩
 have main:∀(d:Nat) (rs rx:List Nat) (ls lx:Nat) (os ox:Option Nat) (chk:Bool) (A:Ac),o.dst=some d→kE c.K s=some (rs,ls,os)→kE c.K x=some (rx,lx,ox)→fM c.K d i.ez (max ls (if chk then 0 else lx))=true→CY c d i chk rs rx os=some A→co c A δ k=some r→o.wp P a w (Next c B X w0 F0 k r) Q:=by
  intro d rs rx ls lx os ox chk A hd hs hx hnew hA hg;have chkK_some:∀{db:D} {kk:D→Option Out},vU w (FB F B lx) db (a.eval x)→Bt chk db kk=some r→vU w (FB F B (if chk then 0 else lx)) db (a.eval x)∧kk db=some r:=by
   intro db kk h hk;cases chk
   ·exact⟨h,hk⟩
   ·simp only [Bt] at hk
    obtain⟨y,h1,h2⟩:=Ix.1 hk;unfold gT at h1;split at h1
    case h_2=>cases h1
    split at h1
    case isFalse=>cases h1
    rename_i z l hv;cases h1;refine⟨?_,h2⟩
    intro z' l' e;cases e;obtain⟨A,cc,us,g1,g2,g3,g4⟩:=h _ _ rfl;exact⟨A,cc,us,g1,xi _ _ hv g2,g3,g4⟩
  unfold CY at hA;split at hA
  ·rename_i ra
   split at hA
   case h_2=>cases hA
   rename_i hgv hze;rw [az] at hze;cases hA;simp only [co] at hg;obtain⟨da,hg,hdr,hsa,hqa⟩:=uR hI hs hg;rw [hdr] at hg;have hg':iy rx (af δ (app rx [])) (fun b=>Bt chk b fun b=>(ew i.ez i.eb da b).bind fun y=>k (ae δ ([d,ra]++([]++aB c.K [d,ra])) [y,D.bad]))=some r:=by rw [kw,IC];exact hg
   obtain⟨db,hg,_,hsb,_⟩:=uR hI hx hg';obtain⟨hsb,hg⟩:=chkK_some hsb hg;obtain⟨y,hy,hk⟩:=Ix.1 hg;obtain⟨l,m,⟨z1,rfl,hz1⟩,⟨z2,rfl,hz2⟩,rfl,b1,b2⟩:=appD_some hy;rcases hqa with ⟨h,_⟩ | ⟨r',z,io,h,_,hda,hav,hkr⟩
   ·cases h
   cases h;have hb:nth δ ra ≠ .bad:=by rw [←hda];simp
   obtain⟨z',lv',hkr'⟩:=qX hgv;rw [hkr] at hkr';simp only [Kd.own.injEq] at hkr';obtain⟨rfl,rfl,rfl⟩:=hkr';have hown:=hI.own hkr hb;rw [←hda] at hown;simp only [HJ,hkr] at hze;subst hze;have hz:iA w (FB F B (max ls (if chk then 0 else lx))) (fun g=>O g=some (ra,0)∧B≤g) i.ez (.arr i.ez l) (av a ra):=by
    obtain⟨l',el,h2,h3⟩:=hown;cases el;rcases h3 with ⟨h3,rfl⟩ | ⟨g,o',cc,us,cs,et,h3,a2,a3,a4,a5,a6,a7⟩
    ·exact⟨[],rfl,by simp,.inl ⟨h3,rfl⟩⟩
    ·exact⟨l,rfl,h2,.inr ⟨g,o',cc,us,cs,et,h3,a2,a3,a4,bm (jm (Nat.le_max_left _ _)) (fun _ _=>rfl) _ _ a5,a6,a7.1,a7.2 rfl⟩⟩
   obtain⟨v,w',h1,h2,h3,h4,h5,h6,h7⟩:=uw (P:=P) (ty:=o.type) hti hsl hte (fun b hb=>⟨(hI.fl b (en b hb)).1,fun h=>by have:=(hI.fl b (en b hb)).2;rw [h.1] at this;cases this⟩) hz (srcz hz2 (srcle (Jr ls _) hsb)) b1 b2;obtain⟨F',O',hI'⟩:=hI.install (ts:=[ra]) (d:=d) hnew (h2.own fun b _ hb=>by
    rcases hb with hb | hb
    ·exact⟨hb.2,.inr ⟨_,hb.1,by simp⟩⟩
    ·exact⟨Js hI.bb hb,.inl hb⟩) h3 (fun b hb hp=>h4 b hb fun hown=>hp _ hown.1 (by simp)) h5 h6 h7
   exact bt hd (hex v w' (by rw [hav];exact h1)) hI' hk Q
  ·split at hA
   case h_2=>cases hA
   rename_i _ _ _;cases hA;simp only [co] at hg;have hg':iy rx (af δ (app rx [])) (fun b=>Bt chk b fun b=>(ew i.ez i.eb (.arr 0 []) b).bind fun y=>k (ae δ ([d]++([]++aB c.K [d])) [y]))=some r:=by rw [kw,IC];exact hg
   obtain⟨db,hg,_,hsb,_⟩:=uR hI hx hg';obtain⟨hsb,hg⟩:=chkK_some hsb hg;obtain⟨y,hy,hk⟩:=Ix.1 hg;obtain⟨l,m,⟨z1,e1',hz1⟩,⟨z2,rfl,hz2⟩,rfl,b1,b2⟩:=appD_some hy;cases e1';have hsv:a.eval s = .slice none 0 0:=by
    unfold kE at hs;split at hs
    ·split at hs<;>first | (simp at hs;done) | (split at hs<;>simp at hs)
    ·rfl
    ·cases hs
   obtain⟨v,w',h1,h2,h3,h4,h5,h6,h7⟩:=uw (P:=P) (ty:=o.type) (G:=FB F B (max ls (if chk then 0 else lx))) (own:=fun _=>False) hti hsl hte (fun b hb=>⟨(hI.fl b (en b hb)).1,id⟩) uz (srcz hz2 (srcle (Jr ls _) hsb)) b1 b2;obtain⟨F',O',hI'⟩:=hI.fresh (d:=d) hnew (h2.own fun b _ hb=>hb.resolve_left id) h3 (fun b hb=>h4 b hb id) h5 h6 h7;exact bt hd (hex v w' (by rw [hsv];exact h1)) hI' hk Q
 unfold EO at hA;split at hA
 case h_2=>cases hA
 rename_i d rs ls os rx lx ox hd hs hx;split at hA
 ·rename_i h1 h2
  rw [po] at h2;exact main d rs rx ls lx os ox false A hd hs hx h2 hA hg
 ·rename_i h1 h2 h3
  exact main d rs rx ls lx os ox true A hd hs hx (by simpa using h3) hA hg
 ·cases hA
end
end Go.V

namespace Go.V
open Go.RowKit
set_option maxRecDepth 100000
section
variable {P:Program} {c:Cx} {B:Nat} {X:Nat→Prop} {w0:World} {F0 F:Nat→Prop} {O:Nat→Option (Nat × Nat)} {a:Act} {w:World} {δ:List D}
theorem zM {G own:Nat→Prop} {z:Nat} {l:List D} {y:Value} (h:iA w G own z (.arr z l) y) :
  ∃A cc,y = .slice A l.length cc∧l.length≤cc∧∀p q,p≤q→q≤l.length→iA w G own z (.arr z ((l.take q).drop p)) (sliced A p q cc z):=by
 obtain⟨l',e,h2,h3⟩:=h;cases e;rcases h3 with ⟨rfl,rfl⟩ | ⟨g,o,cc,us,cs,et,rfl,a2,a3,a4,a5,a6,a7⟩
 ·refine⟨none,0,rfl,IE _,fun p q hp hq=>?_⟩
  simp only [Jm,Nat.le_zero] at hq;subst hq;simp only [Nat.le_zero] at hp;subst hp;exact⟨[],by simp,by simp,.inl ⟨by simp [sliced],rfl⟩⟩
 ·refine⟨_,cc,rfl,a2,fun p q hp hq=>?_⟩
  have hul:=cY l us a5 h2;have hlen:((l.take q).drop p).length=q - p:=by rw [IQ,IG];omega
  have hcz:p*z+(cc - p)*z=cc*z:=by rw [←Jn];congr 1;omega
  obtain⟨t1,_⟩:=kc l us a5 h2 q;obtain⟨_,t2⟩:=kc (l.take q) (us.take (q*z)) t1 (fun d hd=>h2 d (JA hd)) p;refine⟨_,rfl,fun d hd=>h2 d (JA (List.mem_of_mem_drop hd)),.inr ?_⟩
  by_cases hc:cc=p
  ·refine⟨g,o,cc - p,_,cs,et,by simp only [sliced,hc,if_true,hlen],by rw [hlen];omega,a3,by omega,t2,fun j u hj=>?_,a7⟩
   exfalso;have h1:=(IJ.1 hj).1;have hqp:q=p:=by omega
   subst hqp;simp only [IQ,IG] at h1;omega
  ·refine⟨g,o+p*z,cc - p,_,cs,et,by simp only [sliced,hc,if_false,hlen,Jd,Jf],by rw [hlen];omega,a3,by omega,t2,fun j u hj=>?_,a7⟩
   rw [Jo] at hj;rw [Jh];refine a6 _ u ?_
   have h1:=(IJ.1 hj).1;rw [IG] at h1;rw [IU (by omega)] at hj;exact hj
theorem nu (hT:okT P c.T=true) {o:Oper} {t q:Nat} {lo hi:Option Operand} (ho:o.op = .slice t (.tmp q) lo hi none) {i:TI} (hi':bR c.T t=some i) (hsl:i.str=false→jz i=true)
  {A:Ac} (hA:wJ c o.dst i (.tmp q) lo hi=some A) (hI:Inv c B X w0 F0 F O a w δ) {k:List D→Option Out} {r:Out} (hg:co c A δ k=some r) (Q:Exit→Act→World→Prop):o.wp P a w (Next c B X w0 F0 k r) Q:=by
 have hti:=tok hT hi';unfold wJ at hA;split at hA
 case h_2=>cases hA
 rename_i d rd lv ra hd hs;split at hA
 case h_2=>cases hA
 rename_i hgv hnew hstr hst;have hlo:bI w (FB F B (cI c.K (oh lo))) (opD δ (oh lo)) (a.eval (oh lo)):=hI.opd (aT.1 hstr);have hloV:=vd hlo;obtain⟨hu,_,hez,_,y,hy,hz,_⟩:=jW hti (hsl hst);have he:P.elem t=i.elem:=by simp [Program.elem,hu]
 have own:∀(dx:D) (l:List D) (z':Nat),dx = .arr z' l→z'=i.ez→((some ra=none∧(rd=[]→(Operand.tmp q) = .const (.slice none 0 0)∧dx = .arr 0 []))∨∃r z io,some ra=some r∧rd≠[]∧dx=nth δ r∧a.eval (.tmp q)=av a r∧ah c.K r = .own z lv io) →
   iA w (FB F B lv) (fun g=>O g=some (ra,0)∧B≤g) i.ez (.arr i.ez l) (a.eval (.tmp q)):=by
  intro dx l z' hdx hzz hq;subst hzz;rcases hq with ⟨h,_⟩ | ⟨r',zz,io,h,_,hda,hav,hkr⟩
  ·cases h
  cases h;obtain⟨z'',lv',hkr'⟩:=qX hgv;rw [hkr] at hkr';simp only [Kd.own.injEq] at hkr';obtain⟨rfl,rfl,rfl⟩:=hkr';have hb:nth δ ra ≠ .bad:=by rw [←hda,hdx];simp
  have hown:=hI.own hkr hb;rw [←hda,hdx] at hown;rw [hav];have hzz:i.ez=zz:=by
   obtain⟨l',e,_⟩:=hown;simp only [D.arr.injEq] at e;exact e.1
  rw [←hzz] at hown;exact hown.own fun _ _ h=>⟨h.1,h.2 rfl⟩
 split at hA
 ·rename_i h
  split at hA
  case h_2=>cases hA
  rename_i hh;cases hA;simp only [co] at hg;obtain⟨dx,hg,hdr,hsrcR,hq⟩:=uR hI hs hg;clear hsrcR;rw [hdr] at hg;obtain⟨yy,hyy,hk'⟩:=Ix.1 hg;rw [bk (δ:=δ) [oh lo,h]] at hyy;simp only [Iz,IA,rJ] at hyy;have hhb:=hI.opd (aT.1 hh);unfold iC at hyy;split at hyy
  ·rename_i z' l k1 p k2 q' _ e1 e2
   split at hyy
   case isFalse=>cases hyy
   rename_i hc;obtain⟨rfl,c1,c2,c3⟩:=hc;cases hyy;rw [e1] at hloV;rw [e2] at hhb;obtain⟨hhv,_⟩:=aK hhb;have hown:=own _ l _ rfl rfl hq;obtain⟨A,cc,hyv,hlc,hcut⟩:=zM hown;obtain⟨F',O',hI'⟩:=hI.pass (d:=d) hnew (hcut p.toNat q'.toNat (by omega) (by omega));refine bt hd (bX (s:=JL t (av a q) (lo.map a.eval) (some (a.eval h)) none) (by simp only [execOp,ho,br,Jd,IV]) ?_) hI' hk' Q
   rw [br] at hyv;rw [hyv,hhv];rcases pf hloV with e | ⟨e,rfl⟩
   ·rw [e,run_sliceAt_slice w t _ _ _ _ (by rw [he];exact hu),run_slice_lh w t A _ cc (by rw [he];exact hu) k1 k2 p q' c1 c2 (by omega),he,cP hy,hz]
    rfl
   ·rw [e,run_sliceAt_slice w t _ _ _ _ (by rw [he];exact hu),run_slice_h w t A _ cc (by rw [he];exact hu) k2 q' (by omega) (by omega),he,cP hy,hz]
    rfl
  ·rename_i h _ _;cases h
  ·cases hyy
 ·cases hA
  simp only [co] at hg;obtain⟨dx,hg,hdr,hsrcR,hq⟩:=uR hI hs hg;clear hsrcR;rw [hdr] at hg;obtain⟨yy,hyy,hk'⟩:=Ix.1 hg;rw [bk (δ:=δ) [oh lo]] at hyy;simp only [Iz,IA,dT] at hyy;unfold eW at hyy;split at hyy
  ·rename_i z' l k1 p _ e1
   split at hyy
   case isFalse=>cases hyy
   rename_i hc;obtain⟨rfl,c1,c2⟩:=hc;cases hyy;rw [e1] at hloV;have hown:=own _ l _ rfl rfl hq;obtain⟨A,cc,hyv,hlc,hcut⟩:=zM hown;have hcc:=hcut p.toNat l.length (by omega) (IE _);rw [List.take_length] at hcc;obtain⟨F',O',hI'⟩:=hI.pass (d:=d) hnew hcc;refine bt hd (bX (s:=JL t (av a q) (lo.map a.eval) none none) (by simp only [execOp,ho,br,IV]) ?_) hI' hk' Q
   rw [br] at hyv;rw [hyv];rcases pf hloV with e | ⟨e,rfl⟩
   ·rw [e,run_sliceAt_slice w t _ _ _ _ (by rw [he];exact hu),run_slice_l w t A _ cc (by rw [he];exact hu) k1 p c1 c2,he,cP hy,hz]
    rfl
   ·rw [e,run_sliceAt_slice w t _ _ _ _ (by rw [he];exact hu),run_slice_all w t A _ cc (by rw [he];exact hu),he,cP hy,hz]
    rfl
  ·rename_i h _;cases h
  ·cases hyy
theorem Inv.tup (h:Inv c B X w0 F0 F O a w δ) {s:Nat} {ms:List Kd} (hk:ah c.K s = .tup ms) (hb:nth δ s ≠ .bad):∃l vs,nth δ s = .tup l∧av a s = .tuple vs∧∀i,rY B F O w (s,i+1) (ah ms i) (nth l i) (vs.getD i undef):=by
 have h0:=(h.slot s).resolve_left hb;rw [hk] at h0;exact h0
theorem Dc {G:Nat→Prop} {d:D} (hd:∀l,d ≠ .tup l):¬bj w G d undef:=by
 intro h;cases d
 case tup l=>exact hd l rfl
 all_goals simp [bj,RepC,undef] at h
 ·obtain⟨rfl,h⟩:=h
  simp [flat] at h
 ·obtain⟨rfl,A,n,c,h⟩:=h
  cases h
theorem AN {l:List D} {i j:Nat} {x:D} (h:j≠i):nth (l.set i x) j=nth l j:=by
 rw [dA,dA,IM,IM,List.getElem?_set_ne (Ne.symm h)]
theorem yW {l:List D} {i:Nat}:nth (l.set i .bad) i = .bad:=by
 rw [dA,IM,List.getElem?_set_self'];cases l[i]?<;>rfl
theorem Inv.take (h:Inv c B X w0 F0 F O a w δ) {d t i z lv:Nat} {ms:List Kd} {m:List D} {vs:Array Value} {y:Value} (hkt:ah c.K t = .tup ms) (ht:nth δ t = .tup m) (htv:av a t = .tuple vs) (hl:∀j,rY B F O w (t,j+1) (ah ms j) (nth m j) (vs.getD j undef))
  (hk:fM c.K d z lv=true) (hv:iA w (FB F B lv) (fun g=>B≤g∧O g=some (t,i+1)) z (nth m i) y) :
  ∃F' O',Inv c B X w0 F0 F' O' (a.put (some d) y) w (ae δ ([d,t]++([]++aB c.K [d,t])) [nth m i,.tup (m.set i .bad)]):=by
 have hdt:d≠t:=by
  intro e;subst e;rcases mX hk with ⟨l,hk,_⟩ | ⟨l,hk,_⟩<;>rw [hk] at hkt<;>cases hkt
 have hblk:∀b,V.blk y=some b→(B≤b∧O b=some (t,i+1))∧b<w.heap.size:=hv.blk;have hFb:∀b,F b→V.blk y≠some b:=fun b hb e=>by
  obtain⟨⟨_,h1⟩,_⟩:=hblk b e;rw [(h.fl b hb).2] at h1;cases h1
 have hoS:∀(x':Option (Nat × Nat)) b p,O b=some p→p≠(t,i+1)→dE O y x' b=some p:=fun x' b p hp hm=>by
  rw [eI]
  ·exact hp
  ·intro e
   rw [(hblk b e).1.2] at hp;exact hm (by cases hp;rfl)
 have hoO:∀(x':Option (Nat × Nat)) b p,O b=some p→p.1∉[d,t]++[]→dE O y x' b=some p∧w.heap[b]?=w.heap[b]?:=fun x' b p hp hm=>⟨hoS x' b p hp fun e=>hm (by simp [e]),rfl⟩
 have hol:∀(x':Option (Nat × Nat)) b p,dE O y x' b=some p→b<w.heap.size∧(B≤b∨X b):=fun x' b p hp=>by
  by_cases e:V.blk y=some b
  ·exact⟨(hblk b e).2,.inl (hblk b e).1.1⟩
  ·rw [eI e] at hp
   exact h.ol b p hp
 have hav:∀s,s∉[d,t]→av (a.put (some d) y) s=av a s:=fun s hs=>bz fun e=>hs (by simp [e])
 have hnd:nth (ae δ [d,t] [nth m i,.tup (m.set i .bad)]) d=if d<δ.length then nth m i else .bad:=by
  simp only [ae];rw [bN _ _ _ _ hdt,aV]
 have hnt:nth (ae δ [d,t] [nth m i,.tup (m.set i .bad)]) t=if t<δ.length then .tup (m.set i .bad) else .bad:=by
  simp only [ae];rw [aV,ed]
 have hslot:∀(F':Nat→Prop) (x':Option (Nat × Nat)),(∀b,F b→F' b)→qd c.K B F' (dE O y x') (a.put (some d) y) w t (nth (ae δ [d,t] [nth m i,.tup (m.set i .bad)]) t):=by
  intro F' x' hF;rw [hnt];split
  case isFalse=>exact .inl rfl
  refine .inr ?_
  rw [hkt,bz hdt.symm];refine⟨_,vs,rfl,htv,fun j=>?_⟩
  by_cases hj:j=i
  ·subst hj
   rw [yW];exact .inl rfl
  ·rw [AN hj]
   exact pk hF (fun _ _=>rfl) (fun g hg=>⟨hoS x' g _ hg (by simpa using hj),rfl⟩) (hl j)
 rcases mX hk with ⟨l,hk,hle⟩ | ⟨l,hk,h1l,hle⟩
 ·refine⟨F,dE O y (some (d,0)),h.many rfl em rfl hav (by simp) (fun s hs=>?_) (fun _ hb=>hb) (fun _ _=>rfl) (hoO _) (fun b hb=>⟨(h.fl b hb).1,(eI (hFb b hb)).trans (h.fl b hb).2⟩) (hol _) (fun _ hb=>.inl hb) (IE _) rfl rfl rfl (fun _ _ _=>rfl)⟩
  rw [IC] at hs ⊢;have hs':s=d∨s=t:=by simpa using hs
  rcases hs' with rfl | rfl
  ·rw [hnd]
   split
   case isFalse=>exact .inl rfl
   rename_i hd;refine .inr ?_
   rw [hk,cy (by rw [h.la,←h.ld];exact hd)];exact .inr (cm (jm hle) (fun _ _=>rfl) (fun g hg ho=>⟨⟨qS hg,fun _=>ho.1⟩,rfl⟩) hv)
  ·exact hslot F _ fun _ h=>h
 ·refine⟨pC F y,dE O y none,h.many rfl em rfl hav (by simp) (fun s hs=>?_) (fun _ hb=>.inl hb) (fun _ _=>rfl) (hoO _) (fun b hb=>?_) (hol _) (fun b hb=>?_) (IE _) rfl rfl rfl (fun _ _ _=>rfl)⟩
  ·rw [IC] at hs ⊢
   have hs':s=d∨s=t:=by simpa using hs
   rcases hs' with rfl | rfl
   ·rw [hnd]
    split
    case isFalse=>exact .inl rfl
    rename_i hd;refine .inr ?_
    rw [hk,cy (by rw [h.la,←h.ld];exact hd)];refine .inr ?_
    refine aO (fun b hb=>?_) (fun _ _=>rfl) (iH (hv.own (own':=fun g=>B≤g∧V.blk y=some g) fun b hb ho=>⟨ho.1,hb⟩))
    rcases hb with hb | ⟨hb1,hb2⟩
    ·exact jm hle _ (eX (fun _ h=>.inl h) _ hb)
    ·have hx:pC F y b:=.inr hb2
     match l,h1l with
     | 1,_=>exact⟨hx,hb1⟩
     | _+2,_=>exact hx
   ·exact hslot _ _ fun _ h=>.inl h
  ·rcases hb with hb | hb
   ·exact⟨(h.fl b hb).1,(eI (hFb b hb)).trans (h.fl b hb).2⟩
   ·exact⟨(hblk b hb).2,qS hb⟩
  ·rcases hb with hb | hb
   ·exact .inl hb
   ·exact .inr (hblk b hb).1.1
theorem wn {o:Oper} {x:Operand} {i:Nat} (ho:o.op = .extract x i):eZ P c o:=by
 intro A hA B X w0 F0 F O a w δ hI k r hg Q;simp only [bC,ho] at hA;unfold Gw at hA;split at hA
 case h_2=>cases hA
 rename_i d t hd;split at hA
 case h_2=>cases hA
 rename_i ms hk;have getI:∀{y:D},al (nth δ t) i=some y→∃l vs,nth δ t = .tup l∧av a t = .tuple vs∧nth l i=y∧(y ≠ .bad∧∀m,y ≠ .tup m)∧(∀j,rY B F O w (t,j+1) (ah ms j) (nth l j) (vs.getD j undef)):=by
  intro y hy;have hb:nth δ t ≠ .bad:=by
   intro e;rw [e] at hy;simp [al] at hy
  obtain⟨l,vs,h1,h2,h3⟩:=hI.tup hk hb;rw [h1] at hy;simp only [al] at hy;split at hy
  ·cases hy
  ·cases hy
  ·rename_i hne hne2
   refine⟨l,vs,h1,h2,?_,⟨fun e=>?_,fun m e=>?_⟩,h3⟩
   ·rw [dA,IM,hy];rfl
   ·subst e
    exact hne hy
   ·subst e
    exact hne2 m hy
 have run:∀{vs:Array Value},av a t = .tuple vs→vs.getD i undef≠undef→(execOp a.eval o).run P w = .ok (.value (vs.getD i undef)) w:=by
  intro vs hv hne;refine bX (s:=Instr.extract (av a t) i) (by simp only [execOp,ho,br]) ?_
  rw [hv];rw [Jq] at hne ⊢;cases h:vs[i]? with
  | none=>rw [h] at hne;simp at hne
  | some v=>simp [Instr.extract,h]
 split at hA
 ·rename_i lv hm
  split at hA
  case h_2=>cases hA
  rename_i l hkd;split at hA
  case h_2=>cases hA
  rename_i hle;rw [aT] at hle;cases hA;refine bx hI hd hg (fun z hz=>?_) Q
  simp only [af,nth] at hz;obtain⟨m,vs,h1,h2,h3,h4,h5⟩:=getI hz;have h6:=(h5 i).resolve_left (by rw [h3];exact h4.1);rw [hm,h3] at h6;refine⟨_,run h2 (fun e=>?_),.inr ?_⟩
  ·rw [e] at h6
   exact Dc h4.2 h6
  ·rw [hkd]
   exact aO (jm hle) (fun _ _=>rfl) h6
 ·rename_i z lv hm
  split at hA
  case h_2=>cases hA
  rename_i hnew;cases hA;simp only [co,af,cU] at hg;obtain⟨y,hy,hk'⟩:=Ix.1 hg;obtain⟨m,vs,h1,h2,h3,h4,h5⟩:=getI hy;have h6:=(h5 i).resolve_left (by rw [h3];exact h4.1);rw [hm,h3] at h6;have hne:vs.getD i undef≠undef:=by
   intro e;rw [e] at h6;obtain⟨l',e1,_,h7⟩:=h6;rcases h7 with ⟨h7,_⟩ | ⟨_,_,_,_,_,_,h7,_⟩<;>simp [undef] at h7
  have hrun:=run h2 hne;rw [←h3] at h6 hk';obtain⟨F',O',hI'⟩:=hI.take (i:=i) hk h1 h2 h5 hnew (h6.own fun _ _ ho=>⟨ho.2 rfl,ho.1⟩);refine bt hd hrun hI' ?_ Q
  rw [h1] at hk';exact hk'
 ·cases hA
end
end Go.V

end
