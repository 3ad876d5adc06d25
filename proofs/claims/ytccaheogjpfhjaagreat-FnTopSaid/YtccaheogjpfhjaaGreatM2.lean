/-
  A part of the proof: contracts and plain forms of functions beneath the statement, made small by a program (names shortened, what is not needed left out).
-/
import Derived.Test.YtccaheogjpfhjaaGreatRows
import Derived.Test.YtccaheogjpfhjaaGreatM1
open Option renaming bind_eq_some_iff → ZE, map_none → ZX, map_eq_some_iff → ZY, map_some → aaf
open List.cons renaming injEq → ZF
open List renaming map_cons → ZG, map_nil → ZH, append_nil → ZJ, getElem?_append_left → ZK, getElem?_append_right → ZM, length_take → ZN, length_append → ZO, append_assoc → ZP, getElem?_eq_some_iff → ZQ, replicate → ZS, getD_eq_getElem?_getD → ZT, length_drop → ZV, getElem?_take_of_lt → ZW, size_toArray → ZZ, mem_append → aam, length_nil → aao, getElem?_drop → aaq, drop_length_add_append → aar, nil_append → aay, singleton_append → aaz, mem_of_getElem? → aaB, mem_of_mem_take → aaC, mem_map_of_mem → aaE, cons_append → aaJ, length_set → aaK
open Nat renaming lt_of_lt_of_le → ZI, le_refl → ZL, mul_le_mul_right → ZU, add_assoc → aaj, zero_add → aal, succ_mul → aan, add_mul → aap, le_max_right → aat, le_trans → aau, add_zero → aav, lt_or_ge → aaw, ble → aaH, beq → aaL
open Go.Result renaming andThen_ok → ZR
open Go.Sem renaming run_bind → aaa, run_pure → aab
open Array renaming toArray_toList → aac, getElem?_eq_some_iff → aad, length_toList → aae, getD_eq_getD_getElem? → aas
open Go.Builtin renaming append_ → aag, firstCells → aaG, lenOf → aaN
open Go.Addr renaming add_lit → aah
open Option.some renaming injEq → aai
open Bool renaming and_eq_true → aak
open Go.Instr renaming buildSlice → aax, fill → aaA, storeAt → aaD, box → aaF, sureAddr → aaM, sliceAt → aaO
open Go.World renaming cell? → aaI
set_option maxRecDepth 100000
set_option linter.unusedSimpArgs false
set_option linter.unusedVariables false
noncomputable section
namespace Go.V
open Go.RowKit
set_option maxRecDepth 100000
def dM (c:Cx) (A:Ac) (δ:List D) (k:List D→Option Out):Option Out :=
 match A with
 | .one rd d h=>(h (ao δ rd)).bind fun z=>k (aj δ (d::fv d c.K 0) [z])
 | .many rd hw cw fn=>fn (ao δ rd) fun outs=>k (aj δ (hw++(cw++aY c.K hw)) outs)
def Next (c:Cx) (B:Nat) (X:Nat→Prop) (w0:World) (F0:Nat→Prop) (k:List D→Option Out) (r:Out) (a:Act) (w:World):Prop :=
 ∃F O δ,Inv c B X w0 F0 F O a w δ∧k δ=some r
section
variable {P:Program} {c:Cx} {B:Nat} {X:Nat→Prop} {w0:World} {F0 F:Nat→Prop} {O:Nat→Option (Nat × Nat)} {a:Act} {w:World} {δ:List D}
theorem cj:∀(xs:List Operand),dO xs (ao δ (nh xs))=xs.map (opD δ)
 | []=>rfl
 | .tmp t::xs=>by simp [dO,ao,opD,cj xs]
 | .const v::xs=>by simp [dO,nh,opD,cj xs]
 | .func f::xs=>by simp [dO,nh,opD,cj xs]
 | .global g::xs=>by simp [dO,nh,opD,cj xs]
theorem vJ (a b:Nat):It a b=max a b:=by
 unfold It;cases h:aaH a b
 ·have:¬a≤b:=fun hl=>by rw [Nat.ble_eq_true_of_le hl] at h;cases h
  simp only;omega
 ·have:=Nat.le_of_ble_eq_true h
  simp only;omega
theorem bO {a b:Nat}:aaH a b=true↔a≤b:=⟨Nat.le_of_ble_eq_true,Nat.ble_eq_true_of_le⟩
theorem aZ {a b:Nat}:aaL a b=true↔a=b:=⟨Nat.eq_of_beq_eq_true,fun h=>by subst h;simp⟩
theorem kq {K:List Kd} {n:Nat}:∀{xs:List Operand},lB K xs≤n→∀x∈xs,eF K x≤n
 | [],_,x,hx=>by simp at hx
 | y::ys,h,x,hx=>by
  simp only [lB,vJ] at h;rcases List.mem_cons.1 hx with rfl | hx
  ·omega
  ·exact kq (by omega) x hx
theorem cC (a:Act) (t:Nat):a.eval (.tmp t)=av a t:=rfl
theorem Inv.opd (h:Inv c B X w0 F0 F O a w δ) {x:Operand} (hx:eF c.K x≤2):de w (FB F B (eF c.K x)) (opD δ x) (a.eval x):=by
 cases x with
 | tmp t =>
  simp only [eF] at hx ⊢;split at hx
  ·rename_i lv hk
   exact h.dat hk
  ·omega
 | const v =>
  simp only [eF] at hx ⊢;split at hx
  case h_2=>omega
  rename_i hv;refine .inr ?_
  simp only [opD,Act.eval];unfold okC at hv;split at hv<;>first
   | (cases hv;done)
   | exact zX
   | exact fb rfl
 | func f =>
  refine .inr ?_
  simp only [Act.eval,bf,RepC];exact⟨[],rfl,aW.2 rfl⟩
 | global g=>simp only [eF] at hx;omega
theorem OU {o:Oper} {y:Value} {K:Act→World→Prop} {Q:Exit→Act→World→Prop} {w':World} (hr:(execOp a.eval o).run P w = .ok (.value y) w') (hK:K (a.put o.dst y) w'):o.wp P a w K Q:=by
 unfold Oper.wp;rw [hr];exact hK
theorem Ot {o:Oper} {K:Act→World→Prop} {Q:Exit→Act→World→Prop} {w':World} (hr:(execOp a.eval o).run P w = .ok .skip w') (hK:K (a.put o.dst undef) w'):o.wp P a w K Q:=by
 unfold Oper.wp;rw [hr];exact hK
theorem cP {o:Oper} {rd:List Nat} {d:Nat} {h:List D→Option D} (hI:Inv c B X w0 F0 F O a w δ) (hd:o.dst=some d) {k:List D→Option Out} {r:Out} (hg:dM c (.one rd d h) δ k=some r)
  (hrun:∀z,h (ao δ rd)=some z→∃y,(execOp a.eval o).run P w = .ok (.value y) w∧Fr c.K B F a w δ d z y) (Q:Exit→Act→World→Prop):o.wp P a w (Next c B X w0 F0 k r) Q:=by
 simp only [dM] at hg;obtain⟨z,hz,hk⟩:=ZE.1 hg;obtain⟨y,hy,hp⟩:=hrun z hz;exact OU hy ⟨F,O,_,by rw [hd];exact hI.put hp,hk⟩
theorem iY {lv lv':Nat} (hl:lv≤lv') {z:D} {y:Value} (h:de w (FB F B lv) z y):de w (FB F B lv') z y:=h.imp id fun h=>aK (mM hl) (fun _ _=>rfl) h
theorem bm {o:Oper} {xs:List Operand} {lv:Nat} {h:List D→Option D} {A:Ac} (hA:bT c o.dst xs lv h=some A) (hI:Inv c B X w0 F0 F O a w δ) {k:List D→Option Out} {r:Out} (hg:dM c A δ k=some r)
  (hrun:(∀x∈xs,eF c.K x≤2∧de w (FB F B (eF c.K x)) (opD δ x) (a.eval x))→∀z,h (xs.map (opD δ))=some z→∃y,(execOp a.eval o).run P w = .ok (.value y) w∧de w (FB F B lv) z y) (Q:Exit→Act→World→Prop):o.wp P a w (Next c B X w0 F0 k r) Q:=by
 unfold bT at hA;split at hA
 ·cases hA
 rename_i d hd;split at hA
 case h_2=>cases hA
 rename_i l hk;split at hA
 ·cases hA
 rename_i hlv;rw [bO] at hlv;have hops:∀x∈xs,eF c.K x≤2∧de w (FB F B (eF c.K x)) (opD δ x) (a.eval x):=fun x hx=>⟨kq hlv x hx,hI.opd (kq hlv x hx)⟩
 have putOk:∀z y,de w (FB F B l) z y→Fr c.K B F a w δ d z y:=fun z y hz=>hz.imp id fun hz=>by rw [hk];exact hz
 split at hA
 ·rename_i hle
  rw [bO] at hle;cases hA;refine cP hI hd hg (fun z hz=>?_) Q
  rw [cj] at hz;obtain⟨y,h1,h2⟩:=hrun hops z hz;exact⟨y,h1,putOk z y (iY hle h2)⟩
 ·split at hA
  case h_2=>cases hA
  cases hA;refine cP hI hd hg (fun z hz=>?_) Q
  rw [cj] at hz;obtain⟨z',hz',hc⟩:=ZE.1 hz;obtain⟨y,h1,h2⟩:=hrun hops z' hz';unfold bq at hc;split at hc
  case isFalse=>cases hc
  rename_i hv;cases hc;refine⟨y,h1,putOk z y (.inr (rJ hv (h2.rep ?_)))⟩
  intro e;subst e;simp [D.isV] at hv
theorem dB {o:Oper} {s:Sem Value} {y:Value} {w':World} (he:execOp a.eval o=(do pure (.value (←s)))) (hs:s.run P w = .ok y w'):(execOp a.eval o).run P w = .ok (.value y) w':=by
 rw [he];simp [hs]
theorem jL {v:Value} (h:flat v=true) {G:Nat→Prop} {z:D} (hz:z = .v v):de w G z v:=.inr (hz ▸ fb h)
theorem bL {h:D→Option D} {l:List D} {z:D} (e:fQ h l=some z):∃a,l=[a]∧h a=some z:=by
 unfold fQ at e;split at e
 ·exact⟨_,rfl,e⟩
 ·cases e
theorem gW {h:D→D→Option D} {l:List D} {z:D} (e:BA h l=some z):∃a b,l=[a,b]∧h a b=some z:=by
 unfold BA at e;split at e
 ·exact⟨_,_,rfl,e⟩
 ·cases e
theorem CA {h:D→D→D→Option D} {l:List D} {z:D} (e:SZ h l=some z):∃a b x,l=[a,b,x]∧h a b x=some z:=by
 unfold SZ at e;split at e
 ·exact⟨_,_,_,rfl,e⟩
 ·cases e
def iC (P:Program) (c:Cx) (o:Oper):Prop :=
 ∀(A:Ac),cf c o=some A→∀(B:Nat) (X:Nat→Prop) (w0:World) (F0 F:Nat→Prop) (O:Nat→Option (Nat × Nat)) (a:Act) (w:World) (δ:List D),Inv c B X w0 F0 F O a w δ →
  ∀(k:List D→Option Out) (r:Out),dM c A δ k=some r→∀Q,o.wp P a w (Next c B X w0 F0 k r) Q
theorem aH {t:Nat} {f:TI→Option Ac} {A:Ac} (h:fE c t f=some A):∃i,dr c.T t=some i∧f i=some A:=by
 unfold fE at h;split at h
 ·exact⟨_,‹_›,h⟩
 ·cases h
theorem tok (hT:okT P c.T=true) {t:Nat} {i:TI} (h:dr c.T t=some i):TOk P t i:=Fb (TZ hT h)
theorem PN {o:Oper} {q x y:Operand} (ho:o.op = .pick q x y):iC P c o:=by
 intro A hA B X w0 F0 F O a w δ hI k r hg Q;simp only [cf,ho] at hA;refine bm hA hI hg (fun hx z hz=>?_) Q
 obtain⟨d1,d2,d3,e,hz⟩:=CA hz;simp only [ZG,ZH,ZF,and_true] at e;obtain⟨rfl,rfl,rfl⟩:=e;have h1:=(hx q (by simp)).2;have h2:=(hx x (by simp)).2;have h3:=(hx y (by simp)).2;rw [vJ];obtain⟨v,hv,hr⟩:=TA (P:=P) h1 (iY (Nat.le_max_left _ (eF c.K y)) h2) (iY (aat (eF c.K x) _) h3) hz;refine⟨v,?_,hr⟩
 simp only [execOp,ho];simp only [aaa,aab] at hv ⊢;cases hb:(asBool (a.eval q)).run P w with
 | halt s t=>rw [hb] at hv;simp at hv
 | ok b w' =>
  rw [hb] at hv;simp only [ZR,Result.ok.injEq] at hv ⊢;exact⟨by rw [hv.1],hv.2⟩
theorem OM (hT:okT P c.T=true) {o:Oper} {op:BinOp} {t t':Nat} {x y:Operand} (ho:o.op = .binOp op t x y t'):iC P c o:=by
 intro A hA B X w0 F0 F O a w δ hI k r hg Q;simp only [cf,ho] at hA;obtain⟨i,hi,hA⟩:=aH hA;split at hA
 ·rename_i hif
  refine bm hA hI hg (fun hx z hz=>?_) Q
  obtain⟨d1,d2,e,hz⟩:=gW hz;simp only [ZG,ZH,ZF,and_true] at e;obtain⟨rfl,rfl⟩:=e;obtain⟨v,hv,hr,hf⟩:=TH (P:=P) (tok hT hi) hif x y (fun hn=>by
   unfold SA at hn;split at hn
   ·exact⟨_,rfl⟩
   ·cases hn) (hx x (by simp)).2 (hx y (by simp)).2 hz
  exact⟨v,dB (by simp only [execOp,ho]) hv,jL hf hr⟩
 split at hA
 ·rename_i hsl hny
  refine bm hA hI hg (fun hx z hz=>?_) Q
  obtain⟨d1,d2,e,hz⟩:=gW hz;simp only [ZG,ZH,ZF,and_true] at e;obtain⟨rfl,rfl⟩:=e;have ey:y = .const (.slice none 0 0):=by
   unfold UV at hny;split at hny
   ·rfl
   ·cases hny
  have ev:a.eval y = .slice none 0 0:=by rw [ey];rfl
  obtain⟨v,hv,hr,hf⟩:=Tj (P:=P) (tok hT hi) hsl x y (hx x (by simp)).2 hz;rw [←ev] at hv;exact⟨v,dB (by simp only [execOp,ho]) hv,jL hf hr⟩
 refine bm hA hI hg (fun hx z hz=>?_) Q
 obtain⟨d1,d2,e,hz⟩:=gW hz;simp only [ZG,ZH,ZF,and_true] at e;obtain⟨rfl,rfl⟩:=e;obtain⟨v,hv,hr,hf⟩:=Wq (P:=P) (tok hT hi) x y (hx x (by simp)).2 (hx y (by simp)).2 hz;exact⟨v,dB (by simp only [execOp,ho]) hv,jL hf hr⟩
theorem OZ {o:Oper} {op:UnOp} {t:Nat} {x:Operand} (ho:o.op = .unOp op t x):iC P c o:=by
 intro A hA B X w0 F0 F O a w δ hI k r hg Q;simp only [cf,ho] at hA;refine bm hA hI hg (fun hx z hz=>?_) Q
 obtain⟨d1,e,hz⟩:=bL hz;simp only [ZG,ZH,ZF,and_true] at e;subst e;obtain⟨v,hv,hr,hf⟩:=XO (P:=P) (hx x (by simp)).2 hz;exact⟨v,dB (by simp only [execOp,ho]) hv,jL hf hr⟩
theorem sK {i ti:TI} {f off:Nat} (h:AM c i f=some (off,ti)):∃ty,i.fs[f]?=some (off,ty)∧dr c.T ty=some ti:=by
 unfold AM at h;split at h
 ·rename_i o ty hf
  split at h
  ·rename_i j hj
   simp at h;obtain⟨rfl,rfl⟩:=h;rw [AA] at hf;exact⟨ty,hf,hj⟩
  ·cases h
 ·cases h
theorem NA (hT:okT P c.T=true) {o:Oper} {t f:Nat} {x:Operand} (ho:o.op = .field t x f):iC P c o:=by
 intro A hA B X w0 F0 F O a w δ hI k r hg Q;simp only [cf,ho] at hA;obtain⟨i,hi,hA⟩:=aH hA;split at hA
 case h_2=>cases hA
 rename_i off ti hf;obtain⟨ty,hf,hti⟩:=sK hf;refine bm hA hI hg (fun hx z hz=>?_) Q
 obtain⟨d1,e,hz⟩:=bL hz;simp only [ZG,ZH,ZF,and_true] at e;subst e;obtain⟨y,hy,hr⟩:=Vq (tok hT hi) (tok hT hti) hf (hx x (by simp)).2 hz;exact⟨y,dB (by simp only [execOp,ho]) hy,.inr hr⟩
theorem MH (hT:okT P c.T=true) {o:Oper} {t:Nat} {x y:Operand} (ho:o.op = .index t x y):iC P c o:=by
 intro A hA B X w0 F0 F O a w δ hI k r hg Q;simp only [cf,ho] at hA;obtain⟨i,hi,hA⟩:=aH hA;unfold VA at hA;split at hA
 ·rename_i hs
  refine bm hA hI hg (fun hx z hz=>?_) Q
  obtain⟨d1,d2,e,hz⟩:=gW hz;simp only [ZG,ZH,ZF,and_true] at e;obtain⟨rfl,rfl⟩:=e;obtain⟨v,hv,hr,hf⟩:=TY (P:=P) (tok hT hi) hs (hx x (by simp)).2 (hx y (by simp)).2 hz;exact⟨v,dB (by simp only [execOp,ho]) hv,jL hf hr⟩
 ·split at hA
  ·cases hA
  ·rename_i n hn
   obtain⟨e',he,hA⟩:=aH hA;refine bm hA hI hg (fun hx z hz=>?_) Q
   obtain⟨d1,d2,e,hz⟩:=gW hz;simp only [ZG,ZH,ZF,and_true] at e;obtain⟨rfl,rfl⟩:=e;obtain⟨v,hv,hr⟩:=Wu (P:=P) (tok hT hi) (tok hT he) (by intro h0;exact hn h0) rfl (hx x (by simp)).2 (hx y (by simp)).2 hz;exact⟨v,dB (by simp only [execOp,ho]) hv,.inr hr⟩
theorem Fm {o:Oper} {f:Nat} {u v:Array Operand} (ho:o.op = .makeFunc (.func f) u v):iC P c o:=by
 intro A hA B X w0 F0 F O a w δ hI k r hg Q;simp only [cf,ho] at hA;split at hA
 case h_3=>cases hA
 case h_2 =>
  rename_i x0 xs h1 h2;refine bm hA hI hg (fun hx z hz=>?_) Q
  have e1:u=#[]:=by simpa using h1
  subst e1;unfold Zc at hz;split at hz
  case isFalse=>cases hz
  rename_i hall;cases hz;refine⟨.func (.func f) #[] (v.map a.eval),dB (s:=Instr.makeFunc (.func f) #[] (v.map a.eval)) (by simp [execOp,ho]) rfl,.inr ?_⟩
  simp only [bf,RepC];refine⟨(x0::xs).map a.eval,?_,?_⟩
  ·have:v=(x0::xs).toArray:=by rw [←h2]
   rw [this];simp
  ·have key:∀ys:List Operand,(∀y∈ys,y∈x0::xs)→(ys.map (opD δ)).all D.single=true→bW w (FB F B (lB c.K (x0::xs))) (ys.map (opD δ)) (ys.map a.eval):=by
    intro ys;induction ys with
    | nil=>intro _ _;exact aW.2 rfl
    | cons y ys ih =>
     intro hm hs;simp only [ZG,List.all_cons,aak] at hs;have h3:=(hx y (hm y (by simp))).2;have hne:opD δ y ≠ .bad:=fun e=>by rw [e] at hs;simp [D.single] at hs
     have h4:=h3.rep hne;rw [gB hs.1] at h4;exact aA.2 ⟨[a.eval y],ys.map a.eval,rfl,RepC_mono (mM (kq (ZL _) y (hm y (by simp)))) (fun _ _=>rfl) _ _ h4,ih (fun z hz=>hm z (by simp [hz])) hs.2⟩
   exact key (x0::xs) (fun _ h=>h) hall
 rename_i h1 h2;refine bm hA hI hg (fun hx z hz=>?_) Q
 simp at hz;subst hz;have e1:u=#[]:=by simpa using h1
 have e2:v=#[]:=by simpa using h2
 subst e1 e2;refine⟨.func (.func f) #[] #[],dB (s:=Instr.makeFunc (.func f) #[] #[]) (by simp [execOp,ho]) rfl,.inr ?_⟩
 simp only [bf,RepC];exact⟨[],rfl,aW.2 rfl⟩
theorem Ca {K:List Kd} {t:Nat} {rd:List Nat} {lv:Nat} {r:Option Nat} (h:oB K (.tmp t)=some (rd,lv,r)) :
  (aq K t = .dat lv∧rd=[t]∧r=none)∨(∃z io,aq K t = .own z lv io∧rd=[t]∧r=some t)∨(∃q z io,aq K t = .via q∧aq K q = .own z lv io∧rd=[t,q]∧r=some q):=by
 simp only [oB] at h;split at h
 ·rename_i l hk
  simp at h;obtain⟨rfl,rfl,rfl⟩:=h;exact .inl ⟨hk,rfl,rfl⟩
 ·rename_i z l io hk
  simp at h;obtain⟨rfl,rfl,rfl⟩:=h;exact .inr (.inl ⟨z,io,hk,rfl,rfl⟩)
 ·rename_i q hk
  split at h
  ·rename_i z l io hq
   simp at h;obtain⟨rfl,rfl,rfl⟩:=h;exact .inr (.inr ⟨q,z,io,hk,hq,rfl,rfl⟩)
  ·cases h
 ·cases h
theorem lu {w:World} {F:Nat→Prop} {own:Nat→Prop} {z:Nat} {d:D} {y:Value} (h:fY w F own z d y):bf w (fun b=>F b∨own b) d y:=by
 obtain⟨l,rfl,h2,h3⟩:=h;simp only [bf,RepC];rcases h3 with ⟨rfl,rfl⟩ | ⟨g,o,c,us,cs,e,rfl,a2,a3,a4,a5,a6,a7⟩
 ·exact⟨none,0,[],rfl,ZL _,aW.2 rfl,h2,fun h=>absurd rfl h⟩
 ·refine⟨_,c,us,rfl,a2,bG (fun b hb=>.inl hb) (fun _ _=>rfl) _ _ a5,h2,fun _=>⟨g,o,rfl,.inr a7,fun i u hu=>?_⟩⟩
  simp [aaI,a3,a6 i u hu]
theorem Inv.own (h:Inv c B X w0 F0 F O a w δ) {s z lv:Nat} {io:Bool} (hk:aq c.K s = .own z lv io) (hb:nth δ s ≠ .bad):fY w (FB F B lv) (fun g=>O g=some (s,0)∧(io=false→B≤g)) z (nth δ s) (av a s):=by
 have h0:=(h.slot s).resolve_left hb;rw [hk] at h0;exact h0.resolve_left hb
theorem Inv.box (h:Inv c B X w0 F0 F O a w δ) {s n lv:Nat} {io:Bool} (hk:aq c.K s = .box n lv io) (hb:nth δ s ≠ .bad):Dj w (FB F B lv) (fun g=>O g=some (s,0)∧(io=false→B≤g)) n (nth δ s) (av a s):=by
 have h0:=(h.slot s).resolve_left hb;rw [hk] at h0;exact h0.resolve_left hb
theorem Inv.via (h:Inv c B X w0 F0 F O a w δ) {s q:Nat} (hk:aq c.K s = .via q) (hb:nth δ s ≠ .bad):av a s=av a q∧nth δ s = .ref 0 0∧nth δ q ≠ .bad∧rW c.K q=true:=by
 have h0:=(h.slot s).resolve_left hb;rw [hk] at h0;exact h0
theorem Inv.ref (h:Inv c B X w0 F0 F O a w δ) {s q:Nat} (hk:aq c.K s = .ref q) (hb:nth δ s ≠ .bad):∃i f,nth δ s = .ref i f∧nth δ q ≠ .bad∧tw (aq c.K q) (av a q) i f (av a s):=by
 have h0:=(h.slot s).resolve_left hb;rw [hk] at h0;exact h0
theorem bN {p x y:D} (h:aa p x=some y):p ≠ .bad∧x=y:=by
 unfold aa at h;split at h
 ·cases h
 ·rename_i hp
  simp at h;exact⟨hp,h⟩
theorem TF {k:Kd} {y p:Value} {i f:Nat} (h:tw k y i f p):∃g o,p = .pointer (some ⟨g,o,none⟩):=by
 unfold tw at h;split at h
 ·obtain⟨g,o,n,cc,_,e⟩:=h;exact⟨g,_,e⟩
 ·obtain⟨g,_,e⟩:=h;exact⟨g,_,e⟩
 ·exact h.elim
theorem GG {o:Oper} {x:Operand} (ho:o.op = .nilCheck x):iC P c o:=by
 intro A hA B X w0 F0 F O a w δ hI k r hg Q;simp only [cf,ho] at hA;have dat:bT c o.dst [x] (eF c.K x) (fQ TO)=some A→o.wp P a w (Next c B X w0 F0 k r) Q:=by
  intro hA;refine bm hA hI hg (fun hx z hz=>?_) Q
  obtain⟨d1,e,hz⟩:=bL hz;simp only [ZG,ZH,ZF,and_true] at e;subst e;obtain⟨h1,h2⟩:=Vg (P:=P) (hx x (by simp)).2 hz o x a.eval ho rfl;exact⟨_,h1,.inr h2⟩
 have run:∀t g o',x = .tmp t→av a t = .pointer (some ⟨g,o',none⟩)→(execOp a.eval o).run P w = .ok (.value (av a t)) w:=by
  intro t g o' hx hv;subst hx;simp [execOp,ho,cC,hv]
 unfold Wa at hA;split at hA
 ·rename_i t
  split at hA
  ·rename_i n lv io hk
   split at hA
   ·cases hA
   rename_i d hd;split at hA
   case h_2=>cases hA
   rename_i rr hkd;split at hA
   case h_2=>cases hA
   rename_i hrt;rw [aZ] at hrt;subst hrt;cases hA;refine cP hI hd hg (fun z hz=>?_) Q
   obtain⟨d1,e,hz⟩:=bL hz;simp only [ao,ZF,and_true] at e;subst e;obtain⟨h1,rfl⟩:=bN hz;obtain⟨m,us,g,e,_,a1,_⟩:=hI.box hk h1;refine⟨_,run _ g 0 rfl a1,.inr ?_⟩
   rw [hkd];refine⟨0,0,rfl,h1,?_⟩
   rw [hk];exact⟨g,a1,a1⟩
  ·rename_i rr hk
   split at hA
   ·cases hA
   rename_i d hd;split at hA
   case h_2=>cases hA
   rename_i r' hkd;split at hA
   case h_2=>cases hA
   rename_i hrt;rw [aZ] at hrt;subst hrt;cases hA;refine cP hI hd hg (fun z hz=>?_) Q
   obtain⟨d1,e,hz⟩:=bL hz;simp only [ao,ZF,and_true] at e;subst e;obtain⟨h1,rfl⟩:=bN hz;obtain⟨ii,ff,g1,g2,g3⟩:=hI.ref hk h1;obtain⟨g,o',e⟩:=TF g3;refine⟨_,run _ g o' rfl e,.inr ?_⟩
   rw [hkd];exact⟨ii,ff,g1,g2,g3⟩
  ·exact dat hA
 ·exact dat hA
theorem vN (hI:Inv c B X w0 F0 F O a w δ) {t:Nat} {rd:List Nat} {lv:Nat} {q:Option Nat} (h:oB c.K (.tmp t)=some (rd,lv,q)) {d:D}
  (hd:(match rd with
   | [_]=>some (nth (ao δ rd) 0)
   | _=>aa (nth (ao δ rd) 0) (nth (ao δ rd) 1))=some d):∃G,de w G d (av a t):=by
 rcases Ca h with ⟨hk,rfl,rfl⟩ | ⟨z,io,hk,rfl,rfl⟩ | ⟨s,z,io,hk,hs,rfl,rfl⟩
 ·simp [ao,nth] at hd
  subst hd;exact⟨_,hI.dat hk⟩
 ·simp [ao,nth] at hd
  subst hd;by_cases hb:nth δ t = .bad
  ·exact⟨fun _=>True,.inl hb⟩
  ·exact⟨_,.inr (lu (hI.own hk hb))⟩
 ·simp only [ao,nth] at hd
  obtain⟨h1,rfl⟩:=bN hd;obtain⟨g1,g2,g3,g4⟩:=hI.via hk h1;rw [g1];exact⟨_,.inr (lu (hI.own hs g3))⟩
theorem Ge (hT:okT P c.T=true) {o:Oper} {x:Operand} {t:Nat} {str:Bool} (ho:o.op = .call {callee:=.builtin .len,args:=#[x],argTypes:=#[t]}) {i:TI} (hi:dr c.T t=some i)
  (hs:str=false→nf i=true) (hs':str=true→i.str=true) {A:Ac} (hA:Rm c o.dst str x=some A) (hI:Inv c B X w0 F0 F O a w δ) {k:List D→Option Out} {r:Out} (hg:dM c A δ k=some r) (Q:Exit→Act→World→Prop):o.wp P a w (Next c B X w0 F0 k r) Q:=by
 have run:∀(G:Nat→Prop) (d z:D),de w G d (a.eval x)→lenD str d=some z→∃v,(execOp a.eval o).run P w = .ok (.value v) w∧z = .v v∧flat v=true:=by
  intro G d z hd hz;obtain⟨v,h1,h2,h3⟩:=UX (P:=P) (t:=t) (ty:=o.type) hd (fun h=>⟨_,(nK (tok hT hi) (hs h)).1⟩) (fun h=>((tok hT hi).str (hs' h)).1) hz;refine⟨v,?_,h2,h3⟩
  simp only [execOp,ho,resolve,invoke,builtin,aaa,aab,ZR,List.map_toArray,ZG,ZH,h1]
 have dat:∀A',bT c o.dst [x] 0 (fQ (lenD str))=some A'→dM c A' δ k=some r→o.wp P a w (Next c B X w0 F0 k r) Q:=by
  intro A' hA' hg';refine bm hA' hI hg' (fun hx z hz=>?_) Q
  obtain⟨d1,e,hz⟩:=bL hz;simp only [ZG,ZH,ZF,and_true] at e;subst e;obtain⟨v,h1,h2,h3⟩:=run _ _ z (hx x (by simp)).2 hz;exact⟨v,h1,jL h3 h2⟩
 unfold Rm at hA;split at hA
 ·rename_i t'
  split at hA
  ·exact dat A hA hg
  ·split at hA
   case h_2=>cases hA
   rename_i d rd lv q hd hsrc;split at hA
   case h_2=>cases hA
   rename_i lv' hk;cases hA;refine cP hI hd hg (fun z hz=>?_) Q
   have key:∃G dd,de w G dd (av a t')∧lenD str dd=some z:=by
    have hsrc':=hsrc;rcases Ca hsrc' with ⟨h1,rfl,rfl⟩ | ⟨_,_,h1,rfl,rfl⟩ | ⟨s,_,_,h1,h2,rfl,rfl⟩
    ·obtain⟨G,hG⟩:=vN hI hsrc (d:=nth δ t') (by simp [ao,nth])
     exact⟨G,_,hG,by simpa [ao,nth] using hz⟩
    ·obtain⟨G,hG⟩:=vN hI hsrc (d:=nth δ t') (by simp [ao,nth])
     exact⟨G,_,hG,by simpa [ao,nth] using hz⟩
    ·simp only [ao,nth] at hz
     obtain⟨dd,e1,e2⟩:=ZE.1 hz;obtain⟨G,hG⟩:=vN hI hsrc (d:=dd) (by simpa [ao,nth] using e1);exact⟨G,dd,hG,e2⟩
   obtain⟨G,dd,h1,h2⟩:=key;obtain⟨v,e1,e2,e3⟩:=run G dd z h1 h2;exact⟨v,e1,(jL (G:=FB F B lv') e3 e2).imp id fun h=>by rw [hk];exact h⟩
 ·exact dat A hA hg
end
end Go.V

namespace Go.V
open Go.RowKit
set_option maxRecDepth 100000
section
variable {P:Program} {c:Cx} {B:Nat} {X:Nat→Prop} {w0:World} {F0 F:Nat→Prop} {O:Nat→Option (Nat × Nat)} {a:Act} {w:World} {δ:List D}
theorem qY {cs:Array Value} {e:Nat} {g o:Nat} {us:List Value} (hg:w.heap[g]?=some (.cells cs e (0,0))) (h:∀(i:Nat) (u:Value),us[i]?=some u→cs[o+i]?=some u):dQ w g o us:=fun i u hu=>by
 simp [aaI,hg,h i u hu]
theorem XL (hI:Inv c B X w0 F0 F O a w δ) {q i f:Nat} {p:Value} (hb:nth δ q ≠ .bad) (hr:tw (aq c.K q) (av a q) i f p) {l:List D} (hl:atD (nth δ q) (.ref i f)=some l) :
  ∃g o us,p = .pointer (some ⟨g,o,none⟩)∧bW w (FB F B (fh c.K q)) l us∧l.all D.single=true∧dQ w g o us:=by
 unfold tw at hr;split at hr
 ·rename_i z lv io hk
  obtain⟨g,o,n,cap,hy,rfl⟩:=hr;obtain⟨m,hd,hw,hrest⟩:=hI.own hk hb;rw [hd] at hl;simp only [atD] at hl;obtain⟨d,hdi,rfl⟩:=ZY.1 hl;rcases hrest with ⟨e,_⟩ | ⟨g',o',c',us,cs,e,a1,a2,a3,a4,a5,a6,a7⟩
  ·rw [hy] at e;cases e
  rw [hy] at a1;simp at a1;obtain⟨⟨rfl,rfl⟩,rfl,rfl⟩:=a1;obtain⟨p',mm,q',rfl,h1,h2,h3,_⟩:=uU m us a5 hw i d hdi;have hcell:=qY (o:=o) a3 a6;have hrr:bW w (FB F B lv) d.cells mm∧d.cells.all D.single=true:=by
   rcases nX h3 with ⟨l,rfl⟩ | hs
   ·simpa only [RepC,D.cells] using h3
   ·rw [(fI hs).2]
    exact⟨aA.2 ⟨mm,[],by simp,h3,aW.2 rfl⟩,by simp [hs]⟩
  refine⟨g,_,mm.drop f,rfl,?_,qR hrr.2 f,?_⟩
  ·simp only [fh,hk]
   exact(mT _ _ hrr.2 hrr.1 f).2
  ·rw [←h1]
   exact(dQ.part hcell).drop f
 ·rename_i n lv io hk
  obtain⟨g,hy,rfl⟩:=hr;obtain⟨m,us,g',e,hd,a1,a2,a3,a4,a5,a6⟩:=hI.box hk hb;rw [hy] at a1;simp at a1;subst a1;rw [hd] at hl;simp only [atD,aai] at hl;subst hl;have hcell:dQ w g 0 us:=qY a2 (fun i u hu=>by simpa using hu);refine⟨g,f,us.drop f,rfl,?_,qR a4 f,by simpa using hcell.drop f⟩
  simp only [fh,hk];exact(mT _ _ a4 a3 f).2
 ·exact hr.elim
theorem DE {o:Oper} {rd:List Nat} {d lv l:Nat} {h:List D→Option D} {A:Ac} (hk:aq c.K d = .dat l) (hd:o.dst=some d) (hA:Ws (fun h=>Ac.one rd d h) (KN lv l h)=some A)
  (hI:Inv c B X w0 F0 F O a w δ) {k:List D→Option Out} {r:Out} (hg:dM c A δ k=some r)
  (hrun:∀z,h (ao δ rd)=some z→∃y,(execOp a.eval o).run P w = .ok (.value y) w∧de w (FB F B lv) z y) (Q:Exit→Act→World→Prop):o.wp P a w (Next c B X w0 F0 k r) Q:=by
 unfold KN at hA;split at hA
 ·rename_i hle
  rw [bO] at hle;cases hA;refine cP hI hd hg (fun z hz=>?_) Q
  obtain⟨y,h1,h2⟩:=hrun z hz;exact⟨y,h1,(iY hle h2).imp id fun h=>by rw [hk];exact h⟩
 ·split at hA
  case h_2=>cases hA
  cases hA;refine cP hI hd hg (fun z hz=>?_) Q
  obtain⟨z',hz',hc⟩:=ZE.1 hz;obtain⟨y,h1,h2⟩:=hrun z' hz';unfold bq at hc;split at hc
  case isFalse=>cases hc
  rename_i hv;cases hc;refine⟨y,h1,.inr ?_⟩
  rw [hk];refine rJ hv (h2.rep ?_)
  intro e;subst e;simp [D.isV] at hv
theorem Pe (hT:okT P c.T=true) {o:Oper} {t:Nat} {p:Operand} (ho:o.op = .load t p):iC P c o:=by
 intro A hA B X w0 F0 F O a w δ hI k r hg Q;simp only [cf,ho] at hA;have hA0:=aH hA;clear hA;obtain⟨i,hi,hA⟩:=hA0;have hti:=tok hT hi;unfold VQ at hA;split at hA
 case h_2=>cases hA
 rename_i q;have hex:execOp a.eval o=(do pure (.value (←Instr.loadAt t (av a q)))):=by simp only [execOp,ho,cC]
 split at hA
 ·rename_i lv hk
  refine bm hA hI hg (fun hx z hz=>?_) Q
  obtain⟨d1,e,hz⟩:=bL hz;simp only [ZG,ZH,ZF,and_true] at e;subst e;have hx':=hx (.tmp q) (by simp);simp only [eF,hk] at hx';obtain⟨y,hy,hr⟩:=Xn hti hx'.2 hz;exact⟨y,dB hex hy,.inr hr⟩
 ·rename_i n lv io hk
  split at hA
  ·cases hA
  rename_i d hd;split at hA
  case h_2=>cases hA
  rename_i l hkd;refine DE hkd hd hA hI hg (fun z hz=>?_) Q
  simp only [ao,nth] at hz;by_cases hb:nth δ q = .bad
  ·rw [hb] at hz;simp [ba] at hz
  obtain⟨m,us,g,e,hd',a1,a2,a3,a4,a5,a6⟩:=hI.box hk hb;rw [hd'] at hz;simp only [ba,List.drop_zero] at hz;have hcell:dQ w g 0 us:=qY a2 (fun i u hu=>by simpa using hu);obtain⟨y,hy,hr⟩:=Ax (P:=P) hti a3 a4 hcell hz;exact⟨y,dB hex (by rw [a1];exact hy),.inr hr⟩
 ·rename_i s hk
  split at hA
  ·cases hA
  rename_i d hd;split at hA
  case h_2=>cases hA
  rename_i l hkd;refine DE hkd hd hA hI hg (fun z hz=>?_) Q
  simp only [ao,nth] at hz;obtain⟨m,hm,hz⟩:=ZE.1 hz;have hb:nth δ q ≠ .bad:=by
   intro e;rw [e] at hm;unfold atD at hm;split at hm<;>first | (cases hm;done) | (rename_i h;cases h)
  obtain⟨ii,f,h1,h2,h3⟩:=hI.ref hk hb;rw [h1] at hm;obtain⟨g,o',us,e,g1,g2,g3⟩:=XL hI h2 h3 hm;obtain⟨y,hy,hr⟩:=Ax (P:=P) hti g1 g2 g3 hz;exact⟨y,dB hex (by rw [e];exact hy),.inr hr⟩
 ·cases hA
theorem DP (hT:okT P c.T=true) {o:Oper} {t f:Nat} {p:Operand} (ho:o.op = .fieldAddr t p f):iC P c o:=by
 intro A hA B X w0 F0 F O a w δ hI k r hg Q;simp only [cf,ho] at hA;have hA0:=aH hA;clear hA;obtain⟨i,hi,hA⟩:=hA0;have hti:=tok hT hi;unfold Wm at hA;split at hA
 case h_2=>cases hA
 rename_i q off ti hf;have hf0:=sK hf;clear hf;obtain⟨ty,hf,_⟩:=hf0;have hex:execOp a.eval o=(do pure (.value (←Instr.fieldAt t (av a q) f))):=by simp only [execOp,ho,cC]
 split at hA
 ·rename_i lv hk
  refine bm hA hI hg (fun hx z hz=>?_) Q
  obtain⟨d1,e,hz⟩:=bL hz;simp only [ZG,ZH,ZF,and_true] at e;subst e;have hx':=hx (.tmp q) (by simp);simp only [eF,hk] at hx';obtain⟨y,hy,hr⟩:=Vd hti hf hx'.2 hz;exact⟨y,dB hex hy,.inr hr⟩
 ·rename_i n lv io hk
  split at hA
  ·cases hA
  rename_i d hd;split at hA
  case h_2=>cases hA
  rename_i r' hkd;split at hA
  case h_2=>cases hA
  rename_i hrq;rw [aZ] at hrq;subst hrq;cases hA;refine cP hI hd hg (fun z hz=>?_) Q
  obtain⟨d1,e,hz⟩:=bL hz;simp only [ao,ZF,and_true] at e;subst e;obtain⟨hb,rfl⟩:=bN hz;obtain⟨m,us,g,e,hd',a1,a2,a3,a4,a5,a6⟩:=hI.box hk hb;refine⟨_,dB hex (by rw [a1];exact ul hti hf g 0),.inr ?_⟩
  rw [hkd];refine⟨0,off,rfl,hb,?_⟩
  rw [hk];exact⟨g,a1,by rw [aal]⟩
 ·rename_i s hk
  split at hA
  ·cases hA
  rename_i d hd;split at hA
  case h_2=>cases hA
  rename_i r' hkd;split at hA
  case h_2=>cases hA
  rename_i hrq;rw [aZ] at hrq;subst hrq;cases hA;refine cP hI hd hg (fun z hz=>?_) Q
  obtain⟨d1,e,hz⟩:=bL hz;simp only [ao,ZF,and_true] at e;subst e;unfold cW at hz;split at hz
  case h_2=>cases hz
  rename_i ii ff hd1;simp at hz;subst hz;obtain⟨i',f',h1,h2,h3⟩:=hI.ref hk (by rw [hd1];simp);rw [hd1] at h1;cases h1;have key:∃g o,av a q = .pointer (some ⟨g,o,none⟩)∧tw (aq c.K s) (av a s) ii (ff+off) (.pointer (some ⟨g,o+off,none⟩)):=by
   unfold tw at h3 ⊢;split at h3
   ·obtain⟨g,o,n,cc,e1,e2⟩:=h3
    exact⟨g,_,e2,g,o,n,cc,e1,by rw [aaj]⟩
   ·obtain⟨g,e1,e2⟩:=h3
    exact⟨g,_,e2,g,e1,rfl⟩
   ·exact h3.elim
  obtain⟨g,o',e1,e2⟩:=key;refine⟨_,dB hex (by rw [e1];exact ul hti hf g o'),.inr ?_⟩
  rw [hkd];exact⟨ii,ff+off,rfl,h2,e2⟩
 ·cases hA
theorem Eb (hT:okT P c.T=true) {o:Oper} {t:Nat} {x ix:Operand} (ho:o.op = .indexAddr t x ix):iC P c o:=by
 intro A hA B X w0 F0 F O a w δ hI k r hg Q;simp only [cf,ho] at hA;have hA0:=aH hA;clear hA;obtain⟨i,hi,hA⟩:=hA0;have hti:=tok hT hi;unfold WN at hA;split at hA
 case h_2=>cases hA
 rename_i q hix;have hix':eF c.K ix≤2:=bO.1 hix;have hj:=hI.opd hix';have hex:execOp a.eval o=(do pure (.value (←Instr.indexAt t (av a q) (a.eval ix)))):=by simp only [execOp,ho,cC]
 have own:∀(s:Nat) (z:D) (d:Nat),Kh c.K s=true→nth δ s ≠ .bad→av a q=av a s→aq c.K d = .ref s→nf i=true→dE i.ez (nth δ s) (opD δ ix)=some z→∃y,(execOp a.eval o).run P w = .ok (.value y) w∧Fr c.K B F a w δ d z y:=by
  intro s z d hown hb hav hkd hsl hz;obtain⟨zz,lv,io,hks⟩:∃zz lv io,aq c.K s = .own zz lv io:=by
   unfold Kh at hown;split at hown
   ·exact⟨_,_,_,‹_›⟩
   ·cases hown
  obtain⟨l,hd,hw,hrest⟩:=hI.own hks hb;rw [hd] at hz;unfold dE at hz;split at hz
  case h_2=>cases hz
  rename_i z' l' k' n e1 e2;cases e1;split at hz
  case isFalse=>cases hz
  rename_i hc;obtain⟨rfl,h0,h1⟩:=hc;simp at hz;subst hz;rw [e2] at hj;obtain⟨hj,_⟩:=br hj;rcases hrest with ⟨_,e⟩ | ⟨g,o',cc,us,cs,e,a1,a2,a3,a4,a5,a6,a7⟩
  ·subst e;simp at h1;omega
  refine⟨_,dB hex (by rw [hav,a1,hj];exact Dn hti hsl g o' _ cc k' n h0 h1),.inr ?_⟩
  rw [hkd];refine⟨n.toNat,0,rfl,hb,?_⟩
  rw [hks];exact⟨g,o',_,cc,a1,rfl⟩
 split at hA
 ·rename_i hsl
  split at hA
  ·rename_i lv hk
   refine bm hA hI hg (fun hx z hz=>?_) Q
   obtain⟨d1,d2,e,hz⟩:=gW hz;simp only [ZG,ZH,ZF,and_true] at e;obtain⟨rfl,rfl⟩:=e;obtain⟨l,hl,rfl⟩:=ZY.1 hz;have hx':=hx (.tmp q) (by simp);simp only [eF,hk] at hx';obtain⟨y,hy,hr⟩:=TU hti hsl hx'.2 hj hl;exact⟨y,dB hex hy,.inr hr⟩
  ·rename_i z lv io hk
   split at hA
   ·cases hA
   rename_i d hd;split at hA
   case h_2=>cases hA
   rename_i r' hkd;split at hA
   case h_2=>cases hA
   rename_i hrq;rw [aZ] at hrq;subst hrq;cases hA;refine cP hI hd hg (fun z hz=>?_) Q
   simp only [ao] at hz;rw [cj] at hz;obtain⟨d1,e,hz⟩:=bL hz;simp only [ZG,ZH,ZF,and_true] at e;subst e;refine own _ z d (by simp [Kh,hk]) ?_ rfl hkd hsl hz
   intro e;rw [e] at hz;simp [dE] at hz
  ·rename_i s hk
   split at hA
   ·cases hA
   rename_i d hd;split at hA
   case h_2=>cases hA
   rename_i r' hkd;split at hA
   case h_2=>cases hA
   rename_i hrq hown;rw [aZ] at hrq;subst hrq;cases hA;refine cP hI hd hg (fun z hz=>?_) Q
   simp only [ao] at hz;obtain⟨b,hb,hz⟩:=ZE.1 hz;obtain⟨hpb,rfl⟩:=bN hb;rw [cj] at hz;obtain⟨d1,e,hz⟩:=bL hz;simp only [ZG,ZH,ZF,and_true] at e;subst e;obtain⟨g1,g2,g3,g4⟩:=hI.via hk hpb;exact own _ z d hown g3 g1 hkd hsl hz
  ·cases hA
 ·split at hA
  ·cases hA
  rename_i n hn;have hal:i.alen≠0:=by intro h0;exact hn h0
  have step:∀(s:Nat) (ii f:Nat) (z:D) (p:D) (d:Nat) (g o':Nat),nth δ s ≠ .bad→p = .ref ii f→av a q = .pointer (some ⟨g,o',none⟩)→(∀x,tw (aq c.K s) (av a s) ii (f+x) (.pointer (some ⟨g,o'+x,none⟩)))→aq c.K d = .ref s→NN i.alen i.ez p (opD δ ix)=some z→∃y,(execOp a.eval o).run P w = .ok (.value y) w∧Fr c.K B F a w δ d z y:=by
   intro s ii f z p d g o' hb hp hav hR hkd hz;subst hp;unfold NN at hz;split at hz
   case h_2=>cases hz
   rename_i j f' k' m e1 e2;cases e1;split at hz
   case isFalse=>cases hz
   rename_i hc;simp at hz;subst hz;rw [e2] at hj;obtain⟨hj,_⟩:=br hj;refine⟨_,dB hex (by rw [hav,hj];exact Dv hti hal g o' k' m hc.1 hc.2),.inr ?_⟩
   rw [hkd];exact⟨ii,_,rfl,hb,hR _⟩
  split at hA
  ·rename_i lv hk
   refine bm hA hI hg (fun hx z hz=>?_) Q
   obtain⟨d1,d2,e,hz⟩:=gW hz;simp only [ZG,ZH,ZF,and_true] at e;obtain⟨rfl,rfl⟩:=e;have hx':=hx (.tmp q) (by simp);simp only [eF,hk] at hx';obtain⟨y,hy,hr⟩:=VM hti hal hx'.2 hj hz;exact⟨y,dB hex hy,.inr hr⟩
  ·rename_i nn lv io hk
   split at hA
   ·cases hA
   rename_i d hd;split at hA
   case h_2=>cases hA
   rename_i r' hkd;split at hA
   case h_2=>cases hA
   rename_i hrq;rw [aZ] at hrq;subst hrq;cases hA;refine cP hI hd hg (fun z hz=>?_) Q
   simp only [ao] at hz;obtain⟨b,hb,hz⟩:=ZE.1 hz;obtain⟨hpb,rfl⟩:=bN hb;rw [cj] at hz;obtain⟨d1,e,hz⟩:=bL hz;simp only [ZG,ZH,ZF,and_true] at e;subst e;obtain⟨m,us,g,e,hd',a1,a2,a3,a4,a5,a6⟩:=hI.box hk hpb;refine step _ 0 0 z _ d g 0 hpb rfl a1 (fun x=>?_) hkd hz
   rw [hk];exact⟨g,a1,rfl⟩
  ·rename_i s hk
   split at hA
   ·cases hA
   rename_i d hd;split at hA
   case h_2=>cases hA
   rename_i r' hkd;split at hA
   case h_2=>cases hA
   rename_i hrq;rw [aZ] at hrq;subst hrq;cases hA;refine cP hI hd hg (fun z hz=>?_) Q
   simp only [ao] at hz;rw [cj] at hz;obtain⟨d1,e,hz⟩:=bL hz;simp only [ZG,ZH,ZF,and_true] at e;subst e;have hb:nth δ q ≠ .bad:=by
    intro e;rw [e] at hz;simp [NN] at hz
   obtain⟨ii,f,h1,h2,h3⟩:=hI.ref hk hb;have key:∃g o',av a q = .pointer (some ⟨g,o',none⟩)∧∀x,tw (aq c.K s) (av a s) ii (f+x) (.pointer (some ⟨g,o'+x,none⟩)):=by
    unfold tw at h3 ⊢;split at h3
    ·obtain⟨g,o,n,cc,e1,e2⟩:=h3
     exact⟨g,_,e2,fun x=>⟨g,o,n,cc,e1,by rw [aaj]⟩⟩
    ·obtain⟨g,e1,e2⟩:=h3
     exact⟨g,_,e2,fun x=>⟨g,e1,rfl⟩⟩
    ·exact h3.elim
   obtain⟨g,o',e1,e2⟩:=key;exact step s ii f z _ d g o' h2 h1 e1 e2 hkd hz
  ·cases hA
end
end Go.V

namespace Go.V
open Go.RowKit
set_option maxRecDepth 100000
section
variable {P:Program} {c:Cx} {B:Nat} {X:Nat→Prop} {w0:World} {F0 F:Nat→Prop} {O:Nat→Option (Nat × Nat)} {a:Act} {w:World} {δ:List D}
theorem GK {lo:Option Operand} {G:Nat→Prop} (hl:de w G (opD δ (ur lo)) (a.eval (ur lo))):LoV w G (opD δ (ur lo)) (lo.map a.eval):=by
 cases lo with
 | some l=>exact .inl ⟨_,rfl,hl⟩
 | none=>exact .inr ⟨rfl,rfl⟩
theorem MU {lo:D} {v:Option Value} {G G':Nat→Prop} (hG:∀b,G b→G' b) (h:LoV w G lo v):LoV w G' lo v:=by
 rcases h with ⟨y,h1,h2⟩ | h
 ·exact .inl ⟨y,h1,h2.imp id fun h=>aK hG (fun _ _=>rfl) h⟩
 ·exact .inr h
theorem DX (hT:okT P c.T=true) {o:Oper} {t:Nat} {q lv:Nat} {lo hi:Option Operand} (ho:o.op = .slice t (.tmp q) lo hi none) {i:TI} (hi':dr c.T t=some i) (hsl:i.str=false→nf i=true) (hk:aq c.K q = .dat lv)
  {A:Ac} (hA:JJ c o.dst i (.tmp q) lo hi=some A) (hI:Inv c B X w0 F0 F O a w δ) {k:List D→Option Out} {r:Out} (hg:dM c A δ k=some r) (Q:Exit→Act→World→Prop):o.wp P a w (Next c B X w0 F0 k r) Q:=by
 have hti:=tok hT hi';simp only [JJ,hk] at hA;cases hi with
 | some h =>
  simp only at hA;refine bm hA hI hg (fun hx z hz=>?_) Q
  obtain⟨d1,d2,d3,e,hz⟩:=CA hz;simp only [ZG,ZH,ZF,and_true] at e;obtain⟨rfl,rfl,rfl⟩:=e;have h1:=(hx (.tmp q) (by simp)).2;have h2:=GK (hx _ (.tail _ (.head _))).2;have h3:=(hx h (by simp)).2;simp only [eF,hk] at h1;obtain⟨v,hv,hr⟩:=Kc (P:=P) (G:=fun _=>True) hti hsl h1 (MU (fun _ _=>trivial) h2) (h3.imp id fun h=>aK (fun _ _=>trivial) (fun _ _=>rfl) h) hz;exact⟨v,dB (by simp only [execOp,ho,aaf,ZX]) hv,.inr hr⟩
 | none =>
  simp only at hA;refine bm hA hI hg (fun hx z hz=>?_) Q
  obtain⟨d1,d2,e,hz⟩:=gW hz;simp only [ZG,ZH,ZF,and_true] at e;obtain⟨rfl,rfl⟩:=e;have h1:=(hx (.tmp q) (by simp)).2;have h2:=GK (hx _ (.tail _ (.head _))).2;simp only [eF,hk] at h1;obtain⟨v,hv,hr⟩:=Dx (P:=P) hti hsl h1 h2 hz;exact⟨v,dB (by simp only [execOp,ho,ZX]) hv,.inr hr⟩
theorem DR (hT:okT P c.T=true) {o:Oper} {t:Nat} {cs:ByteArray} {lo hi:Option Operand} (ho:o.op = .slice t (.const (.string cs)) lo hi none) {i:TI} (hi':dr c.T t=some i) (hsl:i.str=false→nf i=true)
  {A:Ac} (hA:JJ c o.dst i (.const (.string cs)) lo hi=some A) (hI:Inv c B X w0 F0 F O a w δ) {k:List D→Option Out} {r:Out} (hg:dM c A δ k=some r) (Q:Exit→Act→World→Prop):o.wp P a w (Next c B X w0 F0 k r) Q:=by
 have hti:=tok hT hi';simp only [JJ] at hA;cases hi with
 | some h =>
  simp only at hA;refine bm hA hI hg (fun hx z hz=>?_) Q
  obtain⟨d1,d2,d3,e,hz⟩:=CA hz;simp only [ZG,ZH,ZF,and_true] at e;obtain⟨rfl,rfl,rfl⟩:=e;have h1:=(hx (.const (.string cs)) (by simp)).2;have h2:=GK (hx _ (.tail _ (.head _))).2;have h3:=(hx h (by simp)).2;simp only [eF] at h1;obtain⟨v,hv,hr⟩:=Kc (P:=P) (G:=fun _=>True) hti hsl h1 (MU (fun _ _=>trivial) h2) (h3.imp id fun h=>aK (fun _ _=>trivial) (fun _ _=>rfl) h) hz;exact⟨v,dB (by simp only [execOp,ho,aaf,ZX]) hv,.inr hr⟩
 | none =>
  simp only at hA;refine bm hA hI hg (fun hx z hz=>?_) Q
  obtain⟨d1,d2,e,hz⟩:=gW hz;simp only [ZG,ZH,ZF,and_true] at e;obtain⟨rfl,rfl⟩:=e;have h1:=(hx (.const (.string cs)) (by simp)).2;have h2:=GK (hx _ (.tail _ (.head _))).2;simp only [eF] at h1;obtain⟨v,hv,hr⟩:=Dx (P:=P) hti hsl h1 h2 hz;exact⟨v,dB (by simp only [execOp,ho,ZX]) hv,.inr hr⟩
theorem SG {x:Operand} {rd:List Nat} {lv:Nat} {q:Option Nat} (h:oB c.K x=some (rd,lv,q)) (hne:rd≠[]):∃t,x = .tmp t:=by
 unfold oB at h;split at h
 ·exact⟨_,rfl⟩
 ·simp at h
  exact absurd h.1.symm (by simpa using hne)
 ·cases h
theorem Im (hT:okT P c.T=true) {o:Oper} {s t:Nat} {x:Operand} (ho:o.op = .convert s t x):iC P c o:=by
 intro A hA B X w0 F0 F O a w δ hI k r hg Q;simp only [cf,ho] at hA;have hA0:=aH hA;clear hA;obtain⟨si,hs,hA⟩:=hA0;have hA0:=aH hA;clear hA;obtain⟨di,hd,hA⟩:=hA0;have hsi:=tok hT hs;have hdi:=tok hT hd;unfold Wp at hA;split at hA
 ·rename_i e1 e2 e3
  split at hA
  case h_2=>cases hA
  rename_i d rd lv q hdst hsrc;split at hA
  case h_2=>cases hA
  rename_i lv' hk hb;cases hA;unfold WU at hb;split at hb
  case h_2=>cases hb
  rename_i hsl;split at hb
  case h_2=>cases hb
  rename_i ei hei;split at hb
  case h_2=>cases hb
  rename_i hik;refine cP hI hdst hg (fun z hz=>?_) Q
  have hne:rd≠[]:=by
   intro e;subst e;cases hz
  obtain⟨t',rfl⟩:=SG hsrc hne;have key:∃G dd,de w G dd (av a t')∧LN dd=some z:=by
   have hsrc':=hsrc;rcases Ca hsrc' with ⟨h1,rfl,rfl⟩ | ⟨_,_,h1,rfl,rfl⟩ | ⟨s,_,_,h1,h2,rfl,rfl⟩
   ·obtain⟨G,hG⟩:=vN hI hsrc (d:=nth δ t') (by simp [ao,nth])
    exact⟨G,_,hG,by simpa [ao,nth] using hz⟩
   ·obtain⟨G,hG⟩:=vN hI hsrc (d:=nth δ t') (by simp [ao,nth])
    exact⟨G,_,hG,by simpa [ao,nth] using hz⟩
   ·simp only [ao,nth] at hz
    obtain⟨dd,e1,e2⟩:=ZE.1 hz;obtain⟨G,hG⟩:=vN hI hsrc (d:=dd) (by simpa [ao,nth] using e1);exact⟨G,dd,hG,e2⟩
  obtain⟨G,dd,h1,h2⟩:=key;have hdd:dd ≠ .bad:=by
   intro e;subst e;simp [LN] at h2
  obtain⟨v,g1,g2,g3⟩:=Wv (P:=P) hsi hdi (tok hT hei) hsl hik e1 (h1.rep hdd) h2;refine⟨v,dB (by simp only [execOp,ho,cC]) g1,(jL (G:=FB F B lv') g3 g2).imp id fun h=>by rw [hk];exact h⟩
 ·rename_i e1 e2 e3
  refine bm hA hI hg (fun hx z hz=>?_) Q
  obtain⟨d1,e,hz⟩:=bL hz;simp only [ZG,ZH,ZF,and_true] at e;subst e;obtain⟨v,g1,g2,g3⟩:=UA (P:=P) hsi hdi e1 (hx x (by simp)).2 hz;exact⟨v,dB (by simp only [execOp,ho]) g1,jL g3 g2⟩
 ·refine bm hA hI hg (fun hx z hz=>?_) Q
  obtain⟨d1,e,hz⟩:=bL hz;simp only [ZG,ZH,ZF,and_true] at e;subst e;obtain⟨v,g1,g2,g3⟩:=UU (P:=P) hsi hdi (hx x (by simp)).2 hz;exact⟨v,dB (by simp only [execOp,ho]) g1,jL g3 g2⟩
theorem BG {G:Nat→Prop}:∀(xs:List Operand),(∀x∈xs,de w G (opD δ x) (a.eval x))→AN w G (xs.map (opD δ)) (xs.map a.eval)
 | [],_=>trivial
 | x::xs,h=>⟨h x (by simp),BG xs fun y hy=>h y (by simp [hy])⟩
theorem Gv (K:List Kd):∀{xs:List Operand},∀x∈xs,eF K x≤lB K xs
 | y::ys,x,hx=>by
  simp only [lB,vJ];rcases List.mem_cons.1 hx with rfl | hx
  ·omega
  ·have:=Gv K x hx
   omega
theorem Kj {P:Program}:∀(fs:List Field) (l:List (Nat × Nat)),IC P fs l=true→∃places,fs.mapM (fun f=>(P.info? f.type).map fun i=>(f.offset,i.size))=some places ∧
  ∀(f:Nat) (fl:Field),fs[f]?=some fl→∃y,P.info? fl.type=some y∧places[f]?=some (fl.offset,y.size)
 | [],l,_=>⟨[],by simp,by simp⟩
 | g::fs,[],h=>by simp [IC] at h
 | g::fs,(o,t)::l,h=>by
  simp only [IC,aak,beq_iff_eq] at h;obtain⟨⟨⟨h1,h2⟩,h3⟩,h4⟩:=h;obtain⟨places,hp,hq⟩:=Kj fs l h4;split at h3
  case h_2=>cases h3
  rename_i x hx;refine⟨(g.offset,x.size)::places,by simp [List.mapM_cons,h2,hx,hp],fun f fl hf=>?_⟩
  cases f with
  | zero =>
   simp at hf;subst hf;exact⟨x,by rw [h2];exact hx,by simp⟩
  | succ f=>exact hq f fl (by simpa using hf)
theorem Gq (hT:okT P c.T=true) {t:Nat} {i:TI} (hi:TOk P t i) {fs:List Field} {arr:Array Field} (hu:P.underlying t=some (.struct arr)) (hfs:arr.toList=fs) {places:List (Nat × Nat)}
  (hq:∀(f:Nat) (fl:Field),fs[f]?=some fl→∃y,P.info? fl.type=some y∧places[f]?=some (fl.offset,y.size)) (ρ:Operand→Value) :
  ∀(parts:List (Nat × Operand)) (ps:List (Nat × Nat)),Ak c i parts=some ps→(parts.map fun p=>(p.1,ρ p.2)).map (fun p=>places.toArray[p.1]?)=ps.map some
 | [],ps,h=>by
  simp [Ak] at h;subst h;rfl
 | (f,x)::parts,ps,h=>by
  simp only [Ak] at h;split at h
  case h_2=>cases h
  rename_i off ti l hf hl;simp at h;subst h;have ih:=Gq hT hi hu hfs hq ρ parts l hl;obtain⟨ty,h1,h2⟩:=sK hf;obtain⟨fs',fl,g1,g2,g3,g4,_⟩:=hi.fs _ _ _ h1;rw [hu] at g1;simp at g1;subst g1;obtain⟨y,e1,e2⟩:=hq f fl (by rw [←hfs];simpa using g2);obtain⟨xx,_,k1,k2,_⟩:=(tok hT h2).info;rw [g4,k1] at e1;cases e1;simp only [ZG,ZF];exact⟨by rw [g3,k2] at e2;simpa using e2,ih⟩
theorem EW (z:Nat) (ρ:Operand→Value):∀(parts:List (Nat × Operand)),(parts.map fun p=>(p.1,ρ p.2)).map (fun p=>some (p.1*z,z))=(EF z parts).map some
 | []=>rfl
 | p::parts=>by simp [EF,EW z ρ parts]
theorem OH (hT:okT P c.T=true) {o:Oper} {t:Nat} {parts:Array (Nat × Operand)} (ho:o.op = .build t parts):iC P c o:=by
 intro A hA B X w0 F0 F O a w δ hI k r hg Q;simp only [cf,ho] at hA;have hA0:=aH hA;clear hA;obtain⟨i,hi,hA⟩:=hA0;have hti:=tok hT hi;obtain⟨x,z,hinf,hsz,hzz,hzo,haz⟩:=hti.info;have main:∀(ps:List (Nat × Nat)) (place:Nat→Option (Nat × Nat)) (A':Ac),bT c o.dst (qC (fun p=>p.2) parts.toList) (lB c.K (qC (fun p=>p.2) parts.toList)) (cO ps i.zero)=some A'→dM c A' δ k=some r →
   (parts.toList.map fun p=>(p.1,a.eval p.2)).map (fun p=>place p.1)=ps.map some→(∀vs cells,vs=(parts.map fun p=>(p.1,a.eval p.2))→aaA place z.cells vs.toList=some cells→P.built t vs.toList=some cells) →
   o.wp P a w (Next c B X w0 F0 k r) Q:=by
  intro ps place A' hA' hg' hp hb;refine bm hA' hI hg' (fun hx zz hz=>?_) Q
  unfold cO at hz;obtain⟨cs',h1,rfl⟩:=ZY.1 hz;obtain⟨zr,zs⟩:=eQ (w:=w) (F:=FB F B (lB c.K (qC (fun p=>p.2) parts.toList))) _ _ hzo;have hbs:AN w (FB F B (lB c.K (qC (fun p=>p.2) parts.toList))) ((qC (fun p=>p.2) parts.toList).map (opD δ)) ((qC (fun p=>p.2) parts.toList).map a.eval):=BG _ fun x hxm=>iY (Gv _ x hxm) (hx x hxm).2
  obtain⟨us',e1,e2,e3⟩:=Bs place (parts.toList.map fun p=>(p.1,a.eval p.2)) ps _ i.zero cs' z.cells.toList hp (by rw [vt] at hbs ⊢;simpa [List.map_map,Function.comp_def] using hbs) zs zr h1;have hbuilt:=hb (parts.map fun p=>(p.1,a.eval p.2)) us'.toArray rfl (by simpa using e1);refine⟨.agg us'.toArray,dB (s:=Instr.build t (parts.map fun(i,x)=>(i,a.eval x))) (by simp only [execOp,ho]) (run_build w t _ _ hbuilt),.inr ?_⟩
  simp only [bf];exact⟨us',rfl,e2,e3⟩
 unfold Wn at hA;simp only at hA;split at hA
 ·rename_i hal hag
  split at hA
  case h_2=>cases hA
  rename_i ps hps;obtain⟨arr,hu,hfs⟩:=hti.st hag hal;obtain⟨places,hp,hq⟩:=Kj arr.toList i.fs hfs;refine main ps (places.toArray[·]?) _ hA hg (Gq hT hti hu rfl hq _ parts.toList ps hps) (fun vs cells hvs hf=>?_)
  unfold Program.built;simp only [hinf,hu,hzz,hp];exact hf
 ·cases hA
 ·rename_i h1 h2
  have hal:i.alen≠0:=by
   intro e;cases hg:i.agg
   ·exact h2 e hg
   ·exact h1 e hg
  obtain⟨hu,hag,hez,hn,y,hy,hys⟩:=hti.ar hal;refine main _ (fun j=>some (j*i.ez,i.ez)) _ hA hg (EW i.ez _ parts.toList) (fun vs cells hvs hf=>?_)
  unfold Program.built;simp only [hinf,hu,hzz,hy,hys];exact hf
theorem Dw {o:Oper} {bi:Builtin} {xs:List Operand} {q:Call} (ho:o.op = .call q) (hq:q.callee = .builtin bi) (hxs:q.args.toList=xs) {f:D→D→Option D} {g:Value→Value→Sem Value}
  (hf:∀(w:World) (G:Nat→Prop) (a b z:D) (x y:Value),de w G a x→de w G b y→f a b=some z→∃v,(g x y).run P w = .ok v w∧z = .v v∧flat v=true)
  (hb:∀(x:Value) (rest:List Value) (v:Value),q.args.map a.eval=(x::rest).toArray→(rest.foldlM g x).run P w = .ok v w→(builtin bi q.argTypes o.type (q.args.map fun | .const _=>true | _=>false) (q.args.map a.eval)).run P w = .ok (.value v) w)
  {A:Ac} (hA:bT c o.dst xs 0 (Gl f)=some A) (hI:Inv c B X w0 F0 F O a w δ) {k:List D→Option Out} {r:Out} (hg:dM c A δ k=some r) (Q:Exit→Act→World→Prop):o.wp P a w (Next c B X w0 F0 k r) Q:=by
 refine bm hA hI hg (fun hx z hz=>?_) Q
 have hG:∀y∈xs,de w (FB F B 2) (opD δ y) (a.eval y):=fun y hy=>iY (hx y hy).1 (hx y hy).2
 match xs,hxs,hG,hz with
 | [],_,_,hz=>simp [Gl] at hz
 | [_],_,_,hz=>simp [Gl] at hz
 | x::y::xs,hxs,hG,hz =>
  simp only [ZG,Gl] at hz;obtain⟨v,h1,h2,h3⟩:=QM (P:=P) (fun a b z x y=>hf w (FB F B 2) a b z x y) (ds:=xs.map (opD δ)) (ys:=xs.map a.eval) (hG x (by simp)) (hG y (by simp)) (BG xs fun y hy=>hG y (by simp [hy])) hz;have he:q.args.map a.eval=(a.eval x::(a.eval y::xs.map a.eval)).toArray:=by
   rw [←aac (xs:=q.args),hxs];simp
  have hrun:=hb _ _ _ he h1;refine⟨v,?_,jL h3 h2⟩
  simp only [execOp,ho,resolve,hq,aaa,aab,ZR,invoke];exact hrun
end
end Go.V

namespace Go.V
open Go.RowKit
set_option maxRecDepth 100000
def xZ (K:List Kd) (B:Nat) (F:Nat→Prop) (O:Nat→Option (Nat × Nat)) (a:Act) (w:World) (s:Nat) (d:D):Prop :=
 d = .bad∨match aq K s with
  | .via _=>False
  | .ref _=>False
  | .tup ms=>∃l vs,d = .tup l∧av a s = .tuple vs∧∀i,Cj B F O w (s,i+1) (aq ms i) (nth l i) (vs.getD i undef)
  | .no=>True
  | k=>Cj B F O w (s,0) k d (av a s)
section
variable {P:Program} {c:Cx} {B:Nat} {X:Nat→Prop} {w0:World} {F0 F:Nat→Prop} {O:Nat→Option (Nat × Nat)} {a:Act} {w:World} {δ:List D}
theorem xZ.ok {K:List Kd} {F:Nat→Prop} {O:Nat→Option (Nat × Nat)} {a:Act} {w:World} {δ:List D} {s:Nat} (h:xZ K B F O a w s (nth δ s)):yJ K B F O a w δ s:=by
 unfold xZ at h;unfold yJ;rcases h with h | h
 ·exact .inl h
 ·refine .inr ?_
  generalize aq K s=k at h;cases k<;>first | exact h | exact h.elim
theorem Inv.many (h:Inv c B X w0 F0 F O a w δ) {hw cw:List Nat} {outs:List D} {F':Nat→Prop} {O':Nat→Option (Nat × Nat)} {a':Act} {w':World}
  (hlen:outs.length=(hw++cw).length) (la:a'.tmps.size=a.tmps.size) (df:a'.defers=a.defers) (hav:∀s,s∉hw→av a' s=av a s)
  (hcw:∀r∈cw,r∉hw→nth δ r ≠ .bad→nth (aj δ (hw++cw) outs) r ≠ .bad)
  (hU:∀s∈hw++cw,xZ c.K B F' O' a' w' s (nth (aj δ (hw++cw) outs) s))
  (hF:∀b,F b→F' b) (hw':∀b,F b→w'.heap[b]?=w.heap[b]?)
  (ho:∀b p,O b=some p→p.1∉hw++cw→O' b=some p∧w'.heap[b]?=w.heap[b]?)
  (fl:∀b,F' b→b<w'.heap.size∧O' b=none) (ol:∀b p,O' b=some p→b<w'.heap.size∧(B≤b∨X b)) (fn:∀b,F' b→F b∨B≤b) (sz:w.heap.size≤w'.heap.size)
  (os:w'.os=w.os) (tape:w'.tape=w.tape) (output:w'.output=w.output) (keep:∀b,b<B→¬X b→w'.heap[b]?=w.heap[b]?) :
  Inv c B X w0 F0 F' O' a' w' (aj δ (hw++(cw++aY c.K hw)) outs):=by
 rw [←ZP,uH _ _ _ _ hlen];have nd:∀s,nth (aj (aj δ (hw++cw) outs) (aY c.K hw) []) s=nth (aj δ (hw++cw) outs) s∨nth (aj (aj δ (hw++cw) outs) (aY c.K hw) []) s = .bad:=fun s=>kS _ _ s
 refine h.step (fun s=>s∈hw++cw) la (by rw [dz,dz]) df (fun s hs=>⟨hav s fun hm=>hs (List.mem_append_left _ hm),?_⟩) hF hw' ho (fun s r hs hv hb=>?_) (fun s hs=>?_) fl ol fn sz os tape output keep
 ·rcases nd s with e | e
  ·exact .inl (e.trans (aD _ _ _ _ hs))
  ·exact .inr e
 ·by_cases hr:r∈hw
  ·exact absurd (ll _ _ _ (kh hv hw hr)) hb
  ·refine⟨hav r hr,?_⟩
   have e:nth (aj (aj δ (hw++cw) outs) (aY c.K hw) []) s=nth (aj δ (hw++cw) outs) s:=(nd s).resolve_right hb;rw [e,aD _ _ _ _ hs] at hb;obtain⟨h1,h2⟩:=h.root hv hb;rw [aD _ _ _ _ (qA h1 hw)];by_cases hc:r∈cw
   ·exact hcw r hc hr h2
   ·rw [aD _ _ _ _ (fun hm=>(aam.1 hm).elim hr hc)]
    exact h2
 ·rcases nd s with e | e
  ·refine xZ.ok ?_
   rw [e];exact hU s hs
  ·exact .inl e
def blk:Value→Option Nat
 | .slice (some ⟨g,_,_⟩) _ _=>some g
 | .pointer (some ⟨g,_,_⟩)=>some g
 | _=>none
def fH (O:Nat→Option (Nat × Nat)) (y:Value) (x:Option (Nat × Nat)):Nat→Option (Nat × Nat):=fun b=>if blk y=some b then x else O b
def vY (F:Nat→Prop) (y:Value):Nat→Prop:=fun b=>F b∨blk y=some b
theorem fY.blk {F:Nat→Prop} {own:Nat→Prop} {z:Nat} {d:D} {y:Value} (h:fY w F own z d y):∀b,blk y=some b→own b∧b<w.heap.size:=by
 intro b hb;obtain⟨l,_,_,h3⟩:=h;rcases h3 with ⟨rfl,_⟩ | ⟨g,o,c,us,cs,e,rfl,a2,a3,a4,a5,a6,a7⟩
 ·simp [V.blk] at hb
 ·simp [V.blk] at hb
  subst hb;exact⟨a7,(aad.1 a3).1⟩
theorem fY.own {F:Nat→Prop} {own own':Nat→Prop} {z:Nat} {d:D} {y:Value} (h:fY w F own z d y) (ho:∀b,V.blk y=some b→own b→own' b):fY w F own' z d y:=by
 obtain⟨l,h1,h2,h3⟩:=h;refine⟨l,h1,h2,?_⟩
 rcases h3 with h3 | ⟨g,o,c,us,cs,e,rfl,a2,a3,a4,a5,a6,a7⟩
 ·exact .inl h3
 ·exact .inr ⟨g,o,c,us,cs,e,rfl,a2,a3,a4,a5,a6,ho g rfl a7⟩
theorem dv {w w':World} {F F':Nat→Prop} {own own':Nat→Prop} {z:Nat} {d:D} {y:Value} (hF:∀b,F b→F' b) (hw:∀b,F b→w'.heap[b]?=w.heap[b]?)
  (ho:∀g,V.blk y=some g→own g→own' g∧w'.heap[g]?=w.heap[g]?) (h:fY w F own z d y):fY w' F' own' z d y:=by
 obtain⟨l,h1,h2,h3⟩:=h;refine⟨l,h1,h2,?_⟩
 rcases h3 with h3 | ⟨g,o,c,us,cs,e,rfl,a2,a3,a4,a5,a6,a7⟩
 ·exact .inl h3
 ·exact .inr ⟨g,o,c,us,cs,e,rfl,a2,(ho g rfl a7).2.trans a3,a4,bG hF hw _ _ a5,a6,(ho g rfl a7).1⟩
theorem sD:∀(ts:List Nat) (δ:List D) (s:Nat),s∈ts→nth (aj δ ts (ts.map fun _=>D.bad)) s = .bad
 | t::ts,δ,s,h=>by
  simp only [ZG,aj];by_cases hs:s∈ts
  ·exact sD ts _ s hs
  ·rw [aD _ _ _ _ hs]
   have:s=t:=by simpa [hs] using h
   subst this;rw [bH];split<;>rfl
theorem sH {K:List Kd} {d z lv:Nat} (h:jr K d z lv=true):(∃l,aq K d = .own z l false∧lv≤l)∨∃l,aq K d = .dat l∧1≤l∧lv≤l:=by
 unfold jr at h;split at h
 ·rename_i z' l hk
  split at h
  ·rename_i hz
   rw [aZ] at hz;subst hz;exact .inl ⟨l,hk,bO.1 h⟩
  ·cases h
 ·rename_i l hk
  split at h
  ·rename_i h1
   exact .inr ⟨l,hk,bO.1 h1,bO.1 h⟩
  ·cases h
 ·cases h
theorem fJ {δ:List D} {d s:Nat} {ts:List Nat} {x:D} (hs:s∈d::ts):nth (aj δ (d::ts) (x::ts.map fun _=>D.bad)) s = .bad∨(s=d∧d<δ.length∧nth (aj δ (d::ts) (x::ts.map fun _=>D.bad)) s=x):=by
 simp only [aj];by_cases ht:s∈ts
 ·exact .inl (sD ts _ s ht)
 ·rw [aD _ _ _ _ ht]
  have:s=d:=by simpa [ht] using hs
  subst this;rw [bH];split
  ·exact .inr ⟨rfl,‹_›,rfl⟩
  ·exact .inl rfl
theorem Inv.install (h:Inv c B X w0 F0 F O a w δ) {d z lv:Nat} {ts:List Nat} {x:D} {y:Value} {w':World} (hk:jr c.K d z lv=true)
  (hv:fY w' (FB F B lv) (fun g=>B≤g∧(w.heap.size≤g∨∃p,O g=some p∧p.1∈ts)) z x y)
  (sz:w.heap.size≤w'.heap.size) (hw:∀b,b<w.heap.size→(∀p,O b=some p→p.1∉ts)→w'.heap[b]?=w.heap[b]?)
  (os:w'.os=w.os) (tape:w'.tape=w.tape) (output:w'.output=w.output) :
  ∃F' O',Inv c B X w0 F0 F' O' (a.put (some d) y) w' (aj δ ((d::ts)++([]++aY c.K (d::ts))) (x::ts.map fun _=>.bad)):=by
 have hblk:∀b,V.blk y=some b→(B≤b∧(w.heap.size≤b∨∃p,O b=some p∧p.1∈ts))∧b<w'.heap.size:=hv.blk;have hFb:∀b,F b→V.blk y≠some b:=fun b hb e=>by
  obtain⟨⟨_,h1⟩,_⟩:=hblk b e;obtain⟨h2,h3⟩:=h.fl b hb;rcases h1 with h1 | ⟨p,h1,_⟩
  ·omega
  ·rw [h3] at h1;cases h1
 have hwF:∀b,F b→w'.heap[b]?=w.heap[b]?:=fun b hb=>hw b (h.fl b hb).1 fun p hp=>by rw [(h.fl b hb).2] at hp;cases hp
 have hwK:∀b,b<B→¬X b→w'.heap[b]?=w.heap[b]?:=fun b hb hx=>hw b (ZI hb h.bb) fun p hp=>by
  rcases(h.ol b p hp).2 with h1 | h1
  ·omega
  ·exact absurd h1 hx
 have hoO:∀(x':Option (Nat × Nat)) b p,O b=some p→p.1∉(d::ts)++[]→fH O y x' b=some p∧w'.heap[b]?=w.heap[b]?:=fun x' b p hp hm=>by
  have hm':p.1∉ts:=fun hm'=>hm (by simp [hm'])
  have hlt:=(h.ol b p hp).1;refine⟨?_,hw b hlt fun p' hp'=>by rw [hp] at hp';cases hp';exact hm'⟩
  unfold fH;rw [if_neg]
  ·exact hp
  ·intro e
   obtain⟨⟨_,h1⟩,_⟩:=hblk b e;rcases h1 with h1 | ⟨p',h1,h2⟩
   ·omega
   ·rw [hp] at h1;cases h1;exact hm' h2
 have hol:∀(x':Option (Nat × Nat)) b p,fH O y x' b=some p→b<w'.heap.size∧(B≤b∨X b):=fun x' b p hp=>by
  unfold fH at hp;split at hp
  ·rename_i e
   exact⟨(hblk b e).2,.inl (hblk b e).1.1⟩
  ·obtain⟨h1,h2⟩:=h.ol b p hp
   exact⟨by omega,h2⟩
 have hav:∀s,s∉d::ts→av (a.put (some d) y) s=av a s:=fun s hs=>cQ fun e=>hs (by simp [e])
 have hlen:(x::ts.map fun _=>D.bad).length=((d::ts)++[]).length:=by simp
 rcases sH hk with ⟨l,hk,hl⟩ | ⟨l,hk,h1l,hl⟩
 ·refine⟨F,fH O y (some (d,0)),h.many hlen gy rfl hav (by simp) (fun s hs=>?_) (fun _ hb=>hb) hwF (hoO _) (fun b hb=>?_) (hol _) (fun _ hb=>.inl hb) sz os tape output hwK⟩
  ·rw [ZJ] at hs ⊢
   rcases fJ (δ:=δ) (x:=x) hs with e | ⟨rfl,hd,e⟩
   ·exact .inl e
   ·refine .inr ?_
    rw [hk,e,dT (by rw [h.la,←h.ld];exact hd)];refine .inr ?_
    exact dv (mM hl) (fun _ _=>rfl) (fun g hg ho=>⟨⟨by unfold fH;rw [if_pos hg],fun _=>ho.1⟩,rfl⟩) hv
  ·refine⟨ZI (h.fl b hb).1 sz,?_⟩
   unfold fH;rw [if_neg (hFb b hb)];exact(h.fl b hb).2
 ·refine⟨vY F y,fH O y none,h.many hlen gy rfl hav (by simp) (fun s hs=>?_) (fun _ hb=>.inl hb) hwF (hoO _) (fun b hb=>?_) (hol _) (fun b hb=>?_) sz os tape output hwK⟩
  ·rw [ZJ] at hs ⊢
   rcases fJ (δ:=δ) (x:=x) hs with e | ⟨rfl,hd,e⟩
   ·exact .inl e
   ·refine .inr ?_
    rw [hk,e,dT (by rw [h.la,←h.ld];exact hd)];refine .inr ?_
    refine aK (fun b hb=>?_) (fun _ _=>rfl) (lu (hv.own (own':=fun g=>B≤g∧V.blk y=some g) fun b hb ho=>⟨ho.1,hb⟩))
    rcases hb with hb | ⟨hb1,hb2⟩
    ·exact mM hl _ (iy (fun _ h=>.inl h) _ hb)
    ·have hx:vY F y b:=.inr hb2
     match l,h1l with
     | 1,_=>exact⟨hx,hb1⟩
     | _+2,_=>exact hx
  ·rcases hb with hb | hb
   ·refine⟨ZI (h.fl b hb).1 sz,?_⟩
    unfold fH;rw [if_neg (hFb b hb)];exact(h.fl b hb).2
   ·exact⟨(hblk b hb).2,by unfold fH;rw [if_pos hb]⟩
  ·rcases hb with hb | hb
   ·exact .inl hb
   ·exact .inr (hblk b hb).1.1
theorem cG {o:Oper} {F':Nat→Prop} {O':Nat→Option (Nat × Nat)} {y:Value} {w':World} {d:Nat} {δ':List D} (hd:o.dst=some d) {k:List D→Option Out} {r:Out}
  (hr:(execOp a.eval o).run P w = .ok (.value y) w') (hI:Inv c B X w0 F0 F' O' (a.put (some d) y) w' δ') (hk:k δ'=some r) (Q:Exit→Act→World→Prop):o.wp P a w (Next c B X w0 F0 k r) Q :=
 OU hr ⟨F',O',δ',by rw [hd];exact hI,hk⟩
theorem Az {K:List Kd} {r:Nat} (h:EM K r=true):∃z lv,aq K r = .own z lv false:=by
 unfold EM at h;split at h
 ·exact⟨_,_,‹_›⟩
 ·cases h
theorem Inv.pass (h:Inv c B X w0 F0 F O a w δ) {d r z lv:Nat} {x:D} {y:Value} (hk:jr c.K d z lv=true)
  (hv:fY w (FB F B lv) (fun g=>O g=some (r,0)∧B≤g) z x y) :
  ∃F' O',Inv c B X w0 F0 F' O' (a.put (some d) y) w (aj δ ([d,r]++([]++aY c.K [d,r])) [x,.bad]) :=
 h.install (ts:=[r]) hk (hv.own fun _ _ ho=>⟨ho.2,.inr ⟨_,ho.1,by simp⟩⟩) (ZL _) (fun _ _ _=>rfl) rfl rfl rfl
theorem Inv.fresh (h:Inv c B X w0 F0 F O a w δ) {d z lv:Nat} {x:D} {y:Value} {w':World} (hk:jr c.K d z lv=true)
  (hv:fY w' (FB F B lv) (fun g=>w.heap.size≤g) z x y) (sz:w.heap.size≤w'.heap.size) (hw:∀b,b<w.heap.size→w'.heap[b]?=w.heap[b]?)
  (os:w'.os=w.os) (tape:w'.tape=w.tape) (output:w'.output=w.output) :
  ∃F' O',Inv c B X w0 F0 F' O' (a.put (some d) y) w' (aj δ ([d]++([]++aY c.K [d])) [x]) :=
 h.install (ts:=[]) hk (hv.own fun _ _ ho=>⟨aau h.bb ho,.inl ho⟩) sz (fun b hb _=>hw b hb) os tape output
theorem FX {F:Nat→Prop} {own:Nat→Prop} {z:Nat}:fY w F own z (.arr z []) (.slice none 0 0):=⟨[],rfl,by simp,.inl ⟨rfl,rfl⟩⟩
theorem Inv.dead (h:Inv c B X w0 F0 F O a w δ) (d:Nat) (ts:List Nat) (y:Value) :
  Inv c B X w0 F0 F O (a.put (some d) y) w (aj δ ((d::ts)++([]++aY c.K (d::ts))) (.bad::ts.map fun _=>.bad)):=by
 refine h.many (by simp) gy rfl (fun s hs=>cQ fun e=>hs (by simp [e])) (by simp) (fun s hs=>.inl ?_) (fun _ hb=>hb) (fun _ _=>rfl) (fun _ _ hp _=>⟨hp,rfl⟩) h.fl h.ol (fun _ hb=>.inl hb) (ZL _) rfl rfl rfl (fun _ _ _=>rfl)
 rw [ZJ] at hs ⊢;rcases fJ (δ:=δ) (x:=.bad) hs with e | ⟨_,_,e⟩<;>exact e
theorem Inv.over (h:Inv c B X w0 F0 F O a w δ) {d r z lv:Nat} (hr:aq c.K r = .own z lv false) (hk:jr c.K d z lv=true) :
  ∃F' O',Inv c B X w0 F0 F' O' (a.put (some d) (av a r)) w (aj δ ([d,r]++([]++aY c.K [d,r])) [nth δ r,.bad]):=by
 by_cases hb:nth δ r = .bad
 ·rw [hb]
  exact⟨F,O,h.dead d [r] _⟩
 ·exact h.pass hk ((h.own hr hb).own fun _ _ ho=>⟨ho.1,ho.2 rfl⟩)
theorem Ct:∀{ms ns:List Kd},im ms ns=true→∀i,aq ns i=aq ms i∧(aq ms i = .no∨(∃lv,aq ms i = .dat lv)∨∃z lv,aq ms i = .own z lv false)
 | [],[],_,i=>by simp [aq]
 | m::ms,n::ns,h,i=>by
  have:n=m∧((∃lv,m = .dat lv)∨∃z lv,m = .own z lv false)∧im ms ns=true:=by
   cases m with
   | dat a =>
    cases n<;>simp only [im] at h<;>try cases h
    split at h
    case h_2=>cases h
    rename_i e;rw [aZ] at e;subst e;exact⟨rfl,.inl ⟨_,rfl⟩,h⟩
   | own z a io =>
    cases io
    case true=>cases n<;>simp [im] at h
    cases n with
    | own z' a' io' =>
     cases io'
     case true=>simp [im] at h
     simp only [im] at h;split at h
     case h_2=>cases h
     rename_i e1 e2;rw [aZ] at e1 e2;subst e1 e2;exact⟨rfl,.inr ⟨_,_,rfl⟩,h⟩
    | _=>simp [im] at h
   | _=>cases n<;>simp [im] at h
  obtain⟨rfl,h1,h2⟩:=this;cases i with
  | zero=>exact⟨rfl,.inr h1⟩
  | succ i=>exact Ct h2 i
 | [],_::_,h,_=>by simp [im] at h
 | m::_,[],h,_=>by cases m<;>first | (simp [im] at h;done) | (rename_i io;cases io<;>simp [im] at h)
theorem Inv.overT (h:Inv c B X w0 F0 F O a w δ) {d t:Nat} {ms ns:List Kd} (ht:aq c.K t = .tup ms) (hd:aq c.K d = .tup ns) (hs':im ms ns=true) (hdt:aaL d t=false) :
  ∃F' O',Inv c B X w0 F0 F' O' (a.put (some d) (av a t)) w (aj δ ([d,t]++([]++aY c.K [d,t])) [nth δ t,.bad]):=by
 have hne:d≠t:=fun e=>by subst e;simp at hdt
 refine⟨F,fun b=>match O b with
  | some p=>if p.1=t∧p.2≠0 then some (d,p.2) else some p
  | none=>none,h.many rfl gy rfl (fun s hs=>cQ fun e=>hs (by simp [e])) (by simp) (fun s hs=>?_) (fun _ hb=>hb) (fun _ _=>rfl) (fun b p hp hm=>⟨?_,rfl⟩) (fun b hb=>⟨(h.fl b hb).1,by simp only [(h.fl b hb).2]⟩) (fun b p hp=>?_) (fun _ hb=>.inl hb) (ZL _) rfl rfl rfl (fun _ _ _=>rfl)⟩
 ·rw [ZJ] at hs ⊢
  rcases fJ (δ:=δ) (x:=nth δ t) (ts:=[t]) hs with e | ⟨rfl,hl,e⟩
  ·exact .inl e
  ·simp only [ZG,ZH] at e
   rw [e];by_cases hb:nth δ t = .bad
   ·exact .inl hb
   have h0:=(h.slot t).resolve_left hb;rw [ht] at h0;obtain⟨l,vs,h1,h2,h3⟩:=h0;refine .inr ?_
   rw [hd,dT (by rw [h.la,←h.ld];exact hl)];refine⟨l,vs,h1,h2,fun i=>?_⟩
   rw [(Ct hs' i).1];exact vI (fun _ hb=>hb) (fun _ _=>rfl) (fun g hg=>⟨by simp [hg],rfl⟩) (h3 i)
 ·have:p.1≠t:=fun e=>hm (by simp [e])
  simp only [hp,this,false_and,if_false]
 ·cases hO:O b with
  | none=>simp only [hO] at hp;cases hp
  | some q=>exact h.ol b q hO
theorem KH {K:List Kd} {d z z' lv lv':Nat} (hk:aq K d = .own z' lv' false) (h1:aaL z z'=true) (h2:aaH lv lv'=true):jr K d z lv=true:=by simp only [jr,hk,h1,h2]
theorem KW {K:List Kd} {d z lv lv':Nat} (hk:aq K d = .dat lv') (h1:aaH 1 lv'=true) (h2:aaH lv lv'=true):jr K d z lv=true:=by simp only [jr,hk,h1,h2]
theorem Inv.mpo (h:Inv c B X w0 F0 F O a w δ) {s:Nat} (hk:aq c.K s = .mpo) (hb:nth δ s ≠ .bad):VS w (fun g=>O g=some (s,0)∧B≤g) (nth δ s) (av a s):=by
 have h0:=(h.slot s).resolve_left hb;rw [hk] at h0;exact h0.resolve_left hb
def Oh (O:Nat→Option (Nat × Nat)) (g:Nat) (x:Option (Nat × Nat)):Nat→Option (Nat × Nat):=fun b=>if b=g then x else O b
theorem Qq {O:Nat→Option (Nat × Nat)} {g:Nat} {x:Option (Nat × Nat)}:Oh O g x g=x:=by simp [Oh]
theorem EI {O:Nat→Option (Nat × Nat)} {g b:Nat} {x:Option (Nat × Nat)} (h:b≠g):Oh O g x b=O b:=by simp [Oh,h]
theorem Inv.installM (h:Inv c B X w0 F0 F O a w δ) {d g:Nat} {ts:List Nat} {l:List (Int × Bool)} {es:Array MapEntry} {clock:Nat} {w':World}
  (hk:aq c.K d = .mpo∨∃lv,aq c.K d = .dat lv∧1≤lv) (hv:w'.heap[g]?=some (.map es clock)) (he:KR es clock l) (hB:B≤g) (hg:w.heap.size≤g∨∃p,O g=some p∧p.1∈ts)
  (sz:w.heap.size≤w'.heap.size) (hw:∀b,b<w.heap.size→w'.heap[b]?=w.heap[b]?) (os:w'.os=w.os) (tape:w'.tape=w.tape) (output:w'.output=w.output) :
  ∃F' O',Inv c B X w0 F0 F' O' (a.put (some d) (.map (some g))) w' (aj δ ((d::ts)++([]++aY c.K (d::ts))) (.mp l::ts.map fun _=>.bad)):=by
 have hgl:g<w'.heap.size:=(aad.1 hv).1;have hFg:∀b,F b→b≠g:=fun b hb e=>by
  subst e;obtain⟨h2,h3⟩:=h.fl b hb;rcases hg with h1 | ⟨p,h1,_⟩
  ·omega
  ·rw [h3] at h1;cases h1
 have hav:∀s,s∉d::ts→av (a.put (some d) (.map (some g))) s=av a s:=fun s hs=>cQ fun e=>hs (by simp [e])
 have hlen:(D.mp l::ts.map fun _=>D.bad).length=((d::ts)++[]).length:=by simp
 have hoO:∀(x':Option (Nat × Nat)) b p,O b=some p→p.1∉(d::ts)++[]→Oh O g x' b=some p∧w'.heap[b]?=w.heap[b]?:=fun x' b p hp hm=>by
  have hlt:=(h.ol b p hp).1;refine⟨?_,hw b hlt⟩
  rw [EI]
  ·exact hp
  ·intro e
   subst e;rcases hg with h1 | ⟨p',h1,h2⟩
   ·omega
   ·rw [hp] at h1;cases h1;exact hm (by simp [h2])
 have hol:∀(x':Option (Nat × Nat)) b p,Oh O g x' b=some p→b<w'.heap.size∧(B≤b∨X b):=fun x' b p hp=>by
  by_cases e:b=g
  ·subst e
   exact⟨hgl,.inl hB⟩
  ·rw [EI e] at hp
   obtain⟨h1,h2⟩:=h.ol b p hp;exact⟨by omega,h2⟩
 have hwK:∀b,b<B→¬X b→w'.heap[b]?=w.heap[b]?:=fun b hb _=>hw b (ZI hb h.bb)
 have hwF:∀b,F b→w'.heap[b]?=w.heap[b]?:=fun b hb=>hw b (h.fl b hb).1
 rcases hk with hk | ⟨lv,hk,h1l⟩
 ·refine⟨F,Oh O g (some (d,0)),h.many hlen gy rfl hav (by simp) (fun s hs=>?_) (fun _ hb=>hb) hwF (hoO _) (fun b hb=>⟨ZI (h.fl b hb).1 sz,by rw [EI (hFg b hb)];exact(h.fl b hb).2⟩) (hol _) (fun _ hb=>.inl hb) sz os tape output hwK⟩
  rw [ZJ] at hs ⊢;rcases fJ (δ:=δ) (x:=.mp l) hs with e | ⟨rfl,hd,e⟩
  ·exact .inl e
  ·refine .inr ?_
   rw [hk,e,dT (by rw [h.la,←h.ld];exact hd)];exact .inr ⟨l,g,es,clock,rfl,rfl,hv,he,Qq,hB⟩
 ·refine⟨fun b=>F b∨b=g,Oh O g none,h.many hlen gy rfl hav (by simp) (fun s hs=>?_) (fun _ hb=>.inl hb) hwF (hoO _) (fun b hb=>?_) (hol _) (fun b hb=>?_) sz os tape output hwK⟩
  ·rw [ZJ] at hs ⊢
   rcases fJ (δ:=δ) (x:=.mp l) hs with e | ⟨rfl,hd,e⟩
   ·exact .inl e
   ·refine .inr ?_
    rw [hk,e,dT (by rw [h.la,←h.ld];exact hd)];refine .inr ?_
    simp only [bf,RepC];refine .inr ⟨g,es,clock,rfl,?_,hv,he⟩
    match lv,h1l with
    | 1,_=>exact⟨.inr rfl,hB⟩
    | _+2,_=>exact .inr rfl
  ·rcases hb with hb | rfl
   ·exact⟨ZI (h.fl b hb).1 sz,by rw [EI (hFg b hb)];exact(h.fl b hb).2⟩
   ·exact⟨hgl,Qq⟩
  ·rcases hb with hb | rfl
   ·exact .inl hb
   ·exact .inr hB
theorem Inv.overM (h:Inv c B X w0 F0 F O a w δ) {d r:Nat} (hr:aq c.K r = .mpo) (hk:aq c.K d = .mpo∨∃lv,aq c.K d = .dat lv∧1≤lv) :
  ∃F' O',Inv c B X w0 F0 F' O' (a.put (some d) (av a r)) w (aj δ ([d,r]++([]++aY c.K [d,r])) [nth δ r,.bad]):=by
 by_cases hb:nth δ r = .bad
 ·rw [hb]
  exact⟨F,O,h.dead d [r] _⟩
 ·obtain⟨l,g,es,clock,e1,e2,e3,e4,e5,e6⟩:=h.mpo hr hb
  rw [e1,e2];exact h.installM (ts:=[r]) hk e3 e4 e6 (.inr ⟨_,e5,by simp⟩) (ZL _) (fun _ _=>rfl) rfl rfl rfl
theorem NX {o:Oper} {x:Operand} (ho:o.op = .move x∨o.op = .assign x) {A:Ac} (hA:Le c o.dst x o.type=some A) (hI:Inv c B X w0 F0 F O a w δ)
  {k:List D→Option Out} {r:Out} (hg:dM c A δ k=some r) (Q:Exit→Act→World→Prop):o.wp P a w (Next c B X w0 F0 k r) Q:=by
 have hex:(execOp a.eval o).run P w = .ok (.value (a.eval x)) w:=by
  rcases ho with ho | ho<;>simp [execOp,ho]
 have dat:∀(lv:Nat) (A:Ac),lv=eF c.K x→bT c o.dst [x] lv (fQ some)=some A→dM c A δ k=some r→o.wp P a w (Next c B X w0 F0 k r) Q:=by
  intro lv A hlv hA hg;refine bm hA hI hg (fun hx z hz=>?_) Q
  obtain⟨d1,e,hz⟩:=bL hz;simp only [ZG,ZH,ZF,and_true] at e;subst e;cases hz;exact⟨_,hex,by rw [hlv];exact(hx x (by simp)).2⟩
 have via:∀(t rr d:Nat),x = .tmp t→o.dst=some d→aq c.K d = .via rr→rW c.K rr=true→(nth δ t ≠ .bad→nth δ rr ≠ .bad∧av a t=av a rr)→(dM c (.one [t] d fun is=>(fQ fun x=>aa x (.ref 0 0)) is) δ k=some r)→o.wp P a w (Next c B X w0 F0 k r) Q:=by
  intro t rr d hx hd hk hown hb hg;subst hx;refine cP hI hd hg (fun z hz=>?_) Q
  obtain⟨d1,e,hz⟩:=bL hz;simp only [ao,ZF,and_true] at e;subst e;obtain⟨h1,rfl⟩:=bN hz;obtain⟨h2,h3⟩:=hb h1;refine⟨_,hex,.inr ?_⟩
  rw [hk];exact⟨h3,rfl,h2,hown⟩
 have over:∀(t rr d z lv:Nat),x = .tmp t→o.dst=some d→av a t=av a rr→aq c.K rr = .own z lv false→jr c.K d z lv=true→k (aj δ ([d,rr]++([]++aY c.K [d,rr])) [nth δ rr,.bad])=some r→o.wp P a w (Next c B X w0 F0 k r) Q:=by
  intro t rr d z lv hx hd hav hkr hkd hk;subst hx;obtain⟨F',O',hI'⟩:=hI.over hkr hkd;exact cG hd hex (by rw [cC,hav];exact hI') hk Q
 have over2:∀(t rr d z lv:Nat),x = .tmp t→o.dst=some d→aq c.K t = .via rr→aq c.K rr = .own z lv false→jr c.K d z lv=true →
   dM c (.many [t,rr] [d,rr] [] fun is k=>eV is 0 fun p=>eV is 1 fun x=>(aa p x).bind fun y=>k [y,.bad]) δ k=some r→o.wp P a w (Next c B X w0 F0 k r) Q:=by
  intro t rr d z lv hx hd hkt hkr hkd hg;simp only [dM,ao,eV] at hg;obtain⟨y,h1,h2⟩:=ZE.1 hg;obtain⟨hb,rfl⟩:=bN h1;exact over t rr d z lv hx hd (hI.via hkt hb).1 hkr hkd h2
 unfold Le at hA;split at hA
 ·rename_i t
  split at hA
  ·rename_i z lv io hk
   split at hA
   ·cases hA
   rename_i d hd;split at hA
   ·rename_i rr hkd
    split at hA
    case h_2=>cases hA
    rename_i hrt;rw [aZ] at hrt;subst hrt;cases hA;exact via rr rr d rfl hd hkd (by simp [rW,hk]) (fun hb=>⟨hb,rfl⟩) hg
   ·rename_i z' lv' hkd
    split at hA
    case h_2=>cases hA
    rename_i h1 h2;cases hA;refine over t t d z lv rfl hd rfl hk (KH hkd h1 h2) ?_
    simpa only [dM,ao,eV] using hg
   ·rename_i lv' hkd
    split at hA
    case h_2=>cases hA
    rename_i h1 h2;cases hA;refine over t t d z lv rfl hd rfl hk (KW hkd h1 h2) ?_
    simpa only [dM,ao,eV] using hg
   ·cases hA
  ·rename_i rr hk
   split at hA
   ·cases hA
   rename_i d hd;split at hA
   case h_3=>cases hA
   case h_2 =>
    rename_i hkr;split at hA
    ·rename_i r' hkd
     split at hA
     case h_2=>cases hA
     rename_i hrt;rw [aZ] at hrt;subst hrt;cases hA;exact via t rr d rfl hd hkd (by simp [rW,hkr]) (fun hb=>⟨(hI.via hk hb).2.2.1,(hI.via hk hb).1⟩) hg
    ·rename_i hkd
     cases hA;simp only [dM,ao,eV] at hg;obtain⟨y,h1,h2⟩:=ZE.1 hg;obtain⟨hb,rfl⟩:=bN h1;have hav:=(hI.via hk hb).1;obtain⟨F',O',hI'⟩:=hI.overM hkr (.inl hkd);exact cG hd hex (by rw [cC,hav];exact hI') h2 Q
    ·rename_i lv' hkd
     split at hA
     case h_2=>cases hA
     rename_i hle;cases hA;simp only [dM,ao,eV] at hg;obtain⟨y,h1,h2⟩:=ZE.1 hg;obtain⟨hb,rfl⟩:=bN h1;have hav:=(hI.via hk hb).1;obtain⟨F',O',hI'⟩:=hI.overM hkr (.inr ⟨lv',hkd,bO.1 hle⟩);exact cG hd hex (by rw [cC,hav];exact hI') h2 Q
    ·cases hA
   rename_i z lv io hkr;split at hA
   ·rename_i r' hkd
    split at hA
    case h_2=>cases hA
    rename_i hrt;rw [aZ] at hrt;subst hrt;cases hA;exact via t rr d rfl hd hkd (by simp [rW,hkr]) (fun hb=>⟨(hI.via hk hb).2.2.1,(hI.via hk hb).1⟩) hg
   ·rename_i z' lv' hkd
    split at hA
    case h_2=>cases hA
    rename_i h1 h2;cases hA;exact over2 t rr d z lv rfl hd hk hkr (KH hkd h1 h2) hg
   ·rename_i lv' hkd
    split at hA
    case h_2=>cases hA
    rename_i h1 h2;cases hA;exact over2 t rr d z lv rfl hd hk hkr (KW hkd h1 h2) hg
   ·cases hA
  ·rename_i n lv io hk
   split at hA
   ·cases hA
   rename_i d hd;split at hA
   case h_2=>cases hA
   rename_i rr hkd;split at hA
   case h_2=>cases hA
   rename_i hrt;rw [aZ] at hrt;subst hrt;cases hA;refine cP hI hd hg (fun z hz=>?_) Q
   obtain⟨d1,e,hz⟩:=bL hz;simp only [ao,ZF,and_true] at e;subst e;obtain⟨h1,rfl⟩:=bN hz;refine⟨_,hex,.inr ?_⟩
   rw [hkd];obtain⟨m,us,g,e,_,a1,_⟩:=hI.box hk h1;refine⟨0,0,rfl,h1,?_⟩
   rw [hk];exact⟨g,a1,a1⟩
  ·rename_i rr hk
   split at hA
   ·cases hA
   rename_i d hd;split at hA
   case h_2=>cases hA
   rename_i r' hkd;split at hA
   case h_2=>cases hA
   rename_i hrt;rw [aZ] at hrt;subst hrt;cases hA;refine cP hI hd hg (fun z hz=>?_) Q
   obtain⟨d1,e,hz⟩:=bL hz;simp only [ao,ZF,and_true] at e;subst e;obtain⟨h1,rfl⟩:=bN hz;refine⟨_,hex,.inr ?_⟩
   rw [hkd];exact hI.ref hk h1
  ·rename_i hk
   split at hA
   ·cases hA
   rename_i d hd;split at hA
   ·rename_i rr hkd
    split at hA
    case h_2=>cases hA
    rename_i hrt;rw [aZ] at hrt;subst hrt;cases hA;exact via rr rr d rfl hd hkd (by simp [rW,hk]) (fun hb=>⟨hb,rfl⟩) hg
   ·rename_i hkd
    cases hA;simp only [dM,ao,eV] at hg;obtain⟨F',O',hI'⟩:=hI.overM hk (.inl hkd);exact cG hd hex hI' hg Q
   ·rename_i lv hkd
    split at hA
    case h_2=>cases hA
    rename_i h1;cases hA;simp only [dM,ao,eV] at hg;obtain⟨F',O',hI'⟩:=hI.overM hk (.inr ⟨lv,hkd,bO.1 h1⟩);exact cG hd hex hI' hg Q
   ·cases hA
  ·rename_i lv hk
   exact dat lv _ (by simp [eF,hk]) hA hg
  ·rename_i ms hk
   split at hA
   ·cases hA
   rename_i d hd;split at hA
   case h_2=>cases hA
   rename_i ns hkd;split at hA
   case h_2=>cases hA
   rename_i h1 h2;cases hA;obtain⟨F',O',hI'⟩:=hI.overT hk hkd h1 h2;refine cG hd hex (by rw [cC];exact hI') ?_ Q
   simpa only [dM,ao,eV] using hg
  ·cases hA
 ·split at hA
  ·cases hA
  rename_i d hd;split at hA
  ·rename_i z lv hk
   cases hA;simp only [dM] at hg;obtain⟨F',O',hI'⟩:=hI.fresh (d:=d) (z:=z) (lv:=lv) (w':=w) (by simp [jr,hk]) FX (ZL _) (fun _ _=>rfl) rfl rfl rfl;exact cG hd hex hI' hg Q
  ·split at hA
   ·refine bm hA hI hg (fun hx z hz=>?_) Q
    cases hz;exact⟨_,hex,.inr (cX.2 ⟨rfl,rfl⟩)⟩
   have hA0:=aH hA;clear hA;obtain⟨i,hi,hA⟩:=hA0;refine bm hA hI hg (fun hx z hz=>?_) Q
   cases hz;refine⟨_,hex,.inr ?_⟩
   simp only [Act.eval,bf];exact zX
  ·cases hA
 ·split at hA
  ·cases hA
  split at hA
  ·refine bm hA hI hg (fun hx z hz=>?_) Q
   cases hz;refine⟨_,hex,.inr ?_⟩
   show RepC _ _ (.mp []) [Value.map none]
   simp [RepC]
  ·cases hA
 ·exact dat _ _ rfl hA hg
end
end Go.V

namespace Go.V
open Go.RowKit
set_option maxRecDepth 100000
section
variable {P:Program} {c:Cx} {B:Nat} {X:Nat→Prop} {w0:World} {F0 F:Nat→Prop} {O:Nat→Option (Nat × Nat)} {a:Act} {w:World} {δ:List D}
theorem Al {O:Nat→Option (Nat × Nat)} {y:Value} {x:Option (Nat × Nat)} {b:Nat} (h:blk y=some b):fH O y x b=x:=by unfold fH;rw [if_pos h]
theorem gR {O:Nat→Option (Nat × Nat)} {y:Value} {x:Option (Nat × Nat)} {b:Nat} (h:blk y≠some b):fH O y x b=O b:=by unfold fH;rw [if_neg h]
theorem vm {g o:Nat} {s:Option Nat} {b:Nat}:blk (.pointer (some ⟨g,o,s⟩))=some b↔g=b:=by simp [blk]
theorem Inv.fresh1 (h:Inv c B X w0 F0 F O a w δ) {d n lv:Nat} {x:D} {y:Value} {w':World} (hk:aq c.K d = .box n lv false)
  (hv:Dj w' (FB F B lv) (fun g=>w.heap.size≤g) n x y) (sz:w.heap.size≤w'.heap.size) (hw:∀b,b<w.heap.size→w'.heap[b]?=w.heap[b]?)
  (os:w'.os=w.os) (tape:w'.tape=w.tape) (output:w'.output=w.output) :
  ∃F' O',Inv c B X w0 F0 F' O' (a.put (some d) y) w' (aj δ ([d]++([]++aY c.K [d])) [x]):=by
 obtain⟨l,us,g,e,h1,h2,h3,h4,h5,h6,h7⟩:=hv;subst h2;have hg:g<w'.heap.size:=(aad.1 h3).1;refine⟨F,fH O (.pointer (some ⟨g,0,none⟩)) (some (d,0)),h.many (by simp) gy rfl (fun s hs=>cQ fun e=>hs (by simp [e])) (by simp) (fun s hs=>?_) (fun _ hb=>hb) (fun b hb=>hw b (h.fl b hb).1) (fun b p hp _=>⟨?_,hw b (h.ol b p hp).1⟩) (fun b hb=>⟨ZI (h.fl b hb).1 sz,?_⟩) (fun b p hp=>?_) (fun _ hb=>.inl hb) sz os tape output (fun b hb _=>hw b (ZI hb h.bb))⟩
 ·rw [ZJ] at hs ⊢
  rcases fJ (δ:=δ) (x:=x) (ts:=[]) hs with e | ⟨rfl,hd,e⟩
  ·exact .inl e
  ·refine .inr ?_
   simp only [ZH] at e;rw [hk,e,dT (by rw [h.la,←h.ld];exact hd)];exact .inr ⟨l,us,g,_,h1,rfl,h3,h4,h5,h6,Al rfl,fun _=>aau h.bb h7⟩
 ·have:=(h.ol b p hp).1
  rw [gR (fun e=>by rw [vm] at e;omega)];exact hp
 ·have:=(h.fl b hb).1
  rw [gR (fun e=>by rw [vm] at e;omega)];exact(h.fl b hb).2
 ·by_cases e:g=b
  ·subst e
   exact⟨hg,.inl (aau h.bb h7)⟩
  ·rw [gR (fun e'=>e (vm.1 e'))] at hp
   exact⟨ZI (h.ol b p hp).1 sz,(h.ol b p hp).2⟩
theorem Inv.freshP (h:Inv c B X w0 F0 F O a w δ) {d lv t:Nat} (hk:aq c.K d = .dat lv) (h1:1≤lv) {l:List D} {v:Value} (hr:bW w (FB F B lv) l v.cells.toList) (hsl:l.all D.single=true) :
  ∃F' O',Inv c B X w0 F0 F' O' (a.put (some d) (.pointer (some ⟨w.heap.size,0,none⟩))) (w.alloc (.cells v.cells t)) (aj δ ([d]++([]++aY c.K [d])) [.ptr l]):=by
 have sz:w.heap.size≤(w.alloc (.cells v.cells t)).heap.size:=by simp
 have hw:∀b,b<w.heap.size→(w.alloc (.cells v.cells t)).heap[b]?=w.heap[b]?:=fun b hb=>heap_alloc_old w _ hb
 have hg:w.heap.size<(w.alloc (.cells v.cells t)).heap.size:=by simp
 refine⟨fun b=>F b∨b=w.heap.size,O,h.many (by simp) gy rfl (fun s hs=>cQ fun e=>hs (by simp [e])) (by simp) (fun s hs=>?_) (fun _ hb=>.inl hb) (fun b hb=>hw b (h.fl b hb).1) (fun b p hp _=>⟨hp,hw b (h.ol b p hp).1⟩) (fun b hb=>?_) (fun b p hp=>⟨ZI (h.ol b p hp).1 sz,(h.ol b p hp).2⟩) (fun b hb=>?_) sz rfl rfl rfl (fun b hb _=>hw b (ZI hb h.bb))⟩
 ·rw [ZJ] at hs ⊢
  rcases fJ (δ:=δ) (x:=.ptr l) (ts:=[]) hs with e | ⟨rfl,hd,e⟩
  ·exact .inl e
  ·refine .inr ?_
   simp only [ZH] at e;rw [hk,e,dT (by rw [h.la,←h.ld];exact hd)];refine .inr ?_
   simp only [bf,RepC];refine⟨w.heap.size,0,v.cells.toList,rfl,bG (iy fun b hb=>.inl hb) (fun b hb=>hw b (h.fl b (gz b hb)).1) _ _ hr,hsl,?_,fun i u hu=>?_⟩
   ·match lv,h1 with
    | 1,_=>exact⟨.inr rfl,h.bb⟩
    | n+2,_=>exact .inr rfl
   ·have hn:=heap_alloc_new w (.cells v.cells t)
    simp only [aaI,hn];simpa using hu
 ·rcases hb with hb | rfl
  ·exact⟨ZI (h.fl b hb).1 sz,(h.fl b hb).2⟩
  ·refine⟨hg,?_⟩
   cases ho:O w.heap.size with
   | none=>rfl
   | some p=>exact absurd (h.ol _ _ ho).1 (Nat.lt_irrefl _)
 ·rcases hb with hb | rfl
  ·exact .inl hb
  ·exact .inr h.bb
theorem OK {F:Nat→Prop} {n t:Nat} {l:List D} {v:Value} (hr:bW w F l v.cells.toList) (hs:l.all D.single=true) (hn:l.length=n) (hF:∀b,F b→b<w.heap.size) :
  Dj (w.alloc (.cells v.cells t)) F (fun g=>w.heap.size≤g) n (.agg l) (.pointer (some ⟨w.heap.size,0,none⟩)) :=
 ⟨l,v.cells.toList,_,t,rfl,rfl,by simpa using heap_alloc_new w _,bG (fun _ h=>h) (fun b hb=>heap_alloc_old w _ (hF b hb)) _ _ hr,hs,hn,ZL _⟩
theorem MJ (hT:okT P c.T=true) {o:Oper} {t:Nat} (ho:o.op = .alloc t):iC P c o:=by
 intro A hA B X w0 F0 F O a w δ hI k r hg Q;simp only [cf,ho] at hA;have hA0:=aH hA;clear hA;obtain⟨i,hi,hA⟩:=hA0;have hti:=tok hT hi;unfold VO at hA;split at hA
 ·cases hA
 rename_i d hd;split at hA
 case h_2=>cases hA
 rename_i n lv hk;split at hA
 case h_2=>cases hA
 rename_i hn;rw [aZ] at hn;cases hA;simp only [dM] at hg;obtain⟨z,hz,hr,hs,hsz⟩:=hti.zero;have hrun:(execOp a.eval o).run P w = .ok (.value (.pointer (some ⟨w.heap.size,0,none⟩))) (w.alloc (.cells z.cells t)):=by
  refine dB (s:=Instr.alloc t true (.tuple #[])) (by simp only [execOp,ho]) ?_
  simp [Instr.alloc,hz w,newVar,newRow]
 obtain⟨F',O',hI'⟩:=hI.fresh1 hk (OK (w:=w) (t:=t) (v:=z) (F:=FB F B lv) (hr w _).2 hs (hti.zl.trans hn.symm) fun b hb=>(hI.fl b (gz b hb)).1) (by simp) (fun b hb=>heap_alloc_old w _ hb) rfl rfl rfl;exact cG hd hrun hI' hg Q
theorem QU {o:Oper} {t:Nat} {x:Operand} (ho:o.op = .box t x):iC P c o:=by
 intro A hA B X w0 F0 F O a w δ hI k r hg Q;simp only [cf,ho] at hA;have hA0:=aH hA;clear hA;obtain⟨i,hi,hA⟩:=hA0;unfold WH at hA;split at hA
 ·cases hA
 rename_i d hd;split at hA
 case h_3=>cases hA
 case h_2 =>
  rename_i lv hk;split at hA
  case h_2=>cases hA
  rename_i hx h1 hle;have hx:eF c.K x≤2:=bO.1 hx;rw [bO] at h1 hle;cases hA;simp only [dM] at hg;rw [cj] at hg;obtain⟨y,h2,h3⟩:=ZE.1 hg;obtain⟨d1,e,h2⟩:=bL h2;simp only [ZG,ZH,ZF,and_true] at e;subst e;unfold bE at h2;split at h2
  case isFalse=>cases h2
  rename_i hc;cases h2;simp only [YS,Option.bind_some] at h3;have hne:opD δ x ≠ .bad:=by
   intro e;rw [e] at hc;simp [D.cells,D.single] at hc
  obtain⟨_,_,g3⟩:=fV ((iY hle (hI.opd hx)).rep hne) (sb hc.2);have hrun:(execOp a.eval o).run P w = .ok (.value (.pointer (some ⟨w.heap.size,0,none⟩))) (w.alloc (.cells (a.eval x).cells t)):=by
   refine dB (s:=aaF t (a.eval x)) (by simp only [execOp,ho]) ?_
   simp [aaF,newVar,newRow]
  obtain⟨F',O',hI'⟩:=hI.freshP (t:=t) hk h1 g3 hc.2;exact cG hd hrun hI' h3 Q
 rename_i n lv hk;split at hA
 case h_2=>cases hA
 rename_i hn hx;have hx:eF c.K x≤2:=bO.1 hx;have hop:=hI.opd hx;have main:∀y:D,bE n (opD δ x)=some y→de w (FB F B lv) (opD δ x) (a.eval x)→k (aj δ ([d]++([]++aY c.K [d])) [y])=some r→o.wp P a w (Next c B X w0 F0 k r) Q:=by
  intro y hy hrep hk';unfold bE at hy;split at hy
  case isFalse=>cases hy
  rename_i hc;cases hy;have hne:opD δ x ≠ .bad:=by
   intro e;rw [e] at hc;simp [D.cells,D.single] at hc
  obtain⟨_,_,g3⟩:=fV (hrep.rep hne) (sb hc.2);have hrun:(execOp a.eval o).run P w = .ok (.value (.pointer (some ⟨w.heap.size,0,none⟩))) (w.alloc (.cells (a.eval x).cells t)):=by
   refine dB (s:=aaF t (a.eval x)) (by simp only [execOp,ho]) ?_
   simp [aaF,newVar,newRow]
  obtain⟨F',O',hI'⟩:=hI.fresh1 hk (OK (w:=w) (t:=t) (F:=FB F B lv) g3 hc.2 hc.1 fun b hb=>(hI.fl b (gz b hb)).1) (by simp) (fun b hb=>heap_alloc_old w _ hb) rfl rfl rfl;exact cG hd hrun hI' hk' Q
 split at hA
 ·rename_i hle
  rw [bO] at hle;cases hA;simp only [dM] at hg;rw [cj] at hg;obtain⟨y,h1,h2⟩:=ZE.1 hg;obtain⟨d1,e,h1⟩:=bL h1;simp only [ZG,ZH,ZF,and_true] at e;subst e;exact main y h1 (iY hle hop) h2
 ·split at hA
  case h_2=>cases hA
  cases hA;simp only [dM] at hg;rw [cj] at hg;obtain⟨y,h1,h2⟩:=ZE.1 hg;obtain⟨d1,e,h1⟩:=bL h1;simp only [ZG,ZH,ZF,and_true] at e;subst e;obtain⟨z,hc,h1⟩:=ZE.1 h1;unfold bq at hc;split at hc
  case isFalse=>cases hc
  rename_i hv;cases hc;refine main y h1 (.inr (rJ hv (hop.rep ?_))) h2
  intro e;rw [e] at hv;simp [D.isV] at hv
theorem tU (w:World) (g:Nat) (cs:Array Value):(w.setRow g cs).heap.size=w.heap.size:=by simp [World.setRow]
theorem Inv.write (h:Inv c B X w0 F0 F O a w δ) {r:Nat} {ts:List Nat} {x:D} {y:Value} {g:Nat} {w':World} (hts:r∉ts)
  (hy:∀b,blk y=some b→B≤b∧∃p,O b=some p∧p.1∈ts) (hx:x ≠ .bad) (hrt:dP c.K r) (hr0:O g=some (r,0))
  (hrep:Cj B (vY F y) (fH O y none) w' (r,0) (aq c.K r) x (av a r))
  (hw:∀b,b≠g→w'.heap[b]?=w.heap[b]?) (sz:w'.heap.size=w.heap.size) (os:w'.os=w.os) (tape:w'.tape=w.tape) (output:w'.output=w.output) (hkeep:B≤g∨X g) :
  ∃F' O',Inv c B X w0 F0 F' O' a w' (aj δ (ts++([r]++aY c.K ts)) ((ts.map fun _=>.bad)++[x])):=by
 have hFg:∀b,F b→b≠g:=fun b hb e=>by
  subst e;rw [(h.fl b hb).2] at hr0;cases hr0
 have hset:∀s,nth (aj δ (ts++[r]) ((ts.map fun _=>.bad)++[x])) s=if s=r then(if r<δ.length then x else .bad) else if s∈ts then .bad else nth δ s:=by
  intro s;have e:aj δ (ts++[r]) ((ts.map fun _=>.bad)++[x])=gS (aj δ ts (ts.map fun _=>.bad)) r x:=by
   have:∀(ts:List Nat) (δ:List D),aj δ (ts++[r]) ((ts.map fun _=>D.bad)++[x])=gS (aj δ ts (ts.map fun _=>.bad)) r x:=by
    intro ts;induction ts with
    | nil=>intro δ;simp [aj]
    | cons t ts ih=>intro δ;simp only [aaJ,ZG,aj];exact ih _
   exact this ts δ
  rw [e];by_cases hs:s=r
  ·subst hs
   rw [bH,if_pos rfl,dz]
  ·rw [cK _ _ _ _ hs,if_neg hs]
   split
   ·exact sD ts δ s ‹_›
   ·exact aD _ _ _ _ ‹_›
 have hlt:g<w.heap.size:=(h.ol g _ hr0).1;have hrd:r<δ.length:=by
  rw [h.ld];by_cases hd:r<c.K.length
  ·exact hd
  ·exfalso
   have:∀(K:List Kd) (r:Nat),¬r<K.length→aq K r = .no:=by
    intro K;induction K with
    | nil=>intro r _;rfl
    | cons k K ih =>
     intro r hr;cases r with
     | zero=>simp at hr
     | succ r=>exact ih r (by simpa using hr)
   rw [dP,this c.K r hd] at hrt;exact hrt
 refine⟨vY F y,fH O y none,h.many (by simp) rfl rfl (fun _ _=>rfl) (fun s hs _ _=>?_) (fun s hs=>?_) (fun _ hb=>.inl hb) (fun b hb=>hw b (hFg b hb)) (fun b p hp hm=>?_) (fun b hb=>?_) (fun b p hp=>?_) (fun b hb=>?_) (Nat.le_of_eq sz.symm) os tape output (fun b hb hx=>hw b fun e=>?_)⟩
 ·have:s=r:=by simpa using hs
  subst this;rw [hset,if_pos rfl,if_pos hrd];exact hx
 ·rw [hset]
  by_cases hsr:s=r
  ·subst hsr
   rw [if_pos rfl,if_pos hrd];refine .inr ?_
   unfold dP at hrt;generalize aq c.K s=kk at hrt hrep;cases kk<;>first | exact hrt.elim | exact hrep
  ·have:s∈ts:=by simpa [hsr] using hs
   rw [if_neg hsr,if_pos this];exact .inl rfl
 ·have hpr:p.1≠r:=fun e=>hm (by simp [e])
  have hpt:p.1∉ts:=fun e=>hm (by simp [e])
  refine⟨?_,hw b fun e=>?_⟩
  ·unfold fH
   rw [if_neg]
   ·exact hp
   ·intro e
    obtain⟨_,q,hq,hq'⟩:=hy b e;rw [hp] at hq;cases hq;exact hpt hq'
  ·subst e
   rw [hp] at hr0;cases hr0;exact hpr rfl
 ·rw [sz]
  rcases hb with hb | hb
  ·refine⟨(h.fl b hb).1,?_⟩
   unfold fH;rw [if_neg]
   ·exact(h.fl b hb).2
   ·intro e
    obtain⟨_,q,hq,_⟩:=hy b e;rw [(h.fl b hb).2] at hq;cases hq
  ·obtain⟨_,q,hq,_⟩:=hy b hb
   exact⟨(h.ol b q hq).1,by unfold fH;rw [if_pos hb]⟩
 ·rw [sz]
  unfold fH at hp;split at hp
  ·cases hp
  ·exact h.ol b p hp
 ·rcases hb with hb | hb
  ·exact .inl hb
  ·exact .inr (hy b hb).1
 ·subst e
  rcases hkeep with h1 | h1
  ·omega
  ·exact hx h1
theorem AW {t n g o:Nat} {e:Nat} {cs:Array Value} {y:Value} (hsz:(sizeOf t).run P w = .ok n w) (hn:y.cells.size=n) (hg:w.heap[g]?=some (.cells cs e (0,0))) (hle:o+n≤cs.size) (h1:∀v∈y.cells.toList,v.oneCell'=true) :
  (storeVar t ⟨g,o,none⟩ y).run P w = .ok () (w.setRow g (cs.toList.take o++y.cells.toList++cs.toList.drop (o+n)).toArray):=by
 have hst:=run_storeCells_at P g o e y.cells.toList 0 cs w hg (by simpa [hn] using hle) h1;simp only [aav,aae,hn] at hst;simp [storeVar,hsz,hn,hst]
end
end Go.V

namespace Go.V
open Go.RowKit
set_option maxRecDepth 100000
section
variable {P:Program} {c:Cx} {B:Nat} {X:Nat→Prop} {w0:World} {F0 F:Nat→Prop} {O:Nat→Option (Nat × Nat)} {a:Act} {w:World} {δ:List D}
theorem Mw {l vs:List D} {f:Nat} (h:f+vs.length≤l.length):(dL l f vs).length=l.length:=by
 unfold dL;simp only [ZO,ZN,ZV];omega
theorem Uf {d:D} {m ws:List Value} {vs:List D} {f:Nat} (h:RepC w F d m) (hv:vs.all D.single=true) (hw:bW w F vs ws) (hf:f+vs.length≤d.width) :
  RepC w F (d.ofCells (dL d.cells f vs)) (m.take f++ws++m.drop (f+ws.length))∧(d.ofCells (dL d.cells f vs)).width=d.width:=by
 rcases nX h with ⟨l,rfl⟩ | hs
 ·simp only [RepC] at h
  obtain⟨h1,h2⟩:=Ar h.2 hv h.1 hw f;exact⟨by simp only [D.ofCells,D.cells,RepC];exact⟨h1,h2⟩,Mw hf⟩
 ·obtain⟨hw1,hc1⟩:=fI hs
  rw [hw1] at hf;have hr:bW w F [d] m:=aA.2 ⟨m,[],by simp,h,aW.2 rfl⟩;obtain⟨h1,h2⟩:=Ar (by simp [hs]) hv hr hw f;have h3:(dL [d] f vs).length=1:=Mw (by simpa using hf);obtain⟨e,he⟩:=List.length_eq_one_iff.1 h3;rw [hc1,he];rw [he] at h1 h2;have e2:d.ofCells [e]=e:=by cases d<;>first | rfl | simp [D.single] at hs
  rw [e2,hw1];obtain⟨v1,v2,e3,h4,h5⟩:=aA.1 h1;rw [aW] at h5;subst h5;rw [e3,ZJ];exact⟨h4,(fI (by simpa using h2)).1⟩
theorem RW {us cs ws:List Value} {o k n:Nat} (h:∀(j:Nat) (u:Value),us[j]?=some u→cs[o+j]?=some u) (hk:k+n≤us.length) (hn:ws.length=n) (hc:o+us.length≤cs.length) :
  ∀(j:Nat) (u:Value),(us.take k++ws++us.drop (k+n))[j]?=some u→(cs.take (o+k)++ws++cs.drop (o+k+n))[o+j]?=some u:=by
 intro j u hj;have l1:(us.take k).length=k:=by rw [ZN];omega
 have l2:(cs.take (o+k)).length=o+k:=by rw [ZN];omega
 rcases aaw j k with hjk | hjk
 ·rw [ZP,ZK (by omega),ZW hjk] at hj
  rw [ZP,ZK (by omega),ZW (by omega)];exact h j u hj
 ·rcases aaw j (k+n) with hj2 | hj2
  ·rw [ZP,ZM (by omega),l1,ZK (by omega)] at hj
   rw [ZP,ZM (by omega),l2,ZK (by omega)];rw [show o+j - (o+k)=j - k from by omega];exact hj
  ·have l3:(us.take k++ws).length=k+n:=by rw [ZO];omega
   have l4:(cs.take (o+k)++ws).length=o+k+n:=by rw [ZO];omega
   rw [ZM (by omega),l3,aaq] at hj;rw [ZM (by omega),l4,aaq];have:=h _ u hj;rw [←this];congr 1
   omega
theorem UW {p m q ws:List Value} {f n:Nat} (h:f+n≤m.length) :
  p++(m.take f++ws++m.drop (f+n))++q=(p++m++q).take (p.length+f)++ws++(p++m++q).drop (p.length+f+n):=by
 rw [ZP p m q,List.take_length_add_append,aaj,aar,List.take_append_of_le_length (by omega),List.drop_append_of_le_length (by omega)];simp
theorem ES (hI:Inv c B X w0 F0 F O a w δ) {r i f t n:Nat} {p yv yy:Value} {x b':D} (hb:nth δ r ≠ .bad) (hr:tw (aq c.K r) (av a r) i f p) (hst:stD n (nth δ r) (.ref i f) x=some b') (hsz:(sizeOf t).run P w = .ok n w)
  (hx:∀w',(∀b,vY F yy b→w'.heap[b]?=w.heap[b]?)→bf w' (FB (vY F yy) B (fh c.K r)) x yv) (hyg:∀g,O g=some (r,0)→blk yy≠some g) :
  ∃g w',(aaD t p yv).run P w = .ok () w'∧O g=some (r,0)∧(B≤g∨X g)∧(∀b,b≠g→w'.heap[b]?=w.heap[b]?)∧w'.heap.size=w.heap.size∧w'.os=w.os∧w'.tape=w.tape∧w'.output=w.output∧b' ≠ .bad ∧
   Cj B (vY F yy) (fH O yy none) w' (r,0) (aq c.K r) b' (av a r):=by
 unfold tw at hr;split at hr
 ·rename_i z lv io hk
  obtain⟨g,o,nn,cap,hy,rfl⟩:=hr;obtain⟨l,hd,hwid,hrest⟩:=hI.own hk hb;rcases hrest with ⟨e,_⟩ | ⟨g',o',c',us,cs,e,a1,a2,a3,a4,a5,a6,a7⟩
  ·rw [hy] at e;cases e
  rw [hy] at a1;simp at a1;obtain⟨⟨rfl,rfl⟩,rfl,rfl⟩:=a1;rw [hd] at hst;simp only [stD] at hst;split at hst
  case h_2=>cases hst
  rename_i d hdi;split at hst
  case isFalse=>cases hst
  rename_i hc;obtain⟨hc1,hc2,hc3⟩:=hc;simp only [aai] at hst;subst hst;obtain⟨pp,mm,q,hus,h1,h2,h3,h4,h5⟩:=uU l us a5 hwid i d hdi;have hwd:d.width=z:=hwid d (aaB hdi);have hil:i<l.length:=(ZQ.1 hdi).1;have hulen:=eZ l us a5 hwid;have hcz:l.length*z≤cap*z:=ZU _ a2;have hiz:(i+1)*z≤l.length*z:=ZU _ hil;rw [aan] at hiz;have hFg:∀b,vY F yy b→b≠g:=fun b hbF e=>by
   subst e;rcases hbF with hbF | hbF
   ·rw [(hI.fl b hbF).2] at a7;cases a7.1
   ·exact hyg b a7.1 hbF
  have hheap:∀(cs':Array Value) b,b≠g→(w.setRow g cs').heap[b]?=w.heap[b]?:=fun cs' b hne=>setRow_other w g b cs' hne
  have hxr:=hx w (fun _ _=>rfl);obtain⟨_,g2,g3⟩:=fV hxr (sb hc3);have hyn:yv.cells.toList.length=n:=by rw [(dC _ _ g2 g3).1,hc1]
  have hone:∀v∈yv.cells.toList,v.oneCell'=true:=fun v hv=>((dC _ _ g2 g3).2.1 v hv).1
  have hoff:o+i*z+f+n≤cs.size:=by omega
  have hrun:=AW (P:=P) (t:=t) (n:=n) (y:=yv) (o:=o+i*z+f) hsz (by simpa using hyn) a3 hoff hone;obtain⟨cs',hcs'⟩:∃x:Array Value,x=(cs.toList.take (o+i*z+f)++yv.cells.toList++cs.toList.drop (o+i*z+f+n)).toArray:=⟨_,rfl⟩
  rw [←hcs'] at hrun;refine⟨g,w.setRow g cs',?_,a7.1,(hI.ol g _ a7.1).2,hheap cs',tU w g cs',rfl,rfl,rfl,by simp,.inr ?_⟩
  ·simp only [aaD,aaM,aaa,aab,ZR]
   exact hrun
  rw [hk];have hmono:∀b,FB F B lv b→FB (vY F yy) B lv b:=iy fun _ h=>.inl h
  have hrl:fh c.K r=lv:=by simp [fh,hk]
  rw [hrl] at hx;have hx':=hx (w.setRow g cs') (fun b hb=>hheap _ b (hFg b hb));obtain⟨_,_,g3'⟩:=fV hx' (sb hc3);have mono:∀{l:List D} {us:List Value},bW w (FB F B lv) l us→bW (w.setRow g cs') (FB (vY F yy) B lv) l us :=
   fun h=>bG hmono (fun b hb=>hheap _ b (hFg b (.inl (gz b hb)))) _ _ h
  have h3':=RepC_mono hmono (fun b hb=>hheap cs' b (hFg b (.inl (gz b hb)))) _ _ h3;obtain⟨r1,r2⟩:=Uf (f:=f) h3' hc3 g3' (by rw [hc1];exact hc2);refine⟨_,rfl,fun e he=>?_,.inr ⟨g,o,cap,pp++(mm.take f++yv.cells.toList++mm.drop (f+n))++q,cs',e,by rw [hy,aaK],by rw [aaK];exact a2,setRow_heap w g cs _ e (0,0) a3,?_,?_,?_,?_,a7.2⟩⟩
  ·rcases List.mem_or_eq_of_mem_set he with he | he
   ·exact hwid e he
   ·rw [he,r2,hwd]
  ·subst hcs'
   simp only [ZZ,ZO,ZN,ZV,aae,hyn];omega
  ·have e1:l.set i (d.ofCells (dL d.cells f x.cells))=l.take i++(d.ofCells (dL d.cells f x.cells))::l.drop (i+1):=List.set_eq_take_append_cons_drop.trans (by rw [if_pos hil])
   rw [e1,ZP];exact(dN _ _ _).2 ⟨_,_,rfl,mono h4,aA.2 ⟨_,_,rfl,by rw [hyn] at r1;exact r1,mono h5⟩⟩
  ·subst hcs'
   rw [UW (by omega),←hus,h1];intro j u hj;have:=RW (o:=o) (cs:=cs.toList) (fun j u hj=>by simpa using a6 j u hj) (k:=i*z+f) (n:=n) (by omega) hyn (by simpa using by omega) j u hj;simpa [aaj] using this
  ·exact(gR (hyg g a7.1)).trans a7.1
 ·rename_i n' lv io hk
  obtain⟨g,hy,rfl⟩:=hr;obtain⟨l,us,g',e,hd,a1,a2,a3,a4,a5,a6⟩:=hI.box hk hb;rw [hy] at a1;simp at a1;subst a1;rw [hd] at hst;simp only [stD] at hst;split at hst
  case isFalse=>cases hst
  rename_i hc;obtain⟨hc1,hc2,hc3⟩:=hc;simp only [aai] at hst;subst hst;have hFg:∀b,vY F yy b→b≠g:=fun b hbF e=>by
   subst e;rcases hbF with hbF | hbF
   ·rw [(hI.fl b hbF).2] at a6;cases a6.1
   ·exact hyg b a6.1 hbF
  have hheap:∀(cs':Array Value) b,b≠g→(w.setRow g cs').heap[b]?=w.heap[b]?:=fun cs' b hne=>setRow_other w g b cs' hne
  have hxr:=hx w (fun _ _=>rfl);obtain⟨_,g2,g3⟩:=fV hxr (sb hc3);have hyn:yv.cells.toList.length=n:=by rw [(dC _ _ g2 g3).1,hc1]
  have hone:∀v∈yv.cells.toList,v.oneCell'=true:=fun v hv=>((dC _ _ g2 g3).2.1 v hv).1
  have hul:=(dC _ _ a4 a3).1;have hrun:=AW (P:=P) (t:=t) (n:=n) (y:=yv) (o:=f) hsz (by simpa using hyn) a2 (by simp;omega) hone;obtain⟨cs',hcs'⟩:∃x:Array Value,x=(us.toArray.toList.take f++yv.cells.toList++us.toArray.toList.drop (f+n)).toArray:=⟨_,rfl⟩
  rw [←hcs'] at hrun;refine⟨g,w.setRow g cs',?_,a6.1,(hI.ol g _ a6.1).2,hheap cs',tU w g cs',rfl,rfl,rfl,by simp,.inr ?_⟩
  ·simp only [aaD,aaM,aaa,aab,ZR]
   exact hrun
  rw [hk];have hrl:fh c.K r=lv:=by simp [fh,hk]
  rw [hrl] at hx;have hx':=hx (w.setRow g cs') (fun b hb=>hheap _ b (hFg b hb));obtain⟨_,_,g3'⟩:=fV hx' (sb hc3);have a3':=bG (iy (F':=vY F yy) fun _ h=>.inl h) (fun b hb=>hheap cs' b (hFg b (.inl (gz b hb)))) _ _ a3;obtain⟨r1,r2⟩:=Ar a4 hc3 a3' g3' f;rw [hyn] at r1;subst hcs';exact⟨_,_,g,e,rfl,hy,setRow_heap w g _ _ e (0,0) a2,by simpa using r1,r2,by rw [Mw (by omega)];exact a5,(gR (hyg g a6.1)).trans a6.1,a6.2⟩
 ·exact hr.elim
end
end Go.V

namespace Go.V
open Go.RowKit
set_option maxRecDepth 100000
section
variable {P:Program} {c:Cx} {B:Nat} {X:Nat→Prop} {w0:World} {F0 F:Nat→Prop} {O:Nat→Option (Nat × Nat)} {a:Act} {w:World} {δ:List D}
theorem NJ {o:Oper} (hd:o.dst=none) {w':World} {δ':List D} {F':Nat→Prop} {O':Nat→Option (Nat × Nat)} {k:List D→Option Out} {r:Out}
  (hr:(execOp a.eval o).run P w = .ok .skip w') (hI:Inv c B X w0 F0 F' O' a w' δ') (hk:k δ'=some r) (Q:Exit→Act→World→Prop):o.wp P a w (Next c B X w0 F0 k r) Q :=
 Ot hr ⟨F',O',δ',by rw [hd];exact hI,hk⟩
theorem tP {n:Nat} {b p x b':D} (h:stD n b p x=some b'):b ≠ .bad∧x ≠ .bad∧∃i f,p = .ref i f:=by
 unfold stD at h;split at h
 ·refine⟨by simp,?_,_,_,rfl⟩
  rintro rfl;split at h
  ·split at h
   ·rename_i hc
    simp [D.cells,D.single] at hc
   ·cases h
  ·cases h
 ·refine⟨by simp,?_,_,_,rfl⟩
  rintro rfl;split at h
  ·rename_i hc
   simp [D.cells,D.single] at hc
  ·cases h
 ·cases h
theorem RP (hI:Inv c B X w0 F0 F O a w δ) {o:Oper} {t:Nat} {q r:Nat} {x:Operand} (ho:o.op = .store t (.tmp q) x) (hd:o.dst=none) {i:TI} (hi:TOk P t i) {ii f:Nat} (hb:nth δ r ≠ .bad)
  (hr:tw (aq c.K r) (av a r) ii f (av a q)) {y b':D} (hst:stD i.n (nth δ r) (.ref ii f) y=some b') (hy:bf w (FB F B (fh c.K r)) y (a.eval x))
  {k:List D→Option Out} {rr:Out} (hk:k (aj δ ([]++([r]++aY c.K [])) [b'])=some rr) (Q:Exit→Act→World→Prop):o.wp P a w (Next c B X w0 F0 k rr) Q:=by
 obtain⟨g,w',h1,h2,h3,h4,h5,h6,h7,h8,h9,h10⟩:=ES hI (yy:=.nilFunc) hb hr hst (hi.size w) (fun w' hw=>aK (iy fun _ h=>.inl h) (fun b hb=>hw b (.inl (gz b hb))) hy) (fun g _=>by simp [blk]);obtain⟨F',O',hI'⟩:=hI.write (ts:=[]) (y:=.nilFunc) (by simp) (fun b hb=>by simp [blk] at hb) h9 (ky hr) h2 h10 h4 h5 h6 h7 h8 h3;refine NJ hd (w':=w') ?_ hI' hk Q
 simp only [execOp,ho,aaa,cC,h1,ZR,aab]
theorem GF (q r:Nat) (more:List Nat) (k:D→D→List D→Option Out):goP q r (ao δ (app (rdP q r) more)) k=k (nth δ r) (if q=r then .ref 0 0 else nth δ q) (ao δ more):=by
 unfold goP rdP;cases h:aaL q r
 ·have hne:q≠r:=fun e=>by subst e;simp at h
  simp [hne,app,ao]
 ·have:=aZ.1 h
  simp [this,app,ao]
theorem GB {o:Oper} {t:Nat} {q r:Nat} {x:Operand} (ho:o.op = .store t (.tmp q) x) (hd:o.dst=none) {i:TI} (hi:TOk P t i) (hI:Inv c B X w0 F0 F O a w δ)
  (hpl:∀(y b':D),stD i.n (nth δ r) (if q=r then .ref 0 0 else nth δ q) y=some b'→∃ii f,(if q=r then .ref 0 0 else nth δ q)=D.ref ii f∧tw (aq c.K r) (av a r) ii f (av a q))
  {A:Ac} (hA:NI c i q r (fh c.K r) x=some A) {k:List D→Option Out} {rr:Out} (hg:dM c A δ k=some rr) (Q:Exit→Act→World→Prop):o.wp P a w (Next c B X w0 F0 k rr) Q:=by
 have dat:∀(y:D),de w (FB F B (fh c.K r)) y (a.eval x)→stK false i.n (nth δ r) (if q=r then .ref 0 0 else nth δ q) y (fun b=>k (aj δ ([]++([r]++aY c.K [])) [b]))=some rr→o.wp P a w (Next c B X w0 F0 k rr) Q:=by
  intro y hy hk;simp only [stK] at hk;obtain⟨b',h1,h2⟩:=ZE.1 hk;obtain⟨ii,f,h3,h4⟩:=hpl y b' h1;obtain⟨g1,g2,_⟩:=tP h1;rw [h3] at h1;exact RP hI ho hd hi g1 h4 h1 (hy.rep g2) h2 Q
 unfold NI at hA;split at hA
 ·rename_i s
  split at hA
  ·rename_i l hk
   split at hA
   ·rename_i hl
    cases hA;simp only [dM,GF] at hg;exact dat (nth δ s) (iY (bO.1 hl) (hI.dat hk)) hg
   ·rename_i hl h0
    cases hA;simp only [dM,GF,stK,ao,eV] at hg;obtain⟨y,h1,h2⟩:=ZE.1 hg;unfold bq at h1;split at h1
    case isFalse=>cases h1
    rename_i hv;cases h1;refine dat (nth δ s) (.inr (rJ hv ((hI.dat hk).rep ?_))) h2
    intro e;rw [e] at hv;simp [D.isV] at hv
   ·cases hA
  ·rename_i z l hk
   split at hA
   case h_2=>cases hA
   rename_i h1 h2 h3;have hsr:s≠r:=fun e=>by subst e;simp at h3
   rw [bO] at h1 h2;cases hA;simp only [dM,GF,stK,ao,eV] at hg;obtain⟨b',e1,e2⟩:=ZE.1 hg;obtain⟨ii,f,e3,e4⟩:=hpl _ _ e1;obtain⟨g1,g2,_⟩:=tP e1;rw [e3] at e1;have hown:=hI.own hk g2;have hblk:=hown.blk;have hy:∀b,blk (av a s)=some b→B≤b∧∃p,O b=some p∧p.1∈[s]:=fun b hb=>⟨(hblk b hb).1.2 rfl,_,(hblk b hb).1.1,by simp⟩
   have hrep:bf w (FB (vY F (av a s)) B (fh c.K r)) (nth δ s) (av a s):=by
    refine aK (fun b hb=>?_) (fun _ _=>rfl) (lu (hown.own (own':=fun g=>B≤g∧V.blk (av a s)=some g) fun b hb ho=>⟨ho.2 rfl,hb⟩))
    rcases hb with hb | ⟨hb1,hb2⟩
    ·exact mM h2 _ (iy (fun _ h=>.inl h) _ hb)
    ·have hx:vY F (av a s) b:=.inr hb2
     generalize fh c.K r=lv at h1
     match lv,h1 with
     | 1,_=>exact⟨hx,hb1⟩
     | _+2,_=>exact hx
   obtain⟨g,w',h1',h2',h3',h4',h5',h6',h7',h8',h9',h10'⟩:=ES hI (yy:=av a s) (yv:=av a s) g1 e4 e1 (hi.size w) (fun w' hw=>aK (fun _ h=>h) (fun b hb=>hw b (gz b hb)) hrep) (fun g hg hb=>by
    obtain⟨_,p,hp,hp'⟩:=hy g hb;rw [hg] at hp;cases hp;have e:r=s:=by simpa using hp'
    exact hsr e.symm)
   obtain⟨F',O',hI'⟩:=hI.write (ts:=[s]) (y:=av a s) (by simpa using fun e=>hsr e.symm) hy h9' (ky e4) h2' h10' h4' h5' h6' h7' h8' h3';refine NJ hd (w':=w') ?_ hI' e2 Q
   simp only [execOp,ho,aaa,cC,h1',ZR,aab]
  ·cases hA
 ·cases hA
 ·rename_i v
  split at hA
  case h_2=>cases hA
  rename_i hv;cases hA;simp only [dM,GF] at hg;refine dat (yR v) ?_ hg
  have:=hI.opd (x:=.const v) (by simp [eF,hv]);simp only [eF,hv,opD] at this;exact iY (Nat.zero_le _) this
 ·rename_i f
  cases hA;simp only [dM,GF] at hg;refine dat (.clo f []) ?_ hg
  have:=hI.opd (x:=.func f) (by simp [eF]);simp only [eF,opD] at this;exact iY (Nat.zero_le _) this
theorem MZ (hT:okT P c.T=true) {o:Oper} {t:Nat} {p x:Operand} (ho:o.op = .store t p x):iC P c o:=by
 intro A hA B X w0 F0 F O a w δ hI k rr hg Q;simp only [cf,ho] at hA;split at hA
 case h_2=>cases hA
 rename_i hd;have hA0:=aH hA;clear hA;obtain⟨i,hi,hA⟩:=hA0;have hti:=tok hT hi;unfold Tp at hA;split at hA
 case h_2=>cases hA
 rename_i q;split at hA
 ·rename_i n lv io hk
  have hlv:fh c.K q=lv:=by simp [fh,hk]
  rw [←hlv] at hA;refine GB ho hd hti hI (fun y b' hst=>?_) hA hg Q
  rw [if_pos rfl] at hst ⊢;obtain⟨hb,_,_⟩:=tP hst;obtain⟨l,us,g,e,_,a1,_⟩:=hI.box hk hb;refine⟨0,0,rfl,?_⟩
  rw [hk];exact⟨g,a1,a1⟩
 ·rename_i r hk
  refine GB ho hd hti hI (fun y b' hst=>?_) hA hg Q
  by_cases e:q=r
  ·subst e
   obtain⟨hb,_,_⟩:=tP hst;obtain⟨i',f',h1,_⟩:=hI.ref hk hb;rw [h1] at hst;simp [stD] at hst
  ·rw [if_neg e] at hst ⊢
   obtain⟨_,_,ii,f,hp⟩:=tP hst;obtain⟨i',f',h1,h2,h3⟩:=hI.ref hk (by rw [hp];simp);exact⟨i',f',h1,h3⟩
 ·cases hA
end
end Go.V

namespace Go.V
open Go.RowKit
set_option maxRecDepth 100000
section
variable {P:Program} {c:Cx} {B:Nat} {X:Nat→Prop} {w0:World} {F0 F:Nat→Prop} {O:Nat→Option (Nat × Nat)} {a:Act} {w:World} {δ:List D}
theorem HH {F:Nat→Prop} {z n cap t:Nat} {l:List D} {us:List Value} {cs:Array Value} (hr:bW w F l us) (hl:∀d∈l,d.width=z) (hn:l.length=n) (hc:n≤cap) (hs:cap*z≤cs.size) (hu:∀(i:Nat) (u:Value),us[i]?=some u→cs[i]?=some u)
  (hF:∀b,F b→b<w.heap.size):fY (w.alloc (.cells cs t)) F (fun g=>w.heap.size≤g) z (.arr z l) (.slice (some ⟨w.heap.size,0,none⟩) n cap) :=
 ⟨l,rfl,hl,.inr ⟨w.heap.size,0,cap,us,cs,t,by rw [hn],by rw [hn];exact hc,heap_alloc_new w _,by simpa using hs,bG (fun _ h=>h) (fun b hb=>heap_alloc_old w _ (hF b hb)) _ _ hr,by simpa using hu,ZL _⟩⟩
theorem PT {z n:Nat} {l:List D} (h:eA z n l=true):(∀d∈l,d.width=z)∧∀d∈l,d ≠ .bad∧∀m,d ≠ .tup m:=by
 unfold eA at h;rw [List.all_eq_true] at h;refine⟨fun d hd=>?_,fun d hd=>⟨fun e=>?_,fun m e=>?_⟩⟩
 ·have:=h d hd
  simp only [aak,beq_iff_eq] at this;exact this.1.1
 ·have:=h d hd
  subst e;simp [D.single] at this
 ·have:=h d hd
  subst e;simp [D.single] at this
theorem CW {G:Nat→Prop}:∀(ds:List D) (ys:List Value),AN w G ds ys→(∀d∈ds,d ≠ .bad∧∀m,d ≠ .tup m)→bW w G ds (ys.flatMap fun y=>y.cells.toList)
 | [],[],_,_=>aW.2 rfl
 | d::ds,y::ys,h,hb=>aA.2 ⟨_,_,rfl,(fV (h.1.rep (hb d (by simp)).1) (hb d (by simp)).2).1,CW ds ys h.2 fun e he=>hb e (by simp [he])⟩
 | [],_::_,h,_=>h.elim
 | _::_,[],h,_=>h.elim
theorem MO (ρ:Operand→Value):∀(parts:List (Nat × Operand)) (k n:Nat),OX k parts n=true→n=k+parts.length∧∀(j:Nat) (p:Nat × Operand),parts[j]?=some p→p.1=k+j
 | [],k,n,h=>by
  simp only [OX] at h;exact⟨(aZ.1 h).symm,by simp⟩
 | (i,x)::ps,k,n,h=>by
  simp only [OX] at h;split at h
  case h_2=>cases h
  rename_i hi;rw [aZ] at hi;obtain⟨h1,h2⟩:=MO ρ ps (k+1) n h;refine⟨by simp;omega,fun j p hj=>?_⟩
  cases j with
  | zero=>simp at hj;subst hj;simp [hi]
  | succ j=>rw [h2 j p (by simpa using hj)];omega
theorem Kf {z:Nat}:∀(parts:List (Nat × Value)) (k:Nat) (us:List Value),(∀(j:Nat) (p:Nat × Value),parts[j]?=some p→p.1=k+j∧p.2.cells.size=z)→(k+parts.length)*z≤us.length →
  aaA (fun i=>some (i*z,z)) us.toArray parts=some (us.take (k*z)++(parts.flatMap fun p=>p.2.cells.toList)++us.drop ((k+parts.length)*z)).toArray
 | [],k,us,_,_=>by simp [aaA]
 | (i,v)::ps,k,us,h,hl=>by
  obtain⟨h1,h2⟩:=h 0 (i,v) rfl;simp only [aav] at h1 h2;simp only [List.length_cons] at hl;have hkz:(k+(ps.length+1))*z=k*z+z+ps.length*z:=by rw [aap,aan];omega
  rw [hkz] at hl;have hvl:v.cells.toList.length=z:=by simpa using h2
  have hfs:=EZ v.cells.toList (k*z) 0 us (by rw [hvl];omega);simp only [aav,hvl] at hfs;have ih:=Kf ps (k+1) (us.take (k*z)++v.cells.toList++us.drop (k*z+z)) (fun j p hj=>by
   obtain⟨g1,g2⟩:=h (j+1) p (by simpa using hj);exact⟨by omega,g2⟩) (by
   simp only [ZO,ZN,ZV,hvl];rw [show k+1+ps.length=k+(ps.length+1) from by omega,hkz];omega)
  simp only [aaA,h1,h2];rw [if_neg (by simp;omega)];have e1:(v.cells.zipIdx.foldl (fun cs (c,j)=>cs.setIfInBounds (k*z+j) c) us.toArray)=(us.take (k*z)++v.cells.toList++us.drop (k*z+z)).toArray:=by
   rw [←hfs];rw [←Array.foldl_toList];simp
  rw [e1,ih];have l1:(us.take (k*z)).length=k*z:=by rw [ZN];omega
  have l2:(us.take (k*z)++v.cells.toList).length=(k+1)*z:=by rw [ZO,l1,hvl,aan]
  have t1:(us.take (k*z)++v.cells.toList++us.drop (k*z+z)).take ((k+1)*z)=us.take (k*z)++v.cells.toList:=by rw [←l2];exact List.take_left
  have t2:(us.take (k*z)++v.cells.toList++us.drop (k*z+z)).drop ((k+1+ps.length)*z)=us.drop ((k+(ps.length+1))*z):=by
   rw [aap,←l2,aar,List.drop_drop];congr 1
   rw [hkz]
  rw [t1,t2];simp
theorem Cp (hT:okT P c.T=true) {o:Oper} {t n:Nat} {parts:Array (Nat × Operand)} (ho:o.op = .buildSlice t n parts):iC P c o:=by
 intro A hA B X w0 F0 F O a w δ hI k r hg Q;simp only [cf,ho] at hA;have hA0:=aH hA;clear hA;obtain⟨i,hi,hA⟩:=hA0;have hA0:=aH hA;clear hA;obtain⟨e,he,hA⟩:=hA0;have hti:=tok hT hi;have hte:=tok hT he;split at hA
 case h_2=>cases hA
 rename_i hsl;obtain⟨hu,_,hez,_,y,hy,hys,_⟩:=nK hti hsl;unfold VH at hA;simp only at hA;split at hA
 ·cases hA
 rename_i d hd;split at hA
 case h_2=>cases hA
 rename_i h1 h2 h3 h4;rw [bO] at h2 h4;cases hA;simp only [dM] at hg;rw [cj] at hg;obtain⟨z,hz,hk⟩:=ZE.1 hg;unfold ay at hz;split at hz
 case isFalse=>cases hz
 rename_i hok;cases hz;obtain⟨hw1,hb1⟩:=PT hok;have hxs:(qC (fun p=>p.2) parts.toList).map a.eval=(parts.toList.map fun p=>(p.1,a.eval p.2)).map (·.2):=by rw [vt];simp [Function.comp_def]
 have hbs:AN w (FB F B (lB c.K (qC (fun p=>p.2) parts.toList))) ((qC (fun p=>p.2) parts.toList).map (opD δ)) ((qC (fun p=>p.2) parts.toList).map a.eval) :=
  BG _ fun x hx=>iY (Gv _ x hx) (hI.opd (kq h4 x hx))
 have hrl:=CW _ _ hbs hb1;obtain⟨hn,hix⟩:=MO a.eval parts.toList 0 n h1;simp only [aal] at hn hix;have hsz:∀(j:Nat) (p:Nat × Value),(parts.toList.map fun p=>(p.1,a.eval p.2))[j]?=some p→p.1=0+j∧p.2.cells.size=i.ez:=by
  intro j p hj;rw [List.getElem?_map] at hj;obtain⟨q,hq,rfl⟩:=ZY.1 hj;refine⟨by rw [hix j q hq,aal],?_⟩
  have hmem:q.2∈qC (fun p=>p.2) parts.toList:=by rw [vt];exact aaE (aaB hq)
  have hrb:=hI.opd (kq h4 _ hmem);have hdm:opD δ q.2∈(qC (fun p=>p.2) parts.toList).map (opD δ):=aaE hmem;have hc:=sC (fV (hrb.rep (hb1 _ hdm).1) (hb1 _ hdm).2).1;rw [hw1 _ hdm] at hc;simpa using hc
 obtain⟨y',zv,k1,k2,k3,_⟩:=hte.info;rw [hy] at k1;cases k1;generalize hus:((Array.range (n*i.ez)).map (fun j=>(if n*i.ez=0 then(#[]:Array Value) else zv.cells)[j % (if n*i.ez=0 then(#[]:Array Value) else zv.cells).size]!))=us0;have husl:us0.size=n*i.ez:=by rw [←hus];simp
 have hfill:=Kf (z:=i.ez) (parts.toList.map fun p=>(p.1,a.eval p.2)) 0 us0.toList hsz (by simp [husl,hn]);have hdrop:us0.toList.drop ((0+(parts.toList.map fun p=>(p.1,a.eval p.2)).length)*i.ez)=[]:=List.drop_eq_nil_of_le (by simp [husl,hn]);rw [hdrop] at hfill;simp only [Nat.zero_mul,List.take_zero,aay,ZJ,aac] at hfill;have hfl:((parts.toList.map fun p=>(p.1,a.eval p.2)).flatMap fun p=>p.2.cells.toList)=((qC (fun p=>p.2) parts.toList).map a.eval).flatMap fun y=>y.cells.toList:=by
  rw [vt];simp [List.flatMap_map]
 rw [hfl] at hfill;have hrun:(execOp a.eval o).run P w = .ok (.value (.slice (some ⟨w.heap.size,0,none⟩) n n)) (w.alloc (.cells (((qC (fun p=>p.2) parts.toList).map a.eval).flatMap fun y=>y.cells.toList).toArray i.elem)):=by
  refine dB (s:=aax t n (parts.map fun(i,x)=>(i,a.eval x))) (by simp only [execOp,ho]) ?_
  have hnot:¬(16777216<n*i.ez):=by omega
  by_cases h0:n*i.ez=0
  ·simp only [h0,if_true] at hus
   simp [aax,run_underlying hu,sizeOf,typeInfo,hy,hys,h0];have e0:us0=#[]:=Array.eq_empty_of_size_eq_zero (husl.trans h0);have e1:Array.map (fun _=>(default:Value)) (Array.range 0)=us0:=by rw [e0,Array.range_zero',Array.map_empty]
   rw [e1,hfill];simp [newRow]
  ·simp only [h0,if_false] at hus
   simp [aax,run_underlying hu,sizeOf,typeInfo,hy,hys,h0,hnot,zeroValue,k3];rw [hus,hfill];simp [newRow]
 have hlenE:((qC (fun p=>p.2) parts.toList).map (opD δ)).length=n:=by rw [vt];simp [hn]
 have hlenU:=eZ _ _ hrl hw1;obtain⟨F',O',hI'⟩:=hI.fresh (d:=d) h3 (HH (w:=w) (t:=i.elem) (cap:=n) (cs:=(((qC (fun p=>p.2) parts.toList).map a.eval).flatMap fun y=>y.cells.toList).toArray) hrl hw1 hlenE (ZL _) (by simp only [ZZ,hlenU,hlenE];exact ZL _) (fun j u hu=>by simpa using hu) (fun b hb=>(hI.fl b (gz b hb)).1)) (by simp) (fun b hb=>heap_alloc_old w _ hb) rfl rfl rfl;exact cG hd hrun hI' hk Q
theorem ER {G:Nat→Prop} {d:D} {y:Value} (h:de w G d y):∀{n:Nat},AN w G (ZS n d) (ZS n y)
 | 0=>trivial
 | _+1=>⟨h,ER h⟩
theorem NL {α:Type} {zs:List α} (hz:0<zs.length):∀(m j:Nat) (u:α),((ZS m zs).flatten)[j]?=some u→j<m*zs.length∧zs[j % zs.length]?=some u
 | 0,j,u,h=>by simp at h
 | m+1,j,u,h=>by
  rw [List.replicate_succ,List.flatten_cons] at h;rcases aaw j zs.length with hj | hj
  ·rw [ZK hj] at h
   refine⟨by rw [aan];omega,by rw [Nat.mod_eq_of_lt hj];exact h⟩
  ·rw [ZM hj] at h
   obtain⟨h1,h2⟩:=NL hz m _ u h;refine⟨by rw [aan];omega,?_⟩
   rw [←h2,Nat.mod_eq_sub_mod hj]
theorem Uq {z:Value} {ez n m:Nat} (hz:z.cells.size=ez) (hez:0<ez) (hle:m*ez≤n) {j:Nat} {u:Value} (h:((ZS m z).flatMap fun y=>y.cells.toList)[j]?=some u):(madeCells z.cells n)[j]?=some u:=by
 have e:((ZS m z).flatMap fun y=>y.cells.toList)=(ZS m z.cells.toList).flatten:=by
  rw [List.flatMap_def];simp
 rw [e] at h;obtain⟨h1,h2⟩:=NL (by simpa [hz] using hez) m j u h;have hl:z.cells.toList.length=ez:=by simpa using hz
 rw [hl] at h1 h2;have hjn:j<n:=by omega
 have hlt:j % ez<z.cells.size:=by rw [hz];exact Nat.mod_lt _ hez
 simp only [madeCells,Array.getElem?_map,Array.getElem?_range,hjn,if_true,aaf,hz,aai];rw [Array.getElem!_eq_getD,aas];have:z.cells[j % ez]?=some u:=by simpa using h2
 rw [this];rfl
theorem Em (hT:okT P c.T=true) {o:Oper} {t:Nat} {n m:Operand} (ho:o.op = .makeSlice t n m):iC P c o:=by
 intro A hA B X w0 F0 F O a w δ hI k r hg Q;simp only [cf,ho] at hA;have hA0:=aH hA;clear hA;obtain⟨i,hi,hA⟩:=hA0;have hA0:=aH hA;clear hA;obtain⟨e,he,hA⟩:=hA0;have hti:=tok hT hi;have hte:=tok hT he;split at hA
 case h_2=>cases hA
 rename_i hsl;obtain⟨hu,_,hez,heb,y,hy,hys,hyb⟩:=nK hti hsl;unfold Wo at hA;split at hA
 case h_2=>cases hA
 rename_i d hd hn hm;split at hA
 case h_2=>cases hA
 rename_i hk3;cases hA;simp only [dM] at hg;rw [cj] at hg;obtain⟨z,hz,hk⟩:=ZE.1 hg;simp only [ZG,ZH] at hz;unfold Nj at hz;split at hz
 case h_2=>cases hz
 rename_i k1 l k2 cp e1 e2;split at hz
 case isFalse=>cases hz
 rename_i hc;obtain⟨c1,c2,c3,c4⟩:=hc;cases hz;have hn':=hI.opd (bO.1 hn);have hm':=hI.opd (bO.1 hm);rw [e1] at hn';rw [e2] at hm';obtain⟨hn',_⟩:=br hn';obtain⟨hm',_⟩:=br hm';obtain⟨y',zv,q1,q2,q3,q4,q5⟩:=hte.info;rw [hy] at q1;cases q1;have hrun:(execOp a.eval o).run P w = .ok (.value (.slice (some ⟨w.heap.size,0,none⟩) l.toNat cp.toNat)) (w.alloc (.cells (madeCells zv.cells (cp.toNat*y.size)) i.elem)):=by
  refine dB (s:=Instr.makeSlice t (a.eval n) (a.eval m)) (by simp only [execOp,ho]) ?_
  rw [hn',hm'];exact run_make w t i.elem y zv hu hy q3 k1 k2 l cp c1 c2 (by rw [hyb,Int.mul_comm];omega) (by omega)
 obtain⟨z',hz1,hz2,hz3,hz4⟩:=hte.zero;have hzt:∀m,Dy e ≠ .tup m:=fun m hm=>Rp hz3 hm
 have hzz:z'=zv:=by
  have h1:=hz1 w;simp [zeroValue,typeInfo,hy,q3] at h1;exact h1.symm
 subst hzz;have hzs:z'.cells.size=i.ez:=by rw [hz4,hte.zl,←q2,hys]
 have hwz:(Dy e).width=i.ez:=by
  have:=sC (fV (hz2 w (FB F B 0)).1 hzt).1;rw [←this];simpa using hzs
 have hrl:bW w (FB F B 0) (ZS l.toNat (Dy e)) ((ZS l.toNat z').flatMap fun y=>y.cells.toList) :=
  CW _ _ (ER (.inr (hz2 w _).1)) fun d hd=>by rw [(List.mem_replicate.1 hd).2];exact⟨VY (hz2 w (FB F B 0)).1,hzt⟩
 obtain⟨F',O',hI'⟩:=hI.fresh (d:=d) hk3 (HH (w:=w) (t:=i.elem) (n:=l.toNat) (cap:=cp.toNat) (cs:=madeCells z'.cells (cp.toNat*y.size)) hrl (fun d hd=>by rw [(List.mem_replicate.1 hd).2];exact hwz) (by simp) (by omega) (by rw [size_madeCells,hys];exact ZL _) (fun j u hu=>Uq (by simpa using hzs) hez (by rw [hys];exact ZU _ (by omega)) hu) (fun b hb=>(hI.fl b (gz b hb)).1)) (by simp) (fun b hb=>heap_alloc_old w _ hb) rfl rfl rfl;exact cG hd hrun hI' hk Q
end
end Go.V

namespace Go.V
open Go.RowKit
set_option maxRecDepth 100000
section
variable {P:Program} {c:Cx} {B:Nat} {X:Nat→Prop} {w0:World} {F0 F:Nat→Prop} {O:Nat→Option (Nat × Nat)} {a:Act} {w:World} {δ:List D}
theorem jz:∀(x y:List Nat),ao δ (x++y)=ao δ x++ao δ y
 | [],_=>rfl
 | s::x,y=>by simp [ao,jz x y]
theorem oX:∀(x:List Nat),(ao δ x).length=x.length
 | []=>rfl
 | _::x=>by simp [ao,oX x]
def FV (w:World) (G:Nat→Prop) (d:D) (y:Value):Prop :=
 ∀z l,d = .arr z l→∃A cc us,y = .slice A l.length cc∧bW w G l us∧(∀e∈l,e.width=z)∧(l≠[]→∃b o,A=some ⟨b,o,none⟩∧dQ w b o us)
theorem Tq {G:Nat→Prop} {d:D} {y:Value} (h:de w G d y):FV w G d y:=by
 intro z l e;subst e;obtain⟨A,cc,us,h1,_,h3,h4,h5⟩:=rf (h.rep (by simp));exact⟨A,cc,us,h1,h3,h4,fun hne=>by
  obtain⟨b,o,e,_,hc⟩:=h5 hne;exact⟨b,o,e,hc⟩⟩
theorem NK {G own:Nat→Prop} {z:Nat} {d:D} {y:Value} (h:fY w G own z d y):FV w G d y:=by
 intro z' l e;subst e;obtain⟨l',e,h2,h3⟩:=h;cases e;rcases h3 with ⟨rfl,rfl⟩ | ⟨g,o,cc,us,cs,e,rfl,a2,a3,a4,a5,a6,a7⟩
 ·exact⟨none,0,[],rfl,aW.2 rfl,h2,fun h=>absurd rfl h⟩
 ·exact⟨_,cc,us,rfl,a5,h2,fun _=>⟨g,o,rfl,qY a3 a6⟩⟩
theorem Gx (hI:Inv c B X w0 F0 F O a w δ) {x:Operand} {rd more:List Nat} {lv:Nat} {q:Option Nat} (h:oB c.K x=some (rd,lv,q)) {kk:D→Option Out} {rr:Out} (hk:kV rd (ao δ (app rd more)) kk=some rr) :
  ∃dx,kk dx=some rr∧sU (jt rd) (ao δ (app rd more))=ao δ more∧FV w (FB F B lv) dx (a.eval x) ∧
   ((q=none∧(rd=[]→x = .const (.slice none 0 0)∧dx = .arr 0 []))∨∃r z io,q=some r∧rd≠[]∧dx=nth δ r∧a.eval x=av a r∧aq c.K r = .own z lv io):=by
 rw [gp] at hk ⊢;have hdrop:sU (jt rd) (ao δ (rd++more))=ao δ more:=by
  rw [AO,lV,jz,←oX (δ:=δ) rd,List.drop_left]
 unfold oB at h;split at h
 ·rename_i t
  split at h
  ·rename_i l hkt
   simp at h;obtain⟨rfl,rfl,rfl⟩:=h;simp only [kV,ao,aaz] at hk;exact⟨_,hk,hdrop,Tq (hI.dat hkt),.inl ⟨rfl,fun e=>by cases e⟩⟩
  ·rename_i z l io hkt
   simp at h;obtain⟨rfl,rfl,rfl⟩:=h;simp only [kV,ao,aaz] at hk;refine⟨_,hk,hdrop,?_,.inr ⟨t,z,io,rfl,by simp,rfl,rfl,hkt⟩⟩
   by_cases hb:nth δ t = .bad
   ·intro z' l' e
    rw [hb] at e;cases e
   ·exact NK (hI.own hkt hb)
  ·rename_i s hkt
   split at h
   case h_2=>cases h
   rename_i z l io hks;simp at h;obtain⟨rfl,rfl,rfl⟩:=h;simp only [kV,eM,ao,aaJ,aay,nth] at hk;obtain⟨y,h1,h2⟩:=ZE.1 hk;obtain⟨hb,rfl⟩:=bN h1;obtain⟨g1,g2,g3,g4⟩:=hI.via hkt hb;refine⟨_,h2,hdrop,?_,.inr ⟨s,z,io,rfl,by simp,rfl,g1,hks⟩⟩
   rw [cC,g1];exact NK (hI.own hks g3)
  ·cases h
 ·simp at h
  obtain⟨rfl,rfl,rfl⟩:=h;simp only [kV] at hk;refine⟨_,hk,hdrop,?_,.inl ⟨rfl,fun _=>⟨rfl,rfl⟩⟩⟩
  intro z l e;cases e;exact⟨none,0,[],rfl,aW.2 rfl,by simp,fun h=>absurd rfl h⟩
 ·cases h
theorem KP {w w':World} {G G':Nat→Prop}:∀(l:List D) (us:List Value),l.all D.isV=true→bW w G l us→bW w' G' l us
 | [],us,_,h=>by rw [aW] at h ⊢;exact h
 | d::l,us,hv,h=>by
  obtain⟨v1,v2,rfl,h1,h2⟩:=aA.1 h;simp only [List.all_cons,aak] at hv;refine aA.2 ⟨v1,v2,rfl,?_,KP l v2 hv.2 h2⟩
  cases d with
  | v x=>simpa only [RepC] using h1
  | agg m =>
   simp only [RepC] at h1 ⊢;exact⟨zW m v1 hv.1 h1.1,h1.2⟩
  | _=>simp [D.isV] at hv
theorem Eo {t ty e:Nat} {i:TypeInfo} (ht:P.underlying t=some (.slice e)) (hi:P.info? e=some i) {g o et sLen sCap m cx:Nat} {cur:Array Value} (hg:w.heap[g]?=some (.cells cur et (0,0))) {A:Option Addr} {news:List Value}
  (hx:(aaG i.size m (.slice A m cx)).run P w = .ok news.toArray w) (h1:∀u∈news,u.oneCell'=true) (hroom:sLen+m≤sCap) (hfit:o+sLen*i.size+news.length≤cur.size) :
  (aag #[t,t] ty #[.slice (some ⟨g,o,none⟩) sLen sCap,.slice A m cx]).run P w =
   .ok (.slice (some ⟨g,o,none⟩) (sLen+m) sCap) (w.setRow g (cur.toList.take (o+sLen*i.size)++news++cur.toList.drop (o+sLen*i.size+news.length)).toArray):=by
 have hst:=run_storeCells_at P g (o+sLen*i.size) et news 0 cur w hg (by simpa using hfit) h1;simp only [aav] at hst;simp [aag,run_underlying ht,sizeOf,typeInfo,hi,aaN,hroom,hx,aah,hst]
theorem RL {G:Nat→Prop} {z m cx:Nat} {l:List D} {us:List Value} {A:Option Addr} (hl:l.length=m) (hr:bW w G l us) (hw:∀e∈l,e.width=z) (hc:l≠[]→∃b o,A=some ⟨b,o,none⟩∧dQ w b o us) :
  (aaG z m (.slice A m cx)).run P w = .ok us.toArray w:=by
 have hul:=eZ l us hr hw;cases A with
 | none =>
  have:l=[]:=by
   by_cases h:l=[]
   ·exact h
   ·obtain⟨b,o,e,_⟩:=hc h
    cases e
  subst this;rw [aW] at hr;subst hr;exact run_firstCells_none w z m m cx
 | some ad =>
  refine run_firstCells_some w z m ad m cx us (by rw [hul,hl]) (fun j v hj=>?_)
  obtain⟨b,o,e,hcell⟩:=hc (by
   intro e;subst e;rw [aW] at hr;subst hr;simp at hj)
  cases e;rw [aah];exact hcell j v hj
theorem NS {G:Nat→Prop}:∀(l:List D) (us:List Value),bW w G l us→∀u∈us,u.oneCell'=true
 | [],us,h=>by rw [aW] at h;subst h;simp
 | d::l,us,h=>by
  obtain⟨v1,v2,rfl,h1,h2⟩:=aA.1 h;intro u hu;rcases aam.1 hu with hu | hu
  ·rcases nX h1 with ⟨m,rfl⟩ | hs
   ·simp only [RepC] at h1
    exact((dC _ _ h1.2 h1.1).2.1 u hu).1
   ·obtain⟨y,rfl,_,hy⟩:=oM _ _ hs h1
    simp at hu;subst hu;exact hy
  ·exact NS l v2 h2 u hu
theorem Rh {us ws cs:List Value} {o k:Nat} (hu:us.length=k) (h:∀(j:Nat) (u:Value),us[j]?=some u→cs[o+j]?=some u) (hc:o+k+ws.length≤cs.length) :
  ∀(j:Nat) (u:Value),(us++ws)[j]?=some u→(cs.take (o+k)++ws++cs.drop (o+k+ws.length))[o+j]?=some u:=by
 intro j u hj;have l1:(cs.take (o+k)).length=o+k:=by rw [ZN];omega
 rcases aaw j us.length with hju | hju
 ·rw [ZK hju] at hj
  rw [ZP,ZK (by omega),ZW (by omega)];exact h j u hj
 ·rw [ZM hju] at hj
  have hjw:=(ZQ.1 hj).1;rw [ZP,ZM (by omega),l1,ZK (by omega)];rw [←hj];congr 1
  omega
theorem yu {t ty:Nat} {i e:TI} (hi:TOk P t i) (hsl:nf i=true) (he:TOk P i.elem e) {G own:Nat→Prop} (hG:∀b,G b→b<w.heap.size∧¬own b) {l m:List D} {ys yx:Value} (hs:fY w G own i.ez (.arr i.ez l) ys) (hx:FV w G (.arr i.ez m) yx)
  (hb:(l.length+m.length)*i.eb≤140737488355328) (hb2:l.length+m.length≤1152921504606846976) :
  ∃v w',(aag #[t,t] ty #[ys,yx]).run P w = .ok v w'∧fY w' G (fun g=>own g∨w.heap.size≤g) i.ez (.arr i.ez (l++m)) v∧w.heap.size≤w'.heap.size∧(∀b,b<w.heap.size→¬own b→w'.heap[b]?=w.heap[b]?) ∧
   w'.os=w.os∧w'.tape=w.tape∧w'.output=w.output:=by
 obtain⟨hu,_,hez,heb,y,hy,hys,hyb⟩:=nK hi hsl;obtain⟨y',zv,q1,q2,q3,q4,q5⟩:=he.info;rw [hy] at q1;cases q1;have hzs:zv.cells.size=i.ez:=by
  obtain⟨z',hz1,_,_,hz4⟩:=he.zero;have h1:=hz1 w;simp [zeroValue,typeInfo,hy,q3] at h1;subst h1;rw [hz4,he.zl,←q2,hys]
 obtain⟨A,cx,ws,hyx,hm,hmw,hmc⟩:=hx _ _ rfl;subst hyx;have hwl:=eZ m ws hm hmw;obtain⟨l',el,hlw,hrest⟩:=hs;cases el;have grow:∀(us:List Value) (old cap':Nat),us.length=l.length*i.ez→bW w G l us→fY (w.drew.alloc (.cells (us.toArray++ws.toArray++Builtin.zeroCells zv.cells (grownCap w (l.length+m.length) old i.elem - (l.length+m.length))) i.elem)) G (fun g=>own g∨w.heap.size≤g) i.ez (.arr i.ez (l++m)) (.slice (some ⟨w.heap.size,0,none⟩) (l.length+m.length) (grownCap w (l.length+m.length) old i.elem)):=by
  intro us old _ hul hr;have hge:=grownCap_ge w (l.length+m.length) old i.elem;have:=HH (w:=w.drew) (F:=G) (z:=i.ez) (n:=l.length+m.length) (cap:=grownCap w (l.length+m.length) old i.elem) (t:=i.elem) (l:=l++m) (us:=us++ws) (cs:=us.toArray++ws.toArray++Builtin.zeroCells zv.cells (grownCap w (l.length+m.length) old i.elem - (l.length+m.length)))
   ((dN _ _ _).2 ⟨_,_,rfl,bG (w:=w) (w':=w.drew) (fun _ h=>h) (fun _ _=>rfl) _ _ hr,bG (w:=w) (w':=w.drew) (fun _ h=>h) (fun _ _=>rfl) _ _ hm⟩) (fun d hd=>(aam.1 hd).elim (hlw d) (hmw d)) (by simp) hge (by
    simp only [Array.size_append,ZZ,size_zeroCells,hzs,hul,hwl,←aap];exact ZU _ (by omega)) (fun j u hj=>by
    rw [Array.getElem?_append_left]
    ·simpa using hj
    ·simp only [Array.size_append,ZZ]
     have:=(ZQ.1 hj).1;simpa using this) (fun b hb=>(hG b hb).1)
  exact this.own fun _ _ h=>.inr h
 have hfirst:=RL (P:=P) (w:=w) (m:=m.length) (cx:=cx) rfl hm hmw hmc;have hb':(l.length+m.length)*y.bytes≤140737488355328:=by rw [hyb];exact hb
 rcases hrest with ⟨rfl,rfl⟩ | ⟨g,o,cc,us,cs,et,rfl,a2,a3,a4,a5,a6,a7⟩
 ·by_cases hm0:m=[]
  ·subst hm0
   refine⟨.slice none 0 0,w,?_,⟨[],rfl,by simp,.inl ⟨rfl,rfl⟩⟩,ZL _,fun _ _ _=>rfl,rfl,rfl,rfl⟩
   have hws:ws=[]:=aW.1 hm;subst hws;simp only [aao] at hfirst;rw [←hys] at hfirst;simp [aag,run_underlying hu,sizeOf,typeInfo,hy,aaN,hfirst]
  ·obtain⟨b,o,rfl,hcell⟩:=hmc hm0
   have hmp:0<m.length:=List.length_pos_iff.2 hm0;simp only [aao,aal] at hb' hb2;have hr:=run_append_nil (P:=P) w t ty i.elem y zv hu hy q3 ⟨b,o,none⟩ m.length cx ws (by rw [hwl,hys]) (fun j v hj=>by rw [aah];exact hcell j v hj) hmp (by omega) (by omega);have hg:=grow [] 0 0 (by simp) (aW.2 rfl);simp only [aao,aal,aay,Array.empty_append] at hg;exact⟨_,_,hr,hg,by simp,fun b hb _=>heap_alloc_old w.drew _ hb,rfl,rfl,rfl⟩
 ·have hul:=eZ l us a5 hlw
  by_cases hroom:l.length+m.length≤cc
  ·have hlen:(l.length+m.length)*i.ez≤cc*i.ez:=ZU _ hroom
   rw [aap] at hlen;have hr:=Eo (P:=P) (ty:=ty) (o:=o) hu hy a3 (A:=A) (news:=ws) (sLen:=l.length) (sCap:=cc) (by rw [hys];exact hfirst) (NS _ _ hm) hroom (by rw [hys,hwl];omega);have hFg:∀b,G b→b≠g:=fun b hb e=>(hG b hb).2 (e ▸ a7)
   refine⟨_,_,hr,?_,by rw [tU];exact ZL _,fun b _ hb=>setRow_other w g b _ fun e=>hb (e ▸ a7),rfl,rfl,rfl⟩
   refine⟨l++m,rfl,fun d hd=>(aam.1 hd).elim (hlw d) (hmw d),.inr ⟨g,o,cc,us++ws,_,et,by rw [ZO],by rw [ZO];exact hroom,setRow_heap w g cs _ et (0,0) a3,?_,?_,?_,.inl a7⟩⟩
   ·simp only [ZZ,ZO,ZN,ZV,aae,hys,hwl]
    omega
   ·exact(dN _ _ _).2 ⟨_,_,rfl,bG (fun _ h=>h) (fun b hb=>setRow_other w g b _ (hFg b hb)) _ _ a5,bG (fun _ h=>h) (fun b hb=>setRow_other w g b _ (hFg b hb)) _ _ hm⟩
   ·intro j u hj
    rw [hys];simp only [List.getElem?_toArray];exact Rh (o:=o) (ws:=ws) (cs:=cs.toList) (k:=l.length*i.ez) hul (fun j u hj=>by simpa using a6 j u hj) (by
     rw [hwl];have e:cs.toList.length=cs.size:=aae;rw [e];clear hb hb' hfirst hmc;omega) j u hj
  ·have hm0:m≠[]:=fun e=>hroom (by subst e;simpa using a2)
   obtain⟨b,o',rfl,hcell⟩:=hmc hm0;have hr:=run_append_grow (P:=P) w t ty i.elem y zv hu hy q3 ⟨g,o,none⟩ l.length cc us (by rw [hul,hys]) (fun j v hj=>by rw [aah];exact qY a3 a6 j v hj) ⟨b,o',none⟩ m.length cx ws (by rw [hwl,hys]) (fun j v hj=>by rw [aah];exact hcell j v hj) (by omega) (by omega) (growslice_fits (by omega) hb');exact⟨_,_,hr,grow us cc 0 hul a5,by simp,fun b hb _=>heap_alloc_old w.drew _ hb,rfl,rfl,rfl⟩
theorem MC (hT:okT P c.T=true) {o:Oper} {s x:Operand} {t:Nat} {q:Call} (ho:o.op = .call q) (hcl:q.callee = .builtin .append) (hargs:q.args.toList=[s,x]) (hty:q.argTypes.toList=[t,t]) {i e:TI} (hi:dr c.T t=some i) (he:dr c.T i.elem=some e) (hsl:nf i=true)
  {A:Ac} (hA:Uu c o.dst i s x=some A) (hI:Inv c B X w0 F0 F O a w δ) {k:List D→Option Out} {r:Out} (hg:dM c A δ k=some r) (Q:Exit→Act→World→Prop):o.wp P a w (Next c B X w0 F0 k r) Q:=by
 have hti:=tok hT hi;have hte:=tok hT he;have e1:q.args=#[s,x]:=by rw [←aac (xs:=q.args),hargs]
 have e2:q.argTypes=#[t,t]:=by rw [←aac (xs:=q.argTypes),hty]
 have hex:∀v w',(aag #[t,t] o.type #[a.eval s,a.eval x]).run P w = .ok v w'→(execOp a.eval o).run P w = .ok (.value v) w':=by
  intro v w' h;simp [execOp,ho,resolve,hcl,invoke,builtin,e1,e2,h]
 have appD_some:∀{a b y:D},bY i.ez i.eb a b=some y→∃l m,(∃z,a = .arr z l∧(z=i.ez∨l=[]))∧(∃z,b = .arr z m∧(z=i.ez∨m=[]))∧y = .arr i.ez (l++m)∧(l.length+m.length)*i.eb≤140737488355328∧l.length+m.length≤1152921504606846976:=by
  intro a b y h;unfold bY at h;split at h
  ·split at h
   ·rename_i hc
    cases h;exact⟨_,_,⟨_,rfl,hc.1⟩,⟨_,rfl,hc.2.1⟩,rfl,hc.2.2.1,hc.2.2.2⟩
   ·cases h
  ·cases h
 have srcz:∀{G:Nat→Prop} {z:Nat} {m:List D} {y:Value},(z=i.ez∨m=[])→FV w G (.arr z m) y→FV w G (.arr i.ez m) y:=by
  intro G z m y hz h;rcases hz with rfl | rfl
  ·exact h
  ·intro z' l e
   cases e;obtain⟨A,cc,us,h1,h2,_,_⟩:=h _ _ rfl;exact⟨A,cc,us,h1,h2,by simp,fun h=>absurd rfl h⟩
 have srcle:∀{lv lv':Nat} {d:D} {y:Value},lv≤lv'→FV w (FB F B lv) d y→FV w (FB F B lv') d y:=by
  intro lv lv' d y hle h z l e;obtain⟨A,cc,us,h1,h2,h3,h4⟩:=h z l e;exact⟨A,cc,us,h1,bG (mM hle) (fun _ _=>rfl) _ _ h2,h3,h4⟩
 have main:∀(d:Nat) (rs rx:List Nat) (ls lx:Nat) (os ox:Option Nat) (chk:Bool) (A:Ac),o.dst=some d→oB c.K s=some (rs,ls,os)→oB c.K x=some (rx,lx,ox)→jr c.K d i.ez (max ls (if chk then 0 else lx))=true→Sa c d i chk rs rx os=some A→dM c A δ k=some r→o.wp P a w (Next c B X w0 F0 k r) Q:=by
  intro d rs rx ls lx os ox chk A hd hs hx hnew hA hg;have chkK_some:∀{db:D} {kk:D→Option Out},FV w (FB F B lx) db (a.eval x)→PU chk db kk=some r→FV w (FB F B (if chk then 0 else lx)) db (a.eval x)∧kk db=some r:=by
   intro db kk h hk;cases chk
   ·exact⟨h,hk⟩
   ·simp only [PU] at hk
    obtain⟨y,h1,h2⟩:=ZE.1 hk;unfold dq at h1;split at h1
    case h_2=>cases h1
    split at h1
    case isFalse=>cases h1
    rename_i z l hv;cases h1;refine⟨?_,h2⟩
    intro z' l' e;cases e;obtain⟨A,cc,us,g1,g2,g3,g4⟩:=h _ _ rfl;exact⟨A,cc,us,g1,KP _ _ hv g2,g3,g4⟩
  unfold Sa at hA;split at hA
  ·rename_i ra
   split at hA
   case h_2=>cases hA
   rename_i hgv hze;rw [aZ] at hze;cases hA;simp only [dM] at hg;obtain⟨da,hg,hdr,hsa,hqa⟩:=Gx hI hs hg;rw [hdr] at hg;have hg':kV rx (ao δ (app rx [])) (fun b=>PU chk b fun b=>(bY i.ez i.eb da b).bind fun y=>k (aj δ ([d,ra]++([]++aY c.K [d,ra])) [y,D.bad]))=some r:=by rw [gp,ZJ];exact hg
   obtain⟨db,hg,_,hsb,_⟩:=Gx hI hx hg';obtain⟨hsb,hg⟩:=chkK_some hsb hg;obtain⟨y,hy,hk⟩:=ZE.1 hg;obtain⟨l,m,⟨z1,rfl,hz1⟩,⟨z2,rfl,hz2⟩,rfl,b1,b2⟩:=appD_some hy;rcases hqa with ⟨h,_⟩ | ⟨r',z,io,h,_,hda,hav,hkr⟩
   ·cases h
   cases h;have hb:nth δ ra ≠ .bad:=by rw [←hda];simp
   obtain⟨z',lv',hkr'⟩:=Az hgv;rw [hkr] at hkr';simp only [Kd.own.injEq] at hkr';obtain⟨rfl,rfl,rfl⟩:=hkr';have hown:=hI.own hkr hb;rw [←hda] at hown;simp only [YO,hkr] at hze;subst hze;have hz:fY w (FB F B (max ls (if chk then 0 else lx))) (fun g=>O g=some (ra,0)∧B≤g) i.ez (.arr i.ez l) (av a ra):=by
    obtain⟨l',el,h2,h3⟩:=hown;cases el;rcases h3 with ⟨h3,rfl⟩ | ⟨g,o',cc,us,cs,et,h3,a2,a3,a4,a5,a6,a7⟩
    ·exact⟨[],rfl,by simp,.inl ⟨h3,rfl⟩⟩
    ·exact⟨l,rfl,h2,.inr ⟨g,o',cc,us,cs,et,h3,a2,a3,a4,bG (mM (Nat.le_max_left _ _)) (fun _ _=>rfl) _ _ a5,a6,a7.1,a7.2 rfl⟩⟩
   obtain⟨v,w',h1,h2,h3,h4,h5,h6,h7⟩:=yu (P:=P) (ty:=o.type) hti hsl hte (fun b hb=>⟨(hI.fl b (gz b hb)).1,fun h=>by have:=(hI.fl b (gz b hb)).2;rw [h.1] at this;cases this⟩) hz (srcz hz2 (srcle (aat ls _) hsb)) b1 b2;obtain⟨F',O',hI'⟩:=hI.install (ts:=[ra]) (d:=d) hnew (h2.own fun b _ hb=>by
    rcases hb with hb | hb
    ·exact⟨hb.2,.inr ⟨_,hb.1,by simp⟩⟩
    ·exact⟨aau hI.bb hb,.inl hb⟩) h3 (fun b hb hp=>h4 b hb fun hown=>hp _ hown.1 (by simp)) h5 h6 h7
   exact cG hd (hex v w' (by rw [hav];exact h1)) hI' hk Q
  ·split at hA
   case h_2=>cases hA
   rename_i _ _ _;cases hA;simp only [dM] at hg;have hg':kV rx (ao δ (app rx [])) (fun b=>PU chk b fun b=>(bY i.ez i.eb (.arr 0 []) b).bind fun y=>k (aj δ ([d]++([]++aY c.K [d])) [y]))=some r:=by rw [gp,ZJ];exact hg
   obtain⟨db,hg,_,hsb,_⟩:=Gx hI hx hg';obtain⟨hsb,hg⟩:=chkK_some hsb hg;obtain⟨y,hy,hk⟩:=ZE.1 hg;obtain⟨l,m,⟨z1,e1',hz1⟩,⟨z2,rfl,hz2⟩,rfl,b1,b2⟩:=appD_some hy;cases e1';have hsv:a.eval s = .slice none 0 0:=by
    unfold oB at hs;split at hs
    ·split at hs<;>first | (simp at hs;done) | (split at hs<;>simp at hs)
    ·rfl
    ·cases hs
   obtain⟨v,w',h1,h2,h3,h4,h5,h6,h7⟩:=yu (P:=P) (ty:=o.type) (G:=FB F B (max ls (if chk then 0 else lx))) (own:=fun _=>False) hti hsl hte (fun b hb=>⟨(hI.fl b (gz b hb)).1,id⟩) FX (srcz hz2 (srcle (aat ls _) hsb)) b1 b2;obtain⟨F',O',hI'⟩:=hI.fresh (d:=d) hnew (h2.own fun b _ hb=>hb.resolve_left id) h3 (fun b hb=>h4 b hb id) h5 h6 h7;exact cG hd (hex v w' (by rw [hsv];exact h1)) hI' hk Q
 unfold Uu at hA;split at hA
 case h_2=>cases hA
 rename_i d rs ls os rx lx ox hd hs hx;split at hA
 ·rename_i h1 h2
  rw [vJ] at h2;exact main d rs rx ls lx os ox false A hd hs hx h2 hA hg
 ·rename_i h1 h2 h3
  exact main d rs rx ls lx os ox true A hd hs hx (by simpa using h3) hA hg
 ·cases hA
end
end Go.V

namespace Go.V
open Go.RowKit
set_option maxRecDepth 100000
section
variable {P:Program} {c:Cx} {B:Nat} {X:Nat→Prop} {w0:World} {F0 F:Nat→Prop} {O:Nat→Option (Nat × Nat)} {a:Act} {w:World} {δ:List D}
theorem Oa {G own:Nat→Prop} {z:Nat} {l:List D} {y:Value} (h:fY w G own z (.arr z l) y) :
  ∃A cc,y = .slice A l.length cc∧l.length≤cc∧∀p q,p≤q→q≤l.length→fY w G own z (.arr z ((l.take q).drop p)) (sliced A p q cc z):=by
 obtain⟨l',e,h2,h3⟩:=h;cases e;rcases h3 with ⟨rfl,rfl⟩ | ⟨g,o,cc,us,cs,et,rfl,a2,a3,a4,a5,a6,a7⟩
 ·refine⟨none,0,rfl,ZL _,fun p q hp hq=>?_⟩
  simp only [aao,Nat.le_zero] at hq;subst hq;simp only [Nat.le_zero] at hp;subst hp;exact⟨[],by simp,by simp,.inl ⟨by simp [sliced],rfl⟩⟩
 ·refine⟨_,cc,rfl,a2,fun p q hp hq=>?_⟩
  have hul:=eZ l us a5 h2;have hlen:((l.take q).drop p).length=q - p:=by rw [ZV,ZN];omega
  have hcz:p*z+(cc - p)*z=cc*z:=by rw [←aap];congr 1;omega
  obtain⟨t1,_⟩:=nU l us a5 h2 q;obtain⟨_,t2⟩:=nU (l.take q) (us.take (q*z)) t1 (fun d hd=>h2 d (aaC hd)) p;refine⟨_,rfl,fun d hd=>h2 d (aaC (List.mem_of_mem_drop hd)),.inr ?_⟩
  by_cases hc:cc=p
  ·refine⟨g,o,cc - p,_,cs,et,by simp only [sliced,hc,if_true,hlen],by rw [hlen];omega,a3,by omega,t2,fun j u hj=>?_,a7⟩
   exfalso;have h1:=(ZQ.1 hj).1;have hqp:q=p:=by omega
   subst hqp;simp only [ZV,ZN] at h1;omega
  ·refine⟨g,o+p*z,cc - p,_,cs,et,by simp only [sliced,hc,if_false,hlen,aaf,aah],by rw [hlen];omega,a3,by omega,t2,fun j u hj=>?_,a7⟩
   rw [aaq] at hj;rw [aaj];refine a6 _ u ?_
   have h1:=(ZQ.1 hj).1;rw [ZN] at h1;rw [ZW (by omega)] at hj;exact hj
theorem tf (hT:okT P c.T=true) {o:Oper} {t q:Nat} {lo hi:Option Operand} (ho:o.op = .slice t (.tmp q) lo hi none) {i:TI} (hi':dr c.T t=some i) (hsl:i.str=false→nf i=true)
  {A:Ac} (hA:Kp c o.dst i (.tmp q) lo hi=some A) (hI:Inv c B X w0 F0 F O a w δ) {k:List D→Option Out} {r:Out} (hg:dM c A δ k=some r) (Q:Exit→Act→World→Prop):o.wp P a w (Next c B X w0 F0 k r) Q:=by
 have hti:=tok hT hi';unfold Kp at hA;split at hA
 case h_2=>cases hA
 rename_i d rd lv ra hd hs;split at hA
 case h_2=>cases hA
 rename_i hgv hnew hstr hst;have hlo:de w (FB F B (eF c.K (ur lo))) (opD δ (ur lo)) (a.eval (ur lo)):=hI.opd (bO.1 hstr);have hloV:=GK hlo;obtain⟨hu,_,hez,_,y,hy,hz,_⟩:=nK hti (hsl hst);have he:P.elem t=i.elem:=by simp [Program.elem,hu]
 have own:∀(dx:D) (l:List D) (z':Nat),dx = .arr z' l→z'=i.ez→((some ra=none∧(rd=[]→(Operand.tmp q) = .const (.slice none 0 0)∧dx = .arr 0 []))∨∃r z io,some ra=some r∧rd≠[]∧dx=nth δ r∧a.eval (.tmp q)=av a r∧aq c.K r = .own z lv io) →
   fY w (FB F B lv) (fun g=>O g=some (ra,0)∧B≤g) i.ez (.arr i.ez l) (a.eval (.tmp q)):=by
  intro dx l z' hdx hzz hq;subst hzz;rcases hq with ⟨h,_⟩ | ⟨r',zz,io,h,_,hda,hav,hkr⟩
  ·cases h
  cases h;obtain⟨z'',lv',hkr'⟩:=Az hgv;rw [hkr] at hkr';simp only [Kd.own.injEq] at hkr';obtain⟨rfl,rfl,rfl⟩:=hkr';have hb:nth δ ra ≠ .bad:=by rw [←hda,hdx];simp
  have hown:=hI.own hkr hb;rw [←hda,hdx] at hown;rw [hav];have hzz:i.ez=zz:=by
   obtain⟨l',e,_⟩:=hown;simp only [D.arr.injEq] at e;exact e.1
  rw [←hzz] at hown;exact hown.own fun _ _ h=>⟨h.1,h.2 rfl⟩
 split at hA
 ·rename_i h
  split at hA
  case h_2=>cases hA
  rename_i hh;cases hA;simp only [dM] at hg;obtain⟨dx,hg,hdr,hsrcR,hq⟩:=Gx hI hs hg;clear hsrcR;rw [hdr] at hg;obtain⟨yy,hyy,hk'⟩:=ZE.1 hg;rw [cj (δ:=δ) [ur lo,h]] at hyy;simp only [ZG,ZH,BA] at hyy;have hhb:=hI.opd (bO.1 hh);unfold eT at hyy;split at hyy
  ·rename_i z' l k1 p k2 q' _ e1 e2
   split at hyy
   case isFalse=>cases hyy
   rename_i hc;obtain⟨rfl,c1,c2,c3⟩:=hc;cases hyy;rw [e1] at hloV;rw [e2] at hhb;obtain⟨hhv,_⟩:=br hhb;have hown:=own _ l _ rfl rfl hq;obtain⟨A,cc,hyv,hlc,hcut⟩:=Oa hown;obtain⟨F',O',hI'⟩:=hI.pass (d:=d) hnew (hcut p.toNat q'.toNat (by omega) (by omega));refine cG hd (dB (s:=aaO t (av a q) (lo.map a.eval) (some (a.eval h)) none) (by simp only [execOp,ho,cC,aaf,ZX]) ?_) hI' hk' Q
   rw [cC] at hyv;rw [hyv,hhv];rcases vu hloV with e | ⟨e,rfl⟩
   ·rw [e,run_sliceAt_slice w t _ _ _ _ (by rw [he];exact hu),run_slice_lh w t A _ cc (by rw [he];exact hu) k1 k2 p q' c1 c2 (by omega),he,eS hy,hz]
    rfl
   ·rw [e,run_sliceAt_slice w t _ _ _ _ (by rw [he];exact hu),run_slice_h w t A _ cc (by rw [he];exact hu) k2 q' (by omega) (by omega),he,eS hy,hz]
    rfl
  ·rename_i h _ _;cases h
  ·cases hyy
 ·cases hA
  simp only [dM] at hg;obtain⟨dx,hg,hdr,hsrcR,hq⟩:=Gx hI hs hg;clear hsrcR;rw [hdr] at hg;obtain⟨yy,hyy,hk'⟩:=ZE.1 hg;rw [cj (δ:=δ) [ur lo]] at hyy;simp only [ZG,ZH,fQ] at hyy;unfold fw at hyy;split at hyy
  ·rename_i z' l k1 p _ e1
   split at hyy
   case isFalse=>cases hyy
   rename_i hc;obtain⟨rfl,c1,c2⟩:=hc;cases hyy;rw [e1] at hloV;have hown:=own _ l _ rfl rfl hq;obtain⟨A,cc,hyv,hlc,hcut⟩:=Oa hown;have hcc:=hcut p.toNat l.length (by omega) (ZL _);rw [List.take_length] at hcc;obtain⟨F',O',hI'⟩:=hI.pass (d:=d) hnew hcc;refine cG hd (dB (s:=aaO t (av a q) (lo.map a.eval) none none) (by simp only [execOp,ho,cC,ZX]) ?_) hI' hk' Q
   rw [cC] at hyv;rw [hyv];rcases vu hloV with e | ⟨e,rfl⟩
   ·rw [e,run_sliceAt_slice w t _ _ _ _ (by rw [he];exact hu),run_slice_l w t A _ cc (by rw [he];exact hu) k1 p c1 c2,he,eS hy,hz]
    rfl
   ·rw [e,run_sliceAt_slice w t _ _ _ _ (by rw [he];exact hu),run_slice_all w t A _ cc (by rw [he];exact hu),he,eS hy,hz]
    rfl
  ·rename_i h _;cases h
  ·cases hyy
theorem Inv.tup (h:Inv c B X w0 F0 F O a w δ) {s:Nat} {ms:List Kd} (hk:aq c.K s = .tup ms) (hb:nth δ s ≠ .bad):∃l vs,nth δ s = .tup l∧av a s = .tuple vs∧∀i,Cj B F O w (s,i+1) (aq ms i) (nth l i) (vs.getD i undef):=by
 have h0:=(h.slot s).resolve_left hb;rw [hk] at h0;exact h0
theorem Sj {G:Nat→Prop} {d:D} (hd:∀l,d ≠ .tup l):¬bf w G d undef:=by
 intro h;cases d
 case tup l=>exact hd l rfl
 all_goals simp [bf,RepC,undef] at h
 ·obtain⟨rfl,h⟩:=h
  simp [flat] at h
 ·obtain⟨rfl,A,n,c,h⟩:=h
  cases h
theorem Pt {l:List D} {i j:Nat} {x:D} (h:j≠i):nth (l.set i x) j=nth l j:=by
 rw [fp,fp,ZT,ZT,List.getElem?_set_ne (Ne.symm h)]
theorem NC {l:List D} {i:Nat}:nth (l.set i .bad) i = .bad:=by
 rw [fp,ZT,List.getElem?_set_self'];cases l[i]?<;>rfl
theorem Inv.take (h:Inv c B X w0 F0 F O a w δ) {d t i z lv:Nat} {ms:List Kd} {m:List D} {vs:Array Value} {y:Value} (hkt:aq c.K t = .tup ms) (ht:nth δ t = .tup m) (htv:av a t = .tuple vs) (hl:∀j,Cj B F O w (t,j+1) (aq ms j) (nth m j) (vs.getD j undef))
  (hk:jr c.K d z lv=true) (hv:fY w (FB F B lv) (fun g=>B≤g∧O g=some (t,i+1)) z (nth m i) y) :
  ∃F' O',Inv c B X w0 F0 F' O' (a.put (some d) y) w (aj δ ([d,t]++([]++aY c.K [d,t])) [nth m i,.tup (m.set i .bad)]):=by
 have hdt:d≠t:=by
  intro e;subst e;rcases sH hk with ⟨l,hk,_⟩ | ⟨l,hk,_⟩<;>rw [hk] at hkt<;>cases hkt
 have hblk:∀b,V.blk y=some b→(B≤b∧O b=some (t,i+1))∧b<w.heap.size:=hv.blk;have hFb:∀b,F b→V.blk y≠some b:=fun b hb e=>by
  obtain⟨⟨_,h1⟩,_⟩:=hblk b e;rw [(h.fl b hb).2] at h1;cases h1
 have hoS:∀(x':Option (Nat × Nat)) b p,O b=some p→p≠(t,i+1)→fH O y x' b=some p:=fun x' b p hp hm=>by
  rw [gR]
  ·exact hp
  ·intro e
   rw [(hblk b e).1.2] at hp;exact hm (by cases hp;rfl)
 have hoO:∀(x':Option (Nat × Nat)) b p,O b=some p→p.1∉[d,t]++[]→fH O y x' b=some p∧w.heap[b]?=w.heap[b]?:=fun x' b p hp hm=>⟨hoS x' b p hp fun e=>hm (by simp [e]),rfl⟩
 have hol:∀(x':Option (Nat × Nat)) b p,fH O y x' b=some p→b<w.heap.size∧(B≤b∨X b):=fun x' b p hp=>by
  by_cases e:V.blk y=some b
  ·exact⟨(hblk b e).2,.inl (hblk b e).1.1⟩
  ·rw [gR e] at hp
   exact h.ol b p hp
 have hav:∀s,s∉[d,t]→av (a.put (some d) y) s=av a s:=fun s hs=>cQ fun e=>hs (by simp [e])
 have hnd:nth (aj δ [d,t] [nth m i,.tup (m.set i .bad)]) d=if d<δ.length then nth m i else .bad:=by
  simp only [aj];rw [cK _ _ _ _ hdt,bH]
 have hnt:nth (aj δ [d,t] [nth m i,.tup (m.set i .bad)]) t=if t<δ.length then .tup (m.set i .bad) else .bad:=by
  simp only [aj];rw [bH,gi]
 have hslot:∀(F':Nat→Prop) (x':Option (Nat × Nat)),(∀b,F b→F' b)→xZ c.K B F' (fH O y x') (a.put (some d) y) w t (nth (aj δ [d,t] [nth m i,.tup (m.set i .bad)]) t):=by
  intro F' x' hF;rw [hnt];split
  case isFalse=>exact .inl rfl
  refine .inr ?_
  rw [hkt,cQ hdt.symm];refine⟨_,vs,rfl,htv,fun j=>?_⟩
  by_cases hj:j=i
  ·subst hj
   rw [NC];exact .inl rfl
  ·rw [Pt hj]
   exact vI hF (fun _ _=>rfl) (fun g hg=>⟨hoS x' g _ hg (by simpa using hj),rfl⟩) (hl j)
 rcases sH hk with ⟨l,hk,hle⟩ | ⟨l,hk,h1l,hle⟩
 ·refine⟨F,fH O y (some (d,0)),h.many rfl gy rfl hav (by simp) (fun s hs=>?_) (fun _ hb=>hb) (fun _ _=>rfl) (hoO _) (fun b hb=>⟨(h.fl b hb).1,(gR (hFb b hb)).trans (h.fl b hb).2⟩) (hol _) (fun _ hb=>.inl hb) (ZL _) rfl rfl rfl (fun _ _ _=>rfl)⟩
  rw [ZJ] at hs ⊢;have hs':s=d∨s=t:=by simpa using hs
  rcases hs' with rfl | rfl
  ·rw [hnd]
   split
   case isFalse=>exact .inl rfl
   rename_i hd;refine .inr ?_
   rw [hk,dT (by rw [h.la,←h.ld];exact hd)];exact .inr (dv (mM hle) (fun _ _=>rfl) (fun g hg ho=>⟨⟨Al hg,fun _=>ho.1⟩,rfl⟩) hv)
  ·exact hslot F _ fun _ h=>h
 ·refine⟨vY F y,fH O y none,h.many rfl gy rfl hav (by simp) (fun s hs=>?_) (fun _ hb=>.inl hb) (fun _ _=>rfl) (hoO _) (fun b hb=>?_) (hol _) (fun b hb=>?_) (ZL _) rfl rfl rfl (fun _ _ _=>rfl)⟩
  ·rw [ZJ] at hs ⊢
   have hs':s=d∨s=t:=by simpa using hs
   rcases hs' with rfl | rfl
   ·rw [hnd]
    split
    case isFalse=>exact .inl rfl
    rename_i hd;refine .inr ?_
    rw [hk,dT (by rw [h.la,←h.ld];exact hd)];refine .inr ?_
    refine aK (fun b hb=>?_) (fun _ _=>rfl) (lu (hv.own (own':=fun g=>B≤g∧V.blk y=some g) fun b hb ho=>⟨ho.1,hb⟩))
    rcases hb with hb | ⟨hb1,hb2⟩
    ·exact mM hle _ (iy (fun _ h=>.inl h) _ hb)
    ·have hx:vY F y b:=.inr hb2
     match l,h1l with
     | 1,_=>exact⟨hx,hb1⟩
     | _+2,_=>exact hx
   ·exact hslot _ _ fun _ h=>.inl h
  ·rcases hb with hb | hb
   ·exact⟨(h.fl b hb).1,(gR (hFb b hb)).trans (h.fl b hb).2⟩
   ·exact⟨(hblk b hb).2,Al hb⟩
  ·rcases hb with hb | hb
   ·exact .inl hb
   ·exact .inr (hblk b hb).1.1
theorem JU {o:Oper} {x:Operand} {i:Nat} (ho:o.op = .extract x i):iC P c o:=by
 intro A hA B X w0 F0 F O a w δ hI k r hg Q;simp only [cf,ho] at hA;unfold WO at hA;split at hA
 case h_2=>cases hA
 rename_i d t hd;split at hA
 case h_2=>cases hA
 rename_i ms hk;have getI:∀{y:D},aF (nth δ t) i=some y→∃l vs,nth δ t = .tup l∧av a t = .tuple vs∧nth l i=y∧(y ≠ .bad∧∀m,y ≠ .tup m)∧(∀j,Cj B F O w (t,j+1) (aq ms j) (nth l j) (vs.getD j undef)):=by
  intro y hy;have hb:nth δ t ≠ .bad:=by
   intro e;rw [e] at hy;simp [aF] at hy
  obtain⟨l,vs,h1,h2,h3⟩:=hI.tup hk hb;rw [h1] at hy;simp only [aF] at hy;split at hy
  ·cases hy
  ·cases hy
  ·rename_i hne hne2
   refine⟨l,vs,h1,h2,?_,⟨fun e=>?_,fun m e=>?_⟩,h3⟩
   ·rw [fp,ZT,hy];rfl
   ·subst e
    exact hne hy
   ·subst e
    exact hne2 m hy
 have run:∀{vs:Array Value},av a t = .tuple vs→vs.getD i undef≠undef→(execOp a.eval o).run P w = .ok (.value (vs.getD i undef)) w:=by
  intro vs hv hne;refine dB (s:=Instr.extract (av a t) i) (by simp only [execOp,ho,cC]) ?_
  rw [hv];rw [aas] at hne ⊢;cases h:vs[i]? with
  | none=>rw [h] at hne;simp at hne
  | some v=>simp [Instr.extract,h]
 split at hA
 ·rename_i lv hm
  split at hA
  case h_2=>cases hA
  rename_i l hkd;split at hA
  case h_2=>cases hA
  rename_i hle;rw [bO] at hle;cases hA;refine cP hI hd hg (fun z hz=>?_) Q
  simp only [ao,nth] at hz;obtain⟨m,vs,h1,h2,h3,h4,h5⟩:=getI hz;have h6:=(h5 i).resolve_left (by rw [h3];exact h4.1);rw [hm,h3] at h6;refine⟨_,run h2 (fun e=>?_),.inr ?_⟩
  ·rw [e] at h6
   exact Sj h4.2 h6
  ·rw [hkd]
   exact aK (mM hle) (fun _ _=>rfl) h6
 ·rename_i z lv hm
  split at hA
  case h_2=>cases hA
  rename_i hnew;cases hA;simp only [dM,ao,eV] at hg;obtain⟨y,hy,hk'⟩:=ZE.1 hg;obtain⟨m,vs,h1,h2,h3,h4,h5⟩:=getI hy;have h6:=(h5 i).resolve_left (by rw [h3];exact h4.1);rw [hm,h3] at h6;have hne:vs.getD i undef≠undef:=by
   intro e;rw [e] at h6;obtain⟨l',e1,_,h7⟩:=h6;rcases h7 with ⟨h7,_⟩ | ⟨_,_,_,_,_,_,h7,_⟩<;>simp [undef] at h7
  have hrun:=run h2 hne;rw [←h3] at h6 hk';obtain⟨F',O',hI'⟩:=hI.take (i:=i) hk h1 h2 h5 hnew (h6.own fun _ _ ho=>⟨ho.2 rfl,ho.1⟩);refine cG hd hrun hI' ?_ Q
  rw [h1] at hk';exact hk'
 ·cases hA
end
end Go.V

end
