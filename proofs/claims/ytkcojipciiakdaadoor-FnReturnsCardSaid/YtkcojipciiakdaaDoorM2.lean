/-
  A part of the proof: contracts and plain forms of functions beneath the statement, made small by a program (names shortened, what is not needed left out).
-/
import Derived.Test.YtkcojipciiakdaaDoorRows
import Derived.Test.YtkcojipciiakdaaDoorTie
import Derived.Test.YtkcojipciiakdaaDoorCards
import Derived.Test.YtkcojipciiakdaaDoorM1
open Option renaming bind_eq_some_iff → JI, map_eq_some_iff → JJ, bind_assoc → Kk, map_some → Kn, map_none → Ko
open List.cons renaming injEq → JK
open List renaming map_cons → JL, map_nil → JM, getElem?_append_left → JN, getElem?_append_right → JO, append_nil → JP, length_take → JQ, length_append → JT, append_assoc → JU, getElem?_eq_some_iff → JV, replicate → JW, getD_eq_getElem?_getD → JX, length_drop → JZ, getElem?_take_of_lt → Ka, size_toArray → Ke, mem_append → Kr, length_nil → Kt, getElem?_drop → Kv, drop_length_add_append → Kw, nil_append → KE, mem_of_getElem? → KH, mem_of_mem_take → KI, mem_map_of_mem → KK, cons_append → KO, length_set → KQ
open Nat renaming le_refl → JR, lt_of_lt_of_le → JS, mul_le_mul_right → JY, beq → Kj, add_assoc → Kl, zero_add → Km, succ_mul → Ks, add_mul → Ku, le_trans → KA, add_zero → KB, lt_or_ge → KC, zero_le → KF, beq_refl → KN, le_max_right → KP
open Option.some renaming injEq → Kb
open Go.Result renaming andThen_ok → Kc
open Array renaming toArray_toList → Kf, length_toList → Kg, getD_eq_getD_getElem? → Kx, getElem?_eq_some_iff → Ky
open Go.Builtin renaming append_ → Kh, firstCells → KM, lenOf → KS
open Go.Addr renaming add_lit → Ki
open Go.Sem renaming run_bind → Kp, run_pure → Kq
open Bool renaming and_eq_true → Kz
open Go.Instr renaming buildSlice → KD, fill → KG, storeAt → KJ, box → KL, sureAddr → KR, sliceAt → KT
set_option maxRecDepth 100000
set_option linter.unusedSimpArgs false
set_option linter.unusedVariables false
noncomputable section
namespace Go.V
open Go.RowKit
set_option maxRecDepth 100000
section
variable {P:Program} {c:Cx} {B:Nat} {X:Nat→Prop} {w0:World} {F0 F:Nat→Prop} {O:Nat→Option (Nat × Nat)} {a:Act} {w:World} {δ:List D}
theorem lp {cs:Array Value} {e:Nat} {g o:Nat} {us:List Value} (hg:w.heap[g]?=some (.cells cs e (0,0))) (h:∀(i:Nat) (u:Value),us[i]?=some u→cs[o+i]?=some u):cE w g o us:=fun i u hu=>by
 simp [World.cell?,hg,h i u hu]
theorem HO (hI:Inv c B X w0 F0 F O a w δ) {q i f:Nat} {p:Value} (hb:nth δ q ≠ .bad) (hr:mN (an c.K q) (av a q) i f p) {l:List D} (hl:atD (nth δ q) (.ref i f)=some l) :
  ∃g o us,p = .pointer (some ⟨g,o,none⟩)∧bs w (FB F B (eU c.K q)) l us∧l.all D.single=true∧cE w g o us:=by
 unfold mN at hr;split at hr
 ·rename_i z lv io hk
  obtain⟨g,o,n,cap,hy,rfl⟩:=hr;obtain⟨m,hd,hw,hrest⟩:=hI.own hk hb;rw [hd] at hl;simp only [atD] at hl;obtain⟨d,hdi,rfl⟩:=JJ.1 hl;rcases hrest with ⟨e,_⟩ | ⟨g',o',c',us,cs,e,a1,a2,a3,a4,a5,a6,a7⟩
  ·rw [hy] at e;cases e
  rw [hy] at a1;simp at a1;obtain⟨⟨rfl,rfl⟩,rfl,rfl⟩:=a1;obtain⟨p',mm,q',rfl,h1,h2,h3,_⟩:=nN m us a5 hw i d hdi;have hcell:=lp (o:=o) a3 a6;have hrr:bs w (FB F B lv) d.cells mm∧d.cells.all D.single=true:=by
   rcases jR h3 with ⟨l,rfl⟩ | hs
   ·simpa only [RepC,D.cells] using h3
   ·rw [(dE hs).2]
    exact⟨aw.2 ⟨mm,[],by simp,h3,aJ.2 rfl⟩,by simp [hs]⟩
  refine⟨g,_,mm.drop f,rfl,?_,lg hrr.2 f,?_⟩
  ·simp only [eU,hk]
   exact(jb _ _ hrr.2 hrr.1 f).2
  ·rw [←h1]
   exact(cE.part hcell).drop f
 ·rename_i n lv io hk
  obtain⟨g,hy,rfl⟩:=hr;obtain⟨m,us,g',e,hd,a1,a2,a3,a4,a5,a6⟩:=hI.box hk hb;rw [hy] at a1;simp at a1;subst a1;rw [hd] at hl;simp only [atD,Kb] at hl;subst hl;have hcell:cE w g 0 us:=lp a2 (fun i u hu=>by simpa using hu);refine⟨g,f,us.drop f,rfl,?_,lg a4 f,by simpa using hcell.drop f⟩
  simp only [eU,hk];exact(jb _ _ a4 a3 f).2
 ·exact hr.elim
theorem tt {o:Oper} {rd:List Nat} {d lv l:Nat} {h:List D→Option D} {A:Ac} (hk:an c.K d = .dat l) (hd:o.dst=some d) (hA:GR (fun h=>Ac.one rd d h) (xH lv l h)=some A)
  (hI:Inv c B X w0 F0 F O a w δ) {k:List D→Option Out} {r:Out} (hg:dq c A δ k=some r)
  (hrun:∀z,h (ah δ rd)=some z→∃y,(execOp a.eval o).run P w = .ok (.value y) w∧bY w (FB F B lv) z y) (Q:Exit→Act→World→Prop):o.wp P a w (Next c B X w0 F0 k r) Q:=by
 unfold xH at hA;split at hA
 ·rename_i hle
  rw [bI] at hle;cases hA;refine cf hI hd hg (fun z hz=>?_) Q
  obtain⟨y,h1,h2⟩:=hrun z hz;exact⟨y,h1,(fv hle h2).imp id fun h=>by rw [hk];exact h⟩
 ·split at hA
  case h_2=>cases hA
  cases hA;refine cf hI hd hg (fun z hz=>?_) Q
  obtain⟨z',hz',hc⟩:=JI.1 hz;obtain⟨y,h1,h2⟩:=hrun z' hz';unfold aV at hc;split at hc
  case isFalse=>cases hc
  rename_i hv;cases hc;refine⟨y,h1,.inr ?_⟩
  rw [hk];refine lL hv (h2.rep ?_)
  intro e;subst e;simp [D.isV] at hv
theorem AZ (hT:okT P c.T=true) {o:Oper} {t:Nat} {p:Operand} (ho:o.op = .load t p):gN P c o:=by
 intro A hA B X w0 F0 F O a w δ hI k r hg Q;simp only [cj,ho] at hA;have hA0:=ay hA;clear hA;obtain⟨i,hi,hA⟩:=hA0;have hti:=tok hT hi;unfold Gs at hA;split at hA
 case h_2=>cases hA
 rename_i q;have hex:execOp a.eval o=(do pure (.value (←Instr.loadAt t (av a q)))):=by simp only [execOp,ho,cv]
 split at hA
 ·rename_i lv hk
  refine bg hA hI hg (fun hx z hz=>?_) Q
  obtain⟨d1,e,hz⟩:=bB hz;simp only [JL,JM,JK,and_true] at e;subst e;have hx':=hx (.tmp q) (by simp);simp only [dA,hk] at hx';obtain⟨y,hy,hr⟩:=Hw hti hx'.2 hz;exact⟨y,dg hex hy,.inr hr⟩
 ·rename_i n lv io hk
  split at hA
  ·cases hA
  rename_i d hd;split at hA
  case h_2=>cases hA
  rename_i l hkd;refine tt hkd hd hA hI hg (fun z hz=>?_) Q
  simp only [ah,nth] at hz;by_cases hb:nth δ q = .bad
  ·rw [hb] at hz;simp [bF] at hz
  obtain⟨m,us,g,e,hd',a1,a2,a3,a4,a5,a6⟩:=hI.box hk hb;rw [hd'] at hz;simp only [bF,List.drop_zero] at hz;have hcell:cE w g 0 us:=lp a2 (fun i u hu=>by simpa using hu);obtain⟨y,hy,hr⟩:=qX (P:=P) hti a3 a4 hcell hz;exact⟨y,dg hex (by rw [a1];exact hy),.inr hr⟩
 ·rename_i s hk
  split at hA
  ·cases hA
  rename_i d hd;split at hA
  case h_2=>cases hA
  rename_i l hkd;refine tt hkd hd hA hI hg (fun z hz=>?_) Q
  simp only [ah,nth] at hz;obtain⟨m,hm,hz⟩:=JI.1 hz;have hb:nth δ q ≠ .bad:=by
   intro e;rw [e] at hm;unfold atD at hm;split at hm<;>first | (cases hm;done) | (rename_i h;cases h)
  obtain⟨ii,f,h1,h2,h3⟩:=hI.ref hk hb;rw [h1] at hm;obtain⟨g,o',us,e,g1,g2,g3⟩:=HO hI h2 h3 hm;obtain⟨y,hy,hr⟩:=qX (P:=P) hti g1 g2 g3 hz;exact⟨y,dg hex (by rw [e];exact hy),.inr hr⟩
 ·cases hA
theorem tB (hT:okT P c.T=true) {o:Oper} {t f:Nat} {p:Operand} (ho:o.op = .fieldAddr t p f):gN P c o:=by
 intro A hA B X w0 F0 F O a w δ hI k r hg Q;simp only [cj,ho] at hA;have hA0:=ay hA;clear hA;obtain⟨i,hi,hA⟩:=hA0;have hti:=tok hT hi;unfold GJ at hA;split at hA
 case h_2=>cases hA
 rename_i q off ti hf;have hf0:=mq hf;clear hf;obtain⟨ty,hf,_⟩:=hf0;have hex:execOp a.eval o=(do pure (.value (←Instr.fieldAt t (av a q) f))):=by simp only [execOp,ho,cv]
 split at hA
 ·rename_i lv hk
  refine bg hA hI hg (fun hx z hz=>?_) Q
  obtain⟨d1,e,hz⟩:=bB hz;simp only [JL,JM,JK,and_true] at e;subst e;have hx':=hx (.tmp q) (by simp);simp only [dA,hk] at hx';obtain⟨y,hy,hr⟩:=FV hti hf hx'.2 hz;exact⟨y,dg hex hy,.inr hr⟩
 ·rename_i n lv io hk
  split at hA
  ·cases hA
  rename_i d hd;split at hA
  case h_2=>cases hA
  rename_i r' hkd;split at hA
  case h_2=>cases hA
  rename_i hrq;rw [aL] at hrq;subst hrq;cases hA;refine cf hI hd hg (fun z hz=>?_) Q
  obtain⟨d1,e,hz⟩:=bB hz;simp only [ah,JK,and_true] at e;subst e;obtain⟨hb,rfl⟩:=bC hz;obtain⟨m,us,g,e,hd',a1,a2,a3,a4,a5,a6⟩:=hI.box hk hb;refine⟨_,dg hex (by rw [a1];exact nu hti hf g 0),.inr ?_⟩
  rw [hkd];refine⟨0,off,rfl,hb,?_⟩
  rw [hk];exact⟨g,a1,by rw [Km]⟩
 ·rename_i s hk
  split at hA
  ·cases hA
  rename_i d hd;split at hA
  case h_2=>cases hA
  rename_i r' hkd;split at hA
  case h_2=>cases hA
  rename_i hrq;rw [aL] at hrq;subst hrq;cases hA;refine cf hI hd hg (fun z hz=>?_) Q
  obtain⟨d1,e,hz⟩:=bB hz;simp only [ah,JK,and_true] at e;subst e;unfold cQ at hz;split at hz
  case h_2=>cases hz
  rename_i ii ff hd1;simp at hz;subst hz;obtain⟨i',f',h1,h2,h3⟩:=hI.ref hk (by rw [hd1];simp);rw [hd1] at h1;cases h1;have key:∃g o,av a q = .pointer (some ⟨g,o,none⟩)∧mN (an c.K s) (av a s) ii (ff+off) (.pointer (some ⟨g,o+off,none⟩)):=by
   unfold mN at h3 ⊢;split at h3
   ·obtain⟨g,o,n,cc,e1,e2⟩:=h3
    exact⟨g,_,e2,g,o,n,cc,e1,by rw [Kl]⟩
   ·obtain⟨g,e1,e2⟩:=h3
    exact⟨g,_,e2,g,e1,rfl⟩
   ·exact h3.elim
  obtain⟨g,o',e1,e2⟩:=key;refine⟨_,dg hex (by rw [e1];exact nu hti hf g o'),.inr ?_⟩
  rw [hkd];exact⟨ii,ff+off,rfl,h2,e2⟩
 ·cases hA
theorem tL (hT:okT P c.T=true) {o:Oper} {t:Nat} {x ix:Operand} (ho:o.op = .indexAddr t x ix):gN P c o:=by
 intro A hA B X w0 F0 F O a w δ hI k r hg Q;simp only [cj,ho] at hA;have hA0:=ay hA;clear hA;obtain⟨i,hi,hA⟩:=hA0;have hti:=tok hT hi;unfold Hh at hA;split at hA
 case h_2=>cases hA
 rename_i q hix;have hix':dA c.K ix≤2:=bI.1 hix;have hj:=hI.opd hix';have hex:execOp a.eval o=(do pure (.value (←Instr.indexAt t (av a q) (a.eval ix)))):=by simp only [execOp,ho,cv]
 have own:∀(s:Nat) (z:D) (d:Nat),ku c.K s=true→nth δ s ≠ .bad→av a q=av a s→an c.K d = .ref s→jB i=true→tV i.ez (nth δ s) (opD δ ix)=some z→∃y,(execOp a.eval o).run P w = .ok (.value y) w∧xj c.K B F a w δ d z y:=by
  intro s z d hown hb hav hkd hsl hz;obtain⟨zz,lv,io,hks⟩:∃zz lv io,an c.K s = .own zz lv io:=by
   unfold ku at hown;split at hown
   ·exact⟨_,_,_,‹_›⟩
   ·cases hown
  obtain⟨l,hd,hw,hrest⟩:=hI.own hks hb;rw [hd] at hz;unfold tV at hz;split at hz
  case h_2=>cases hz
  rename_i z' l' k' n e1 e2;cases e1;split at hz
  case isFalse=>cases hz
  rename_i hc;obtain⟨rfl,h0,h1⟩:=hc;simp at hz;subst hz;rw [e2] at hj;obtain⟨hj,_⟩:=ba hj;rcases hrest with ⟨_,e⟩ | ⟨g,o',cc,us,cs,e,a1,a2,a3,a4,a5,a6,a7⟩
  ·subst e;simp at h1;omega
  refine⟨_,dg hex (by rw [hav,a1,hj];exact tb hti hsl g o' _ cc k' n h0 h1),.inr ?_⟩
  rw [hkd];refine⟨n.toNat,0,rfl,hb,?_⟩
  rw [hks];exact⟨g,o',_,cc,a1,rfl⟩
 split at hA
 ·rename_i hsl
  split at hA
  ·rename_i lv hk
   refine bg hA hI hg (fun hx z hz=>?_) Q
   obtain⟨d1,d2,e,hz⟩:=gm hz;simp only [JL,JM,JK,and_true] at e;obtain⟨rfl,rfl⟩:=e;obtain⟨l,hl,rfl⟩:=JJ.1 hz;have hx':=hx (.tmp q) (by simp);simp only [dA,hk] at hx';obtain⟨y,hy,hr⟩:=ES hti hsl hx'.2 hj hl;exact⟨y,dg hex hy,.inr hr⟩
  ·rename_i z lv io hk
   split at hA
   ·cases hA
   rename_i d hd;split at hA
   case h_2=>cases hA
   rename_i r' hkd;split at hA
   case h_2=>cases hA
   rename_i hrq;rw [aL] at hrq;subst hrq;cases hA;refine cf hI hd hg (fun z hz=>?_) Q
   simp only [ah] at hz;rw [cn] at hz;obtain⟨d1,e,hz⟩:=bB hz;simp only [JL,JM,JK,and_true] at e;subst e;refine own _ z d (by simp [ku,hk]) ?_ rfl hkd hsl hz
   intro e;rw [e] at hz;simp [tV] at hz
  ·rename_i s hk
   split at hA
   ·cases hA
   rename_i d hd;split at hA
   case h_2=>cases hA
   rename_i r' hkd;split at hA
   case h_2=>cases hA
   rename_i hrq hown;rw [aL] at hrq;subst hrq;cases hA;refine cf hI hd hg (fun z hz=>?_) Q
   simp only [ah] at hz;obtain⟨b,hb,hz⟩:=JI.1 hz;obtain⟨hpb,rfl⟩:=bC hb;rw [cn] at hz;obtain⟨d1,e,hz⟩:=bB hz;simp only [JL,JM,JK,and_true] at e;subst e;obtain⟨g1,g2,g3,g4⟩:=hI.via hk hpb;exact own _ z d g4 g3 g1 hkd hsl hz
  ·cases hA
 ·split at hA
  ·cases hA
  rename_i n hn;have hal:i.alen≠0:=by intro h0;exact hn h0
  have step:∀(s:Nat) (ii f:Nat) (z:D) (p:D) (d:Nat) (g o':Nat),nth δ s ≠ .bad→p = .ref ii f→av a q = .pointer (some ⟨g,o',none⟩)→(∀x,mN (an c.K s) (av a s) ii (f+x) (.pointer (some ⟨g,o'+x,none⟩)))→an c.K d = .ref s→Ab i.alen i.ez p (opD δ ix)=some z→∃y,(execOp a.eval o).run P w = .ok (.value y) w∧xj c.K B F a w δ d z y:=by
   intro s ii f z p d g o' hb hp hav hR hkd hz;subst hp;unfold Ab at hz;split at hz
   case h_2=>cases hz
   rename_i j f' k' m e1 e2;cases e1;split at hz
   case isFalse=>cases hz
   rename_i hc;simp at hz;subst hz;rw [e2] at hj;obtain⟨hj,_⟩:=ba hj;refine⟨_,dg hex (by rw [hav,hj];exact th hti hal g o' k' m hc.1 hc.2),.inr ?_⟩
   rw [hkd];exact⟨ii,_,rfl,hb,hR _⟩
  split at hA
  ·rename_i lv hk
   refine bg hA hI hg (fun hx z hz=>?_) Q
   obtain⟨d1,d2,e,hz⟩:=gm hz;simp only [JL,JM,JK,and_true] at e;obtain⟨rfl,rfl⟩:=e;have hx':=hx (.tmp q) (by simp);simp only [dA,hk] at hx';obtain⟨y,hy,hr⟩:=Gn hti hal hx'.2 hj hz;exact⟨y,dg hex hy,.inr hr⟩
  ·rename_i nn lv io hk
   split at hA
   ·cases hA
   rename_i d hd;split at hA
   case h_2=>cases hA
   rename_i r' hkd;split at hA
   case h_2=>cases hA
   rename_i hrq;rw [aL] at hrq;subst hrq;cases hA;refine cf hI hd hg (fun z hz=>?_) Q
   simp only [ah] at hz;obtain⟨b,hb,hz⟩:=JI.1 hz;obtain⟨hpb,rfl⟩:=bC hb;rw [cn] at hz;obtain⟨d1,e,hz⟩:=bB hz;simp only [JL,JM,JK,and_true] at e;subst e;obtain⟨m,us,g,e,hd',a1,a2,a3,a4,a5,a6⟩:=hI.box hk hpb;refine step _ 0 0 z _ d g 0 hpb rfl a1 (fun x=>?_) hkd hz
   rw [hk];exact⟨g,a1,rfl⟩
  ·rename_i s hk
   split at hA
   ·cases hA
   rename_i d hd;split at hA
   case h_2=>cases hA
   rename_i r' hkd;split at hA
   case h_2=>cases hA
   rename_i hrq;rw [aL] at hrq;subst hrq;cases hA;refine cf hI hd hg (fun z hz=>?_) Q
   simp only [ah] at hz;rw [cn] at hz;obtain⟨d1,e,hz⟩:=bB hz;simp only [JL,JM,JK,and_true] at e;subst e;have hb:nth δ q ≠ .bad:=by
    intro e;rw [e] at hz;simp [Ab] at hz
   obtain⟨ii,f,h1,h2,h3⟩:=hI.ref hk hb;have key:∃g o',av a q = .pointer (some ⟨g,o',none⟩)∧∀x,mN (an c.K s) (av a s) ii (f+x) (.pointer (some ⟨g,o'+x,none⟩)):=by
    unfold mN at h3 ⊢;split at h3
    ·obtain⟨g,o,n,cc,e1,e2⟩:=h3
     exact⟨g,_,e2,fun x=>⟨g,o,n,cc,e1,by rw [Kl]⟩⟩
    ·obtain⟨g,e1,e2⟩:=h3
     exact⟨g,_,e2,fun x=>⟨g,e1,rfl⟩⟩
    ·exact h3.elim
   obtain⟨g,o',e1,e2⟩:=key;exact step s ii f z _ d g o' h2 h1 e1 e2 hkd hz
  ·cases hA
end
end Go.V

namespace Go.V
open Go.RowKit
set_option maxRecDepth 100000
section
variable {P:Program} {c:Cx} {B:Nat} {X:Nat→Prop} {w0:World} {F0 F:Nat→Prop} {O:Nat→Option (Nat × Nat)} {a:Act} {w:World} {δ:List D}
theorem BC {lo:Option Operand} {G:Nat→Prop} (hl:bY w G (opD δ (qi lo)) (a.eval (qi lo))):LoV w G (opD δ (qi lo)) (lo.map a.eval):=by
 cases lo with
 | some l=>exact .inl ⟨_,rfl,hl⟩
 | none=>exact .inr ⟨rfl,rfl⟩
theorem DM {lo:D} {v:Option Value} {G G':Nat→Prop} (hG:∀b,G b→G' b) (h:LoV w G lo v):LoV w G' lo v:=by
 rcases h with ⟨y,h1,h2⟩ | h
 ·exact .inl ⟨y,h1,h2.imp id fun h=>aQ hG (fun _ _=>rfl) h⟩
 ·exact .inr h
theorem tI (hT:okT P c.T=true) {o:Oper} {t:Nat} {q lv:Nat} {lo hi:Option Operand} (ho:o.op = .slice t (.tmp q) lo hi none) {i:TI} (hi':cR c.T t=some i) (hsl:i.str=false→jB i=true) (hk:an c.K q = .dat lv)
  {A:Ac} (hA:AJ c o.dst i (.tmp q) lo hi=some A) (hI:Inv c B X w0 F0 F O a w δ) {k:List D→Option Out} {r:Out} (hg:dq c A δ k=some r) (Q:Exit→Act→World→Prop):o.wp P a w (Next c B X w0 F0 k r) Q:=by
 have hti:=tok hT hi';simp only [AJ,hk] at hA;cases hi with
 | some h =>
  simp only at hA;refine bg hA hI hg (fun hx z hz=>?_) Q
  obtain⟨d1,d2,d3,e,hz⟩:=xB hz;simp only [JL,JM,JK,and_true] at e;obtain⟨rfl,rfl,rfl⟩:=e;have h1:=(hx (.tmp q) (by simp)).2;have h2:=BC (hx _ (.tail _ (.head _))).2;have h3:=(hx h (by simp)).2;simp only [dA,hk] at h1;obtain⟨v,hv,hr⟩:=CE (P:=P) (G:=fun _=>True) hti hsl h1 (DM (fun _ _=>trivial) h2) (h3.imp id fun h=>aQ (fun _ _=>trivial) (fun _ _=>rfl) h) hz;exact⟨v,dg (by simp only [execOp,ho,Kn,Ko]) hv,.inr hr⟩
 | none =>
  simp only at hA;refine bg hA hI hg (fun hx z hz=>?_) Q
  obtain⟨d1,d2,e,hz⟩:=gm hz;simp only [JL,JM,JK,and_true] at e;obtain⟨rfl,rfl⟩:=e;have h1:=(hx (.tmp q) (by simp)).2;have h2:=BC (hx _ (.tail _ (.head _))).2;simp only [dA,hk] at h1;obtain⟨v,hv,hr⟩:=zZ (P:=P) hti hsl h1 h2 hz;exact⟨v,dg (by simp only [execOp,ho,Ko]) hv,.inr hr⟩
theorem DV {x:Operand} {rd:List Nat} {lv:Nat} {q:Option Nat} (h:ka c.K x=some (rd,lv,q)) (hne:rd≠[]):∃t,x = .tmp t:=by
 unfold ka at h;split at h
 ·exact⟨_,rfl⟩
 ·simp at h
  exact absurd h.1.symm (by simpa using hne)
 ·cases h
theorem we (hT:okT P c.T=true) {o:Oper} {s t:Nat} {x:Operand} (ho:o.op = .convert s t x):gN P c o:=by
 intro A hA B X w0 F0 F O a w δ hI k r hg Q;simp only [cj,ho] at hA;have hA0:=ay hA;clear hA;obtain⟨si,hs,hA⟩:=hA0;have hA0:=ay hA;clear hA;obtain⟨di,hd,hA⟩:=hA0;have hsi:=tok hT hs;have hdi:=tok hT hd;unfold GN at hA;split at hA
 ·rename_i e1 e2 e3
  split at hA
  case h_2=>cases hA
  rename_i d rd lv q hdst hsrc;split at hA
  case h_2=>cases hA
  rename_i lv' hk hb;cases hA;unfold Hm at hb;split at hb
  case h_2=>cases hb
  rename_i hsl;split at hb
  case h_2=>cases hb
  rename_i ei hei;split at hb
  case h_2=>cases hb
  rename_i hik;refine cf hI hdst hg (fun z hz=>?_) Q
  have hne:rd≠[]:=by
   intro e;subst e;cases hz
  obtain⟨t',rfl⟩:=DV hsrc hne;have key:∃G dd,bY w G dd (av a t')∧wC dd=some z:=by
   have hsrc':=hsrc;rcases se hsrc' with ⟨h1,rfl,rfl⟩ | ⟨_,_,h1,rfl,rfl⟩ | ⟨s,_,_,h1,h2,rfl,rfl⟩
   ·obtain⟨G,hG⟩:=oH hI hsrc (d:=nth δ t') (by simp [ah,nth])
    exact⟨G,_,hG,by simpa [ah,nth] using hz⟩
   ·obtain⟨G,hG⟩:=oH hI hsrc (d:=nth δ t') (by simp [ah,nth])
    exact⟨G,_,hG,by simpa [ah,nth] using hz⟩
   ·simp only [ah,nth] at hz
    obtain⟨dd,e1,e2⟩:=JI.1 hz;obtain⟨G,hG⟩:=oH hI hsrc (d:=dd) (by simpa [ah,nth] using e1);exact⟨G,dd,hG,e2⟩
  obtain⟨G,dd,h1,h2⟩:=key;have hdd:dd ≠ .bad:=by
   intro e;subst e;simp [wC] at h2
  obtain⟨v,g1,g2,g3⟩:=GV (P:=P) hsi hdi (tok hT hei) hsl hik e1 (h1.rep hdd) h2;refine⟨v,dg (by simp only [execOp,ho,cv]) g1,(iN (G:=FB F B lv') g3 g2).imp id fun h=>by rw [hk];exact h⟩
 ·refine bg hA hI hg (fun hx z hz=>?_) Q
  obtain⟨d1,e,hz⟩:=bB hz;simp only [JL,JM,JK,and_true] at e;subst e;obtain⟨v,g1,g2,g3⟩:=FK (P:=P) hsi hdi (hx x (by simp)).2 hz;exact⟨v,dg (by simp only [execOp,ho]) g1,iN g3 g2⟩
theorem rQ {G:Nat→Prop}:∀(xs:List Operand),(∀x∈xs,bY w G (opD δ x) (a.eval x))→ri w G (xs.map (opD δ)) (xs.map a.eval)
 | [],_=>trivial
 | x::xs,h=>⟨h x (by simp),rQ xs fun y hy=>h y (by simp [hy])⟩
theorem vl (K:List Kd):∀{xs:List Operand},∀x∈xs,dA K x≤jt K xs
 | y::ys,x,hx=>by
  simp only [jt,uh];rcases List.mem_cons.1 hx with rfl | hx
  ·omega
  ·have:=vl K x hx
   omega
theorem xn {P:Program}:∀(fs:List Field) (l:List (Nat × Nat)),wn P fs l=true→∃places,fs.mapM (fun f=>(P.info? f.type).map fun i=>(f.offset,i.size))=some places ∧
  ∀(f:Nat) (fl:Field),fs[f]?=some fl→∃y,P.info? fl.type=some y∧places[f]?=some (fl.offset,y.size)
 | [],l,_=>⟨[],by simp,by simp⟩
 | g::fs,[],h=>by simp [wn] at h
 | g::fs,(o,t)::l,h=>by
  simp only [wn,Kz,beq_iff_eq] at h;obtain⟨⟨⟨h1,h2⟩,h3⟩,h4⟩:=h;obtain⟨places,hp,hq⟩:=xn fs l h4;split at h3
  case h_2=>cases h3
  rename_i x hx;refine⟨(g.offset,x.size)::places,by simp [List.mapM_cons,h2,hx,hp],fun f fl hf=>?_⟩
  cases f with
  | zero =>
   simp at hf;subst hf;exact⟨x,by rw [h2];exact hx,by simp⟩
  | succ f=>exact hq f fl (by simpa using hf)
theorem vh (hT:okT P c.T=true) {t:Nat} {i:TI} (hi:TOk P t i) {fs:List Field} {arr:Array Field} (hu:P.underlying t=some (.struct arr)) (hfs:arr.toList=fs) {places:List (Nat × Nat)}
  (hq:∀(f:Nat) (fl:Field),fs[f]?=some fl→∃y,P.info? fl.type=some y∧places[f]?=some (fl.offset,y.size)) (ρ:Operand→Value) :
  ∀(parts:List (Nat × Operand)) (ps:List (Nat × Nat)),qP c i parts=some ps→(parts.map fun p=>(p.1,ρ p.2)).map (fun p=>places.toArray[p.1]?)=ps.map some
 | [],ps,h=>by
  simp [qP] at h;subst h;rfl
 | (f,x)::parts,ps,h=>by
  simp only [qP] at h;split at h
  case h_2=>cases h
  rename_i off ti l hf hl;simp at h;subst h;have ih:=vh hT hi hu hfs hq ρ parts l hl;obtain⟨ty,h1,h2⟩:=mq hf;obtain⟨fs',fl,g1,g2,g3,g4,_⟩:=hi.fs _ _ _ h1;rw [hu] at g1;simp at g1;subst g1;obtain⟨y,e1,e2⟩:=hq f fl (by rw [←hfs];simpa using g2);obtain⟨xx,_,k1,k2,_⟩:=(tok hT h2).info;rw [g4,k1] at e1;cases e1;simp only [JL,JK];exact⟨by rw [g3,k2] at e2;simpa using e2,ih⟩
theorem uq (z:Nat) (ρ:Operand→Value):∀(parts:List (Nat × Operand)),(parts.map fun p=>(p.1,ρ p.2)).map (fun p=>some (p.1*z,z))=(ub z parts).map some
 | []=>rfl
 | p::parts=>by simp [ub,uq z ρ parts]
theorem AK (hT:okT P c.T=true) {o:Oper} {t:Nat} {parts:Array (Nat × Operand)} (ho:o.op = .build t parts):gN P c o:=by
 intro A hA B X w0 F0 F O a w δ hI k r hg Q;simp only [cj,ho] at hA;have hA0:=ay hA;clear hA;obtain⟨i,hi,hA⟩:=hA0;have hti:=tok hT hi;obtain⟨x,z,hinf,hsz,hzz,hzo,haz⟩:=hti.info;have main:∀(ps:List (Nat × Nat)) (place:Nat→Option (Nat × Nat)) (A':Ac),bD c o.dst (kT (fun p=>p.2) parts.toList) (jt c.K (kT (fun p=>p.2) parts.toList)) (kV ps i.zero)=some A'→dq c A' δ k=some r →
   (parts.toList.map fun p=>(p.1,a.eval p.2)).map (fun p=>place p.1)=ps.map some→(∀vs cells,vs=(parts.map fun p=>(p.1,a.eval p.2))→KG place z.cells vs.toList=some cells→P.built t vs.toList=some cells) →
   o.wp P a w (Next c B X w0 F0 k r) Q:=by
  intro ps place A' hA' hg' hp hb;refine bg hA' hI hg' (fun hx zz hz=>?_) Q
  unfold kV at hz;obtain⟨cs',h1,rfl⟩:=JJ.1 hz;obtain⟨zr,zs⟩:=dp (w:=w) (F:=FB F B (jt c.K (kT (fun p=>p.2) parts.toList))) _ _ hzo;have hbs:ri w (FB F B (jt c.K (kT (fun p=>p.2) parts.toList))) ((kT (fun p=>p.2) parts.toList).map (opD δ)) ((kT (fun p=>p.2) parts.toList).map a.eval):=rQ _ fun x hxm=>fv (vl _ x hxm) (hx x hxm).2
  obtain⟨us',e1,e2,e3⟩:=AO place (parts.toList.map fun p=>(p.1,a.eval p.2)) ps _ i.zero cs' z.cells.toList hp (by rw [oo] at hbs ⊢;simpa [List.map_map,Function.comp_def] using hbs) zs zr h1;have hbuilt:=hb (parts.map fun p=>(p.1,a.eval p.2)) us'.toArray rfl (by simpa using e1);refine⟨.agg us'.toArray,dg (s:=Instr.build t (parts.map fun(i,x)=>(i,a.eval x))) (by simp only [execOp,ho]) (run_build w t _ _ hbuilt),.inr ?_⟩
  simp only [aT];exact⟨us',rfl,e2,e3⟩
 unfold GL at hA;simp only at hA;split at hA
 ·rename_i hal hag
  split at hA
  case h_2=>cases hA
  rename_i ps hps;obtain⟨arr,hu,hfs⟩:=hti.st hag hal;obtain⟨places,hp,hq⟩:=xn arr.toList i.fs hfs;refine main ps (places.toArray[·]?) _ hA hg (vh hT hti hu rfl hq _ parts.toList ps hps) (fun vs cells hvs hf=>?_)
  unfold Program.built;simp only [hinf,hu,hzz,hp];exact hf
 ·cases hA
 ·rename_i h1 h2
  have hal:i.alen≠0:=by
   intro e;cases hg:i.agg
   ·exact h2 e hg
   ·exact h1 e hg
  obtain⟨hu,hag,hez,hn,y,hy,hys⟩:=hti.ar hal;refine main _ (fun j=>some (j*i.ez,i.ez)) _ hA hg (uq i.ez _ parts.toList) (fun vs cells hvs hf=>?_)
  unfold Program.built;simp only [hinf,hu,hzz,hy,hys];exact hf
theorem tk {o:Oper} {bi:Builtin} {xs:List Operand} {q:Call} (ho:o.op = .call q) (hq:q.callee = .builtin bi) (hxs:q.args.toList=xs) {f:D→D→Option D} {g:Value→Value→Sem Value}
  (hf:∀(w:World) (G:Nat→Prop) (a b z:D) (x y:Value),bY w G a x→bY w G b y→f a b=some z→∃v,(g x y).run P w = .ok v w∧z = .v v∧flat v=true)
  (hb:∀(x:Value) (rest:List Value) (v:Value),q.args.map a.eval=(x::rest).toArray→(rest.foldlM g x).run P w = .ok v w→(builtin bi q.argTypes o.type (q.args.map fun | .const _=>true | _=>false) (q.args.map a.eval)).run P w = .ok (.value v) w)
  {A:Ac} (hA:bD c o.dst xs 0 (vd f)=some A) (hI:Inv c B X w0 F0 F O a w δ) {k:List D→Option Out} {r:Out} (hg:dq c A δ k=some r) (Q:Exit→Act→World→Prop):o.wp P a w (Next c B X w0 F0 k r) Q:=by
 refine bg hA hI hg (fun hx z hz=>?_) Q
 have hG:∀y∈xs,bY w (FB F B 2) (opD δ y) (a.eval y):=fun y hy=>fv (hx y hy).1 (hx y hy).2
 match xs,hxs,hG,hz with
 | [],_,_,hz=>simp [vd] at hz
 | [_],_,_,hz=>simp [vd] at hz
 | x::y::xs,hxs,hG,hz =>
  simp only [JL,vd] at hz;obtain⟨v,h1,h2,h3⟩:=CD (P:=P) (fun a b z x y=>hf w (FB F B 2) a b z x y) (ds:=xs.map (opD δ)) (ys:=xs.map a.eval) (hG x (by simp)) (hG y (by simp)) (rQ xs fun y hy=>hG y (by simp [hy])) hz;have he:q.args.map a.eval=(a.eval x::(a.eval y::xs.map a.eval)).toArray:=by
   rw [←Kf (xs:=q.args),hxs];simp
  have hrun:=hb _ _ _ he h1;refine⟨v,?_,iN h3 h2⟩
  simp only [execOp,ho,resolve,hq,Kp,Kq,Kc,invoke];exact hrun
end
end Go.V

namespace Go.V
open Go.RowKit
set_option maxRecDepth 100000
def pM (K:List Kd) (B:Nat) (F:Nat→Prop) (O:Nat→Option (Nat × Nat)) (a:Act) (w:World) (s:Nat) (d:D):Prop :=
 d = .bad∨match an K s with
  | .via _=>False
  | .ref _=>False
  | .tup ms=>∃l vs,d = .tup l∧av a s = .tuple vs∧∀i,sn B F O w (s,i+1) (an ms i) (nth l i) (vs.getD i undef)
  | .no=>True
  | k=>sn B F O w (s,0) k d (av a s)
section
variable {P:Program} {c:Cx} {B:Nat} {X:Nat→Prop} {w0:World} {F0 F:Nat→Prop} {O:Nat→Option (Nat × Nat)} {a:Act} {w:World} {δ:List D}
theorem pM.ok {K:List Kd} {F:Nat→Prop} {O:Nat→Option (Nat × Nat)} {a:Act} {w:World} {δ:List D} {s:Nat} (h:pM K B F O a w s (nth δ s)):sG K B F O a w δ s:=by
 unfold pM at h;unfold sG;rcases h with h | h
 ·exact .inl h
 ·refine .inr ?_
  generalize an K s=k at h;cases k<;>first | exact h | exact h.elim
theorem Inv.many (h:Inv c B X w0 F0 F O a w δ) {hw cw:List Nat} {outs:List D} {F':Nat→Prop} {O':Nat→Option (Nat × Nat)} {a':Act} {w':World}
  (hlen:outs.length=(hw++cw).length) (la:a'.tmps.size=a.tmps.size) (df:a'.defers=a.defers) (hav:∀s,s∉hw→av a' s=av a s)
  (hcw:∀r∈cw,r∉hw→nth δ r ≠ .bad→nth (ai δ (hw++cw) outs) r ≠ .bad)
  (hU:∀s∈hw++cw,pM c.K B F' O' a' w' s (nth (ai δ (hw++cw) outs) s))
  (hF:∀b,F b→F' b) (hw':∀b,F b→w'.heap[b]?=w.heap[b]?)
  (ho:∀b p,O b=some p→p.1∉hw++cw→O' b=some p∧w'.heap[b]?=w.heap[b]?)
  (fl:∀b,F' b→b<w'.heap.size∧O' b=none) (ol:∀b p,O' b=some p→b<w'.heap.size∧(B≤b∨X b)) (fn:∀b,F' b→F b∨B≤b) (sz:w.heap.size≤w'.heap.size)
  (os:w'.os=w.os) (tape:w'.tape=w.tape) (output:w'.output=w.output) (keep:∀b,b<B→¬X b→w'.heap[b]?=w.heap[b]?) :
  Inv c B X w0 F0 F' O' a' w' (ai δ (hw++(cw++br c.K hw)) outs):=by
 rw [←JU,nF _ _ _ _ hlen];have nd:∀s,nth (ai (ai δ (hw++cw) outs) (br c.K hw) []) s=nth (ai δ (hw++cw) outs) s∨nth (ai (ai δ (hw++cw) outs) (br c.K hw) []) s = .bad:=fun s=>gS _ _ s
 refine h.step (fun s=>s∈hw++cw) la (by rw [cN,cN]) df (fun s hs=>⟨hav s fun hm=>hs (List.mem_append_left _ hm),?_⟩) hF hw' ho (fun s r hs hv hb=>?_) (fun s hs=>?_) fl ol fn sz os tape output keep
 ·rcases nd s with e | e
  ·exact .inl (e.trans (aq _ _ _ _ hs))
  ·exact .inr e
 ·by_cases hr:r∈hw
  ·exact absurd (jf _ _ _ (tc hv hw hr)) hb
  ·refine⟨hav r hr,?_⟩
   have e:nth (ai (ai δ (hw++cw) outs) (br c.K hw) []) s=nth (ai δ (hw++cw) outs) s:=(nd s).resolve_right hb;rw [e,aq _ _ _ _ hs] at hb;obtain⟨h1,h2⟩:=h.root hv hb;rw [aq _ _ _ _ (wM h1 hw)];by_cases hc:r∈cw
   ·exact hcw r hc hr h2
   ·rw [aq _ _ _ _ (fun hm=>(Kr.1 hm).elim hr hc)]
    exact h2
 ·rcases nd s with e | e
  ·refine pM.ok ?_
   rw [e];exact hU s hs
  ·exact .inl e
def blk:Value→Option Nat
 | .slice (some ⟨g,_,_⟩) _ _=>some g
 | .pointer (some ⟨g,_,_⟩)=>some g
 | _=>none
def dQ (O:Nat→Option (Nat × Nat)) (y:Value) (x:Option (Nat × Nat)):Nat→Option (Nat × Nat):=fun b=>if blk y=some b then x else O b
def oU (F:Nat→Prop) (y:Value):Nat→Prop:=fun b=>F b∨blk y=some b
theorem bh.blk {F:Nat→Prop} {own:Nat→Prop} {z:Nat} {d:D} {y:Value} (h:bh w F own z d y):∀b,blk y=some b→own b∧b<w.heap.size:=by
 intro b hb;obtain⟨l,_,_,h3⟩:=h;rcases h3 with ⟨rfl,_⟩ | ⟨g,o,c,us,cs,e,rfl,a2,a3,a4,a5,a6,a7⟩
 ·simp [V.blk] at hb
 ·simp [V.blk] at hb
  subst hb;exact⟨a7,(Ky.1 a3).1⟩
theorem bh.own {F:Nat→Prop} {own own':Nat→Prop} {z:Nat} {d:D} {y:Value} (h:bh w F own z d y) (ho:∀b,V.blk y=some b→own b→own' b):bh w F own' z d y:=by
 obtain⟨l,h1,h2,h3⟩:=h;refine⟨l,h1,h2,?_⟩
 rcases h3 with h3 | ⟨g,o,c,us,cs,e,rfl,a2,a3,a4,a5,a6,a7⟩
 ·exact .inl h3
 ·exact .inr ⟨g,o,c,us,cs,e,rfl,a2,a3,a4,a5,a6,ho g rfl a7⟩
theorem cI {w w':World} {F F':Nat→Prop} {own own':Nat→Prop} {z:Nat} {d:D} {y:Value} (hF:∀b,F b→F' b) (hw:∀b,F b→w'.heap[b]?=w.heap[b]?)
  (ho:∀g,V.blk y=some g→own g→own' g∧w'.heap[g]?=w.heap[g]?) (h:bh w F own z d y):bh w' F' own' z d y:=by
 obtain⟨l,h1,h2,h3⟩:=h;refine⟨l,h1,h2,?_⟩
 rcases h3 with h3 | ⟨g,o,c,us,cs,e,rfl,a2,a3,a4,a5,a6,a7⟩
 ·exact .inl h3
 ·exact .inr ⟨g,o,c,us,cs,e,rfl,a2,(ho g rfl a7).2.trans a3,a4,aX hF hw _ _ a5,a6,(ho g rfl a7).1⟩
theorem me:∀(ts:List Nat) (δ:List D) (s:Nat),s∈ts→nth (ai δ ts (ts.map fun _=>D.bad)) s = .bad
 | t::ts,δ,s,h=>by
  simp only [JL,ai];by_cases hs:s∈ts
  ·exact me ts _ s hs
  ·rw [aq _ _ _ _ hs]
   have:s=t:=by simpa [hs] using h
   subst this;rw [bL];split<;>rfl
theorem mi {K:List Kd} {d z lv:Nat} (h:fK K d z lv=true):(∃l,an K d = .own z l false∧lv≤l)∨∃l,an K d = .dat l∧1≤l∧lv≤l:=by
 unfold fK at h;split at h
 ·rename_i z' l hk
  split at h
  ·rename_i hz
   rw [aL] at hz;subst hz;exact .inl ⟨l,hk,bI.1 h⟩
  ·cases h
 ·rename_i l hk
  split at h
  ·rename_i h1
   exact .inr ⟨l,hk,bI.1 h1,bI.1 h⟩
  ·cases h
 ·cases h
theorem gq {δ:List D} {d s:Nat} {ts:List Nat} {x:D} (hs:s∈d::ts):nth (ai δ (d::ts) (x::ts.map fun _=>D.bad)) s = .bad∨(s=d∧d<δ.length∧nth (ai δ (d::ts) (x::ts.map fun _=>D.bad)) s=x):=by
 simp only [ai];by_cases ht:s∈ts
 ·exact .inl (me ts _ s ht)
 ·rw [aq _ _ _ _ ht]
  have:s=d:=by simpa [ht] using hs
  subst this;rw [bL];split
  ·exact .inr ⟨rfl,‹_›,rfl⟩
  ·exact .inl rfl
theorem Inv.install (h:Inv c B X w0 F0 F O a w δ) {d z lv:Nat} {ts:List Nat} {x:D} {y:Value} {w':World} (hk:fK c.K d z lv=true)
  (hv:bh w' (FB F B lv) (fun g=>B≤g∧(w.heap.size≤g∨∃p,O g=some p∧p.1∈ts)) z x y)
  (sz:w.heap.size≤w'.heap.size) (hw:∀b,b<w.heap.size→(∀p,O b=some p→p.1∉ts)→w'.heap[b]?=w.heap[b]?)
  (os:w'.os=w.os) (tape:w'.tape=w.tape) (output:w'.output=w.output) :
  ∃F' O',Inv c B X w0 F0 F' O' (a.put (some d) y) w' (ai δ ((d::ts)++([]++br c.K (d::ts))) (x::ts.map fun _=>.bad)):=by
 have hblk:∀b,V.blk y=some b→(B≤b∧(w.heap.size≤b∨∃p,O b=some p∧p.1∈ts))∧b<w'.heap.size:=hv.blk;have hFb:∀b,F b→V.blk y≠some b:=fun b hb e=>by
  obtain⟨⟨_,h1⟩,_⟩:=hblk b e;obtain⟨h2,h3⟩:=h.fl b hb;rcases h1 with h1 | ⟨p,h1,_⟩
  ·omega
  ·rw [h3] at h1;cases h1
 have hwF:∀b,F b→w'.heap[b]?=w.heap[b]?:=fun b hb=>hw b (h.fl b hb).1 fun p hp=>by rw [(h.fl b hb).2] at hp;cases hp
 have hwK:∀b,b<B→¬X b→w'.heap[b]?=w.heap[b]?:=fun b hb hx=>hw b (JS hb h.bb) fun p hp=>by
  rcases(h.ol b p hp).2 with h1 | h1
  ·omega
  ·exact absurd h1 hx
 have hoO:∀(x':Option (Nat × Nat)) b p,O b=some p→p.1∉(d::ts)++[]→dQ O y x' b=some p∧w'.heap[b]?=w.heap[b]?:=fun x' b p hp hm=>by
  have hm':p.1∉ts:=fun hm'=>hm (by simp [hm'])
  have hlt:=(h.ol b p hp).1;refine⟨?_,hw b hlt fun p' hp'=>by rw [hp] at hp';cases hp';exact hm'⟩
  unfold dQ;rw [if_neg]
  ·exact hp
  ·intro e
   obtain⟨⟨_,h1⟩,_⟩:=hblk b e;rcases h1 with h1 | ⟨p',h1,h2⟩
   ·omega
   ·rw [hp] at h1;cases h1;exact hm' h2
 have hol:∀(x':Option (Nat × Nat)) b p,dQ O y x' b=some p→b<w'.heap.size∧(B≤b∨X b):=fun x' b p hp=>by
  unfold dQ at hp;split at hp
  ·rename_i e
   exact⟨(hblk b e).2,.inl (hblk b e).1.1⟩
  ·obtain⟨h1,h2⟩:=h.ol b p hp
   exact⟨by omega,h2⟩
 have hav:∀s,s∉d::ts→av (a.put (some d) y) s=av a s:=fun s hs=>cA fun e=>hs (by simp [e])
 have hlen:(x::ts.map fun _=>D.bad).length=((d::ts)++[]).length:=by simp
 rcases mi hk with ⟨l,hk,hl⟩ | ⟨l,hk,h1l,hl⟩
 ·refine⟨F,dQ O y (some (d,0)),h.many hlen gZ rfl hav (by simp) (fun s hs=>?_) (fun _ hb=>hb) hwF (hoO _) (fun b hb=>?_) (hol _) (fun _ hb=>.inl hb) sz os tape output hwK⟩
  ·rw [JP] at hs ⊢
   rcases gq (δ:=δ) (x:=x) hs with e | ⟨rfl,hd,e⟩
   ·exact .inl e
   ·refine .inr ?_
    rw [hk,e,dW (by rw [h.la,←h.ld];exact hd)];refine .inr ?_
    exact cI (jo hl) (fun _ _=>rfl) (fun g hg ho=>⟨⟨by unfold dQ;rw [if_pos hg],fun _=>ho.1⟩,rfl⟩) hv
  ·refine⟨JS (h.fl b hb).1 sz,?_⟩
   unfold dQ;rw [if_neg (hFb b hb)];exact(h.fl b hb).2
 ·refine⟨oU F y,dQ O y none,h.many hlen gZ rfl hav (by simp) (fun s hs=>?_) (fun _ hb=>.inl hb) hwF (hoO _) (fun b hb=>?_) (hol _) (fun b hb=>?_) sz os tape output hwK⟩
  ·rw [JP] at hs ⊢
   rcases gq (δ:=δ) (x:=x) hs with e | ⟨rfl,hd,e⟩
   ·exact .inl e
   ·refine .inr ?_
    rw [hk,e,dW (by rw [h.la,←h.ld];exact hd)];refine .inr ?_
    refine aQ (fun b hb=>?_) (fun _ _=>rfl) (jh (hv.own (own':=fun g=>B≤g∧V.blk y=some g) fun b hb ho=>⟨ho.1,hb⟩))
    rcases hb with hb | ⟨hb1,hb2⟩
    ·exact jo hl _ (iL (fun _ h=>.inl h) _ hb)
    ·have hx:oU F y b:=.inr hb2
     match l,h1l with
     | 1,_=>exact⟨hx,hb1⟩
     | _+2,_=>exact hx
  ·rcases hb with hb | hb
   ·refine⟨JS (h.fl b hb).1 sz,?_⟩
    unfold dQ;rw [if_neg (hFb b hb)];exact(h.fl b hb).2
   ·exact⟨(hblk b hb).2,by unfold dQ;rw [if_pos hb]⟩
  ·rcases hb with hb | hb
   ·exact .inl hb
   ·exact .inr (hblk b hb).1.1
theorem dh {o:Oper} {F':Nat→Prop} {O':Nat→Option (Nat × Nat)} {y:Value} {w':World} {d:Nat} {δ':List D} (hd:o.dst=some d) {k:List D→Option Out} {r:Out}
  (hr:(execOp a.eval o).run P w = .ok (.value y) w') (hI:Inv c B X w0 F0 F' O' (a.put (some d) y) w' δ') (hk:k δ'=some r) (Q:Exit→Act→World→Prop):o.wp P a w (Next c B X w0 F0 k r) Q :=
 AV hr ⟨F',O',δ',by rw [hd];exact hI,hk⟩
theorem rb {K:List Kd} {r:Nat} (h:ug K r=true):∃z lv,an K r = .own z lv false:=by
 unfold ug at h;split at h
 ·exact⟨_,_,‹_›⟩
 ·cases h
theorem Inv.pass (h:Inv c B X w0 F0 F O a w δ) {d r z lv:Nat} {x:D} {y:Value} (hk:fK c.K d z lv=true)
  (hv:bh w (FB F B lv) (fun g=>O g=some (r,0)∧B≤g) z x y) :
  ∃F' O',Inv c B X w0 F0 F' O' (a.put (some d) y) w (ai δ ([d,r]++([]++br c.K [d,r])) [x,.bad]) :=
 h.install (ts:=[r]) hk (hv.own fun _ _ ho=>⟨ho.2,.inr ⟨_,ho.1,by simp⟩⟩) (JR _) (fun _ _ _=>rfl) rfl rfl rfl
theorem Inv.fresh (h:Inv c B X w0 F0 F O a w δ) {d z lv:Nat} {x:D} {y:Value} {w':World} (hk:fK c.K d z lv=true)
  (hv:bh w' (FB F B lv) (fun g=>w.heap.size≤g) z x y) (sz:w.heap.size≤w'.heap.size) (hw:∀b,b<w.heap.size→w'.heap[b]?=w.heap[b]?)
  (os:w'.os=w.os) (tape:w'.tape=w.tape) (output:w'.output=w.output) :
  ∃F' O',Inv c B X w0 F0 F' O' (a.put (some d) y) w' (ai δ ([d]++([]++br c.K [d])) [x]) :=
 h.install (ts:=[]) hk (hv.own fun _ _ ho=>⟨KA h.bb ho,.inl ho⟩) sz (fun b hb _=>hw b hb) os tape output
theorem uT {F:Nat→Prop} {own:Nat→Prop} {z:Nat}:bh w F own z (.arr z []) (.slice none 0 0):=⟨[],rfl,by simp,.inl ⟨rfl,rfl⟩⟩
theorem Inv.dead (h:Inv c B X w0 F0 F O a w δ) (d:Nat) (ts:List Nat) (y:Value) :
  Inv c B X w0 F0 F O (a.put (some d) y) w (ai δ ((d::ts)++([]++br c.K (d::ts))) (.bad::ts.map fun _=>.bad)):=by
 refine h.many (by simp) gZ rfl (fun s hs=>cA fun e=>hs (by simp [e])) (by simp) (fun s hs=>.inl ?_) (fun _ hb=>hb) (fun _ _=>rfl) (fun _ _ hp _=>⟨hp,rfl⟩) h.fl h.ol (fun _ hb=>.inl hb) (JR _) rfl rfl rfl (fun _ _ _=>rfl)
 rw [JP] at hs ⊢;rcases gq (δ:=δ) (x:=.bad) hs with e | ⟨_,_,e⟩<;>exact e
theorem Inv.over (h:Inv c B X w0 F0 F O a w δ) {d r z lv:Nat} (hr:an c.K r = .own z lv false) (hk:fK c.K d z lv=true) :
  ∃F' O',Inv c B X w0 F0 F' O' (a.put (some d) (av a r)) w (ai δ ([d,r]++([]++br c.K [d,r])) [nth δ r,.bad]):=by
 by_cases hb:nth δ r = .bad
 ·rw [hb]
  exact⟨F,O,h.dead d [r] _⟩
 ·exact h.pass hk ((h.own hr hb).own fun _ _ ho=>⟨ho.1,ho.2 rfl⟩)
theorem sy:∀{ms ns:List Kd},eW ms ns=true→∀i,an ns i=an ms i∧(an ms i = .no∨(∃lv,an ms i = .dat lv)∨∃z lv,an ms i = .own z lv false)
 | [],[],_,i=>by simp [an]
 | m::ms,n::ns,h,i=>by
  have:n=m∧((∃lv,m = .dat lv)∨∃z lv,m = .own z lv false)∧eW ms ns=true:=by
   cases m with
   | dat a =>
    cases n<;>simp only [eW] at h<;>try cases h
    split at h
    case h_2=>cases h
    rename_i e;rw [aL] at e;subst e;exact⟨rfl,.inl ⟨_,rfl⟩,h⟩
   | own z a io =>
    cases io
    case true=>cases n<;>simp [eW] at h
    cases n with
    | own z' a' io' =>
     cases io'
     case true=>simp [eW] at h
     simp only [eW] at h;split at h
     case h_2=>cases h
     rename_i e1 e2;rw [aL] at e1 e2;subst e1 e2;exact⟨rfl,.inr ⟨_,_,rfl⟩,h⟩
    | _=>simp [eW] at h
   | _=>cases n<;>simp [eW] at h
  obtain⟨rfl,h1,h2⟩:=this;cases i with
  | zero=>exact⟨rfl,.inr h1⟩
  | succ i=>exact sy h2 i
 | [],_::_,h,_=>by simp [eW] at h
 | m::_,[],h,_=>by cases m<;>first | (simp [eW] at h;done) | (rename_i io;cases io<;>simp [eW] at h)
theorem Inv.overT (h:Inv c B X w0 F0 F O a w δ) {d t:Nat} {ms ns:List Kd} (ht:an c.K t = .tup ms) (hd:an c.K d = .tup ns) (hs':eW ms ns=true) (hdt:Kj d t=false) :
  ∃F' O',Inv c B X w0 F0 F' O' (a.put (some d) (av a t)) w (ai δ ([d,t]++([]++br c.K [d,t])) [nth δ t,.bad]):=by
 have hne:d≠t:=fun e=>by subst e;simp at hdt
 refine⟨F,fun b=>match O b with
  | some p=>if p.1=t∧p.2≠0 then some (d,p.2) else some p
  | none=>none,h.many rfl gZ rfl (fun s hs=>cA fun e=>hs (by simp [e])) (by simp) (fun s hs=>?_) (fun _ hb=>hb) (fun _ _=>rfl) (fun b p hp hm=>⟨?_,rfl⟩) (fun b hb=>⟨(h.fl b hb).1,by simp only [(h.fl b hb).2]⟩) (fun b p hp=>?_) (fun _ hb=>.inl hb) (JR _) rfl rfl rfl (fun _ _ _=>rfl)⟩
 ·rw [JP] at hs ⊢
  rcases gq (δ:=δ) (x:=nth δ t) (ts:=[t]) hs with e | ⟨rfl,hl,e⟩
  ·exact .inl e
  ·simp only [JL,JM] at e
   rw [e];by_cases hb:nth δ t = .bad
   ·exact .inl hb
   have h0:=(h.slot t).resolve_left hb;rw [ht] at h0;obtain⟨l,vs,h1,h2,h3⟩:=h0;refine .inr ?_
   rw [hd,dW (by rw [h.la,←h.ld];exact hl)];refine⟨l,vs,h1,h2,fun i=>?_⟩
   rw [(sy hs' i).1];exact sO (fun _ hb=>hb) (fun _ _=>rfl) (fun g hg=>⟨by simp [hg],rfl⟩) (h3 i)
 ·have:p.1≠t:=fun e=>hm (by simp [e])
  simp only [hp,this,false_and,if_false]
 ·cases hO:O b with
  | none=>simp only [hO] at hp;cases hp
  | some q=>exact h.ol b q hO
theorem xG {K:List Kd} {d z z' lv lv':Nat} (hk:an K d = .own z' lv' false) (h1:Kj z z'=true) (h2:Nat.ble lv lv'=true):fK K d z lv=true:=by simp only [fK,hk,h1,h2]
theorem xK {K:List Kd} {d z lv lv':Nat} (hk:an K d = .dat lv') (h1:Nat.ble 1 lv'=true) (h2:Nat.ble lv lv'=true):fK K d z lv=true:=by simp only [fK,hk,h1,h2]
theorem Af {o:Oper} {x:Operand} (ho:o.op = .move x∨o.op = .assign x) {A:Ac} (hA:yZ c o.dst x o.type=some A) (hI:Inv c B X w0 F0 F O a w δ)
  {k:List D→Option Out} {r:Out} (hg:dq c A δ k=some r) (Q:Exit→Act→World→Prop):o.wp P a w (Next c B X w0 F0 k r) Q:=by
 have hex:(execOp a.eval o).run P w = .ok (.value (a.eval x)) w:=by
  rcases ho with ho | ho<;>simp [execOp,ho]
 have dat:∀(lv:Nat) (A:Ac),lv=dA c.K x→bD c o.dst [x] lv (fg some)=some A→dq c A δ k=some r→o.wp P a w (Next c B X w0 F0 k r) Q:=by
  intro lv A hlv hA hg;refine bg hA hI hg (fun hx z hz=>?_) Q
  obtain⟨d1,e,hz⟩:=bB hz;simp only [JL,JM,JK,and_true] at e;subst e;cases hz;exact⟨_,hex,by rw [hlv];exact(hx x (by simp)).2⟩
 have via:∀(t rr d:Nat),x = .tmp t→o.dst=some d→an c.K d = .via rr→ku c.K rr=true→(nth δ t ≠ .bad→nth δ rr ≠ .bad∧av a t=av a rr)→(dq c (.one [t] d fun is=>(fg fun x=>aa x (.ref 0 0)) is) δ k=some r)→o.wp P a w (Next c B X w0 F0 k r) Q:=by
  intro t rr d hx hd hk hown hb hg;subst hx;refine cf hI hd hg (fun z hz=>?_) Q
  obtain⟨d1,e,hz⟩:=bB hz;simp only [ah,JK,and_true] at e;subst e;obtain⟨h1,rfl⟩:=bC hz;obtain⟨h2,h3⟩:=hb h1;refine⟨_,hex,.inr ?_⟩
  rw [hk];exact⟨h3,rfl,h2,hown⟩
 have over:∀(t rr d z lv:Nat),x = .tmp t→o.dst=some d→av a t=av a rr→an c.K rr = .own z lv false→fK c.K d z lv=true→k (ai δ ([d,rr]++([]++br c.K [d,rr])) [nth δ rr,.bad])=some r→o.wp P a w (Next c B X w0 F0 k r) Q:=by
  intro t rr d z lv hx hd hav hkr hkd hk;subst hx;obtain⟨F',O',hI'⟩:=hI.over hkr hkd;exact dh hd hex (by rw [cv,hav];exact hI') hk Q
 have over2:∀(t rr d z lv:Nat),x = .tmp t→o.dst=some d→an c.K t = .via rr→an c.K rr = .own z lv false→fK c.K d z lv=true →
   dq c (.many [t,rr] [d,rr] [] fun is k=>eY is 0 fun p=>eY is 1 fun x=>(aa p x).bind fun y=>k [y,.bad]) δ k=some r→o.wp P a w (Next c B X w0 F0 k r) Q:=by
  intro t rr d z lv hx hd hkt hkr hkd hg;simp only [dq,ah,eY] at hg;obtain⟨y,h1,h2⟩:=JI.1 hg;obtain⟨hb,rfl⟩:=bC h1;exact over t rr d z lv hx hd (hI.via hkt hb).1 hkr hkd h2
 unfold yZ at hA;split at hA
 ·rename_i t
  split at hA
  ·rename_i z lv io hk
   split at hA
   ·cases hA
   rename_i d hd;split at hA
   ·rename_i rr hkd
    split at hA
    case h_2=>cases hA
    rename_i hrt;rw [aL] at hrt;subst hrt;cases hA;exact via rr rr d rfl hd hkd (by simp [ku,hk]) (fun hb=>⟨hb,rfl⟩) hg
   ·rename_i z' lv' hkd
    split at hA
    case h_2=>cases hA
    rename_i h1 h2;cases hA;refine over t t d z lv rfl hd rfl hk (xG hkd h1 h2) ?_
    simpa only [dq,ah,eY] using hg
   ·rename_i lv' hkd
    split at hA
    case h_2=>cases hA
    rename_i h1 h2;cases hA;refine over t t d z lv rfl hd rfl hk (xK hkd h1 h2) ?_
    simpa only [dq,ah,eY] using hg
   ·cases hA
  ·rename_i rr hk
   split at hA
   ·cases hA
   rename_i d hd;split at hA
   case h_2=>cases hA
   rename_i z lv io hkr;split at hA
   ·rename_i r' hkd
    split at hA
    case h_2=>cases hA
    rename_i hrt;rw [aL] at hrt;subst hrt;cases hA;exact via t rr d rfl hd hkd (by simp [ku,hkr]) (fun hb=>⟨(hI.via hk hb).2.2.1,(hI.via hk hb).1⟩) hg
   ·rename_i z' lv' hkd
    split at hA
    case h_2=>cases hA
    rename_i h1 h2;cases hA;exact over2 t rr d z lv rfl hd hk hkr (xG hkd h1 h2) hg
   ·rename_i lv' hkd
    split at hA
    case h_2=>cases hA
    rename_i h1 h2;cases hA;exact over2 t rr d z lv rfl hd hk hkr (xK hkd h1 h2) hg
   ·cases hA
  ·rename_i n lv io hk
   split at hA
   ·cases hA
   rename_i d hd;split at hA
   case h_2=>cases hA
   rename_i rr hkd;split at hA
   case h_2=>cases hA
   rename_i hrt;rw [aL] at hrt;subst hrt;cases hA;refine cf hI hd hg (fun z hz=>?_) Q
   obtain⟨d1,e,hz⟩:=bB hz;simp only [ah,JK,and_true] at e;subst e;obtain⟨h1,rfl⟩:=bC hz;refine⟨_,hex,.inr ?_⟩
   rw [hkd];obtain⟨m,us,g,e,_,a1,_⟩:=hI.box hk h1;refine⟨0,0,rfl,h1,?_⟩
   rw [hk];exact⟨g,a1,a1⟩
  ·rename_i rr hk
   split at hA
   ·cases hA
   rename_i d hd;split at hA
   case h_2=>cases hA
   rename_i r' hkd;split at hA
   case h_2=>cases hA
   rename_i hrt;rw [aL] at hrt;subst hrt;cases hA;refine cf hI hd hg (fun z hz=>?_) Q
   obtain⟨d1,e,hz⟩:=bB hz;simp only [ah,JK,and_true] at e;subst e;obtain⟨h1,rfl⟩:=bC hz;refine⟨_,hex,.inr ?_⟩
   rw [hkd];exact hI.ref hk h1
  ·rename_i lv hk
   exact dat lv _ (by simp [dA,hk]) hA hg
  ·rename_i ms hk
   split at hA
   ·cases hA
   rename_i d hd;split at hA
   case h_2=>cases hA
   rename_i ns hkd;split at hA
   case h_2=>cases hA
   rename_i h1 h2;cases hA;obtain⟨F',O',hI'⟩:=hI.overT hk hkd h1 h2;refine dh hd hex (by rw [cv];exact hI') ?_ Q
   simpa only [dq,ah,eY] using hg
  ·cases hA
 ·split at hA
  ·cases hA
  rename_i d hd;split at hA
  ·rename_i z lv hk
   cases hA;simp only [dq] at hg;obtain⟨F',O',hI'⟩:=hI.fresh (d:=d) (z:=z) (lv:=lv) (w':=w) (by simp [fK,hk]) uT (JR _) (fun _ _=>rfl) rfl rfl rfl;exact dh hd hex hI' hg Q
  ·split at hA
   ·refine bg hA hI hg (fun hx z hz=>?_) Q
    cases hz;exact⟨_,hex,.inr (eT.2 ⟨rfl,rfl⟩)⟩
   have hA0:=ay hA;clear hA;obtain⟨i,hi,hA⟩:=hA0;refine bg hA hI hg (fun hx z hz=>?_) Q
   cases hz;refine⟨_,hex,.inr ?_⟩
   simp only [Act.eval,aT];exact uJ
  ·cases hA
 ·exact dat _ _ rfl hA hg
end
end Go.V

namespace Go.V
open Go.RowKit
set_option maxRecDepth 100000
section
variable {P:Program} {c:Cx} {B:Nat} {X:Nat→Prop} {w0:World} {F0 F:Nat→Prop} {O:Nat→Option (Nat × Nat)} {a:Act} {w:World} {δ:List D}
theorem uZ {O:Nat→Option (Nat × Nat)} {y:Value} {x:Option (Nat × Nat)} {b:Nat} (h:blk y=some b):dQ O y x b=x:=by unfold dQ;rw [if_pos h]
theorem gI {O:Nat→Option (Nat × Nat)} {y:Value} {x:Option (Nat × Nat)} {b:Nat} (h:blk y≠some b):dQ O y x b=O b:=by unfold dQ;rw [if_neg h]
theorem xR {g o:Nat} {s:Option Nat} {b:Nat}:blk (.pointer (some ⟨g,o,s⟩))=some b↔g=b:=by simp [blk]
theorem Inv.fresh1 (h:Inv c B X w0 F0 F O a w δ) {d n lv:Nat} {x:D} {y:Value} {w':World} (hk:an c.K d = .box n lv false)
  (hv:sY w' (FB F B lv) (fun g=>w.heap.size≤g) n x y) (sz:w.heap.size≤w'.heap.size) (hw:∀b,b<w.heap.size→w'.heap[b]?=w.heap[b]?)
  (os:w'.os=w.os) (tape:w'.tape=w.tape) (output:w'.output=w.output) :
  ∃F' O',Inv c B X w0 F0 F' O' (a.put (some d) y) w' (ai δ ([d]++([]++br c.K [d])) [x]):=by
 obtain⟨l,us,g,e,h1,h2,h3,h4,h5,h6,h7⟩:=hv;subst h2;have hg:g<w'.heap.size:=(Ky.1 h3).1;refine⟨F,dQ O (.pointer (some ⟨g,0,none⟩)) (some (d,0)),h.many (by simp) gZ rfl (fun s hs=>cA fun e=>hs (by simp [e])) (by simp) (fun s hs=>?_) (fun _ hb=>hb) (fun b hb=>hw b (h.fl b hb).1) (fun b p hp _=>⟨?_,hw b (h.ol b p hp).1⟩) (fun b hb=>⟨JS (h.fl b hb).1 sz,?_⟩) (fun b p hp=>?_) (fun _ hb=>.inl hb) sz os tape output (fun b hb _=>hw b (JS hb h.bb))⟩
 ·rw [JP] at hs ⊢
  rcases gq (δ:=δ) (x:=x) (ts:=[]) hs with e | ⟨rfl,hd,e⟩
  ·exact .inl e
  ·refine .inr ?_
   simp only [JM] at e;rw [hk,e,dW (by rw [h.la,←h.ld];exact hd)];exact .inr ⟨l,us,g,_,h1,rfl,h3,h4,h5,h6,uZ rfl,fun _=>KA h.bb h7⟩
 ·have:=(h.ol b p hp).1
  rw [gI (fun e=>by rw [xR] at e;omega)];exact hp
 ·have:=(h.fl b hb).1
  rw [gI (fun e=>by rw [xR] at e;omega)];exact(h.fl b hb).2
 ·by_cases e:g=b
  ·subst e
   exact⟨hg,.inl (KA h.bb h7)⟩
  ·rw [gI (fun e'=>e (xR.1 e'))] at hp
   exact⟨JS (h.ol b p hp).1 sz,(h.ol b p hp).2⟩
theorem Inv.freshP (h:Inv c B X w0 F0 F O a w δ) {d lv t:Nat} (hk:an c.K d = .dat lv) (h1:1≤lv) {l:List D} {v:Value} (hr:bs w (FB F B lv) l v.cells.toList) (hsl:l.all D.single=true) :
  ∃F' O',Inv c B X w0 F0 F' O' (a.put (some d) (.pointer (some ⟨w.heap.size,0,none⟩))) (w.alloc (.cells v.cells t)) (ai δ ([d]++([]++br c.K [d])) [.ptr l]):=by
 have sz:w.heap.size≤(w.alloc (.cells v.cells t)).heap.size:=by simp
 have hw:∀b,b<w.heap.size→(w.alloc (.cells v.cells t)).heap[b]?=w.heap[b]?:=fun b hb=>heap_alloc_old w _ hb
 have hg:w.heap.size<(w.alloc (.cells v.cells t)).heap.size:=by simp
 refine⟨fun b=>F b∨b=w.heap.size,O,h.many (by simp) gZ rfl (fun s hs=>cA fun e=>hs (by simp [e])) (by simp) (fun s hs=>?_) (fun _ hb=>.inl hb) (fun b hb=>hw b (h.fl b hb).1) (fun b p hp _=>⟨hp,hw b (h.ol b p hp).1⟩) (fun b hb=>?_) (fun b p hp=>⟨JS (h.ol b p hp).1 sz,(h.ol b p hp).2⟩) (fun b hb=>?_) sz rfl rfl rfl (fun b hb _=>hw b (JS hb h.bb))⟩
 ·rw [JP] at hs ⊢
  rcases gq (δ:=δ) (x:=.ptr l) (ts:=[]) hs with e | ⟨rfl,hd,e⟩
  ·exact .inl e
  ·refine .inr ?_
   simp only [JM] at e;rw [hk,e,dW (by rw [h.la,←h.ld];exact hd)];refine .inr ?_
   simp only [aT,RepC];refine⟨w.heap.size,0,v.cells.toList,rfl,aX (iL fun b hb=>.inl hb) (fun b hb=>hw b (h.fl b (dO b hb)).1) _ _ hr,hsl,?_,fun i u hu=>?_⟩
   ·match lv,h1 with
    | 1,_=>exact⟨.inr rfl,h.bb⟩
    | n+2,_=>exact .inr rfl
   ·have hn:=heap_alloc_new w (.cells v.cells t)
    simp only [World.cell?,hn];simpa using hu
 ·rcases hb with hb | rfl
  ·exact⟨JS (h.fl b hb).1 sz,(h.fl b hb).2⟩
  ·refine⟨hg,?_⟩
   cases ho:O w.heap.size with
   | none=>rfl
   | some p=>exact absurd (h.ol _ _ ho).1 (Nat.lt_irrefl _)
 ·rcases hb with hb | rfl
  ·exact .inl hb
  ·exact .inr h.bb
theorem AL {F:Nat→Prop} {n t:Nat} {l:List D} {v:Value} (hr:bs w F l v.cells.toList) (hs:l.all D.single=true) (hn:l.length=n) (hF:∀b,F b→b<w.heap.size) :
  sY (w.alloc (.cells v.cells t)) F (fun g=>w.heap.size≤g) n (.agg l) (.pointer (some ⟨w.heap.size,0,none⟩)) :=
 ⟨l,v.cells.toList,_,t,rfl,rfl,by simpa using heap_alloc_new w _,aX (fun _ h=>h) (fun b hb=>heap_alloc_old w _ (hF b hb)) _ _ hr,hs,hn,JR _⟩
theorem yU (hT:okT P c.T=true) {o:Oper} {t:Nat} (ho:o.op = .alloc t):gN P c o:=by
 intro A hA B X w0 F0 F O a w δ hI k r hg Q;simp only [cj,ho] at hA;have hA0:=ay hA;clear hA;obtain⟨i,hi,hA⟩:=hA0;have hti:=tok hT hi;unfold Gq at hA;split at hA
 ·cases hA
 rename_i d hd;split at hA
 case h_2=>cases hA
 rename_i n lv hk;split at hA
 case h_2=>cases hA
 rename_i hn;rw [aL] at hn;cases hA;simp only [dq] at hg;obtain⟨z,hz,hr,hs,hsz⟩:=hti.zero;have hrun:(execOp a.eval o).run P w = .ok (.value (.pointer (some ⟨w.heap.size,0,none⟩))) (w.alloc (.cells z.cells t)):=by
  refine dg (s:=Instr.alloc t true (.tuple #[])) (by simp only [execOp,ho]) ?_
  simp [Instr.alloc,hz w,newVar,newRow]
 obtain⟨F',O',hI'⟩:=hI.fresh1 hk (AL (w:=w) (t:=t) (v:=z) (F:=FB F B lv) (hr w _).2 hs (hti.zl.trans hn.symm) fun b hb=>(hI.fl b (dO b hb)).1) (by simp) (fun b hb=>heap_alloc_old w _ hb) rfl rfl rfl;exact dh hd hrun hI' hg Q
theorem CK {o:Oper} {t:Nat} {x:Operand} (ho:o.op = .box t x):gN P c o:=by
 intro A hA B X w0 F0 F O a w δ hI k r hg Q;simp only [cj,ho] at hA;have hA0:=ay hA;clear hA;obtain⟨i,hi,hA⟩:=hA0;unfold Hb at hA;split at hA
 ·cases hA
 rename_i d hd;split at hA
 case h_3=>cases hA
 case h_2 =>
  rename_i lv hk;split at hA
  case h_2=>cases hA
  rename_i hx h1 hle;have hx:dA c.K x≤2:=bI.1 hx;rw [bI] at h1 hle;cases hA;simp only [dq] at hg;rw [cn] at hg;obtain⟨y,h2,h3⟩:=JI.1 hg;obtain⟨d1,e,h2⟩:=bB h2;simp only [JL,JM,JK,and_true] at e;subst e;unfold fy at h2;split at h2
  case isFalse=>cases h2
  rename_i hc;cases h2;simp only [IY,Option.bind_some] at h3;have hne:opD δ x ≠ .bad:=by
   intro e;rw [e] at hc;simp [D.cells,D.single] at hc
  obtain⟨_,_,g3⟩:=dK ((fv hle (hI.opd hx)).rep hne) (lR hc.2);have hrun:(execOp a.eval o).run P w = .ok (.value (.pointer (some ⟨w.heap.size,0,none⟩))) (w.alloc (.cells (a.eval x).cells t)):=by
   refine dg (s:=KL t (a.eval x)) (by simp only [execOp,ho]) ?_
   simp [KL,newVar,newRow]
  obtain⟨F',O',hI'⟩:=hI.freshP (t:=t) hk h1 g3 hc.2;exact dh hd hrun hI' h3 Q
 rename_i n lv hk;split at hA
 case h_2=>cases hA
 rename_i hn hx;have hx:dA c.K x≤2:=bI.1 hx;have hop:=hI.opd hx;have main:∀y:D,fy n (opD δ x)=some y→bY w (FB F B lv) (opD δ x) (a.eval x)→k (ai δ ([d]++([]++br c.K [d])) [y])=some r→o.wp P a w (Next c B X w0 F0 k r) Q:=by
  intro y hy hrep hk';unfold fy at hy;split at hy
  case isFalse=>cases hy
  rename_i hc;cases hy;have hne:opD δ x ≠ .bad:=by
   intro e;rw [e] at hc;simp [D.cells,D.single] at hc
  obtain⟨_,_,g3⟩:=dK (hrep.rep hne) (lR hc.2);have hrun:(execOp a.eval o).run P w = .ok (.value (.pointer (some ⟨w.heap.size,0,none⟩))) (w.alloc (.cells (a.eval x).cells t)):=by
   refine dg (s:=KL t (a.eval x)) (by simp only [execOp,ho]) ?_
   simp [KL,newVar,newRow]
  obtain⟨F',O',hI'⟩:=hI.fresh1 hk (AL (w:=w) (t:=t) (F:=FB F B lv) g3 hc.2 hc.1 fun b hb=>(hI.fl b (dO b hb)).1) (by simp) (fun b hb=>heap_alloc_old w _ hb) rfl rfl rfl;exact dh hd hrun hI' hk' Q
 split at hA
 ·rename_i hle
  rw [bI] at hle;cases hA;simp only [dq] at hg;rw [cn] at hg;obtain⟨y,h1,h2⟩:=JI.1 hg;obtain⟨d1,e,h1⟩:=bB h1;simp only [JL,JM,JK,and_true] at e;subst e;exact main y h1 (fv hle hop) h2
 ·split at hA
  case h_2=>cases hA
  cases hA;simp only [dq] at hg;rw [cn] at hg;obtain⟨y,h1,h2⟩:=JI.1 hg;obtain⟨d1,e,h1⟩:=bB h1;simp only [JL,JM,JK,and_true] at e;subst e;obtain⟨z,hc,h1⟩:=JI.1 h1;unfold aV at hc;split at hc
  case isFalse=>cases hc
  rename_i hv;cases hc;refine main y h1 (.inr (lL hv (hop.rep ?_))) h2
  intro e;rw [e] at hv;simp [D.isV] at hv
theorem na (w:World) (g:Nat) (cs:Array Value):(w.setRow g cs).heap.size=w.heap.size:=by simp [World.setRow]
theorem Inv.write (h:Inv c B X w0 F0 F O a w δ) {r:Nat} {ts:List Nat} {x:D} {y:Value} {g:Nat} {w':World} (hts:r∉ts)
  (hy:∀b,blk y=some b→B≤b∧∃p,O b=some p∧p.1∈ts) (hx:x ≠ .bad) (hrt:dP c.K r) (hr0:O g=some (r,0))
  (hrep:sn B (oU F y) (dQ O y none) w' (r,0) (an c.K r) x (av a r))
  (hw:∀b,b≠g→w'.heap[b]?=w.heap[b]?) (sz:w'.heap.size=w.heap.size) (os:w'.os=w.os) (tape:w'.tape=w.tape) (output:w'.output=w.output) (hkeep:B≤g∨X g) :
  ∃F' O',Inv c B X w0 F0 F' O' a w' (ai δ (ts++([r]++br c.K ts)) ((ts.map fun _=>.bad)++[x])):=by
 have hFg:∀b,F b→b≠g:=fun b hb e=>by
  subst e;rw [(h.fl b hb).2] at hr0;cases hr0
 have hset:∀s,nth (ai δ (ts++[r]) ((ts.map fun _=>.bad)++[x])) s=if s=r then(if r<δ.length then x else .bad) else if s∈ts then .bad else nth δ s:=by
  intro s;have e:ai δ (ts++[r]) ((ts.map fun _=>.bad)++[x])=eJ (ai δ ts (ts.map fun _=>.bad)) r x:=by
   have:∀(ts:List Nat) (δ:List D),ai δ (ts++[r]) ((ts.map fun _=>D.bad)++[x])=eJ (ai δ ts (ts.map fun _=>.bad)) r x:=by
    intro ts;induction ts with
    | nil=>intro δ;simp [ai]
    | cons t ts ih=>intro δ;simp only [KO,JL,ai];exact ih _
   exact this ts δ
  rw [e];by_cases hs:s=r
  ·subst hs
   rw [bL,if_pos rfl,cN]
  ·rw [cX _ _ _ _ hs,if_neg hs]
   split
   ·exact me ts δ s ‹_›
   ·exact aq _ _ _ _ ‹_›
 have hlt:g<w.heap.size:=(h.ol g _ hr0).1;have hrd:r<δ.length:=by
  rw [h.ld];by_cases hd:r<c.K.length
  ·exact hd
  ·exfalso
   have:∀(K:List Kd) (r:Nat),¬r<K.length→an K r = .no:=by
    intro K;induction K with
    | nil=>intro r _;rfl
    | cons k K ih =>
     intro r hr;cases r with
     | zero=>simp at hr
     | succ r=>exact ih r (by simpa using hr)
   rw [dP,this c.K r hd] at hrt;exact hrt
 refine⟨oU F y,dQ O y none,h.many (by simp) rfl rfl (fun _ _=>rfl) (fun s hs _ _=>?_) (fun s hs=>?_) (fun _ hb=>.inl hb) (fun b hb=>hw b (hFg b hb)) (fun b p hp hm=>?_) (fun b hb=>?_) (fun b p hp=>?_) (fun b hb=>?_) (Nat.le_of_eq sz.symm) os tape output (fun b hb hx=>hw b fun e=>?_)⟩
 ·have:s=r:=by simpa using hs
  subst this;rw [hset,if_pos rfl,if_pos hrd];exact hx
 ·rw [hset]
  by_cases hsr:s=r
  ·subst hsr
   rw [if_pos rfl,if_pos hrd];refine .inr ?_
   unfold dP at hrt;generalize an c.K s=kk at hrt hrep;cases kk<;>first | exact hrt.elim | exact hrep
  ·have:s∈ts:=by simpa [hsr] using hs
   rw [if_neg hsr,if_pos this];exact .inl rfl
 ·have hpr:p.1≠r:=fun e=>hm (by simp [e])
  have hpt:p.1∉ts:=fun e=>hm (by simp [e])
  refine⟨?_,hw b fun e=>?_⟩
  ·unfold dQ
   rw [if_neg]
   ·exact hp
   ·intro e
    obtain⟨_,q,hq,hq'⟩:=hy b e;rw [hp] at hq;cases hq;exact hpt hq'
  ·subst e
   rw [hp] at hr0;cases hr0;exact hpr rfl
 ·rw [sz]
  rcases hb with hb | hb
  ·refine⟨(h.fl b hb).1,?_⟩
   unfold dQ;rw [if_neg]
   ·exact(h.fl b hb).2
   ·intro e
    obtain⟨_,q,hq,_⟩:=hy b e;rw [(h.fl b hb).2] at hq;cases hq
  ·obtain⟨_,q,hq,_⟩:=hy b hb
   exact⟨(h.ol b q hq).1,by unfold dQ;rw [if_pos hb]⟩
 ·rw [sz]
  unfold dQ at hp;split at hp
  ·cases hp
  ·exact h.ol b p hp
 ·rcases hb with hb | hb
  ·exact .inl hb
  ·exact .inr (hy b hb).1
 ·subst e
  rcases hkeep with h1 | h1
  ·omega
  ·exact hx h1
theorem ro {t n g o:Nat} {e:Nat} {cs:Array Value} {y:Value} (hsz:(sizeOf t).run P w = .ok n w) (hn:y.cells.size=n) (hg:w.heap[g]?=some (.cells cs e (0,0))) (hle:o+n≤cs.size) (h1:∀v∈y.cells.toList,v.oneCell'=true) :
  (storeVar t ⟨g,o,none⟩ y).run P w = .ok () (w.setRow g (cs.toList.take o++y.cells.toList++cs.toList.drop (o+n)).toArray):=by
 have hst:=run_storeCells_at P g o e y.cells.toList 0 cs w hg (by simpa [hn] using hle) h1;simp only [KB,Kg,hn] at hst;simp [storeVar,hsz,hn,hst]
end
end Go.V

namespace Go.V
open Go.RowKit
set_option maxRecDepth 100000
section
variable {P:Program} {c:Cx} {B:Nat} {X:Nat→Prop} {w0:World} {F0 F:Nat→Prop} {O:Nat→Option (Nat × Nat)} {a:Act} {w:World} {δ:List D}
theorem yH {l vs:List D} {f:Nat} (h:f+vs.length≤l.length):(bO l f vs).length=l.length:=by
 unfold bO;simp only [JT,JQ,JZ];omega
theorem Ff {d:D} {m ws:List Value} {vs:List D} {f:Nat} (h:RepC w F d m) (hv:vs.all D.single=true) (hw:bs w F vs ws) (hf:f+vs.length≤d.width) :
  RepC w F (d.ofCells (bO d.cells f vs)) (m.take f++ws++m.drop (f+ws.length))∧(d.ofCells (bO d.cells f vs)).width=d.width:=by
 rcases jR h with ⟨l,rfl⟩ | hs
 ·simp only [RepC] at h
  obtain⟨h1,h2⟩:=qU h.2 hv h.1 hw f;exact⟨by simp only [D.ofCells,D.cells,RepC];exact⟨h1,h2⟩,yH hf⟩
 ·obtain⟨hw1,hc1⟩:=dE hs
  rw [hw1] at hf;have hr:bs w F [d] m:=aw.2 ⟨m,[],by simp,h,aJ.2 rfl⟩;obtain⟨h1,h2⟩:=qU (by simp [hs]) hv hr hw f;have h3:(bO [d] f vs).length=1:=yH (by simpa using hf);obtain⟨e,he⟩:=List.length_eq_one_iff.1 h3;rw [hc1,he];rw [he] at h1 h2;have e2:d.ofCells [e]=e:=by cases d<;>first | rfl | simp [D.single] at hs
  rw [e2,hw1];obtain⟨v1,v2,e3,h4,h5⟩:=aw.1 h1;rw [aJ] at h5;subst h5;rw [e3,JP];exact⟨h4,(dE (by simpa using h2)).1⟩
theorem Dt {us cs ws:List Value} {o k n:Nat} (h:∀(j:Nat) (u:Value),us[j]?=some u→cs[o+j]?=some u) (hk:k+n≤us.length) (hn:ws.length=n) (hc:o+us.length≤cs.length) :
  ∀(j:Nat) (u:Value),(us.take k++ws++us.drop (k+n))[j]?=some u→(cs.take (o+k)++ws++cs.drop (o+k+n))[o+j]?=some u:=by
 intro j u hj;have l1:(us.take k).length=k:=by rw [JQ];omega
 have l2:(cs.take (o+k)).length=o+k:=by rw [JQ];omega
 rcases KC j k with hjk | hjk
 ·rw [JU,JN (by omega),Ka hjk] at hj
  rw [JU,JN (by omega),Ka (by omega)];exact h j u hj
 ·rcases KC j (k+n) with hj2 | hj2
  ·rw [JU,JO (by omega),l1,JN (by omega)] at hj
   rw [JU,JO (by omega),l2,JN (by omega)];rw [show o+j - (o+k)=j - k from by omega];exact hj
  ·have l3:(us.take k++ws).length=k+n:=by rw [JT];omega
   have l4:(cs.take (o+k)++ws).length=o+k+n:=by rw [JT];omega
   rw [JO (by omega),l3,Kv] at hj;rw [JO (by omega),l4,Kv];have:=h _ u hj;rw [←this];congr 1
   omega
theorem FM {p m q ws:List Value} {f n:Nat} (h:f+n≤m.length) :
  p++(m.take f++ws++m.drop (f+n))++q=(p++m++q).take (p.length+f)++ws++(p++m++q).drop (p.length+f+n):=by
 rw [JU p m q,List.take_length_add_append,Kl,Kw,List.take_append_of_le_length (by omega),List.drop_append_of_le_length (by omega)];simp
theorem ul (hI:Inv c B X w0 F0 F O a w δ) {r i f t n:Nat} {p yv yy:Value} {x b':D} (hb:nth δ r ≠ .bad) (hr:mN (an c.K r) (av a r) i f p) (hst:stD n (nth δ r) (.ref i f) x=some b') (hsz:(sizeOf t).run P w = .ok n w)
  (hx:∀w',(∀b,oU F yy b→w'.heap[b]?=w.heap[b]?)→aT w' (FB (oU F yy) B (eU c.K r)) x yv) (hyg:∀g,O g=some (r,0)→blk yy≠some g) :
  ∃g w',(KJ t p yv).run P w = .ok () w'∧O g=some (r,0)∧(B≤g∨X g)∧(∀b,b≠g→w'.heap[b]?=w.heap[b]?)∧w'.heap.size=w.heap.size∧w'.os=w.os∧w'.tape=w.tape∧w'.output=w.output∧b' ≠ .bad ∧
   sn B (oU F yy) (dQ O yy none) w' (r,0) (an c.K r) b' (av a r):=by
 unfold mN at hr;split at hr
 ·rename_i z lv io hk
  obtain⟨g,o,nn,cap,hy,rfl⟩:=hr;obtain⟨l,hd,hwid,hrest⟩:=hI.own hk hb;rcases hrest with ⟨e,_⟩ | ⟨g',o',c',us,cs,e,a1,a2,a3,a4,a5,a6,a7⟩
  ·rw [hy] at e;cases e
  rw [hy] at a1;simp at a1;obtain⟨⟨rfl,rfl⟩,rfl,rfl⟩:=a1;rw [hd] at hst;simp only [stD] at hst;split at hst
  case h_2=>cases hst
  rename_i d hdi;split at hst
  case isFalse=>cases hst
  rename_i hc;obtain⟨hc1,hc2,hc3⟩:=hc;simp only [Kb] at hst;subst hst;obtain⟨pp,mm,q,hus,h1,h2,h3,h4,h5⟩:=nN l us a5 hwid i d hdi;have hwd:d.width=z:=hwid d (KH hdi);have hil:i<l.length:=(JV.1 hdi).1;have hulen:=cP l us a5 hwid;have hcz:l.length*z≤cap*z:=JY _ a2;have hiz:(i+1)*z≤l.length*z:=JY _ hil;rw [Ks] at hiz;have hFg:∀b,oU F yy b→b≠g:=fun b hbF e=>by
   subst e;rcases hbF with hbF | hbF
   ·rw [(hI.fl b hbF).2] at a7;cases a7.1
   ·exact hyg b a7.1 hbF
  have hheap:∀(cs':Array Value) b,b≠g→(w.setRow g cs').heap[b]?=w.heap[b]?:=fun cs' b hne=>setRow_other w g b cs' hne
  have hxr:=hx w (fun _ _=>rfl);obtain⟨_,g2,g3⟩:=dK hxr (lR hc3);have hyn:yv.cells.toList.length=n:=by rw [(ce _ _ g2 g3).1,hc1]
  have hone:∀v∈yv.cells.toList,v.oneCell'=true:=fun v hv=>((ce _ _ g2 g3).2.1 v hv).1
  have hoff:o+i*z+f+n≤cs.size:=by omega
  have hrun:=ro (P:=P) (t:=t) (n:=n) (y:=yv) (o:=o+i*z+f) hsz (by simpa using hyn) a3 hoff hone;obtain⟨cs',hcs'⟩:∃x:Array Value,x=(cs.toList.take (o+i*z+f)++yv.cells.toList++cs.toList.drop (o+i*z+f+n)).toArray:=⟨_,rfl⟩
  rw [←hcs'] at hrun;refine⟨g,w.setRow g cs',?_,a7.1,(hI.ol g _ a7.1).2,hheap cs',na w g cs',rfl,rfl,rfl,by simp,.inr ?_⟩
  ·simp only [KJ,KR,Kp,Kq,Kc]
   exact hrun
  rw [hk];have hmono:∀b,FB F B lv b→FB (oU F yy) B lv b:=iL fun _ h=>.inl h
  have hrl:eU c.K r=lv:=by simp [eU,hk]
  rw [hrl] at hx;have hx':=hx (w.setRow g cs') (fun b hb=>hheap _ b (hFg b hb));obtain⟨_,_,g3'⟩:=dK hx' (lR hc3);have mono:∀{l:List D} {us:List Value},bs w (FB F B lv) l us→bs (w.setRow g cs') (FB (oU F yy) B lv) l us :=
   fun h=>aX hmono (fun b hb=>hheap _ b (hFg b (.inl (dO b hb)))) _ _ h
  have h3':=RepC_mono hmono (fun b hb=>hheap cs' b (hFg b (.inl (dO b hb)))) _ _ h3;obtain⟨r1,r2⟩:=Ff (f:=f) h3' hc3 g3' (by rw [hc1];exact hc2);refine⟨_,rfl,fun e he=>?_,.inr ⟨g,o,cap,pp++(mm.take f++yv.cells.toList++mm.drop (f+n))++q,cs',e,by rw [hy,KQ],by rw [KQ];exact a2,setRow_heap w g cs _ e (0,0) a3,?_,?_,?_,?_,a7.2⟩⟩
  ·rcases List.mem_or_eq_of_mem_set he with he | he
   ·exact hwid e he
   ·rw [he,r2,hwd]
  ·subst hcs'
   simp only [Ke,JT,JQ,JZ,Kg,hyn];omega
  ·have e1:l.set i (d.ofCells (bO d.cells f x.cells))=l.take i++(d.ofCells (bO d.cells f x.cells))::l.drop (i+1):=List.set_eq_take_append_cons_drop.trans (by rw [if_pos hil])
   rw [e1,JU];exact(cC _ _ _).2 ⟨_,_,rfl,mono h4,aw.2 ⟨_,_,rfl,by rw [hyn] at r1;exact r1,mono h5⟩⟩
  ·subst hcs'
   rw [FM (by omega),←hus,h1];intro j u hj;have:=Dt (o:=o) (cs:=cs.toList) (fun j u hj=>by simpa using a6 j u hj) (k:=i*z+f) (n:=n) (by omega) hyn (by simpa using by omega) j u hj;simpa [Kl] using this
  ·exact(gI (hyg g a7.1)).trans a7.1
 ·rename_i n' lv io hk
  obtain⟨g,hy,rfl⟩:=hr;obtain⟨l,us,g',e,hd,a1,a2,a3,a4,a5,a6⟩:=hI.box hk hb;rw [hy] at a1;simp at a1;subst a1;rw [hd] at hst;simp only [stD] at hst;split at hst
  case isFalse=>cases hst
  rename_i hc;obtain⟨hc1,hc2,hc3⟩:=hc;simp only [Kb] at hst;subst hst;have hFg:∀b,oU F yy b→b≠g:=fun b hbF e=>by
   subst e;rcases hbF with hbF | hbF
   ·rw [(hI.fl b hbF).2] at a6;cases a6.1
   ·exact hyg b a6.1 hbF
  have hheap:∀(cs':Array Value) b,b≠g→(w.setRow g cs').heap[b]?=w.heap[b]?:=fun cs' b hne=>setRow_other w g b cs' hne
  have hxr:=hx w (fun _ _=>rfl);obtain⟨_,g2,g3⟩:=dK hxr (lR hc3);have hyn:yv.cells.toList.length=n:=by rw [(ce _ _ g2 g3).1,hc1]
  have hone:∀v∈yv.cells.toList,v.oneCell'=true:=fun v hv=>((ce _ _ g2 g3).2.1 v hv).1
  have hul:=(ce _ _ a4 a3).1;have hrun:=ro (P:=P) (t:=t) (n:=n) (y:=yv) (o:=f) hsz (by simpa using hyn) a2 (by simp;omega) hone;obtain⟨cs',hcs'⟩:∃x:Array Value,x=(us.toArray.toList.take f++yv.cells.toList++us.toArray.toList.drop (f+n)).toArray:=⟨_,rfl⟩
  rw [←hcs'] at hrun;refine⟨g,w.setRow g cs',?_,a6.1,(hI.ol g _ a6.1).2,hheap cs',na w g cs',rfl,rfl,rfl,by simp,.inr ?_⟩
  ·simp only [KJ,KR,Kp,Kq,Kc]
   exact hrun
  rw [hk];have hrl:eU c.K r=lv:=by simp [eU,hk]
  rw [hrl] at hx;have hx':=hx (w.setRow g cs') (fun b hb=>hheap _ b (hFg b hb));obtain⟨_,_,g3'⟩:=dK hx' (lR hc3);have a3':=aX (iL (F':=oU F yy) fun _ h=>.inl h) (fun b hb=>hheap cs' b (hFg b (.inl (dO b hb)))) _ _ a3;obtain⟨r1,r2⟩:=qU a4 hc3 a3' g3' f;rw [hyn] at r1;subst hcs';exact⟨_,_,g,e,rfl,hy,setRow_heap w g _ _ e (0,0) a2,by simpa using r1,r2,by rw [yH (by omega)];exact a5,(gI (hyg g a6.1)).trans a6.1,a6.2⟩
 ·exact hr.elim
end
end Go.V

namespace Go.V
open Go.RowKit
set_option maxRecDepth 100000
section
variable {P:Program} {c:Cx} {B:Nat} {X:Nat→Prop} {w0:World} {F0 F:Nat→Prop} {O:Nat→Option (Nat × Nat)} {a:Act} {w:World} {δ:List D}
theorem zV {o:Oper} (hd:o.dst=none) {w':World} {δ':List D} {F':Nat→Prop} {O':Nat→Option (Nat × Nat)} {k:List D→Option Out} {r:Out}
  (hr:(execOp a.eval o).run P w = .ok .skip w') (hI:Inv c B X w0 F0 F' O' a w' δ') (hk:k δ'=some r) (Q:Exit→Act→World→Prop):o.wp P a w (Next c B X w0 F0 k r) Q :=
 Fc hr ⟨F',O',δ',by rw [hd];exact hI,hk⟩
theorem mX {n:Nat} {b p x b':D} (h:stD n b p x=some b'):b ≠ .bad∧x ≠ .bad∧∃i f,p = .ref i f:=by
 unfold stD at h;split at h
 ·refine⟨by simp,?_,_,_,rfl⟩
  rintro rfl;split at h
  ·split at h
   ·rename_i hc
    simp [D.cells,D.single] at hc
   ·cases h
  ·cases h
 ·refine⟨by simp,?_,_,_,rfl⟩
  rintro rfl;split at h
  ·rename_i hc
   simp [D.cells,D.single] at hc
  ·cases h
 ·cases h
theorem Dp (hI:Inv c B X w0 F0 F O a w δ) {o:Oper} {t:Nat} {q r:Nat} {x:Operand} (ho:o.op = .store t (.tmp q) x) (hd:o.dst=none) {i:TI} (hi:TOk P t i) {ii f:Nat} (hb:nth δ r ≠ .bad)
  (hr:mN (an c.K r) (av a r) ii f (av a q)) {y b':D} (hst:stD i.n (nth δ r) (.ref ii f) y=some b') (hy:aT w (FB F B (eU c.K r)) y (a.eval x))
  {k:List D→Option Out} {rr:Out} (hk:k (ai δ ([]++([r]++br c.K [])) [b'])=some rr) (Q:Exit→Act→World→Prop):o.wp P a w (Next c B X w0 F0 k rr) Q:=by
 obtain⟨g,w',h1,h2,h3,h4,h5,h6,h7,h8,h9,h10⟩:=ul hI (yy:=.nilFunc) hb hr hst (hi.size w) (fun w' hw=>aQ (iL fun _ h=>.inl h) (fun b hb=>hw b (.inl (dO b hb))) hy) (fun g _=>by simp [blk]);obtain⟨F',O',hI'⟩:=hI.write (ts:=[]) (y:=.nilFunc) (by simp) (fun b hb=>by simp [blk] at hb) h9 (lK hr) h2 h10 h4 h5 h6 h7 h8 h3;refine zV hd (w':=w') ?_ hI' hk Q
 simp only [execOp,ho,Kp,cv,h1,Kc,Kq]
theorem vz (q r:Nat) (more:List Nat) (k:D→D→List D→Option Out):goP q r (ah δ (app (rdP q r) more)) k=k (nth δ r) (if q=r then .ref 0 0 else nth δ q) (ah δ more):=by
 unfold goP rdP;cases h:Kj q r
 ·have hne:q≠r:=fun e=>by subst e;simp at h
  simp [hne,app,ah]
 ·have:=aL.1 h
  simp [this,app,ah]
theorem vr {o:Oper} {t:Nat} {q r:Nat} {x:Operand} (ho:o.op = .store t (.tmp q) x) (hd:o.dst=none) {i:TI} (hi:TOk P t i) (hI:Inv c B X w0 F0 F O a w δ)
  (hpl:∀(y b':D),stD i.n (nth δ r) (if q=r then .ref 0 0 else nth δ q) y=some b'→∃ii f,(if q=r then .ref 0 0 else nth δ q)=D.ref ii f∧mN (an c.K r) (av a r) ii f (av a q))
  {A:Ac} (hA:zU c i q r (eU c.K r) x=some A) {k:List D→Option Out} {rr:Out} (hg:dq c A δ k=some rr) (Q:Exit→Act→World→Prop):o.wp P a w (Next c B X w0 F0 k rr) Q:=by
 have dat:∀(y:D),bY w (FB F B (eU c.K r)) y (a.eval x)→stK false i.n (nth δ r) (if q=r then .ref 0 0 else nth δ q) y (fun b=>k (ai δ ([]++([r]++br c.K [])) [b]))=some rr→o.wp P a w (Next c B X w0 F0 k rr) Q:=by
  intro y hy hk;simp only [stK] at hk;obtain⟨b',h1,h2⟩:=JI.1 hk;obtain⟨ii,f,h3,h4⟩:=hpl y b' h1;obtain⟨g1,g2,_⟩:=mX h1;rw [h3] at h1;exact Dp hI ho hd hi g1 h4 h1 (hy.rep g2) h2 Q
 unfold zU at hA;split at hA
 ·rename_i s
  split at hA
  ·rename_i l hk
   split at hA
   ·rename_i hl
    cases hA;simp only [dq,vz] at hg;exact dat (nth δ s) (fv (bI.1 hl) (hI.dat hk)) hg
   ·rename_i hl h0
    cases hA;simp only [dq,vz,stK,ah,eY] at hg;obtain⟨y,h1,h2⟩:=JI.1 hg;unfold aV at h1;split at h1
    case isFalse=>cases h1
    rename_i hv;cases h1;refine dat (nth δ s) (.inr (lL hv ((hI.dat hk).rep ?_))) h2
    intro e;rw [e] at hv;simp [D.isV] at hv
   ·cases hA
  ·rename_i z l hk
   split at hA
   case h_2=>cases hA
   rename_i h1 h2 h3;have hsr:s≠r:=fun e=>by subst e;simp at h3
   rw [bI] at h1 h2;cases hA;simp only [dq,vz,stK,ah,eY] at hg;obtain⟨b',e1,e2⟩:=JI.1 hg;obtain⟨ii,f,e3,e4⟩:=hpl _ _ e1;obtain⟨g1,g2,_⟩:=mX e1;rw [e3] at e1;have hown:=hI.own hk g2;have hblk:=hown.blk;have hy:∀b,blk (av a s)=some b→B≤b∧∃p,O b=some p∧p.1∈[s]:=fun b hb=>⟨(hblk b hb).1.2 rfl,_,(hblk b hb).1.1,by simp⟩
   have hrep:aT w (FB (oU F (av a s)) B (eU c.K r)) (nth δ s) (av a s):=by
    refine aQ (fun b hb=>?_) (fun _ _=>rfl) (jh (hown.own (own':=fun g=>B≤g∧V.blk (av a s)=some g) fun b hb ho=>⟨ho.2 rfl,hb⟩))
    rcases hb with hb | ⟨hb1,hb2⟩
    ·exact jo h2 _ (iL (fun _ h=>.inl h) _ hb)
    ·have hx:oU F (av a s) b:=.inr hb2
     generalize eU c.K r=lv at h1
     match lv,h1 with
     | 1,_=>exact⟨hx,hb1⟩
     | _+2,_=>exact hx
   obtain⟨g,w',h1',h2',h3',h4',h5',h6',h7',h8',h9',h10'⟩:=ul hI (yy:=av a s) (yv:=av a s) g1 e4 e1 (hi.size w) (fun w' hw=>aQ (fun _ h=>h) (fun b hb=>hw b (dO b hb)) hrep) (fun g hg hb=>by
    obtain⟨_,p,hp,hp'⟩:=hy g hb;rw [hg] at hp;cases hp;have e:r=s:=by simpa using hp'
    exact hsr e.symm)
   obtain⟨F',O',hI'⟩:=hI.write (ts:=[s]) (y:=av a s) (by simpa using fun e=>hsr e.symm) hy h9' (lK e4) h2' h10' h4' h5' h6' h7' h8' h3';refine zV hd (w':=w') ?_ hI' e2 Q
   simp only [execOp,ho,Kp,cv,h1',Kc,Kq]
  ·cases hA
 ·cases hA
 ·rename_i v
  split at hA
  case h_2=>cases hA
  rename_i hv;cases hA;simp only [dq,vz] at hg;refine dat (qq v) ?_ hg
  have:=hI.opd (x:=.const v) (by simp [dA,hv]);simp only [dA,hv,opD] at this;exact fv (KF _) this
 ·rename_i f
  cases hA;simp only [dq,vz] at hg;refine dat (.clo f []) ?_ hg
  have:=hI.opd (x:=.func f) (by simp [dA]);simp only [dA,opD] at this;exact fv (KF _) this
theorem zB (hT:okT P c.T=true) {o:Oper} {t:Nat} {p x:Operand} (ho:o.op = .store t p x):gN P c o:=by
 intro A hA B X w0 F0 F O a w δ hI k rr hg Q;simp only [cj,ho] at hA;split at hA
 case h_2=>cases hA
 rename_i hd;have hA0:=ay hA;clear hA;obtain⟨i,hi,hA⟩:=hA0;have hti:=tok hT hi;unfold Eu at hA;split at hA
 case h_2=>cases hA
 rename_i q;split at hA
 ·rename_i n lv io hk
  have hlv:eU c.K q=lv:=by simp [eU,hk]
  rw [←hlv] at hA;refine vr ho hd hti hI (fun y b' hst=>?_) hA hg Q
  rw [if_pos rfl] at hst ⊢;obtain⟨hb,_,_⟩:=mX hst;obtain⟨l,us,g,e,_,a1,_⟩:=hI.box hk hb;refine⟨0,0,rfl,?_⟩
  rw [hk];exact⟨g,a1,a1⟩
 ·rename_i r hk
  refine vr ho hd hti hI (fun y b' hst=>?_) hA hg Q
  by_cases e:q=r
  ·subst e
   obtain⟨hb,_,_⟩:=mX hst;obtain⟨i',f',h1,_⟩:=hI.ref hk hb;rw [h1] at hst;simp [stD] at hst
  ·rw [if_neg e] at hst ⊢
   obtain⟨_,_,ii,f,hp⟩:=mX hst;obtain⟨i',f',h1,h2,h3⟩:=hI.ref hk (by rw [hp];simp);exact⟨i',f',h1,h3⟩
 ·cases hA
end
end Go.V

namespace Go.V
open Go.RowKit
set_option maxRecDepth 100000
section
variable {P:Program} {c:Cx} {B:Nat} {X:Nat→Prop} {w0:World} {F0 F:Nat→Prop} {O:Nat→Option (Nat × Nat)} {a:Act} {w:World} {δ:List D}
theorem vZ {F:Nat→Prop} {z n cap t:Nat} {l:List D} {us:List Value} {cs:Array Value} (hr:bs w F l us) (hl:∀d∈l,d.width=z) (hn:l.length=n) (hc:n≤cap) (hs:cap*z≤cs.size) (hu:∀(i:Nat) (u:Value),us[i]?=some u→cs[i]?=some u)
  (hF:∀b,F b→b<w.heap.size):bh (w.alloc (.cells cs t)) F (fun g=>w.heap.size≤g) z (.arr z l) (.slice (some ⟨w.heap.size,0,none⟩) n cap) :=
 ⟨l,rfl,hl,.inr ⟨w.heap.size,0,cap,us,cs,t,by rw [hn],by rw [hn];exact hc,heap_alloc_new w _,by simpa using hs,aX (fun _ h=>h) (fun b hb=>heap_alloc_old w _ (hF b hb)) _ _ hr,by simpa using hu,JR _⟩⟩
theorem BS {z n:Nat} {l:List D} (h:gg z n l=true):(∀d∈l,d.width=z)∧∀d∈l,d ≠ .bad∧∀m,d ≠ .tup m:=by
 unfold gg at h;rw [List.all_eq_true] at h;refine⟨fun d hd=>?_,fun d hd=>⟨fun e=>?_,fun m e=>?_⟩⟩
 ·have:=h d hd
  simp only [Kz,beq_iff_eq] at this;exact this.1.1
 ·have:=h d hd
  subst e;simp [D.single] at this
 ·have:=h d hd
  subst e;simp [D.single] at this
theorem sN {G:Nat→Prop}:∀(ds:List D) (ys:List Value),ri w G ds ys→(∀d∈ds,d ≠ .bad∧∀m,d ≠ .tup m)→bs w G ds (ys.flatMap fun y=>y.cells.toList)
 | [],[],_,_=>aJ.2 rfl
 | d::ds,y::ys,h,hb=>aw.2 ⟨_,_,rfl,(dK (h.1.rep (hb d (by simp)).1) (hb d (by simp)).2).1,sN ds ys h.2 fun e he=>hb e (by simp [he])⟩
 | [],_::_,h,_=>h.elim
 | _::_,[],h,_=>h.elim
theorem yX (ρ:Operand→Value):∀(parts:List (Nat × Operand)) (k n:Nat),AW k parts n=true→n=k+parts.length∧∀(j:Nat) (p:Nat × Operand),parts[j]?=some p→p.1=k+j
 | [],k,n,h=>by
  simp only [AW] at h;exact⟨(aL.1 h).symm,by simp⟩
 | (i,x)::ps,k,n,h=>by
  simp only [AW] at h;split at h
  case h_2=>cases h
  rename_i hi;rw [aL] at hi;obtain⟨h1,h2⟩:=yX ρ ps (k+1) n h;refine⟨by simp;omega,fun j p hj=>?_⟩
  cases j with
  | zero=>simp at hj;subst hj;simp [hi]
  | succ j=>rw [h2 j p (by simpa using hj)];omega
theorem xi {z:Nat}:∀(parts:List (Nat × Value)) (k:Nat) (us:List Value),(∀(j:Nat) (p:Nat × Value),parts[j]?=some p→p.1=k+j∧p.2.cells.size=z)→(k+parts.length)*z≤us.length →
  KG (fun i=>some (i*z,z)) us.toArray parts=some (us.take (k*z)++(parts.flatMap fun p=>p.2.cells.toList)++us.drop ((k+parts.length)*z)).toArray
 | [],k,us,_,_=>by simp [KG]
 | (i,v)::ps,k,us,h,hl=>by
  obtain⟨h1,h2⟩:=h 0 (i,v) rfl;simp only [KB] at h1 h2;simp only [List.length_cons] at hl;have hkz:(k+(ps.length+1))*z=k*z+z+ps.length*z:=by rw [Ku,Ks];omega
  rw [hkz] at hl;have hvl:v.cells.toList.length=z:=by simpa using h2
  have hfs:=uu v.cells.toList (k*z) 0 us (by rw [hvl];omega);simp only [KB,hvl] at hfs;have ih:=xi ps (k+1) (us.take (k*z)++v.cells.toList++us.drop (k*z+z)) (fun j p hj=>by
   obtain⟨g1,g2⟩:=h (j+1) p (by simpa using hj);exact⟨by omega,g2⟩) (by
   simp only [JT,JQ,JZ,hvl];rw [show k+1+ps.length=k+(ps.length+1) from by omega,hkz];omega)
  simp only [KG,h1,h2];rw [if_neg (by simp;omega)];have e1:(v.cells.zipIdx.foldl (fun cs (c,j)=>cs.setIfInBounds (k*z+j) c) us.toArray)=(us.take (k*z)++v.cells.toList++us.drop (k*z+z)).toArray:=by
   rw [←hfs];rw [←Array.foldl_toList];simp
  rw [e1,ih];have l1:(us.take (k*z)).length=k*z:=by rw [JQ];omega
  have l2:(us.take (k*z)++v.cells.toList).length=(k+1)*z:=by rw [JT,l1,hvl,Ks]
  have t1:(us.take (k*z)++v.cells.toList++us.drop (k*z+z)).take ((k+1)*z)=us.take (k*z)++v.cells.toList:=by rw [←l2];exact List.take_left
  have t2:(us.take (k*z)++v.cells.toList++us.drop (k*z+z)).drop ((k+1+ps.length)*z)=us.drop ((k+(ps.length+1))*z):=by
   rw [Ku,←l2,Kw,List.drop_drop];congr 1
   rw [hkz]
  rw [t1,t2];simp
theorem su (hT:okT P c.T=true) {o:Oper} {t n:Nat} {parts:Array (Nat × Operand)} (ho:o.op = .buildSlice t n parts):gN P c o:=by
 intro A hA B X w0 F0 F O a w δ hI k r hg Q;simp only [cj,ho] at hA;have hA0:=ay hA;clear hA;obtain⟨i,hi,hA⟩:=hA0;have hA0:=ay hA;clear hA;obtain⟨e,he,hA⟩:=hA0;have hti:=tok hT hi;have hte:=tok hT he;split at hA
 case h_2=>cases hA
 rename_i hsl;obtain⟨hu,_,hez,_,y,hy,hys,_⟩:=jC hti hsl;unfold Gl at hA;simp only at hA;split at hA
 ·cases hA
 rename_i d hd;split at hA
 case h_2=>cases hA
 rename_i h1 h2 h3 h4;rw [bI] at h2 h4;cases hA;simp only [dq] at hg;rw [cn] at hg;obtain⟨z,hz,hk⟩:=JI.1 hg;unfold bj at hz;split at hz
 case isFalse=>cases hz
 rename_i hok;cases hz;obtain⟨hw1,hb1⟩:=BS hok;have hxs:(kT (fun p=>p.2) parts.toList).map a.eval=(parts.toList.map fun p=>(p.1,a.eval p.2)).map (·.2):=by rw [oo];simp [Function.comp_def]
 have hbs:ri w (FB F B (jt c.K (kT (fun p=>p.2) parts.toList))) ((kT (fun p=>p.2) parts.toList).map (opD δ)) ((kT (fun p=>p.2) parts.toList).map a.eval) :=
  rQ _ fun x hx=>fv (vl _ x hx) (hI.opd (jP h4 x hx))
 have hrl:=sN _ _ hbs hb1;obtain⟨hn,hix⟩:=yX a.eval parts.toList 0 n h1;simp only [Km] at hn hix;have hsz:∀(j:Nat) (p:Nat × Value),(parts.toList.map fun p=>(p.1,a.eval p.2))[j]?=some p→p.1=0+j∧p.2.cells.size=i.ez:=by
  intro j p hj;rw [List.getElem?_map] at hj;obtain⟨q,hq,rfl⟩:=JJ.1 hj;refine⟨by rw [hix j q hq,Km],?_⟩
  have hmem:q.2∈kT (fun p=>p.2) parts.toList:=by rw [oo];exact KK (KH hq)
  have hrb:=hI.opd (jP h4 _ hmem);have hdm:opD δ q.2∈(kT (fun p=>p.2) parts.toList).map (opD δ):=KK hmem;have hc:=ma (dK (hrb.rep (hb1 _ hdm).1) (hb1 _ hdm).2).1;rw [hw1 _ hdm] at hc;simpa using hc
 obtain⟨y',zv,k1,k2,k3,_⟩:=hte.info;rw [hy] at k1;cases k1;generalize hus:((Array.range (n*i.ez)).map (fun j=>(if n*i.ez=0 then(#[]:Array Value) else zv.cells)[j % (if n*i.ez=0 then(#[]:Array Value) else zv.cells).size]!))=us0;have husl:us0.size=n*i.ez:=by rw [←hus];simp
 have hfill:=xi (z:=i.ez) (parts.toList.map fun p=>(p.1,a.eval p.2)) 0 us0.toList hsz (by simp [husl,hn]);have hdrop:us0.toList.drop ((0+(parts.toList.map fun p=>(p.1,a.eval p.2)).length)*i.ez)=[]:=List.drop_eq_nil_of_le (by simp [husl,hn]);rw [hdrop] at hfill;simp only [Nat.zero_mul,List.take_zero,KE,JP,Kf] at hfill;have hfl:((parts.toList.map fun p=>(p.1,a.eval p.2)).flatMap fun p=>p.2.cells.toList)=((kT (fun p=>p.2) parts.toList).map a.eval).flatMap fun y=>y.cells.toList:=by
  rw [oo];simp [List.flatMap_map]
 rw [hfl] at hfill;have hrun:(execOp a.eval o).run P w = .ok (.value (.slice (some ⟨w.heap.size,0,none⟩) n n)) (w.alloc (.cells (((kT (fun p=>p.2) parts.toList).map a.eval).flatMap fun y=>y.cells.toList).toArray i.elem)):=by
  refine dg (s:=KD t n (parts.map fun(i,x)=>(i,a.eval x))) (by simp only [execOp,ho]) ?_
  have hnot:¬(16777216<n*i.ez):=by omega
  by_cases h0:n*i.ez=0
  ·simp only [h0,if_true] at hus
   simp [KD,run_underlying hu,sizeOf,typeInfo,hy,hys,h0];have e0:us0=#[]:=Array.eq_empty_of_size_eq_zero (husl.trans h0);have e1:Array.map (fun _=>(default:Value)) (Array.range 0)=us0:=by rw [e0,Array.range_zero',Array.map_empty]
   rw [e1,hfill];simp [newRow]
  ·simp only [h0,if_false] at hus
   simp [KD,run_underlying hu,sizeOf,typeInfo,hy,hys,h0,hnot,zeroValue,k3];rw [hus,hfill];simp [newRow]
 have hlenE:((kT (fun p=>p.2) parts.toList).map (opD δ)).length=n:=by rw [oo];simp [hn]
 have hlenU:=cP _ _ hrl hw1;obtain⟨F',O',hI'⟩:=hI.fresh (d:=d) h3 (vZ (w:=w) (t:=i.elem) (cap:=n) (cs:=(((kT (fun p=>p.2) parts.toList).map a.eval).flatMap fun y=>y.cells.toList).toArray) hrl hw1 hlenE (JR _) (by simp only [Ke,hlenU,hlenE];exact JR _) (fun j u hu=>by simpa using hu) (fun b hb=>(hI.fl b (dO b hb)).1)) (by simp) (fun b hb=>heap_alloc_old w _ hb) rfl rfl rfl;exact dh hd hrun hI' hk Q
theorem uk {G:Nat→Prop} {d:D} {y:Value} (h:bY w G d y):∀{n:Nat},ri w G (JW n d) (JW n y)
 | 0=>trivial
 | _+1=>⟨h,uk h⟩
theorem zY {α:Type} {zs:List α} (hz:0<zs.length):∀(m j:Nat) (u:α),((JW m zs).flatten)[j]?=some u→j<m*zs.length∧zs[j % zs.length]?=some u
 | 0,j,u,h=>by simp at h
 | m+1,j,u,h=>by
  rw [List.replicate_succ,List.flatten_cons] at h;rcases KC j zs.length with hj | hj
  ·rw [JN hj] at h
   refine⟨by rw [Ks];omega,by rw [Nat.mod_eq_of_lt hj];exact h⟩
  ·rw [JO hj] at h
   obtain⟨h1,h2⟩:=zY hz m _ u h;refine⟨by rw [Ks];omega,?_⟩
   rw [←h2,Nat.mod_eq_sub_mod hj]
theorem Fp {z:Value} {ez n m:Nat} (hz:z.cells.size=ez) (hez:0<ez) (hle:m*ez≤n) {j:Nat} {u:Value} (h:((JW m z).flatMap fun y=>y.cells.toList)[j]?=some u):(madeCells z.cells n)[j]?=some u:=by
 have e:((JW m z).flatMap fun y=>y.cells.toList)=(JW m z.cells.toList).flatten:=by
  rw [List.flatMap_def];simp
 rw [e] at h;obtain⟨h1,h2⟩:=zY (by simpa [hz] using hez) m j u h;have hl:z.cells.toList.length=ez:=by simpa using hz
 rw [hl] at h1 h2;have hjn:j<n:=by omega
 have hlt:j % ez<z.cells.size:=by rw [hz];exact Nat.mod_lt _ hez
 simp only [madeCells,Array.getElem?_map,Array.getElem?_range,hjn,if_true,Kn,hz,Kb];rw [Array.getElem!_eq_getD,Kx];have:z.cells[j % ez]?=some u:=by simpa using h2
 rw [this];rfl
theorem tQ (hT:okT P c.T=true) {o:Oper} {t:Nat} {n m:Operand} (ho:o.op = .makeSlice t n m):gN P c o:=by
 intro A hA B X w0 F0 F O a w δ hI k r hg Q;simp only [cj,ho] at hA;have hA0:=ay hA;clear hA;obtain⟨i,hi,hA⟩:=hA0;have hA0:=ay hA;clear hA;obtain⟨e,he,hA⟩:=hA0;have hti:=tok hT hi;have hte:=tok hT he;split at hA
 case h_2=>cases hA
 rename_i hsl;obtain⟨hu,_,hez,heb,y,hy,hys,hyb⟩:=jC hti hsl;unfold GM at hA;split at hA
 case h_2=>cases hA
 rename_i d hd hn hm;split at hA
 case h_2=>cases hA
 rename_i hk3;cases hA;simp only [dq] at hg;rw [cn] at hg;obtain⟨z,hz,hk⟩:=JI.1 hg;simp only [JL,JM] at hz;unfold Ga at hz;split at hz
 case h_2=>cases hz
 rename_i k1 l k2 cp e1 e2;split at hz
 case isFalse=>cases hz
 rename_i hc;obtain⟨c1,c2,c3,c4⟩:=hc;cases hz;have hn':=hI.opd (bI.1 hn);have hm':=hI.opd (bI.1 hm);rw [e1] at hn';rw [e2] at hm';obtain⟨hn',_⟩:=ba hn';obtain⟨hm',_⟩:=ba hm';obtain⟨y',zv,q1,q2,q3,q4,q5⟩:=hte.info;rw [hy] at q1;cases q1;have hrun:(execOp a.eval o).run P w = .ok (.value (.slice (some ⟨w.heap.size,0,none⟩) l.toNat cp.toNat)) (w.alloc (.cells (madeCells zv.cells (cp.toNat*y.size)) i.elem)):=by
  refine dg (s:=Instr.makeSlice t (a.eval n) (a.eval m)) (by simp only [execOp,ho]) ?_
  rw [hn',hm'];exact run_make w t i.elem y zv hu hy q3 k1 k2 l cp c1 c2 (by rw [hyb,Int.mul_comm];omega) (by omega)
 obtain⟨z',hz1,hz2,hz3,hz4⟩:=hte.zero;have hzt:∀m,tm e ≠ .tup m:=fun m hm=>Dc hz3 hm
 have hzz:z'=zv:=by
  have h1:=hz1 w;simp [zeroValue,typeInfo,hy,q3] at h1;exact h1.symm
 subst hzz;have hzs:z'.cells.size=i.ez:=by rw [hz4,hte.zl,←q2,hys]
 have hwz:(tm e).width=i.ez:=by
  have:=ma (dK (hz2 w (FB F B 0)).1 hzt).1;rw [←this];simpa using hzs
 have hrl:bs w (FB F B 0) (JW l.toNat (tm e)) ((JW l.toNat z').flatMap fun y=>y.cells.toList) :=
  sN _ _ (uk (.inr (hz2 w _).1)) fun d hd=>by rw [(List.mem_replicate.1 hd).2];exact⟨Gz (hz2 w (FB F B 0)).1,hzt⟩
 obtain⟨F',O',hI'⟩:=hI.fresh (d:=d) hk3 (vZ (w:=w) (t:=i.elem) (n:=l.toNat) (cap:=cp.toNat) (cs:=madeCells z'.cells (cp.toNat*y.size)) hrl (fun d hd=>by rw [(List.mem_replicate.1 hd).2];exact hwz) (by simp) (by omega) (by rw [size_madeCells,hys];exact JR _) (fun j u hu=>Fp (by simpa using hzs) hez (by rw [hys];exact JY _ (by omega)) hu) (fun b hb=>(hI.fl b (dO b hb)).1)) (by simp) (fun b hb=>heap_alloc_old w _ hb) rfl rfl rfl;exact dh hd hrun hI' hk Q
end
end Go.V

namespace Go.V
open Go.RowKit
set_option maxRecDepth 100000
section
variable {P:Program} {c:Cx} {B:Nat} {X:Nat→Prop} {w0:World} {F0 F:Nat→Prop} {O:Nat→Option (Nat × Nat)} {a:Act} {w:World} {δ:List D}
theorem fR:∀(x y:List Nat),ah δ (x++y)=ah δ x++ah δ y
 | [],_=>rfl
 | s::x,y=>by simp [ah,fR x y]
theorem km:∀(x:List Nat),(ah δ x).length=x.length
 | []=>rfl
 | _::x=>by simp [ah,km x]
def uR (w:World) (G:Nat→Prop) (d:D) (y:Value):Prop :=
 ∀z l,d = .arr z l→∃A cc us,y = .slice A l.length cc∧bs w G l us∧(∀e∈l,e.width=z)∧(l≠[]→∃b o,A=some ⟨b,o,none⟩∧cE w b o us)
theorem Ex {G:Nat→Prop} {d:D} {y:Value} (h:bY w G d y):uR w G d y:=by
 intro z l e;subst e;obtain⟨A,cc,us,h1,_,h3,h4,h5⟩:=ly (h.rep (by simp));exact⟨A,cc,us,h1,h3,h4,fun hne=>by
  obtain⟨b,o,e,_,hc⟩:=h5 hne;exact⟨b,o,e,hc⟩⟩
theorem zX {G own:Nat→Prop} {z:Nat} {d:D} {y:Value} (h:bh w G own z d y):uR w G d y:=by
 intro z' l e;subst e;obtain⟨l',e,h2,h3⟩:=h;cases e;rcases h3 with ⟨rfl,rfl⟩ | ⟨g,o,cc,us,cs,e,rfl,a2,a3,a4,a5,a6,a7⟩
 ·exact⟨none,0,[],rfl,aJ.2 rfl,h2,fun h=>absurd rfl h⟩
 ·exact⟨_,cc,us,rfl,a5,h2,fun _=>⟨g,o,rfl,lp a3 a6⟩⟩
theorem vo (hI:Inv c B X w0 F0 F O a w δ) {x:Operand} {rd more:List Nat} {lv:Nat} {q:Option Nat} (h:ka c.K x=some (rd,lv,q)) {kk:D→Option Out} {rr:Out} (hk:gU rd (ah δ (app rd more)) kk=some rr) :
  ∃dx,kk dx=some rr∧mC (iD rd) (ah δ (app rd more))=ah δ more∧uR w (FB F B lv) dx (a.eval x) ∧
   ((q=none∧(rd=[]→x = .const (.slice none 0 0)∧dx = .arr 0 []))∨∃r z io,q=some r∧rd≠[]∧dx=nth δ r∧a.eval x=av a r∧an c.K r = .own z lv io):=by
 rw [jW] at hk ⊢;have hdrop:mC (iD rd) (ah δ (rd++more))=ah δ more:=by
  rw [rj,jz,fR,←km (δ:=δ) rd,List.drop_left]
 unfold ka at h;split at h
 ·rename_i t
  split at h
  ·rename_i l hkt
   simp at h;obtain⟨rfl,rfl,rfl⟩:=h;simp only [gU,ah,List.singleton_append] at hk;exact⟨_,hk,hdrop,Ex (hI.dat hkt),.inl ⟨rfl,fun e=>by cases e⟩⟩
  ·rename_i z l io hkt
   simp at h;obtain⟨rfl,rfl,rfl⟩:=h;simp only [gU,ah,List.singleton_append] at hk;refine⟨_,hk,hdrop,?_,.inr ⟨t,z,io,rfl,by simp,rfl,rfl,hkt⟩⟩
   by_cases hb:nth δ t = .bad
   ·intro z' l' e
    rw [hb] at e;cases e
   ·exact zX (hI.own hkt hb)
  ·rename_i s hkt
   split at h
   case h_2=>cases h
   rename_i z l io hks;simp at h;obtain⟨rfl,rfl,rfl⟩:=h;simp only [gU,dI,ah,KO,KE,nth] at hk;obtain⟨y,h1,h2⟩:=JI.1 hk;obtain⟨hb,rfl⟩:=bC h1;obtain⟨g1,g2,g3,g4⟩:=hI.via hkt hb;refine⟨_,h2,hdrop,?_,.inr ⟨s,z,io,rfl,by simp,rfl,g1,hks⟩⟩
   rw [cv,g1];exact zX (hI.own hks g3)
  ·cases h
 ·simp at h
  obtain⟨rfl,rfl,rfl⟩:=h;simp only [gU] at hk;refine⟨_,hk,hdrop,?_,.inl ⟨rfl,fun _=>⟨rfl,rfl⟩⟩⟩
  intro z l e;cases e;exact⟨none,0,[],rfl,aJ.2 rfl,by simp,fun h=>absurd rfl h⟩
 ·cases h
theorem xI {w w':World} {G G':Nat→Prop}:∀(l:List D) (us:List Value),l.all D.isV=true→bs w G l us→bs w' G' l us
 | [],us,_,h=>by rw [aJ] at h ⊢;exact h
 | d::l,us,hv,h=>by
  obtain⟨v1,v2,rfl,h1,h2⟩:=aw.1 h;simp only [List.all_cons,Kz] at hv;refine aw.2 ⟨v1,v2,rfl,?_,xI l v2 hv.2 h2⟩
  cases d with
  | v x=>simpa only [RepC] using h1
  | agg m =>
   simp only [RepC] at h1 ⊢;exact⟨qJ m v1 hv.1 h1.1,h1.2⟩
  | _=>simp [D.isV] at hv
theorem tR {t ty e:Nat} {i:TypeInfo} (ht:P.underlying t=some (.slice e)) (hi:P.info? e=some i) {g o et sLen sCap m cx:Nat} {cur:Array Value} (hg:w.heap[g]?=some (.cells cur et (0,0))) {A:Option Addr} {news:List Value}
  (hx:(KM i.size m (.slice A m cx)).run P w = .ok news.toArray w) (h1:∀u∈news,u.oneCell'=true) (hroom:sLen+m≤sCap) (hfit:o+sLen*i.size+news.length≤cur.size) :
  (Kh #[t,t] ty #[.slice (some ⟨g,o,none⟩) sLen sCap,.slice A m cx]).run P w =
   .ok (.slice (some ⟨g,o,none⟩) (sLen+m) sCap) (w.setRow g (cur.toList.take (o+sLen*i.size)++news++cur.toList.drop (o+sLen*i.size+news.length)).toArray):=by
 have hst:=run_storeCells_at P g (o+sLen*i.size) et news 0 cur w hg (by simpa using hfit) h1;simp only [KB] at hst;simp [Kh,run_underlying ht,sizeOf,typeInfo,hi,KS,hroom,hx,Ki,hst]
theorem Dn {G:Nat→Prop} {z m cx:Nat} {l:List D} {us:List Value} {A:Option Addr} (hl:l.length=m) (hr:bs w G l us) (hw:∀e∈l,e.width=z) (hc:l≠[]→∃b o,A=some ⟨b,o,none⟩∧cE w b o us) :
  (KM z m (.slice A m cx)).run P w = .ok us.toArray w:=by
 have hul:=cP l us hr hw;cases A with
 | none =>
  have:l=[]:=by
   by_cases h:l=[]
   ·exact h
   ·obtain⟨b,o,e,_⟩:=hc h
    cases e
  subst this;rw [aJ] at hr;subst hr;exact run_firstCells_none w z m m cx
 | some ad =>
  refine run_firstCells_some w z m ad m cx us (by rw [hul,hl]) (fun j v hj=>?_)
  obtain⟨b,o,e,hcell⟩:=hc (by
   intro e;subst e;rw [aJ] at hr;subst hr;simp at hj)
  cases e;rw [Ki];exact hcell j v hj
theorem nl {G:Nat→Prop}:∀(l:List D) (us:List Value),bs w G l us→∀u∈us,u.oneCell'=true
 | [],us,h=>by rw [aJ] at h;subst h;simp
 | d::l,us,h=>by
  obtain⟨v1,v2,rfl,h1,h2⟩:=aw.1 h;intro u hu;rcases Kr.1 hu with hu | hu
  ·rcases jR h1 with ⟨m,rfl⟩ | hs
   ·simp only [RepC] at h1
    exact((ce _ _ h1.2 h1.1).2.1 u hu).1
   ·obtain⟨y,rfl,_,hy⟩:=je _ _ hs h1
    simp at hu;subst hu;exact hy
  ·exact nl l v2 h2 u hu
theorem CU {us ws cs:List Value} {o k:Nat} (hu:us.length=k) (h:∀(j:Nat) (u:Value),us[j]?=some u→cs[o+j]?=some u) (hc:o+k+ws.length≤cs.length) :
  ∀(j:Nat) (u:Value),(us++ws)[j]?=some u→(cs.take (o+k)++ws++cs.drop (o+k+ws.length))[o+j]?=some u:=by
 intro j u hj;have l1:(cs.take (o+k)).length=o+k:=by rw [JQ];omega
 rcases KC j us.length with hju | hju
 ·rw [JN hju] at hj
  rw [JU,JN (by omega),Ka (by omega)];exact h j u hj
 ·rw [JO hju] at hj
  have hjw:=(JV.1 hj).1;rw [JU,JO (by omega),l1,JN (by omega)];rw [←hj];congr 1
  omega
theorem pX {t ty:Nat} {i e:TI} (hi:TOk P t i) (hsl:jB i=true) (he:TOk P i.elem e) {G own:Nat→Prop} (hG:∀b,G b→b<w.heap.size∧¬own b) {l m:List D} {ys yx:Value} (hs:bh w G own i.ez (.arr i.ez l) ys) (hx:uR w G (.arr i.ez m) yx)
  (hb:(l.length+m.length)*i.eb≤140737488355328) (hb2:l.length+m.length≤1152921504606846976) :
  ∃v w',(Kh #[t,t] ty #[ys,yx]).run P w = .ok v w'∧bh w' G (fun g=>own g∨w.heap.size≤g) i.ez (.arr i.ez (l++m)) v∧w.heap.size≤w'.heap.size∧(∀b,b<w.heap.size→¬own b→w'.heap[b]?=w.heap[b]?) ∧
   w'.os=w.os∧w'.tape=w.tape∧w'.output=w.output:=by
 obtain⟨hu,_,hez,heb,y,hy,hys,hyb⟩:=jC hi hsl;obtain⟨y',zv,q1,q2,q3,q4,q5⟩:=he.info;rw [hy] at q1;cases q1;have hzs:zv.cells.size=i.ez:=by
  obtain⟨z',hz1,_,_,hz4⟩:=he.zero;have h1:=hz1 w;simp [zeroValue,typeInfo,hy,q3] at h1;subst h1;rw [hz4,he.zl,←q2,hys]
 obtain⟨A,cx,ws,hyx,hm,hmw,hmc⟩:=hx _ _ rfl;subst hyx;have hwl:=cP m ws hm hmw;obtain⟨l',el,hlw,hrest⟩:=hs;cases el;have grow:∀(us:List Value) (old cap':Nat),us.length=l.length*i.ez→bs w G l us→bh (w.drew.alloc (.cells (us.toArray++ws.toArray++Builtin.zeroCells zv.cells (grownCap w (l.length+m.length) old i.elem - (l.length+m.length))) i.elem)) G (fun g=>own g∨w.heap.size≤g) i.ez (.arr i.ez (l++m)) (.slice (some ⟨w.heap.size,0,none⟩) (l.length+m.length) (grownCap w (l.length+m.length) old i.elem)):=by
  intro us old _ hul hr;have hge:=grownCap_ge w (l.length+m.length) old i.elem;have:=vZ (w:=w.drew) (F:=G) (z:=i.ez) (n:=l.length+m.length) (cap:=grownCap w (l.length+m.length) old i.elem) (t:=i.elem) (l:=l++m) (us:=us++ws) (cs:=us.toArray++ws.toArray++Builtin.zeroCells zv.cells (grownCap w (l.length+m.length) old i.elem - (l.length+m.length)))
   ((cC _ _ _).2 ⟨_,_,rfl,aX (w:=w) (w':=w.drew) (fun _ h=>h) (fun _ _=>rfl) _ _ hr,aX (w:=w) (w':=w.drew) (fun _ h=>h) (fun _ _=>rfl) _ _ hm⟩) (fun d hd=>(Kr.1 hd).elim (hlw d) (hmw d)) (by simp) hge (by
    simp only [Array.size_append,Ke,size_zeroCells,hzs,hul,hwl,←Ku];exact JY _ (by omega)) (fun j u hj=>by
    rw [Array.getElem?_append_left]
    ·simpa using hj
    ·simp only [Array.size_append,Ke]
     have:=(JV.1 hj).1;simpa using this) (fun b hb=>(hG b hb).1)
  exact this.own fun _ _ h=>.inr h
 have hfirst:=Dn (P:=P) (w:=w) (m:=m.length) (cx:=cx) rfl hm hmw hmc;have hb':(l.length+m.length)*y.bytes≤140737488355328:=by rw [hyb];exact hb
 rcases hrest with ⟨rfl,rfl⟩ | ⟨g,o,cc,us,cs,et,rfl,a2,a3,a4,a5,a6,a7⟩
 ·by_cases hm0:m=[]
  ·subst hm0
   refine⟨.slice none 0 0,w,?_,⟨[],rfl,by simp,.inl ⟨rfl,rfl⟩⟩,JR _,fun _ _ _=>rfl,rfl,rfl,rfl⟩
   have hws:ws=[]:=aJ.1 hm;subst hws;simp only [Kt] at hfirst;rw [←hys] at hfirst;simp [Kh,run_underlying hu,sizeOf,typeInfo,hy,KS,hfirst]
  ·obtain⟨b,o,rfl,hcell⟩:=hmc hm0
   have hmp:0<m.length:=List.length_pos_iff.2 hm0;simp only [Kt,Km] at hb' hb2;have hr:=run_append_nil (P:=P) w t ty i.elem y zv hu hy q3 ⟨b,o,none⟩ m.length cx ws (by rw [hwl,hys]) (fun j v hj=>by rw [Ki];exact hcell j v hj) hmp (by omega) (by omega);have hg:=grow [] 0 0 (by simp) (aJ.2 rfl);simp only [Kt,Km,KE,Array.empty_append] at hg;exact⟨_,_,hr,hg,by simp,fun b hb _=>heap_alloc_old w.drew _ hb,rfl,rfl,rfl⟩
 ·have hul:=cP l us a5 hlw
  by_cases hroom:l.length+m.length≤cc
  ·have hlen:(l.length+m.length)*i.ez≤cc*i.ez:=JY _ hroom
   rw [Ku] at hlen;have hr:=tR (P:=P) (ty:=ty) (o:=o) hu hy a3 (A:=A) (news:=ws) (sLen:=l.length) (sCap:=cc) (by rw [hys];exact hfirst) (nl _ _ hm) hroom (by rw [hys,hwl];omega);have hFg:∀b,G b→b≠g:=fun b hb e=>(hG b hb).2 (e ▸ a7)
   refine⟨_,_,hr,?_,by rw [na];exact JR _,fun b _ hb=>setRow_other w g b _ fun e=>hb (e ▸ a7),rfl,rfl,rfl⟩
   refine⟨l++m,rfl,fun d hd=>(Kr.1 hd).elim (hlw d) (hmw d),.inr ⟨g,o,cc,us++ws,_,et,by rw [JT],by rw [JT];exact hroom,setRow_heap w g cs _ et (0,0) a3,?_,?_,?_,.inl a7⟩⟩
   ·simp only [Ke,JT,JQ,JZ,Kg,hys,hwl]
    omega
   ·exact(cC _ _ _).2 ⟨_,_,rfl,aX (fun _ h=>h) (fun b hb=>setRow_other w g b _ (hFg b hb)) _ _ a5,aX (fun _ h=>h) (fun b hb=>setRow_other w g b _ (hFg b hb)) _ _ hm⟩
   ·intro j u hj
    rw [hys];simp only [List.getElem?_toArray];exact CU (o:=o) (ws:=ws) (cs:=cs.toList) (k:=l.length*i.ez) hul (fun j u hj=>by simpa using a6 j u hj) (by
     rw [hwl];have e:cs.toList.length=cs.size:=Kg;rw [e];clear hb hb' hfirst hmc;omega) j u hj
  ·have hm0:m≠[]:=fun e=>hroom (by subst e;simpa using a2)
   obtain⟨b,o',rfl,hcell⟩:=hmc hm0;have hr:=run_append_grow (P:=P) w t ty i.elem y zv hu hy q3 ⟨g,o,none⟩ l.length cc us (by rw [hul,hys]) (fun j v hj=>by rw [Ki];exact lp a3 a6 j v hj) ⟨b,o',none⟩ m.length cx ws (by rw [hwl,hys]) (fun j v hj=>by rw [Ki];exact hcell j v hj) (by omega) (by omega) (growslice_fits (by omega) hb');exact⟨_,_,hr,grow us cc 0 hul a5,by simp,fun b hb _=>heap_alloc_old w.drew _ hb,rfl,rfl,rfl⟩
theorem yN (hT:okT P c.T=true) {o:Oper} {s x:Operand} {t:Nat} {q:Call} (ho:o.op = .call q) (hcl:q.callee = .builtin .append) (hargs:q.args.toList=[s,x]) (hty:q.argTypes.toList=[t,t]) {i e:TI} (hi:cR c.T t=some i) (he:cR c.T i.elem=some e) (hsl:jB i=true)
  {A:Ac} (hA:Fr c o.dst i s x=some A) (hI:Inv c B X w0 F0 F O a w δ) {k:List D→Option Out} {r:Out} (hg:dq c A δ k=some r) (Q:Exit→Act→World→Prop):o.wp P a w (Next c B X w0 F0 k r) Q:=by
 have hti:=tok hT hi;have hte:=tok hT he;have e1:q.args=#[s,x]:=by rw [←Kf (xs:=q.args),hargs]
 have e2:q.argTypes=#[t,t]:=by rw [←Kf (xs:=q.argTypes),hty]
 have hex:∀v w',(Kh #[t,t] o.type #[a.eval s,a.eval x]).run P w = .ok v w'→(execOp a.eval o).run P w = .ok (.value v) w':=by
  intro v w' h;simp [execOp,ho,resolve,hcl,invoke,builtin,e1,e2,h]
 have appD_some:∀{a b y:D},iq i.ez i.eb a b=some y→∃l m,(∃z,a = .arr z l∧(z=i.ez∨l=[]))∧(∃z,b = .arr z m∧(z=i.ez∨m=[]))∧y = .arr i.ez (l++m)∧(l.length+m.length)*i.eb≤140737488355328∧l.length+m.length≤1152921504606846976:=by
  intro a b y h;unfold iq at h;split at h
  ·split at h
   ·rename_i hc
    cases h;exact⟨_,_,⟨_,rfl,hc.1⟩,⟨_,rfl,hc.2.1⟩,rfl,hc.2.2.1,hc.2.2.2⟩
   ·cases h
  ·cases h
 have srcz:∀{G:Nat→Prop} {z:Nat} {m:List D} {y:Value},(z=i.ez∨m=[])→uR w G (.arr z m) y→uR w G (.arr i.ez m) y:=by
  intro G z m y hz h;rcases hz with rfl | rfl
  ·exact h
  ·intro z' l e
   cases e;obtain⟨A,cc,us,h1,h2,_,_⟩:=h _ _ rfl;exact⟨A,cc,us,h1,h2,by simp,fun h=>absurd rfl h⟩
 have srcle:∀{lv lv':Nat} {d:D} {y:Value},lv≤lv'→uR w (FB F B lv) d y→uR w (FB F B lv') d y:=by
  intro lv lv' d y hle h z l e;obtain⟨A,cc,us,h1,h2,h3,h4⟩:=h z l e;exact⟨A,cc,us,h1,aX (jo hle) (fun _ _=>rfl) _ _ h2,h3,h4⟩
 have main:∀(d:Nat) (rs rx:List Nat) (ls lx:Nat) (os ox:Option Nat) (chk:Bool) (A:Ac),o.dst=some d→ka c.K s=some (rs,ls,os)→ka c.K x=some (rx,lx,ox)→fK c.K d i.ez (max ls (if chk then 0 else lx))=true→Dw c d i chk rs rx os=some A→dq c A δ k=some r→o.wp P a w (Next c B X w0 F0 k r) Q:=by
  intro d rs rx ls lx os ox chk A hd hs hx hnew hA hg;have chkK_some:∀{db:D} {kk:D→Option Out},uR w (FB F B lx) db (a.eval x)→BT chk db kk=some r→uR w (FB F B (if chk then 0 else lx)) db (a.eval x)∧kk db=some r:=by
   intro db kk h hk;cases chk
   ·exact⟨h,hk⟩
   ·simp only [BT] at hk
    obtain⟨y,h1,h2⟩:=JI.1 hk;unfold jU at h1;split at h1
    case h_2=>cases h1
    split at h1
    case isFalse=>cases h1
    rename_i z l hv;cases h1;refine⟨?_,h2⟩
    intro z' l' e;cases e;obtain⟨A,cc,us,g1,g2,g3,g4⟩:=h _ _ rfl;exact⟨A,cc,us,g1,xI _ _ hv g2,g3,g4⟩
  unfold Dw at hA;split at hA
  ·rename_i ra
   split at hA
   case h_2=>cases hA
   rename_i hgv hze;rw [aL] at hze;cases hA;simp only [dq] at hg;obtain⟨da,hg,hdr,hsa,hqa⟩:=vo hI hs hg;rw [hdr] at hg;have hg':gU rx (ah δ (app rx [])) (fun b=>BT chk b fun b=>(iq i.ez i.eb da b).bind fun y=>k (ai δ ([d,ra]++([]++br c.K [d,ra])) [y,D.bad]))=some r:=by rw [jW,JP];exact hg
   obtain⟨db,hg,_,hsb,_⟩:=vo hI hx hg';obtain⟨hsb,hg⟩:=chkK_some hsb hg;obtain⟨y,hy,hk⟩:=JI.1 hg;obtain⟨l,m,⟨z1,rfl,hz1⟩,⟨z2,rfl,hz2⟩,rfl,b1,b2⟩:=appD_some hy;rcases hqa with ⟨h,_⟩ | ⟨r',z,io,h,_,hda,hav,hkr⟩
   ·cases h
   cases h;have hb:nth δ ra ≠ .bad:=by rw [←hda];simp
   obtain⟨z',lv',hkr'⟩:=rb hgv;rw [hkr] at hkr';simp only [Kd.own.injEq] at hkr';obtain⟨rfl,rfl,rfl⟩:=hkr';have hown:=hI.own hkr hb;rw [←hda] at hown;simp only [IU,hkr] at hze;subst hze;have hz:bh w (FB F B (max ls (if chk then 0 else lx))) (fun g=>O g=some (ra,0)∧B≤g) i.ez (.arr i.ez l) (av a ra):=by
    obtain⟨l',el,h2,h3⟩:=hown;cases el;rcases h3 with ⟨h3,rfl⟩ | ⟨g,o',cc,us,cs,et,h3,a2,a3,a4,a5,a6,a7⟩
    ·exact⟨[],rfl,by simp,.inl ⟨h3,rfl⟩⟩
    ·exact⟨l,rfl,h2,.inr ⟨g,o',cc,us,cs,et,h3,a2,a3,a4,aX (jo (Nat.le_max_left _ _)) (fun _ _=>rfl) _ _ a5,a6,a7.1,a7.2 rfl⟩⟩
   obtain⟨v,w',h1,h2,h3,h4,h5,h6,h7⟩:=pX (P:=P) (ty:=o.type) hti hsl hte (fun b hb=>⟨(hI.fl b (dO b hb)).1,fun h=>by have:=(hI.fl b (dO b hb)).2;rw [h.1] at this;cases this⟩) hz (srcz hz2 (srcle (KP ls _) hsb)) b1 b2;obtain⟨F',O',hI'⟩:=hI.install (ts:=[ra]) (d:=d) hnew (h2.own fun b _ hb=>by
    rcases hb with hb | hb
    ·exact⟨hb.2,.inr ⟨_,hb.1,by simp⟩⟩
    ·exact⟨KA hI.bb hb,.inl hb⟩) h3 (fun b hb hp=>h4 b hb fun hown=>hp _ hown.1 (by simp)) h5 h6 h7
   exact dh hd (hex v w' (by rw [hav];exact h1)) hI' hk Q
  ·split at hA
   case h_2=>cases hA
   rename_i _ _ _;cases hA;simp only [dq] at hg;have hg':gU rx (ah δ (app rx [])) (fun b=>BT chk b fun b=>(iq i.ez i.eb (.arr 0 []) b).bind fun y=>k (ai δ ([d]++([]++br c.K [d])) [y]))=some r:=by rw [jW,JP];exact hg
   obtain⟨db,hg,_,hsb,_⟩:=vo hI hx hg';obtain⟨hsb,hg⟩:=chkK_some hsb hg;obtain⟨y,hy,hk⟩:=JI.1 hg;obtain⟨l,m,⟨z1,e1',hz1⟩,⟨z2,rfl,hz2⟩,rfl,b1,b2⟩:=appD_some hy;cases e1';have hsv:a.eval s = .slice none 0 0:=by
    unfold ka at hs;split at hs
    ·split at hs<;>first | (simp at hs;done) | (split at hs<;>simp at hs)
    ·rfl
    ·cases hs
   obtain⟨v,w',h1,h2,h3,h4,h5,h6,h7⟩:=pX (P:=P) (ty:=o.type) (G:=FB F B (max ls (if chk then 0 else lx))) (own:=fun _=>False) hti hsl hte (fun b hb=>⟨(hI.fl b (dO b hb)).1,id⟩) uT (srcz hz2 (srcle (KP ls _) hsb)) b1 b2;obtain⟨F',O',hI'⟩:=hI.fresh (d:=d) hnew (h2.own fun b _ hb=>hb.resolve_left id) h3 (fun b hb=>h4 b hb id) h5 h6 h7;exact dh hd (hex v w' (by rw [hsv];exact h1)) hI' hk Q
 unfold Fr at hA;split at hA
 case h_2=>cases hA
 rename_i d rs ls os rx lx ox hd hs hx;split at hA
 ·rename_i h1 h2
  rw [uh] at h2;exact main d rs rx ls lx os ox false A hd hs hx h2 hA hg
 ·rename_i h1 h2 h3
  exact main d rs rx ls lx os ox true A hd hs hx (by simpa using h3) hA hg
 ·cases hA
end
end Go.V

namespace Go.V
open Go.RowKit
set_option maxRecDepth 100000
section
variable {P:Program} {c:Cx} {B:Nat} {X:Nat→Prop} {w0:World} {F0 F:Nat→Prop} {O:Nat→Option (Nat × Nat)} {a:Act} {w:World} {δ:List D}
theorem Am {G own:Nat→Prop} {z:Nat} {l:List D} {y:Value} (h:bh w G own z (.arr z l) y) :
  ∃A cc,y = .slice A l.length cc∧l.length≤cc∧∀p q,p≤q→q≤l.length→bh w G own z (.arr z ((l.take q).drop p)) (sliced A p q cc z):=by
 obtain⟨l',e,h2,h3⟩:=h;cases e;rcases h3 with ⟨rfl,rfl⟩ | ⟨g,o,cc,us,cs,et,rfl,a2,a3,a4,a5,a6,a7⟩
 ·refine⟨none,0,rfl,JR _,fun p q hp hq=>?_⟩
  simp only [Kt,Nat.le_zero] at hq;subst hq;simp only [Nat.le_zero] at hp;subst hp;exact⟨[],by simp,by simp,.inl ⟨by simp [sliced],rfl⟩⟩
 ·refine⟨_,cc,rfl,a2,fun p q hp hq=>?_⟩
  have hul:=cP l us a5 h2;have hlen:((l.take q).drop p).length=q - p:=by rw [JZ,JQ];omega
  have hcz:p*z+(cc - p)*z=cc*z:=by rw [←Ku];congr 1;omega
  obtain⟨t1,_⟩:=iz l us a5 h2 q;obtain⟨_,t2⟩:=iz (l.take q) (us.take (q*z)) t1 (fun d hd=>h2 d (KI hd)) p;refine⟨_,rfl,fun d hd=>h2 d (KI (List.mem_of_mem_drop hd)),.inr ?_⟩
  by_cases hc:cc=p
  ·refine⟨g,o,cc - p,_,cs,et,by simp only [sliced,hc,if_true,hlen],by rw [hlen];omega,a3,by omega,t2,fun j u hj=>?_,a7⟩
   exfalso;have h1:=(JV.1 hj).1;have hqp:q=p:=by omega
   subst hqp;simp only [JZ,JQ] at h1;omega
  ·refine⟨g,o+p*z,cc - p,_,cs,et,by simp only [sliced,hc,if_false,hlen,Kn,Ki],by rw [hlen];omega,a3,by omega,t2,fun j u hj=>?_,a7⟩
   rw [Kv] at hj;rw [Kl];refine a6 _ u ?_
   have h1:=(JV.1 hj).1;rw [JQ] at h1;rw [Ka (by omega)] at hj;exact hj
theorem mF (hT:okT P c.T=true) {o:Oper} {t q:Nat} {lo hi:Option Operand} (ho:o.op = .slice t (.tmp q) lo hi none) {i:TI} (hi':cR c.T t=some i) (hsl:i.str=false→jB i=true)
  {A:Ac} (hA:xu c o.dst i (.tmp q) lo hi=some A) (hI:Inv c B X w0 F0 F O a w δ) {k:List D→Option Out} {r:Out} (hg:dq c A δ k=some r) (Q:Exit→Act→World→Prop):o.wp P a w (Next c B X w0 F0 k r) Q:=by
 have hti:=tok hT hi';unfold xu at hA;split at hA
 case h_2=>cases hA
 rename_i d rd lv ra hd hs;split at hA
 case h_2=>cases hA
 rename_i hgv hnew hstr hst;have hlo:bY w (FB F B (dA c.K (qi lo))) (opD δ (qi lo)) (a.eval (qi lo)):=hI.opd (bI.1 hstr);have hloV:=BC hlo;obtain⟨hu,_,hez,_,y,hy,hz,_⟩:=jC hti (hsl hst);have he:P.elem t=i.elem:=by simp [Program.elem,hu]
 have own:∀(dx:D) (l:List D) (z':Nat),dx = .arr z' l→z'=i.ez→((some ra=none∧(rd=[]→(Operand.tmp q) = .const (.slice none 0 0)∧dx = .arr 0 []))∨∃r z io,some ra=some r∧rd≠[]∧dx=nth δ r∧a.eval (.tmp q)=av a r∧an c.K r = .own z lv io) →
   bh w (FB F B lv) (fun g=>O g=some (ra,0)∧B≤g) i.ez (.arr i.ez l) (a.eval (.tmp q)):=by
  intro dx l z' hdx hzz hq;subst hzz;rcases hq with ⟨h,_⟩ | ⟨r',zz,io,h,_,hda,hav,hkr⟩
  ·cases h
  cases h;obtain⟨z'',lv',hkr'⟩:=rb hgv;rw [hkr] at hkr';simp only [Kd.own.injEq] at hkr';obtain⟨rfl,rfl,rfl⟩:=hkr';have hb:nth δ ra ≠ .bad:=by rw [←hda,hdx];simp
  have hown:=hI.own hkr hb;rw [←hda,hdx] at hown;rw [hav];have hzz:i.ez=zz:=by
   obtain⟨l',e,_⟩:=hown;simp only [D.arr.injEq] at e;exact e.1
  rw [←hzz] at hown;exact hown.own fun _ _ h=>⟨h.1,h.2 rfl⟩
 split at hA
 ·rename_i h
  split at hA
  case h_2=>cases hA
  rename_i hh;cases hA;simp only [dq] at hg;obtain⟨dx,hg,hdr,hsrcR,hq⟩:=vo hI hs hg;clear hsrcR;rw [hdr] at hg;obtain⟨yy,hyy,hk'⟩:=JI.1 hg;rw [cn (δ:=δ) [qi lo,h]] at hyy;simp only [JL,JM,tX] at hyy;have hhb:=hI.opd (bI.1 hh);unfold hD at hyy;split at hyy
  ·rename_i z' l k1 p k2 q' _ e1 e2
   split at hyy
   case isFalse=>cases hyy
   rename_i hc;obtain⟨rfl,c1,c2,c3⟩:=hc;cases hyy;rw [e1] at hloV;rw [e2] at hhb;obtain⟨hhv,_⟩:=ba hhb;have hown:=own _ l _ rfl rfl hq;obtain⟨A,cc,hyv,hlc,hcut⟩:=Am hown;obtain⟨F',O',hI'⟩:=hI.pass (d:=d) hnew (hcut p.toNat q'.toNat (by omega) (by omega));refine dh hd (dg (s:=KT t (av a q) (lo.map a.eval) (some (a.eval h)) none) (by simp only [execOp,ho,cv,Kn,Ko]) ?_) hI' hk' Q
   rw [cv] at hyv;rw [hyv,hhv];rcases ot hloV with e | ⟨e,rfl⟩
   ·rw [e,run_sliceAt_slice w t _ _ _ _ (by rw [he];exact hu),run_slice_lh w t A _ cc (by rw [he];exact hu) k1 k2 p q' c1 c2 (by omega),he,cU hy,hz]
    rfl
   ·rw [e,run_sliceAt_slice w t _ _ _ _ (by rw [he];exact hu),run_slice_h w t A _ cc (by rw [he];exact hu) k2 q' (by omega) (by omega),he,cU hy,hz]
    rfl
  ·rename_i h _ _;cases h
  ·cases hyy
 ·cases hA
  simp only [dq] at hg;obtain⟨dx,hg,hdr,hsrcR,hq⟩:=vo hI hs hg;clear hsrcR;rw [hdr] at hg;obtain⟨yy,hyy,hk'⟩:=JI.1 hg;rw [cn (δ:=δ) [qi lo]] at hyy;simp only [JL,JM,fg] at hyy;unfold qA at hyy;split at hyy
  ·rename_i z' l k1 p _ e1
   split at hyy
   case isFalse=>cases hyy
   rename_i hc;obtain⟨rfl,c1,c2⟩:=hc;cases hyy;rw [e1] at hloV;have hown:=own _ l _ rfl rfl hq;obtain⟨A,cc,hyv,hlc,hcut⟩:=Am hown;have hcc:=hcut p.toNat l.length (by omega) (JR _);rw [List.take_length] at hcc;obtain⟨F',O',hI'⟩:=hI.pass (d:=d) hnew hcc;refine dh hd (dg (s:=KT t (av a q) (lo.map a.eval) none none) (by simp only [execOp,ho,cv,Ko]) ?_) hI' hk' Q
   rw [cv] at hyv;rw [hyv];rcases ot hloV with e | ⟨e,rfl⟩
   ·rw [e,run_sliceAt_slice w t _ _ _ _ (by rw [he];exact hu),run_slice_l w t A _ cc (by rw [he];exact hu) k1 p c1 c2,he,cU hy,hz]
    rfl
   ·rw [e,run_sliceAt_slice w t _ _ _ _ (by rw [he];exact hu),run_slice_all w t A _ cc (by rw [he];exact hu),he,cU hy,hz]
    rfl
  ·rename_i h _;cases h
  ·cases hyy
theorem Inv.tup (h:Inv c B X w0 F0 F O a w δ) {s:Nat} {ms:List Kd} (hk:an c.K s = .tup ms) (hb:nth δ s ≠ .bad):∃l vs,nth δ s = .tup l∧av a s = .tuple vs∧∀i,sn B F O w (s,i+1) (an ms i) (nth l i) (vs.getD i undef):=by
 have h0:=(h.slot s).resolve_left hb;rw [hk] at h0;exact h0
theorem DA {G:Nat→Prop} {d:D} (hd:∀l,d ≠ .tup l):¬aT w G d undef:=by
 intro h;cases d
 case tup l=>exact hd l rfl
 all_goals simp [aT,RepC,undef] at h
 ·obtain⟨rfl,h⟩:=h
  simp [flat] at h
 ·obtain⟨rfl,A,n,c,h⟩:=h
  cases h
theorem Bn {l:List D} {i j:Nat} {x:D} (h:j≠i):nth (l.set i x) j=nth l j:=by
 rw [eX,eX,JX,JX,List.getElem?_set_ne (Ne.symm h)]
theorem zR {l:List D} {i:Nat}:nth (l.set i .bad) i = .bad:=by
 rw [eX,JX,List.getElem?_set_self'];cases l[i]?<;>rfl
theorem Inv.take (h:Inv c B X w0 F0 F O a w δ) {d t i z lv:Nat} {ms:List Kd} {m:List D} {vs:Array Value} {y:Value} (hkt:an c.K t = .tup ms) (ht:nth δ t = .tup m) (htv:av a t = .tuple vs) (hl:∀j,sn B F O w (t,j+1) (an ms j) (nth m j) (vs.getD j undef))
  (hk:fK c.K d z lv=true) (hv:bh w (FB F B lv) (fun g=>B≤g∧O g=some (t,i+1)) z (nth m i) y) :
  ∃F' O',Inv c B X w0 F0 F' O' (a.put (some d) y) w (ai δ ([d,t]++([]++br c.K [d,t])) [nth m i,.tup (m.set i .bad)]):=by
 have hdt:d≠t:=by
  intro e;subst e;rcases mi hk with ⟨l,hk,_⟩ | ⟨l,hk,_⟩<;>rw [hk] at hkt<;>cases hkt
 have hblk:∀b,V.blk y=some b→(B≤b∧O b=some (t,i+1))∧b<w.heap.size:=hv.blk;have hFb:∀b,F b→V.blk y≠some b:=fun b hb e=>by
  obtain⟨⟨_,h1⟩,_⟩:=hblk b e;rw [(h.fl b hb).2] at h1;cases h1
 have hoS:∀(x':Option (Nat × Nat)) b p,O b=some p→p≠(t,i+1)→dQ O y x' b=some p:=fun x' b p hp hm=>by
  rw [gI]
  ·exact hp
  ·intro e
   rw [(hblk b e).1.2] at hp;exact hm (by cases hp;rfl)
 have hoO:∀(x':Option (Nat × Nat)) b p,O b=some p→p.1∉[d,t]++[]→dQ O y x' b=some p∧w.heap[b]?=w.heap[b]?:=fun x' b p hp hm=>⟨hoS x' b p hp fun e=>hm (by simp [e]),rfl⟩
 have hol:∀(x':Option (Nat × Nat)) b p,dQ O y x' b=some p→b<w.heap.size∧(B≤b∨X b):=fun x' b p hp=>by
  by_cases e:V.blk y=some b
  ·exact⟨(hblk b e).2,.inl (hblk b e).1.1⟩
  ·rw [gI e] at hp
   exact h.ol b p hp
 have hav:∀s,s∉[d,t]→av (a.put (some d) y) s=av a s:=fun s hs=>cA fun e=>hs (by simp [e])
 have hnd:nth (ai δ [d,t] [nth m i,.tup (m.set i .bad)]) d=if d<δ.length then nth m i else .bad:=by
  simp only [ai];rw [cX _ _ _ _ hdt,bL]
 have hnt:nth (ai δ [d,t] [nth m i,.tup (m.set i .bad)]) t=if t<δ.length then .tup (m.set i .bad) else .bad:=by
  simp only [ai];rw [bL,fu]
 have hslot:∀(F':Nat→Prop) (x':Option (Nat × Nat)),(∀b,F b→F' b)→pM c.K B F' (dQ O y x') (a.put (some d) y) w t (nth (ai δ [d,t] [nth m i,.tup (m.set i .bad)]) t):=by
  intro F' x' hF;rw [hnt];split
  case isFalse=>exact .inl rfl
  refine .inr ?_
  rw [hkt,cA hdt.symm];refine⟨_,vs,rfl,htv,fun j=>?_⟩
  by_cases hj:j=i
  ·subst hj
   rw [zR];exact .inl rfl
  ·rw [Bn hj]
   exact sO hF (fun _ _=>rfl) (fun g hg=>⟨hoS x' g _ hg (by simpa using hj),rfl⟩) (hl j)
 rcases mi hk with ⟨l,hk,hle⟩ | ⟨l,hk,h1l,hle⟩
 ·refine⟨F,dQ O y (some (d,0)),h.many rfl gZ rfl hav (by simp) (fun s hs=>?_) (fun _ hb=>hb) (fun _ _=>rfl) (hoO _) (fun b hb=>⟨(h.fl b hb).1,(gI (hFb b hb)).trans (h.fl b hb).2⟩) (hol _) (fun _ hb=>.inl hb) (JR _) rfl rfl rfl (fun _ _ _=>rfl)⟩
  rw [JP] at hs ⊢;have hs':s=d∨s=t:=by simpa using hs
  rcases hs' with rfl | rfl
  ·rw [hnd]
   split
   case isFalse=>exact .inl rfl
   rename_i hd;refine .inr ?_
   rw [hk,dW (by rw [h.la,←h.ld];exact hd)];exact .inr (cI (jo hle) (fun _ _=>rfl) (fun g hg ho=>⟨⟨uZ hg,fun _=>ho.1⟩,rfl⟩) hv)
  ·exact hslot F _ fun _ h=>h
 ·refine⟨oU F y,dQ O y none,h.many rfl gZ rfl hav (by simp) (fun s hs=>?_) (fun _ hb=>.inl hb) (fun _ _=>rfl) (hoO _) (fun b hb=>?_) (hol _) (fun b hb=>?_) (JR _) rfl rfl rfl (fun _ _ _=>rfl)⟩
  ·rw [JP] at hs ⊢
   have hs':s=d∨s=t:=by simpa using hs
   rcases hs' with rfl | rfl
   ·rw [hnd]
    split
    case isFalse=>exact .inl rfl
    rename_i hd;refine .inr ?_
    rw [hk,dW (by rw [h.la,←h.ld];exact hd)];refine .inr ?_
    refine aQ (fun b hb=>?_) (fun _ _=>rfl) (jh (hv.own (own':=fun g=>B≤g∧V.blk y=some g) fun b hb ho=>⟨ho.1,hb⟩))
    rcases hb with hb | ⟨hb1,hb2⟩
    ·exact jo hle _ (iL (fun _ h=>.inl h) _ hb)
    ·have hx:oU F y b:=.inr hb2
     match l,h1l with
     | 1,_=>exact⟨hx,hb1⟩
     | _+2,_=>exact hx
   ·exact hslot _ _ fun _ h=>.inl h
  ·rcases hb with hb | hb
   ·exact⟨(h.fl b hb).1,(gI (hFb b hb)).trans (h.fl b hb).2⟩
   ·exact⟨(hblk b hb).2,uZ hb⟩
  ·rcases hb with hb | hb
   ·exact .inl hb
   ·exact .inr (hblk b hb).1.1
theorem wZ {o:Oper} {x:Operand} {i:Nat} (ho:o.op = .extract x i):gN P c o:=by
 intro A hA B X w0 F0 F O a w δ hI k r hg Q;simp only [cj,ho] at hA;unfold Hi at hA;split at hA
 case h_2=>cases hA
 rename_i d t hd;split at hA
 case h_2=>cases hA
 rename_i ms hk;have getI:∀{y:D},bU (nth δ t) i=some y→∃l vs,nth δ t = .tup l∧av a t = .tuple vs∧nth l i=y∧(y ≠ .bad∧∀m,y ≠ .tup m)∧(∀j,sn B F O w (t,j+1) (an ms j) (nth l j) (vs.getD j undef)):=by
  intro y hy;have hb:nth δ t ≠ .bad:=by
   intro e;rw [e] at hy;simp [bU] at hy
  obtain⟨l,vs,h1,h2,h3⟩:=hI.tup hk hb;rw [h1] at hy;simp only [bU] at hy;split at hy
  ·cases hy
  ·cases hy
  ·rename_i hne hne2
   refine⟨l,vs,h1,h2,?_,⟨fun e=>?_,fun m e=>?_⟩,h3⟩
   ·rw [eX,JX,hy];rfl
   ·subst e
    exact hne hy
   ·subst e
    exact hne2 m hy
 have run:∀{vs:Array Value},av a t = .tuple vs→vs.getD i undef≠undef→(execOp a.eval o).run P w = .ok (.value (vs.getD i undef)) w:=by
  intro vs hv hne;refine dg (s:=Instr.extract (av a t) i) (by simp only [execOp,ho,cv]) ?_
  rw [hv];rw [Kx] at hne ⊢;cases h:vs[i]? with
  | none=>rw [h] at hne;simp at hne
  | some v=>simp [Instr.extract,h]
 split at hA
 ·rename_i lv hm
  split at hA
  case h_2=>cases hA
  rename_i l hkd;split at hA
  case h_2=>cases hA
  rename_i hle;rw [bI] at hle;cases hA;refine cf hI hd hg (fun z hz=>?_) Q
  simp only [ah,nth] at hz;obtain⟨m,vs,h1,h2,h3,h4,h5⟩:=getI hz;have h6:=(h5 i).resolve_left (by rw [h3];exact h4.1);rw [hm,h3] at h6;refine⟨_,run h2 (fun e=>?_),.inr ?_⟩
  ·rw [e] at h6
   exact DA h4.2 h6
  ·rw [hkd]
   exact aQ (jo hle) (fun _ _=>rfl) h6
 ·rename_i z lv hm
  split at hA
  case h_2=>cases hA
  rename_i hnew;cases hA;simp only [dq,ah,eY] at hg;obtain⟨y,hy,hk'⟩:=JI.1 hg;obtain⟨m,vs,h1,h2,h3,h4,h5⟩:=getI hy;have h6:=(h5 i).resolve_left (by rw [h3];exact h4.1);rw [hm,h3] at h6;have hne:vs.getD i undef≠undef:=by
   intro e;rw [e] at h6;obtain⟨l',e1,_,h7⟩:=h6;rcases h7 with ⟨h7,_⟩ | ⟨_,_,_,_,_,_,h7,_⟩<;>simp [undef] at h7
  have hrun:=run h2 hne;rw [←h3] at h6 hk';obtain⟨F',O',hI'⟩:=hI.take (i:=i) hk h1 h2 h5 hnew (h6.own fun _ _ ho=>⟨ho.2 rfl,ho.1⟩);refine dh hd hrun hI' ?_ Q
  rw [h1] at hk';exact hk'
 ·cases hA
end
end Go.V

namespace Go.V
open Go.RowKit
set_option maxRecDepth 100000
def eZ (w:World) (F own:Nat→Prop) (k:Kd) (d:D) (y:Value):Prop :=
 d = .bad∨match k with
  | .dat lv=>aT w (FB F 0 lv) d y
  | .own z lv true=>bh w (FB F 0 lv) own z d y
  | .box n lv true=>sY w (FB F 0 lv) own n d y
  | _=>False
def cM (w:World) (F:Nat→Prop) (ow:Nat→Option Nat):Nat→List Kd→List D→List Value→Prop
 | _,[],[],[]=>True
 | i,k::ks,d::ds,y::ys=>eZ w F (fun g=>ow g=some i) k d y∧cM w F ow (i+1) ks ds ys
 | _,_,_,_=>False
def kh:Kd→Bool
 | .own _ _ true=>true
 | .box _ _ true=>true
 | _=>false
def kW (w:World) (F:Nat→Prop):List Kd→List D→List Value→Prop
 | [],[],_=>True
 | k::ks,us,y::ys=>if kh k then(match us with
   | u::us=>u ≠ .bad∧eZ w F (fun _=>True) k u y∧kW w F ks us ys
   | []=>False) else kW w F ks us ys
 | _,_,_=>False
def vP (w:World) (F:Nat→Prop) (B:Nat) (own:Nat→Prop) (k:Kd) (d:D) (y:Value):Prop :=
 d = .bad∨match k with
  | .dat lv=>aT w (FB F B lv) d y
  | .own z lv false=>bh w (FB F B lv) (fun g=>own g∧B≤g) z d y
  | _=>False
def iw:List Value→Value
 | [y]=>y
 | ys=>.tuple ys.toArray
structure CallPost (S:FS) (args:Array Value) (rs us:List D) (w:World) (F:Nat→Prop) (ow:Nat→Option Nat) (F':Nat→Prop) (R:Nat→Option Nat) (vs:List Value) (w':World):Prop where
 os:w'.os=w.os
 tape:w'.tape=w.tape
 output:w'.output=w.output
 size:w.heap.size≤w'.heap.size
 keep:∀b,b<w.heap.size→ow b=none→w'.heap[b]?=w.heap[b]?
 f0:∀b,F b→F' b
 fn:∀b,F' b→(F b∨w.heap.size≤b)∧b<w'.heap.size∧R b=none
 rn:∀b j,R b=some j→w.heap.size≤b∧b<w'.heap.size
 len:vs.length=S.rm.length
 lenD:rs.length=S.rm.length
 res:∀j,vP w' F' w.heap.size (fun g=>R g=some j) (an S.rm j) (nth rs j) (vs.getD j undef)
 us:kW w' F' S.pm us args.toList
def HW (P:Program) (f:FuncId) (args:Array Value) (w:World) (R:Value→World→Prop):Prop :=
 ∀(o:Oper) (a:Act) (next:Act→World→Prop) (Q:Exit→Act→World→Prop),(∀v w',R v w'→next (a.put o.dst v) w')→o.upon P a next Q ((callFunc f args).run P w)
def aF (G:List (Nat × (Obj→Prop))) (P:Program) (f:FuncId) (S:FS):Prop :=
 ∀(ds rs us:List D),S.f ds=some (.ret rs us)→∀(args:Array Value) (w:World) (F:Nat→Prop) (ow:Nat→Option Nat),gOk G w F→cM w F ow 0 S.pm ds args.toList →
  (∀b,F b→b<w.heap.size∧ow b=none)→(∀b i,ow b=some i→b<w.heap.size)→HW P f args w fun v w'=>∃F' R vs,v=iw vs∧CallPost S args rs us w F ow F' R vs w'
section
variable {P:Program} {c:Cx} {B:Nat} {X:Nat→Prop} {w0:World} {F0 F:Nat→Prop} {O:Nat→Option (Nat × Nat)} {a:Act} {w:World} {δ:List D}
def bV:List Ag→List D→Option (List D)
 | [],_=>some []
 | .d x chk::l,is=>match x with
  | .tmp _=>match is with
   | i::is=>match chk with
    | false=>(bV l is).map (i::·)
    | true=>(aV i).bind fun i=>(bV l is).map (i::·)
   | []=>none
  | .const v=>(bV l is).map (qq v::·)
  | .func f=>(bV l is).map (.clo f []::·)
  | .global _=>none
 | .bor t r::l,is=>match Kj t r with
  | true=>match is with
   | i::is=>(bV l is).map (i::·)
   | _=>none
  | false=>match is with
   | p::i::is=>(aa p i).bind fun i=>(bV l is).map (i::·)
   | _=>none
 | .io t r::l,is=>match Kj t r with
  | true=>match is with
   | i::is=>(aa i i).bind fun i=>(bV l is).map (i::·)
   | _=>none
  | false=>match is with
   | p::i::is=>(cY p i).bind fun i=>(aa i i).bind fun i=>(bV l is).map (i::·)
   | _=>none
theorem kw (o:Option (List D)) (i:D) (acc:List D) (k:List D→Option Out):((o.map (i::·)).bind fun ds=>k (acc++ds))=o.bind fun ds=>k (app acc [i]++ds):=by
 cases o<;>simp [jW]
theorem fZ:∀(l:List Ag) (acc is:List D) (k:List D→Option Out),fH acc l is k=(bV l is).bind fun ds=>k (acc++ds)
 | [],acc,is,k=>by simp [fH,bV]
 | .d x chk::l,acc,is,k=>by
  cases x with
  | tmp t =>
   cases is with
   | nil=>simp [fH,bV]
   | cons i is =>
    cases chk
    ·simp only [fH,bV]
     rw [kw,fZ l]
    ·simp only [fH,bV,Kk]
     congr 1
     funext i
     rw [kw,fZ l]
  | const v=>simp only [fH,bV];rw [kw,fZ l]
  | func f=>simp only [fH,bV];rw [kw,fZ l]
  | global g=>simp [fH,bV]
 | .bor t r::l,acc,is,k=>by
  cases hb:Kj t r
  ·rcases is with _ | ⟨p,_ | ⟨i,is⟩⟩
   ·simp [fH,bV,hb]
   ·simp [fH,bV,hb]
   ·simp only [fH,bV,hb,Kk]
    refine congrArg _ (funext fun i=>?_)
    rw [kw,fZ l]
  ·cases is with
   | nil=>simp [fH,bV,hb]
   | cons i is=>simp only [fH,bV,hb];rw [kw,fZ l]
 | .io t r::l,acc,is,k=>by
  cases hb:Kj t r
  ·rcases is with _ | ⟨p,_ | ⟨i,is⟩⟩
   ·simp [fH,bV,hb]
   ·simp [fH,bV,hb]
   ·simp only [fH,bV,hb,Kk]
    refine congrArg _ (funext fun i=>?_)
    refine congrArg _ (funext fun i=>?_)
    rw [kw,fZ l]
  ·cases is with
   | nil=>simp [fH,bV,hb]
   | cons i is =>
    simp only [fH,bV,hb,Kk];refine congrArg _ (funext fun i=>?_)
    rw [kw,fZ l]
theorem rX {F' own:Nat→Prop} {lv l:Nat} {d:D} {y:Value} (hF:∀b,F b→F' b) (h:bY w (FB F B lv) d y) (hl:lv≤l) (h1:l≠1):eZ w F' own (.dat l) d y:=by
 rcases h with h | h
 ·exact .inl h
 ·refine .inr (aQ (fun b hb=>?_) (fun _ _=>rfl) h)
  match l,h1,hl with
  | 0,_,hl =>
   have:lv=0:=by omega
   subst this;exact hb
  | l+2,_,_=>exact hF b (dO b hb)
def tG:List Ag→Nat→Option Nat
 | [],_=>none
 | .io _ r::_,0=>some r
 | _::_,0=>none
 | _::l,n+1=>tG l n
theorem yA (hI:Inv c B X w0 F0 F O a w δ) {F':Nat→Prop} {ow:Nat→Option Nat} (hF:∀b,F b→F' b):∀(xs:List Operand) (pm:List Kd) (ags:List Ag) (i0:Nat) (ds:List D),gM c.K xs pm=some ags→gY pm=true →
  bV ags (ah δ (dR ags))=some ds→(∀r∈eK ags,∀b,O b=some (r,0)→F' b)→(∀j r,tG ags j=some r→∀b,O b=some (r,0)→ow b=some (i0+j))→cM w F' ow i0 pm ds (xs.map a.eval)
 | [],[],ags,i0,ds,h,_,hd,_,_=>by
  simp only [gM,Kb] at h;subst h;simp [bV] at hd;subst hd;trivial
 | [],_::_,_,_,_,h,_,_,_,_=>by simp [gM] at h
 | _::_,[],_,_,_,h,_,_,_,_=>by simp [gM] at h
 | x::xs,m::pm,ags,i0,ds,h,hpm,hd,hbor,hio=>by
  simp only [gM] at h;split at h
  case h_2=>cases h
  rename_i g l hg hl;cases h;have hpm':gY pm=true∧(∀lv,m = .dat lv→lv≠1)∧(∀z lv io,m = .own z lv io→io=true∧lv≠1)∧(∀z lv io,m = .box z lv io→io=true∧lv≠1):=by
   cases m with
   | dat lv =>
    simp only [gY] at hpm;split at hpm
    case h_2=>cases hpm
    rename_i h1 h2;exact⟨hpm,fun l e=>by cases e;intro e;subst e;simp at h1,fun _ _ _ e=>(by cases e),fun _ _ _ e=>(by cases e)⟩
   | own z lv io =>
    cases io
    ·simp [gY] at hpm
    simp only [gY] at hpm;split at hpm
    case h_2=>cases hpm
    rename_i h1 h2;exact⟨hpm,fun _ e=>(by cases e),fun _ l _ e=>by cases e;exact⟨rfl,fun e=>by subst e;simp at h1⟩,fun _ _ _ e=>(by cases e)⟩
   | box z lv io =>
    cases io
    ·simp [gY] at hpm
    simp only [gY] at hpm;split at hpm
    case h_2=>cases hpm
    rename_i h1 h2;exact⟨hpm,fun _ e=>(by cases e),fun _ _ _ e=>(by cases e),fun _ l _ e=>by cases e;exact⟨rfl,fun e=>by subst e;simp at h1⟩⟩
   | _=>simp [gY] at hpm
  obtain⟨hp1,hp2,hp3,hp4⟩:=hpm';have rest:∀d' ds',ds=d'::ds'→bV l (ah δ (dR l))=some ds'→(∀r∈eK l,∀b,O b=some (r,0)→F' b)→(∀j r,tG l j=some r→∀b,O b=some (r,0)→ow b=some (i0+1+j)) →
    eZ w F' (fun g=>ow g=some i0) m d' (a.eval x)→cM w F' ow i0 (m::pm) ds ((x::xs).map a.eval):=by
   intro d' ds' e h1 h2 h3 h4;subst e;exact⟨h4,yA hI hF xs pm l (i0+1) ds' hl hp1 h1 h2 h3⟩
  have hio':∀j r,tG l j=some r→∀b,O b=some (r,0)→ow b=some (i0+1+j):=fun j r hj b hb=>by
   have:=hio (j+1) r (by cases g<;>exact hj) b hb;rw [this];congr 1
   omega
  have hbor':∀r∈eK l,∀b,O b=some (r,0)→F' b:=fun r hr=>hbor r (by cases g<;>simp [eK,hr])
  unfold nB at hg;split at hg
  ·rename_i lm
   have hl1:=hp2 lm rfl;split at hg
   ·rename_i t
    split at hg
    ·rename_i lv hk
     have hrep:=hI.dat hk;split at hg
     ·rename_i hle
      cases hg;simp only [app,ah,bV] at hd;obtain⟨ds',h1,rfl⟩:=JJ.1 hd;exact rest _ _ rfl h1 hbor' hio' (rX hF hrep (bI.1 hle) hl1)
     ·split at hg
      case h_2=>cases hg
      rename_i hle h0;cases hg;simp only [app,ah,bV] at hd;obtain⟨i,hc,hd⟩:=JI.1 hd;obtain⟨ds',h1,rfl⟩:=JJ.1 hd;refine rest _ _ rfl h1 hbor' hio' ?_
      unfold aV at hc;split at hc
      case isFalse=>cases hc
      rename_i hv;cases hc;refine .inr (lL hv (hrep.rep ?_))
      intro e;rw [e] at hv;simp [D.isV] at hv
    ·rename_i z lv io hk
     split at hg
     case h_2=>cases hg
     rename_i hl2;cases hg;simp only [dR,KN,ah,bV] at hd;obtain⟨ds',h1,rfl⟩:=JJ.1 hd;refine rest _ _ rfl h1 hbor' hio' ?_
     by_cases hb:nth δ t = .bad
     ·exact .inl hb
     ·refine .inr (aQ (fun b hb=>?_) (fun _ _=>rfl) (jh (hI.own hk hb)))
      rw [aL] at hl2;subst hl2;rcases hb with hb | hb
      ·exact hF b (dO b hb)
      ·exact hbor t (by simp [eK]) b hb.1
    ·rename_i r hk
     split at hg
     case h_2=>cases hg
     rename_i hl2 hown;cases hg;rw [aL] at hl2;subst hl2;have hviaD:∀(hbt:nth δ t ≠ .bad),eZ w F' (fun g=>ow g=some i0) (.dat 2) (nth δ r) (a.eval (.tmp t)):=by
      intro hbt;obtain⟨g1,g2,g3,g4⟩:=hI.via hk hbt;obtain⟨z,lv,io,hkr⟩:∃z lv io,an c.K r = .own z lv io:=by
       unfold ku at hown;split at hown
       ·exact⟨_,_,_,‹_›⟩
       ·cases hown
      rw [cv,g1];refine .inr (aQ (fun b hb=>?_) (fun _ _=>rfl) (jh (hI.own hkr g3)))
      rcases hb with hb | hb
      ·exact hF b (dO b hb)
      ·exact hbor r (by simp [eK]) b hb.1
     cases htr:Kj t r
     ·simp only [dR,htr,ah,bV] at hd
      obtain⟨i,hc,hd⟩:=JI.1 hd;obtain⟨ds',h1,rfl⟩:=JJ.1 hd;obtain⟨hbt,rfl⟩:=bC hc;exact rest _ _ rfl h1 hbor' hio' (hviaD hbt)
     ·have:=aL.1 htr
      subst this;simp only [dR,htr,ah,bV] at hd;obtain⟨ds',h1,rfl⟩:=JJ.1 hd;refine rest _ _ rfl h1 hbor' hio' ?_
      by_cases hb:nth δ t = .bad
      ·exact .inl hb
      ·exact hviaD hb
    ·cases hg
   ·cases hg
   ·rename_i f
    cases hg;simp only [dR,app,bV] at hd;obtain⟨ds',h1,rfl⟩:=JJ.1 hd;refine rest _ _ rfl h1 hbor' hio' (rX hF (lv:=0) (hI.opd (x:=.func f) (by simp [dA])) (KF _) hl1)
   ·rename_i v
    split at hg
    case h_2=>cases hg
    rename_i hv;cases hg;simp only [dR,app,bV] at hd;obtain⟨ds',h1,rfl⟩:=JJ.1 hd;have:=hI.opd (x:=.const v) (by simp [dA,hv]);simp only [dA,hv,opD] at this;exact rest _ _ rfl h1 hbor' hio' (rX hF this (KF _) hl1)
  ·rename_i z l'
   have hl1:=(hp3 z l' true rfl).2;have hcv:∀(lv:Nat),l'=lv→∀b,FB F B lv b→FB F' 0 l' b:=by
    intro lv e b hb;subst e
    match l',hl1 with
    | 0,_=>exact hb.elim
    | n+2,_=>exact hF b hb
   split at hg
   case h_2=>cases hg
   rename_i t;split at hg
   ·rename_i z' lv io hk
    split at hg
    case h_2=>cases hg
    rename_i h1 h2;rw [aL] at h1 h2;subst h1;cases hg;simp only [dR,KN,ah,bV] at hd;obtain⟨i,hc,hd⟩:=JI.1 hd;obtain⟨ds',h1',rfl⟩:=JJ.1 hd;obtain⟨hb,rfl⟩:=bC hc;exact rest _ _ rfl h1' hbor' hio' (.inr (cI (hcv lv h2) (fun _ _=>rfl) (fun g _ ho=>⟨by simpa using hio 0 t rfl g ho.1,rfl⟩) (hI.own hk hb)))
   ·rename_i r hk
    split at hg
    case h_2=>cases hg
    rename_i z' lv io hkr;split at hg
    case h_2=>cases hg
    rename_i h1 h2;rw [aL] at h1 h2;subst h1;cases hg;have hvia:nth δ t ≠ .bad→nth δ r ≠ .bad→eZ w F' (fun g=>ow g=some i0) (.own z l' true) (nth δ r) (a.eval (.tmp t)):=by
     intro hbt hb;rw [cv,(hI.via hk hbt).1];exact .inr (cI (hcv lv h2) (fun _ _=>rfl) (fun g _ ho=>⟨by simpa using hio 0 r rfl g ho.1,rfl⟩) (hI.own hkr hb))
    cases htr:Kj t r
    ·simp only [dR,htr,ah,bV] at hd
     obtain⟨i,hc,hd⟩:=JI.1 hd;obtain⟨i',hc',hd⟩:=JI.1 hd;obtain⟨ds',h1',rfl⟩:=JJ.1 hd;obtain⟨hb,rfl⟩:=bC hc';unfold cY at hc;split at hc
     case h_2=>cases hc
     rename_i hr0;cases hc;exact rest _ _ rfl h1' hbor' hio' (hvia (by rw [hr0];simp) hb)
    ·have e:=aL.1 htr
     subst e;rw [hk] at hkr;cases hkr
   ·cases hg
  ·rename_i n l'
   have hl1:=(hp4 n l' true rfl).2;have hcv:∀(lv:Nat),l'=lv→∀b,FB F B lv b→FB F' 0 l' b:=by
    intro lv e b hb;subst e
    match l',hl1 with
    | 0,_=>exact hb.elim
    | n+2,_=>exact hF b hb
   split at hg
   case h_2=>cases hg
   rename_i t;split at hg
   ·rename_i z' lv io hk
    split at hg
    case h_2=>cases hg
    rename_i h1 h2;rw [aL] at h1 h2;subst h1;cases hg;simp only [dR,KN,ah,bV] at hd;obtain⟨i,hc,hd⟩:=JI.1 hd;obtain⟨ds',h1',rfl⟩:=JJ.1 hd;obtain⟨hb,rfl⟩:=bC hc;exact rest _ _ rfl h1' hbor' hio' (.inr (sw (hcv lv h2) (fun _ _=>rfl) (fun g ho=>⟨by simpa using hio 0 t rfl g ho.1,rfl⟩) (hI.box hk hb)))
   ·rename_i r hk
    split at hg
    case h_2=>cases hg
    rename_i z' lv io hkr;split at hg
    case h_2=>cases hg
    rename_i h1 h2;rw [aL] at h1 h2;subst h1;cases hg;cases htr:Kj t r
    ·simp only [dR,htr,ah,bV] at hd
     obtain⟨i,hc,hd⟩:=JI.1 hd;obtain⟨i',hc',hd⟩:=JI.1 hd;obtain⟨ds',h1',rfl⟩:=JJ.1 hd;obtain⟨hb,rfl⟩:=bC hc';unfold cY at hc;split at hc
     case h_2=>cases hc
     rename_i hr0;cases hc;obtain⟨ii,ff,h5,_,h6⟩:=hI.ref hk (by rw [hr0];simp);rw [hr0] at h5;cases h5;rw [hkr] at h6;obtain⟨g0,e1,e2⟩:=h6;refine rest _ _ rfl h1' hbor' hio' (.inr ?_)
     rw [cv,e2,←e1];exact sw (hcv lv h2) (fun _ _=>rfl) (fun g ho=>⟨by simpa using hio 0 r rfl g ho.1,rfl⟩) (hI.box hkr hb)
    ·have e:=aL.1 htr
     subst e;rw [hk] at hkr;cases hkr
   ·cases hg
  ·cases hg
end
end Go.V

end
