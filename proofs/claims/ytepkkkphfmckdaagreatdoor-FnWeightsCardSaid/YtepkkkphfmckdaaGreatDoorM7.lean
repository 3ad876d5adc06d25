/-
  A part of the proof: contracts and plain forms of functions beneath the statement, made small by a program (names shortened, what is not needed left out).
-/
import Derived.Test.YtepkkkphfmckdaaGreatDoorRows
import Derived.Test.YtepkkkphfmckdaaGreatDoorTie
import Derived.Test.YtepkkkphfmckdaaGreatDoorCards
import Derived.Test.YtepkkkphfmckdaaGreatDoorM6
open Int renaming reduceLT → Hg, reduceLE → Hh, reduceEq → Hi, mul_nonneg → Ht, mul_le_mul → Hw, eq_ofNat_of_zero_le → HD, toNat_natCast → HE, mul_assoc → HK, tdiv_eq_ediv_of_nonneg → HL, tmod_eq_emod_of_nonneg → HN, mul_comm → HY, ediv_nonneg → Ia, le_of_lt → Ig
open Go.IntKind renaming i64 → Hj
open List renaming getElem_mem → Hk, take_succ_eq_append_getElem → Hr, length_take → Hu, length_singleton → Hx, all_eq_true → Hy, length_set → HA, length_append → HB, getElem_of_mem → HH, pairwise_iff_getElem → HO, getElem?_eq_some_iff → HS, length_cons → HU, length_map → HZ, mem_of_mem_take → Ib, getD_cons_zero → Ic, getD_cons_succ → Ie, mem_singleton → Ih, ext_getElem → Ii, mem_append → Ij, replicate → Il
open Bool renaming and_eq_true → Hl, true_and → Ho, false_and → Hp, and_false → HC, and_true → HJ
open ByteArray renaming size_append → Hm
open Option renaming isSome_some → Hn, isSome_none → Hq, getD_some → Hs, map → Hz, getD_none → HF, bind_some → HV
open Nat renaming le_refl → Hv, zero_le → HI, min_eq_left → Ik
set_option maxRecDepth 100000
set_option linter.unusedSimpArgs false
set_option linter.unusedVariables false
noncomputable section
namespace Go.Proofs.YtepkkkphfmckdaaGreatDoor
open Go Go.V
set_option maxRecDepth 100000
def cds (f:List Srt):List ByteArray:=f.map (·.1)
def sg (f:List Srt) (c:ByteArray):Int:=((f.find? fun x=>decide (x.1=c)).map (·.2)).getD 0
theorem Ap {f:List Srt} (h:fA f=true) {i j:Nat} (hi:i<f.length) (hj:j<f.length) (e:f[i].1=f[j].1):i=j:=by
 obtain⟨-,hp,-⟩:=rY.1 h;have hp:=HO.1 hp;rcases Nat.lt_trichotomy i j with g | g | g
 ·have:=hp i j hi hj g
  rw [e,sN] at this;cases this
 ·exact g
 ·have:=hp j i hj hi g
  rw [e,sN] at this;cases this
theorem Gx {f:List Srt} (h:fA f=true) {i:Nat} (hi:i<f.length):sg f f[i].1=f[i].2:=by
 unfold sg;have:f.find? (fun x=>decide (x.1=f[i].1))=some f[i]:=by
  rw [List.find?_eq_some_iff_getElem];refine⟨by simp,i,hi,rfl,fun j hj=>?_⟩
  simp only [Bool.not_eq_true',decide_eq_false_iff_not];intro e;have:=Ap h (by omega) hi e;omega
 rw [this];rfl
theorem Dc {f:List Srt} (h:fA f=true):srs f=fD (sg f) (cds f):=by
 unfold cds;show D.arr 2 (f.map sr)=D.arr 2 ((f.map fun x=>x.1).map (so (sg f)))
 rw [List.map_map];congr 1
 refine List.map_congr_left fun x hx=>?_
 obtain⟨i,hi,rfl⟩:=HH hx;simp only [Function.comp];show D.agg [T f[i].1,I f[i].2]=D.agg [T f[i].1,I (sg f f[i].1)]
 rw [Gx h hi]
theorem kK {s:ByteArray} {lo hi:Int} (h:cC s lo hi=true):lo≤(s.size:Int)∧(s.size:Int)≤hi:=by
 unfold cC at h;simp only [Hl,decide_eq_true_eq] at h;exact h.2
theorem kV {f:List Srt} (h:fA f=true):Codes (cds f):=by
 obtain⟨hs,-,-⟩:=rY.1 h;refine⟨fun j hj=>?_,fun i j hi hj e=>?_⟩
 ·have hj':j<f.length:=by simpa [cds] using hj
  have e:(cds f)[j]=f[j].1:=by simp [cds]
  rw [e];have:=hs f[j] (Hk _);unfold pI at this;simp only [Hl] at this;have:=kK this.1;have hz:f[j].1.size=(aj f[j].1).length:=rfl;omega
 ·exact Ap h (by simpa [cds] using hi) (by simpa [cds] using hj) (by simpa [cds] using e)
open Classical in
def rp (cs:List ByteArray) (w:ByteArray):Option (List Nat):=if h:∃r,Sets cs (aj w) [] r then h.choose else none
theorem vV {cs:List ByteArray} (hc:Codes cs) (w:ByteArray):Sets cs (aj w) [] (rp cs w):=by
 have h:=tr hc _ (aj w) [] (Hv _);unfold rp;rw [dif_pos h];exact h.choose_spec
theorem wK {cs:List ByteArray} (hc:Codes cs) {w:ByteArray} {l:List Nat} (h:rp cs w=some l):(∀i∈l,i<cs.length)∧l.length≤w.size:=by
 have:=Ej hc (vV hc w) (by simp) l h;rw [List.length_nil,Nat.zero_add] at this;exact this
theorem oS {f:List Srt} (h:fA f=true):1≤f.length∧f.length≤32:=by
 obtain⟨-,-,h1,h2⟩:=rY.1 h;exact⟨h1,h2⟩
theorem Eu {f:List Srt} (h:fA f=true) (w:ByteArray) (hs:w.size≤1000):eB [srs f,T w]=nA (rp (cds f) w):=by
 rw [Dc h];have:=oS h;exact sd (sg f) (kV h) (by simp [cds];omega) w hs (vV (kV h) w)
theorem Db {f:List Srt} (h:fA f=true) (w:ByteArray) (hs:w.size≤1000):fJ [srs f,T w]=nA (rp (cds f) w):=by
 rw [Dc h];have:=oS h;exact wM (sg f) (kV h) (by simp [cds];omega) w hs (vV (kV h) w)
def lD (cs:List ByteArray):List ByteArray→List Int→Option (List Int)
 | [],s=>some s
 | w::ws,s=>(rp cs w).bind fun l=>lD cs ws (dE s l)
theorem vR (cs:List ByteArray) (fin:List Int→Out) (no:Out):∀(ws:List ByteArray) (i:Nat) (s:List Int),
  goL (fun _ w s=>match rp cs w with | some l=>.inl (dE s l) | none=>.inr no) fin i ws s=match lD cs ws s with | some s=>fin s | none=>no
 | [],i,s=>rfl
 | w::ws,i,s=>by
  unfold goL lD;cases rp cs w with
  | none=>rfl
  | some l=>exact vR cs fin no ws (i+1) (dE s l)
theorem yA (s:List Int) (k:Nat) (hk:k<s.length) (hb:∀x∈s,0≤x∧x≤1000000000) :
  Hj.wrap (s[k]+1)=s.getD k 0+1∧s[k]=s.getD k 0:=by
 have:=hb _ (Hk hk);have e:s.getD k 0=s[k]:=by simp [hk]
 exact⟨by rw [e,wrap_id (by omega) (by omega)],e.symm⟩
theorem yj {body:List D→Option Out} (f:D) (t:D) (n i z:Int) (l:List Nat) (s:List Int) (hl:∀k∈l,k<s.length) (hln:l.length≤100000) (hs:∀x∈s,0≤x∧x≤1000000)
  (h1:∀(j:Nat) (hj:j<l.length) (a:List Int),a.length=s.length→(∀x∈a,0≤x∧x≤1000000000)→l[j]<a.length→body [f,aq a,t,I n,I i,fy l,I l.length,I j]=some (.nrm [f,aq (a.set l[j] (a.getD l[j] 0+1)),t,I n,I i,fy l,I l.length,I ((j:Int)+1)]))
  (h2:∀a:List Int,body [f,aq a,t,I n,I i,fy l,I l.length,I l.length]=some (.ext 2 [f,aq a,t,I n,I i])) :
  aI body [f,aq s,t,I n,I i,fy l,I l.length,I 0]=some (.ext 2 [f,aq (dE s l),t,I n,I i]):=by
 refine(jd l (fun j (a:List Int)=>[f,aq a,t,I n,I i,fy l,I l.length,I j]) (fun j a=>a=dE s (l.take j)) (fun _ a k=>a.set k (a.getD k 0+1)) (fun a=>.ext 2 [f,aq a,t,I n,I i]) s (fun j a hj ha=>?_) (fun a _=>h2 a) (fun _=>rfl) (by simp [dE]) rfl).trans ?_
 ·subst ha
  have hlen:(dE s (l.take j)).length=s.length:=eF _ _;have hbd:=jg 1000000 (l.take j) s hs;have htl:(l.take j).length≤100000:=by rw [Hu];omega
  refine⟨h1 j hj _ hlen (fun x hx=>by have:=hbd x hx;omega) (by rw [hlen];exact hl _ (Hk _)),?_⟩
  rw [Hr hj,pJ]
 ·congr 1
  have:∀(l:List Nat) (j:Nat) (s:List Int),qQ (fun _ a k=>a.set k (a.getD k 0+1)) j l s=dE s l:=by
   intro l;induction l with
   | nil=>intro j s;rfl
   | cons k l ih=>intro j s;exact ih (j+1) _
  rw [this]
theorem ku (l:List Int) (i:Nat) (x:Int) (h:i<l.length):stD 1 (aq l) (.ref i 0) (I x)=some (aq (l.set i x)):=by
 rw [tE (w:=.int .i64 l[i]) (by simp [h])];simp [aq,List.map_set]
structure NIn (n i:Nat) (s:List Int):Prop where
 len:s.length=n
 bd:∀x∈s,0≤x∧x≤16*(i:Int)
theorem vU {n i:Nat} {s:List Int} (h:NIn n i s) {l:List Nat} (hl:l.length≤16):NIn n (i+1) (dE s l) :=
 ⟨by rw [eF,h.len],fun x hx=>by have:=jg _ l s h.bd x hx;omega⟩
theorem wS {cs:List ByteArray} (hc:Codes cs) {n:Nat}:∀(ws:List ByteArray) (i:Nat) (s r:List Int),(∀w∈ws,w.size≤16)→NIn n i s→lD cs ws s=some r→NIn n (i+ws.length) r
 | [],i,s,r,_,h,e=>by
  cases e;exact h
 | w::ws,i,s,r,hw,h,e=>by
  unfold lD at e;obtain⟨l,h1,h2⟩:=Option.bind_eq_some_iff.1 e;have:=(wK hc h1).2;have hz:=hw w (by simp);have:=wS hc ws (i+1) _ r (fun x hx=>hw x (by simp [hx])) (vU h (l:=l) (by omega)) h2;rw [HU,show i+(ws.length+1)=i+1+ws.length by omega];exact this
def iT (n:Nat):List Int:=Il n 0
theorem uf (n:Nat):NIn n 0 (iT n):=⟨by simp [iT],fun x hx=>by
 have:=(List.mem_replicate.1 hx).2;omega⟩
theorem xK (n:Nat) (h:n≤1000000):vX 1 8 (D.v (Value.int Hj 0)) (I (n:Int)) (I (n:Int))=some (aq (iT n)):=by
 rw [xS,if_pos (by omega)];simp [iT]
def vA (f:List Srt) (ws:List ByteArray):Option (List Int):=lD (cds f) ws (iT f.length)
theorem CO {ws:List ByteArray} (h:qh ws=true):(∀w∈ws,w.size≤16)∧ws.length≤40:=by
 unfold qh at h;simp only [Hl,Hy,decide_eq_true_eq] at h;exact⟨fun w hw=>by have:=kK (h.1 w hw);omega,by omega⟩
set_option maxHeartbeats 1000000 in
theorem nG {f:List Srt} (hf:fA f=true) {ws:List ByteArray} (hw:qh ws=true):eT [srs f,txs ws]=some (.ret [aq ((vA f ws).getD []),B (vA f ws).isSome] []):=by
 rw [ug];obtain⟨h16,h40⟩:=CO hw;have hfl:=oS hf;have hcl:(cds f).length=f.length:=by simp [cds]
 simp only [jo,HZ,HV,xK f.length (by omega)];refine aG _ (kC ws (fun i s=>[srs f,aq s,txs ws,I ws.length,I i]) (fun i s=>NIn f.length i s∧i≤ws.length) (fun _ w s=>match rp (cds f) w with | some l=>.inl (dE s l) | none=>.inr (.ret [aq [],B false] [])) (fun s=>.ext 0 [aq s]) (fun i w s hiw hI=>?_) (fun s hI=>?_) (iT f.length) ⟨uf _,HI _⟩ rfl) ?_
 ·obtain⟨hi,rfl⟩:=HS.1 hiw
  have hi':(i:Int)<(ws.length:Int):=by omega
  have hw':Hj.wrap ((i:Int)+1)=(i:Int)+1:=wrap_id (by omega) (by omega);have hz:=h16 _ (Hk hi);have hg:=rQ (l:=ws) hi;have ht:=Db hf ws[i] (by omega);cases hr:rp (cds f) ws[i] with
  | none =>
   rw [hr] at ht;simp only;refine⟨?_,rfl⟩
   unfold nA at ht;simp -implicitDefEqProofs only [ao,Hg,Hh,Hi,hi',hg,ht,ta0,tc0,tv1,HF,Hq];rfl
  | some l =>
   rw [hr] at ht;simp only;have hlt:=wK (kV hf) hr;unfold nA at ht;refine⟨?_,vU hI.1 (by omega),by omega⟩
   simp -implicitDefEqProofs only [ao,Hg,Hh,Hi,hi',hg,ht,ta0,tc0,tv1,Hs,Hn];refine aG _ (yj (srs f) (txs ws) ws.length i l.length l s (by rw [hI.1.len,←hcl];exact hlt.1) (by omega) (fun x hx=>by have:=hI.1.bd x hx;omega) (fun j hj a ha hb hk=>?_) (fun a=>?_)) ?_
   ·have hj':(j:Int)<(l.length:Int):=by omega
    have hwj:Hj.wrap ((j:Int)+1)=(j:Int)+1:=wrap_id (by omega) (by omega);obtain⟨q1,q2⟩:=yA a l[j] hk hb;have hst:=ku a l[j] (a[l[j]]+1) hk;rw [←q2];rw [←q2] at q1;simp -implicitDefEqProofs [hj,hwj,q1,hk,hst]
   ·simp -implicitDefEqProofs
   ·simp -implicitDefEqProofs only [ao,Hg,Hh,Hi,hw']
    rfl
 ·obtain⟨hI,_⟩:=hI
  have hlt:¬(ws.length:Int)<(ws.length:Int):=by omega
  exact⟨by simp -implicitDefEqProofs only [ao,Hg,Hh,Hi,hlt],rfl⟩
 ·rw [vR (cds f) (fun s=>.ext 0 [aq s]) _ ws 0 (iT f.length)]
  show _=some (Out.ret [aq ((lD (cds f) ws (iT f.length)).getD []),B (lD (cds f) ws (iT f.length)).isSome] [])
  cases lD (cds f) ws (iT f.length) with
  | none=>simp -implicitDefEqProofs only [ao,Hg,Hh,Hi,gT,HF,Hq]
  | some r=>simp -implicitDefEqProofs only [ao,Hg,Hh,Hi,Hs,Hn]
set_option maxHeartbeats 1000000 in
theorem pi {f:List Srt} (hf:fA f=true) {ws:List ByteArray} (hfi:FIn f) (hwi:WIn ws) (hw:qh ws=true):bQ [srs f,txs ws]=some (.ret [aq ((vA f ws).getD []),B (vA f ws).isSome] []):=by
 rw [jI];obtain⟨h16,h40⟩:=CO hw;have hfl:=oS hf;have hcl:(cds f).length=f.length:=by simp [cds]
 have e1:=jT f hfi;have e2:=ly ws hwi;rw [hf] at e1;rw [hw] at e2;simp -implicitDefEqProofs only [ao,Hg,Hh,Hi,e1,e2,xK f.length (by omega)];refine aG _ (kC ws (fun i s=>[srs f,aq s,txs ws,I ws.length,I i]) (fun i s=>NIn f.length i s∧i≤ws.length) (fun _ w s=>match rp (cds f) w with | some l=>.inl (dE s l) | none=>.inr (.ret [aq [],B false] [])) (fun s=>.ext 0 [aq s]) (fun i w s hiw hI=>?_) (fun s hI=>?_) (iT f.length) ⟨uf _,HI _⟩ rfl) ?_
 ·obtain⟨hi,rfl⟩:=HS.1 hiw
  have hi':(i:Int)<(ws.length:Int):=by omega
  have hw':Hj.wrap ((i:Int)+1)=(i:Int)+1:=wrap_id (by omega) (by omega);have hz:=h16 _ (Hk hi);have hg:=rQ (l:=ws) hi;have ht:=Eu hf ws[i] (by omega);cases hr:rp (cds f) ws[i] with
  | none =>
   rw [hr] at ht;simp only;refine⟨?_,rfl⟩
   unfold nA at ht;simp -implicitDefEqProofs only [ao,Hg,Hh,Hi,hi',hg,ht,ta0,tc0,tv1,HF,Hq];rfl
  | some l =>
   rw [hr] at ht;simp only;have hlt:=wK (kV hf) hr;unfold nA at ht;refine⟨?_,vU hI.1 (by omega),by omega⟩
   simp -implicitDefEqProofs only [ao,Hg,Hh,Hi,hi',hg,ht,ta0,tc0,tv1,Hs,Hn];refine aG _ (yj (srs f) (txs ws) ws.length i l.length l s (by rw [hI.1.len,←hcl];exact hlt.1) (by omega) (fun x hx=>by have:=hI.1.bd x hx;omega) (fun j hj a ha hb hk=>?_) (fun a=>?_)) ?_
   ·have hj':(j:Int)<(l.length:Int):=by omega
    have hwj:Hj.wrap ((j:Int)+1)=(j:Int)+1:=wrap_id (by omega) (by omega);obtain⟨q1,q2⟩:=yA a l[j] hk hb;have hst:=ku a l[j] (a[l[j]]+1) hk;rw [←q2];rw [←q2] at q1;simp -implicitDefEqProofs [hj,hwj,q1,hk,hst]
   ·simp -implicitDefEqProofs
   ·simp -implicitDefEqProofs only [ao,Hg,Hh,Hi,hw']
    rfl
 ·obtain⟨hI,_⟩:=hI
  have hlt:¬(ws.length:Int)<(ws.length:Int):=by omega
  exact⟨by simp -implicitDefEqProofs only [ao,Hg,Hh,Hi,hlt],rfl⟩
 ·rw [vR (cds f) (fun s=>.ext 0 [aq s]) _ ws 0 (iT f.length)]
  show _=some (Out.ret [aq ((lD (cds f) ws (iT f.length)).getD []),B (lD (cds f) ws (iT f.length)).isSome] [])
  cases lD (cds f) ws (iT f.length) with
  | none=>simp -implicitDefEqProofs only [ao,Hg,Hh,Hi,gT,HF,Hq]
  | some r=>simp -implicitDefEqProofs only [ao,Hg,Hh,Hi,Hs,Hn]
theorem rC {f:List Srt} (hfi:FIn f) {ws:List ByteArray} (hwi:WIn ws) (h:(fA f&&qh ws)=false):bQ [srs f,txs ws]=some (.ret [aq [],B false] []):=by
 rw [jI];have e1:=jT f hfi;have e2:=ly ws hwi;cases hf:fA f
 ·rw [hf] at e1
  simp -implicitDefEqProofs only [ao,Hg,Hh,Hi,e1];rfl
 ·rw [hf] at e1 h
  rw [Ho] at h;rw [h] at e2;simp -implicitDefEqProofs only [ao,Hg,Hh,Hi,e1,e2];rfl
def eY (f:List Srt) (ws:List ByteArray):Option (List Int):=if (fA f&&qh ws)=true then vA f ws else none
theorem mL {f:List Srt} {ws:List ByteArray} {r:List Int} (h:eY f ws=some r):fA f=true∧qh ws=true∧vA f ws=some r:=by
 unfold eY at h;split at h
 ·rename_i hb
  simp only [Hl] at hb;exact⟨hb.1,hb.2,h⟩
 ·cases h
theorem DJ {f:List Srt} {ws:List ByteArray} {r:List Int} (h:eY f ws=some r):r.length=f.length∧∀x∈r,0≤x∧x≤640:=by
 obtain⟨hf,hw,hr⟩:=mL h;obtain⟨h16,h40⟩:=CO hw;have:=wS (kV hf) ws 0 _ _ h16 (uf f.length) hr;exact⟨this.len,fun x hx=>by have:=this.bd x hx;omega⟩
theorem xd (f:List Srt) (ws:List ByteArray) (hfi:FIn f) (hwi:WIn ws):bQ [srs f,txs ws]=some (.ret [aq ((eY f ws).getD []),B (eY f ws).isSome] []):=by
 unfold eY;by_cases hb:(fA f&&qh ws)=true
 ·rw [if_pos hb]
  simp only [Hl] at hb;exact pi hb.1 hfi hwi hb.2
 ·rw [if_neg hb]
  exact rC hfi hwi (by simpa using hb)
theorem po (f:List Srt) (ws:List ByteArray) (hfi:FIn f) (hwi:WIn ws):ep [srs f,txs ws]=some (.ret [aq ((eY f ws).getD []),B (eY f ws).isSome] []):=by
 rw [pt];simp -implicitDefEqProofs only [ao,Hg,Hh,Hi,xd f ws hfi hwi,ta0,tc0,tv1]
theorem uG (f:List Srt) (ws:List ByteArray) (hfi:FIn f) (hwi:WIn ws):gJ [srs f,txs ws]=some (.ret [B (eY f ws).isSome] []):=by
 rw [uB];have e1:=jU f hfi;have e2:=sU ws hwi;unfold eY;cases hf:fA f
 ·rw [hf] at e1
  simp -implicitDefEqProofs only [ao,Hg,Hh,Hi,e1,Hp,Hq]
 ·rw [hf] at e1
  cases hw:qh ws
  ·rw [hw] at e2
   simp -implicitDefEqProofs only [ao,Hg,Hh,Hi,e1,e2,Ho,Hq]
  ·rw [hw] at e2
   have e3:=nG hf hw;simp -implicitDefEqProofs only [ao,Hg,Hh,Hi,e1,e2,e3,Ho,ta0,tc0,tv1]
def ki (f:List Srt) (l:List Int):Bool:=decide (l.length=f.length)&&l.all fun n=>decide (0≤n∧n≤100000)
theorem pw (l:List Int) (a b:Int) (h:l.length≤1048577):fE [aq l,I a,I b]=some (.ret [B (l.all fun n=>decide (a≤n∧n≤b))] []):=by
 rw [wi];simp -implicitDefEqProofs only [ao,Hg,Hh,Hi];refine aG _ (jb l (fun i=>[I a,I b,aq l,I l.length,I i]) (fun _ n=>decide (a≤n∧n≤b)) (.ret [B false] []) (.ext 0 []) (fun i hi=>?_) ?_ rfl rfl rfl) ?_
 ·have hw:Hj.wrap ((i:Int)+1)=(i:Int)+1:=wrap_id (by omega) (by omega)
  have e:=eC l[i] a b;cases hd:decide (a≤l[i]∧l[i]≤b)<;>rw [hd] at e<;>simp -implicitDefEqProofs [hi,hw,e]
 ·simp -implicitDefEqProofs
 ·rw [lI]
  cases l.all fun n=>decide (a≤n∧n≤b)<;>simp -implicitDefEqProofs only [ao,Hg,Hh,Hi,gT]
theorem iZ (f:List Srt) (l:List Int) (h:l.length≤1048577):dB [srs f,aq l]=some (.ret [B (ki f l)] []):=by
 rw [sQ];have e:=pw l 0 100000 h;unfold ki;by_cases hl:l.length=f.length
 ·have hl':(l.length:Int)=(f.length:Int):=by omega
  simp -implicitDefEqProofs only [ao,Hg,Hh,Hi,hl,hl',e,Ho]
 ·have hl':¬(l.length:Int)=(f.length:Int):=by omega
  simp -implicitDefEqProofs only [ao,Hg,Hh,Hi,hl,hl',Hp]
theorem gC (f:List Srt) (l:List Int) (hfi:FIn f) (h:l.length≤1048577):cF [srs f,aq l]=some (.ret [B (fA f&&ki f l)] []):=by
 rw [qi];simp -implicitDefEqProofs only [ao,Hg,Hh,Hi];refine aG _ (jb l (fun i=>[srs f,aq l,aq l,I l.length,I i]) (fun _ n=>decide (0≤n∧n≤100000)) (.ret [B false] []) (.ext 0 [srs f,aq l]) (fun i hi=>?_) ?_ rfl rfl rfl) ?_
 ·have hw:Hj.wrap ((i:Int)+1)=(i:Int)+1:=wrap_id (by omega) (by omega)
  have e:=dZ l[i] 0 100000;cases hd:decide (0≤l[i]∧l[i]≤100000)<;>rw [hd] at e<;>simp -implicitDefEqProofs [hi,hw,e]
 ·simp -implicitDefEqProofs
 ·rw [lI]
  have e1:=jT f hfi;unfold ki;cases l.all fun n=>decide (0≤n∧n≤100000)
  ·simp -implicitDefEqProofs only [ao,Hg,Hh,Hi,gT,HC]
  ·cases hf:fA f
   ·rw [hf] at e1
    simp -implicitDefEqProofs only [ao,Hg,Hh,Hi,e1,Hp]
   ·rw [hf] at e1
    by_cases hl:l.length=f.length
    ·have hl':(l.length:Int)=(f.length:Int):=by omega
     simp -implicitDefEqProofs only [ao,Hg,Hh,Hi,e1,hl,hl',HJ]
    ·have hl':¬(l.length:Int)=(f.length:Int):=by omega
     simp -implicitDefEqProofs only [ao,Hg,Hh,Hi,e1,hl,hl',HJ,Hp,Ho]
theorem rh (f:List Srt) (st:List Int) (ws:List ByteArray) (hfi:FIn f) (hwi:WIn ws) (h:st.length≤1048577):fh [srs f,aq st,txs ws]=some (.ret [aq ((eY f ws).getD []),B ((eY f ws).isSome&&ki f st)] []):=by
 rw [rF];have e1:=xd f ws hfi hwi;have e2:=gC f st hfi h;cases hn:eY f ws with
 | none =>
  rw [hn] at e1;simp -implicitDefEqProofs only [ao,Hg,Hh,Hi,e1,ta0,tc0,tv1,Hq,Hp]
 | some r =>
  rw [hn] at e1;rw [(mL hn).1,Ho] at e2;simp -implicitDefEqProofs only [ao,Hg,Hh,Hi,e1,e2,ta0,tc0,tv1,Hn,Ho]
theorem tB (f:List Srt) (st:List Int) (ws:List ByteArray) (hfi:FIn f) (hwi:WIn ws) (h:st.length≤1048577):fK [srs f,aq st,txs ws]=some (.ret [B ((eY f ws).isSome&&ki f st)] []):=by
 rw [sV];have e1:=uG f ws hfi hwi;have e2:=iZ f st h;cases hn:(eY f ws).isSome
 ·rw [hn] at e1
  simp -implicitDefEqProofs only [ao,Hg,Hh,Hi,e1,Hp]
 ·rw [hn] at e1
  simp -implicitDefEqProofs only [ao,Hg,Hh,Hi,e1,e2,Ho]
set_option maxRecDepth 100000
def yU (st nd:List Int) (i:Nat) (b n:Int):Int:=if 0<n∧(b<0∨st.getD i 0*nd.getD b.toNat 0<st.getD b.toNat 0*n) then i else b
def sc (st nd:List Int):Nat→Int
 | 0=>-1
 | i+1=>yU st nd i (sc st nd i) (nd.getD i 0)
theorem wQ (st nd:List Int) (i:Nat):sc st nd (i+1)=yU st nd i (sc st nd i) (nd.getD i 0):=rfl
theorem Fy (st nd:List Int):∀i,sc st nd i = -1∨∃k,k<i∧sc st nd i=(k:Int)
 | 0=>.inl rfl
 | i+1=>by
  rw [wQ];unfold yU;split
  ·exact .inr ⟨i,by omega,rfl⟩
  ·rcases Fy st nd i with h | ⟨k,hk,h⟩
   ·exact .inl h
   ·exact .inr ⟨k,by omega,h⟩
structure ScIn (st nd:List Int):Prop where
 len:st.length=nd.length
 s:∀x∈st,0≤x∧x≤100000
 d:∀x∈nd,0≤x∧x≤640
 n:nd.length≤32
theorem mu {l:List Int} {i:Nat} (h:i<l.length):l.getD i 0∈l:=by
 have:l.getD i 0=l[i]:=by simp [h]
 rw [this];exact Hk h
theorem vo {st nd:List Int} (h:ScIn st nd) {i k:Nat} (hi:i<nd.length) (hk:k<nd.length):0≤st.getD i 0*nd.getD k 0∧st.getD i 0*nd.getD k 0≤64000000:=by
 have h1:=h.s _ (mu (by rw [h.len];exact hi));have h2:=h.d _ (mu hk);exact⟨Ht h1.1 h2.1,Int.le_trans (Hw h1.2 h2.2 h2.1 (by omega)) (by omega)⟩
theorem Al {body:List D→Option Out} {st nd:List Int} (h:ScIn st nd)
  (h1:∀(i:Nat) (hi:i<nd.length) (b:Int),(b = -1∨∃k:Nat,k<nd.length∧b=k)→Hj.wrap ((i:Int)+1)=(i:Int)+1→body [aq st,aq nd,I b,aq nd,I nd.length,I i]=some (.nrm [aq st,aq nd,I (yU st nd i b nd[i]),aq nd,I nd.length,I ((i:Int)+1)]))
  (h2:∀b:Int,body [aq st,aq nd,I b,aq nd,I nd.length,I nd.length]=some (.ext 0 [I b])):aI body [aq st,aq nd,I (-1),aq nd,I nd.length,I 0]=some (.ext 0 [I (sc st nd nd.length)]):=by
 have hn:=h.n;refine eG nd.length (fun i=>[aq st,aq nd,I (sc st nd i),aq nd,I nd.length,I i]) (.ext 0 [I (sc st nd nd.length)]) (fun i hi=>?_) (h2 _) rfl rfl
 have e:nd.getD i 0=nd[i]:=by simp [hi]
 have:=h1 i hi (sc st nd i) (by
  rcases Fy st nd i with g | ⟨k,hk,g⟩
  ·exact .inl g
  ·exact .inr ⟨k,by omega,g⟩) (wrap_id (by omega) (by omega))
 rw [this];show _=some (Out.nrm [aq st,aq nd,I (sc st nd (i+1)),aq nd,I nd.length,I ((i+1:Nat):Int)])
 rw [wQ,e];rfl
def scO (b:Int):Option Out:=if b<0 then some (.ret [I 0,B false] []) else some (.ret [I b,B true] [])
def zV (f:List Srt) (st:List Int) (ws:List ByteArray):Option Out:=match eY f ws with
 | some r=>if ki f st=true then scO (sc st r r.length) else some (.ret [I 0,B false] [])
 | none=>some (.ret [I 0,B false] [])
theorem zD {f:List Srt} {st r:List Int} {ws:List ByteArray} (hn:eY f ws=some r) (hc:ki f st=true):ScIn st r:=by
 obtain⟨h1,h2⟩:=DJ hn;unfold ki at hc;simp only [Hl,decide_eq_true_eq,Hy] at hc;have:=oS (mL hn).1;exact⟨by omega,hc.2,h2,by omega⟩
set_option maxHeartbeats 1000000 in
theorem nf (f:List Srt) (st:List Int) (ws:List ByteArray) (hfi:FIn f) (hwi:WIn ws) (h:st.length≤1048577):dv [srs f,aq st,txs ws]=zV f st ws:=by
 rw [mR];have e:=rh f st ws hfi hwi h;unfold zV;cases hn:eY f ws with
 | none =>
  rw [hn] at e;simp -implicitDefEqProofs only [ao,Hg,Hh,Hi,e,ta0,tc0,tv1,Hq,Hp]
 | some r =>
  rw [hn] at e;cases hc:ki f st
  ·rw [hc] at e
   simp -implicitDefEqProofs only [ao,Hg,Hh,Hi,e,ta0,tc0,tv1,Hn,HC]
  ·rw [hc] at e
   have hin:=zD hn hc;simp -implicitDefEqProofs only [ao,Hg,Hh,Hi,e,ta0,tc0,tv1,Hn,HJ,Hs];refine aG _ (Al hin (fun i hi b hb hw=>?_) (fun b=>?_)) ?_
   ·have hsl:=hin.len
    have hi':i<st.length:=by omega
    have ei:st.getD i 0=st[i]:=by simp [hi']
    have er:r.getD i 0=r[i]:=by simp [hi]
    unfold yU;by_cases h0:0<r[i]
    ·rcases hb with rfl | ⟨k,hk,rfl⟩
     ·have hz:(-1:Int)<0:=by decide
      simp -implicitDefEqProofs [hi,hw,h0]
     ·have hk':¬(k:Int)<0:=by omega
      have hks:k<st.length:=by omega
      have b1:=vo hin (i:=i) (k:=k) hi hk;have b2:=vo hin (i:=k) (k:=i) hk hi;have ek:st.getD k 0=st[k]:=by simp [hks]
      have erk:r.getD k 0=r[k]:=by simp [hk]
      rw [ei,erk] at b1;rw [ek,er] at b2;have w1:Hj.wrap (st[i]*r[k])=st[i]*r[k]:=wrap_id (by omega) (by omega);have w2:Hj.wrap (st[k]*r[i])=st[k]*r[i]:=wrap_id (by omega) (by omega);by_cases hlt:st[i]*r[k]<st[k]*r[i]<;>simp -implicitDefEqProofs [hi,hw,h0,hk',hk,hi',hks,w1,w2,hlt]
    ·simp -implicitDefEqProofs [hi,hw,h0]
   ·simp -implicitDefEqProofs
   ·unfold scO
    by_cases hb:sc st r r.length<0<;>simp -implicitDefEqProofs only [ao,Hg,Hh,Hi,hb]
set_option maxHeartbeats 1000000 in
theorem mP (f:List Srt) (st:List Int) (ws:List ByteArray) (hfi:FIn f) (hwi:WIn ws) (h:st.length≤1048577):du [srs f,aq st,txs ws]=zV f st ws:=by
 rw [mY];have e:=tB f st ws hfi hwi h;unfold zV;cases hn:eY f ws with
 | none =>
  rw [hn] at e;simp -implicitDefEqProofs only [ao,Hg,Hh,Hi,e,ta0,tc0,tv1,Hq,Hp]
 | some r =>
  rw [hn] at e;cases hc:ki f st
  ·rw [hc] at e
   simp -implicitDefEqProofs only [ao,Hg,Hh,Hi,e,ta0,tc0,tv1,Hn,HC]
  ·rw [hc] at e
   have hin:=zD hn hc;obtain⟨hf,hw0,hr0⟩:=mL hn;have e2:=nG hf hw0;rw [hr0] at e2;simp -implicitDefEqProofs only [ao,Hg,Hh,Hi,e,e2,ta0,tc0,tv1,Hn,HJ,Hs];refine aG _ (Al hin (fun i hi b hb hw=>?_) (fun b=>?_)) ?_
   ·have hsl:=hin.len
    have hi':i<st.length:=by omega
    have ei:st.getD i 0=st[i]:=by simp [hi']
    have er:r.getD i 0=r[i]:=by simp [hi]
    unfold yU;by_cases h0:0<r[i]
    ·rcases hb with rfl | ⟨k,hk,rfl⟩
     ·have hz:(-1:Int)<0:=by decide
      simp -implicitDefEqProofs [hi,hw,h0]
     ·have hk':¬(k:Int)<0:=by omega
      have hks:k<st.length:=by omega
      have b1:=vo hin (i:=i) (k:=k) hi hk;have b2:=vo hin (i:=k) (k:=i) hk hi;have ek:st.getD k 0=st[k]:=by simp [hks]
      have erk:r.getD k 0=r[k]:=by simp [hk]
      rw [ei,erk] at b1;rw [ek,er] at b2;have w1:Hj.wrap (st[i]*r[k])=st[i]*r[k]:=wrap_id (by omega) (by omega);have w2:Hj.wrap (st[k]*r[i])=st[k]*r[i]:=wrap_id (by omega) (by omega);by_cases hlt:st[i]*r[k]<st[k]*r[i]<;>simp -implicitDefEqProofs [hi,hw,h0,hk',hk,hi',hks,w1,w2,hlt]
    ·simp -implicitDefEqProofs [hi,hw,h0]
   ·simp -implicitDefEqProofs
   ·unfold scO
    by_cases hb:sc st r r.length<0<;>simp -implicitDefEqProofs only [ao,Hg,Hh,Hi,hb]
theorem AH {st nd:List Int} (h:ScIn st nd):∀i,i≤nd.length→(sc st nd i = -1∨∃k:Nat,sc st nd i=k∧k<i∧0<nd.getD k 0∧∀j,j<i→0<nd.getD j 0→st.getD k 0*nd.getD j 0≤st.getD j 0*nd.getD k 0)
  ∧ (sc st nd i = -1→∀j,j<i→nd.getD j 0≤0)
 | 0,_=>⟨.inl rfl,fun _ j hj=>by omega⟩
 | i+1,hi=>by
  obtain⟨h1,h2⟩:=AH h i (by omega);rw [wQ];unfold yU;by_cases h0:0<nd.getD i 0
  ·rcases h1 with h1 | ⟨k,h1,hk,hp,hm⟩
   ·rw [h1]
    rw [if_pos ⟨h0,.inl (by decide)⟩];refine⟨.inr ⟨i,rfl,by omega,h0,fun j hj hj0=>?_⟩,fun e=>by omega⟩
    by_cases e:j=i
    ·rw [e]
     exact Int.le_refl _
    ·have:=h2 h1 j (by omega)
     omega
   ·rw [h1]
    by_cases hlt:st.getD i 0*nd.getD k 0<st.getD k 0*nd.getD i 0
    ·rw [if_pos ⟨h0,.inr (by rw [HE];exact hlt)⟩]
     refine⟨.inr ⟨i,rfl,by omega,h0,fun j hj hj0=>?_⟩,fun e=>by omega⟩
     by_cases e:j=i
     ·rw [e]
      exact Int.le_refl _
     ·have h3:=hm j (by omega) hj0
      refine Int.le_of_mul_le_mul_left (a:=nd.getD k 0) ?_ hp
      have a1:nd.getD k 0*(st.getD i 0*nd.getD j 0)=(st.getD i 0*nd.getD k 0)*nd.getD j 0:=by
       rw [←HK,HY (nd.getD k 0)]
      have a2:nd.getD k 0*(st.getD j 0*nd.getD i 0)=(st.getD j 0*nd.getD k 0)*nd.getD i 0:=by
       rw [←HK,HY (nd.getD k 0)]
      have a3:(st.getD i 0*nd.getD k 0)*nd.getD j 0≤(st.getD k 0*nd.getD i 0)*nd.getD j 0:=Int.mul_le_mul_of_nonneg_right (Ig hlt) (Ig hj0);have a4:(st.getD k 0*nd.getD j 0)*nd.getD i 0≤(st.getD j 0*nd.getD k 0)*nd.getD i 0:=Int.mul_le_mul_of_nonneg_right h3 (Ig h0);have a5:(st.getD k 0*nd.getD i 0)*nd.getD j 0=(st.getD k 0*nd.getD j 0)*nd.getD i 0:=by
       rw [HK,HY (nd.getD i 0),←HK]
      omega
    ·rw [if_neg (by
      rintro⟨_,g | g⟩
      ·omega
      ·rw [HE] at g
       exact hlt g)]
     refine⟨.inr ⟨k,rfl,by omega,hp,fun j hj hj0=>?_⟩,fun e=>by omega⟩
     by_cases e:j=i
     ·rw [e]
      omega
     ·exact hm j (by omega) hj0
  ·rw [if_neg (fun g=>h0 g.1)]
   refine⟨?_,fun e j hj=>?_⟩
   ·rcases h1 with h1 | ⟨k,h1,hk,hp,hm⟩
    ·exact .inl h1
    ·refine .inr ⟨k,h1,by omega,hp,fun j hj hj0=>?_⟩
     by_cases e:j=i
     ·rw [e] at hj0
      exact absurd hj0 h0
     ·exact hm j (by omega) hj0
   ·by_cases g:j=i
    ·rw [g]
     omega
    ·exact h2 e j (by omega)
set_option maxRecDepth 100000
def ps (f:List Srt) (l:List Int):Nat→Int
 | 0=>0
 | i+1=>ps f l i+l.getD i 0*(f.getD i default).2
theorem wG (f:List Srt) (l:List Int) (i:Nat):ps f l (i+1)=ps f l i+l.getD i 0*(f.getD i default).2:=rfl
structure CIn (f:List Srt) (l:List Int):Prop where
 len:l.length=f.length
 n:f.length≤32
 s:∀x∈f,x.1.size≤3∧1≤x.2∧x.2≤54
 d:∀x∈l,0≤x∧x≤100000
theorem tU {f:List Srt} {l:List Int} (hf:fA f=true) (hc:ki f l=true):CIn f l:=by
 obtain⟨h1,-,h3,h4⟩:=rY.1 hf;unfold ki at hc;simp only [Hl,decide_eq_true_eq,Hy] at hc;refine⟨hc.1,h4,fun x hx=>?_,hc.2⟩
 have:=h1 x hx;unfold pI at this;simp only [Hl,decide_eq_true_eq] at this;have:=kK this.1;omega
theorem vO {f:List Srt} {l:List Int} (h:CIn f l) {i:Nat} (hi:i<f.length):0≤l.getD i 0*(f.getD i default).2∧l.getD i 0*(f.getD i default).2≤5400000:=by
 have h1:=h.d _ (mu (show i<l.length by rw [h.len];exact hi));have e:f.getD i default=f[i]:=by simp [hi]
 have h2:=h.s f[i] (Hk hi);rw [e];exact⟨Ht h1.1 (by omega),Int.le_trans (Hw h1.2 h2.2.2 (by omega) (by omega)) (by omega)⟩
theorem tk {f:List Srt} {l:List Int} (h:CIn f l):∀i,i≤f.length→0≤ps f l i∧ps f l i≤5400000*(i:Int)
 | 0,_=>by simp [ps]
 | i+1,hi=>by
  have h1:=tk h i (by omega);have h2:=vO h (show i<f.length by omega);rw [wG];omega
def wgt (f:List Srt) (l:List Int) (b:Int):Option Out:=if (fA f&&ki f l&&decide (1≤b∧b≤72))=true then some (.ret [I ((ps f l f.length*b+99) / 100),B true] []) else some (.ret [I 0,B false] [])
theorem rT (p b:Int) (hp:0≤p∧p≤172800000) (hb:1≤b∧b≤72):Hj.wrap (p*b)=p*b∧Hj.wrap (p*b+99)=p*b+99∧Hj.wrap ((p*b+99).tdiv 100)=(p*b+99) / 100:=by
 have m1:0≤p*b:=Ht hp.1 (by omega);have m2:p*b≤172800000*72:=Hw hp.2 hb.2 (by omega) (by omega);refine⟨wrap_id (by omega) (by omega),wrap_id (by omega) (by omega),?_⟩
 rw [HL (by omega),wrap_id (by omega) (by omega)]
set_option maxHeartbeats 1000000 in
theorem mo (f:List Srt) (l:List Int) (b:Int) (hfi:FIn f) (h:l.length≤1048577):dh [srs f,aq l,I b]=wgt f l b:=by
 rw [lR];have e1:=gC f l hfi h;have e2:=dZ b 1 72;unfold wgt;cases hf:fA f&&ki f l
 ·rw [hf] at e1
  simp -implicitDefEqProofs only [ao,Hg,Hh,Hi,e1,Hp]
 ·rw [hf] at e1
  cases hb:decide (1≤b∧b≤72)
  ·rw [hb] at e2
   simp -implicitDefEqProofs only [ao,Hg,Hh,Hi,e1,e2,Ho]
  ·rw [hb] at e2
   simp only [Hl] at hf;have hin:=tU hf.1 hf.2;have hbb:=of_decide_eq_true hb;have hn:=hin.n;simp -implicitDefEqProofs only [ao,Hg,Hh,Hi,e1,e2,Ho];refine aG _ (eG f.length (fun i=>[aq l,I b,I (ps f l i),srs f,I f.length,I i]) (.ext 0 [I b,I (ps f l f.length)]) (fun i hi=>?_) ?_ rfl rfl) ?_
   ·have hw:Hj.wrap ((i:Int)+1)=((i+1:Nat):Int):=by rw [wrap_id (by omega) (by omega)];omega
    have hi':(i:Int)<(f.length:Int):=by omega
    have hil:i<l.length:=by rw [hin.len];exact hi
    have hg:=sE hi;have hgl:aJ 1 (aq l) (I (i:Int))=some [I l[i]]:=by simp [hil]
    have el:l.getD i 0=l[i]:=by simp [hil]
    have ef:f.getD i default=f[i]:=by simp [hi]
    have hm:=vO hin hi;have hp:=tk hin i (by omega);rw [wG];rw [el,ef] at hm ⊢;have w1:Hj.wrap (l[i]*f[i].2)=l[i]*f[i].2:=wrap_id (by omega) (by omega);have w2:Hj.wrap (ps f l i+l[i]*f[i].2)=ps f l i+l[i]*f[i].2:=wrap_id (by omega) (by omega);have e0:D.v (Value.string {data:={toList:=[]}})=T ⟨#[]⟩:=rfl;have hst:=tK ⟨#[]⟩ 0 f[i].1 f[i].2;simp -implicitDefEqProofs [hi,hil,w1,w2,hw,e0,hst]
   ·simp -implicitDefEqProofs
   ·obtain⟨q1,q2,q3⟩:=rT (ps f l f.length) b (by have:=tk hin f.length (Hv _);omega) hbb
    have hz:¬(100:Int)=0:=by decide
    simp -implicitDefEqProofs only [ao,Hg,Hh,Hi,q1,q2,q3,hz,pB]
set_option maxHeartbeats 1000000 in
theorem mr (f:List Srt) (l:List Int) (b:Int) (hfi:FIn f) (h:l.length≤1048577):cU [srs f,aq l,I b]=wgt f l b:=by
 rw [lQ];have e0:=jU f hfi;have e1:=iZ f l h;have e2:=eC b 1 72;unfold wgt;cases hf:fA f
 ·rw [hf] at e0
  simp -implicitDefEqProofs only [ao,Hg,Hh,Hi,e0,Hp]
 ·rw [hf] at e0
  cases hc:ki f l
  ·rw [hc] at e1
   simp -implicitDefEqProofs only [ao,Hg,Hh,Hi,e0,e1,HC,Hp]
  ·rw [hc] at e1
   cases hb:decide (1≤b∧b≤72)
   ·rw [hb] at e2
    simp -implicitDefEqProofs only [ao,Hg,Hh,Hi,e0,e1,e2,Ho]
   ·rw [hb] at e2
    have hin:=tU hf hc;have hbb:=of_decide_eq_true hb;have hn:=hin.n;simp -implicitDefEqProofs only [ao,Hg,Hh,Hi,e0,e1,e2,Ho];refine aG _ (eG l.length (fun i=>[srs f,I b,I (ps f l i*b),aq l,I l.length,I i]) (.ext 0 [I (ps f l l.length*b)]) (fun i hil=>?_) ?_ rfl (by rw [show ps f l 0*b=0 from Int.zero_mul b];rfl)) ?_
    ·have hi:i<f.length:=by rw [←hin.len];exact hil
     have hw:Hj.wrap ((i:Int)+1)=((i+1:Nat):Int):=by rw [wrap_id (by omega) (by omega)];omega
     have el:l.getD i 0=l[i]:=by simp [hil]
     have ef:f.getD i default=f[i]:=by simp [hi]
     have hm:=vO hin hi;have hp:=tk hin i (by omega);have hp1:=tk hin (i+1) (by omega);have m0:=rT (ps f l i) b (by omega) hbb;have m1:=rT (ps f l (i+1)) b (by omega) hbb;rw [wG] at m1 ⊢;rw [el,ef] at hm m1 ⊢;have m3:0≤l[i]*f[i].2*b:=Ht hm.1 (by omega);have m4:l[i]*f[i].2*b≤5400000*72:=Hw hm.2 hbb.2 (by omega) (by omega);have w1:Hj.wrap (l[i]*f[i].2)=l[i]*f[i].2:=wrap_id (by omega) (by omega);have w2:Hj.wrap (l[i]*f[i].2*b)=l[i]*f[i].2*b:=wrap_id (by omega) (by omega);have w3:Hj.wrap (ps f l i*b+l[i]*f[i].2*b)=(ps f l i+l[i]*f[i].2)*b:=by rw [←Int.add_mul];exact m1.1
     simp -implicitDefEqProofs [hi,hil,w1,w2,w3,hw]
    ·simp -implicitDefEqProofs
    ·obtain⟨q1,q2,q3⟩:=rT (ps f l f.length) b (by have:=tk hin f.length (Hv _);omega) hbb
     have hz:¬(100:Int)=0:=by decide
     rw [hin.len];simp -implicitDefEqProofs only [ao,Hg,Hh,Hi,q1,q2,q3,hz,pB]
def Bn (x:Srt) (n:Int):ByteArray:=x.1++⟨⟨[61]⟩⟩++uJ n
def bws (f:List Srt) (l:List Int):Nat→List ByteArray
 | 0=>[]
 | i+1=>if 0<l.getD i 0 then bws f l i++[Bn (f.getD i default) (l.getD i 0)] else bws f l i
theorem uc (f:List Srt) (l:List Int) (i:Nat):bws f l (i+1)=if 0<l.getD i 0 then bws f l i++[Bn (f.getD i default) (l.getD i 0)] else bws f l i:=rfl
def kl (ws:List ByteArray):ByteArray:=⟨(ws.flatMap fun w=>aj w++[32]).toArray⟩
theorem ji (ws:List ByteArray):aj (kl ws)=ws.flatMap fun w=>aj w++[32]:=by simp [kl,aj]
theorem BK (ws:List ByteArray) (w:ByteArray):kl (ws++[w])=kl ws++(w++⟨⟨[32]⟩⟩):=by
 apply gp;rw [kW,kW,ji,ji,List.flatMap_append];simp;rfl
theorem tg {f:List Srt} {l:List Int} (h:CIn f l):∀i,i≤f.length→(bws f l i).length≤i∧(∀w∈bws f l i,w.size≤10)
 | 0,_=>by simp [bws]
 | i+1,hi=>by
  obtain⟨h1,h2⟩:=tg h i (by omega);rw [uc];split
  ·refine⟨by simp;omega,fun w hw=>?_⟩
   rcases Ij.1 hw with hw | hw
   ·exact h2 w hw
   ·obtain rfl:=Ih.1 hw
    have h3:=h.d _ (mu (show i<l.length by rw [h.len];omega));have e:f.getD i default=f[i]'(by omega):=by simp [show i<f.length by omega]
    have h4:=h.s (f[i]'(by omega)) (Hk _);have h5:=qu 5 (n:=l.getD i 0) h3.1 (by omega);unfold Bn;rw [e,Hm,Hm];have:(⟨⟨[61]⟩⟩:ByteArray).size=1:=rfl;omega
  ·exact⟨by omega,h2⟩
theorem qq:∀(ws:List ByteArray),(∀w∈ws,w.size≤10)→(kl ws).size≤11*ws.length:=by
 intro ws hw;have key:∀(ws:List ByteArray),(∀w∈ws,w.size≤10)→(ws.flatMap fun w=>aj w++[32]).length≤11*ws.length:=by
  intro ws;induction ws with
  | nil=>intro _;simp
  | cons w ws ih =>
   intro hw;have h1:=hw w (by simp);have h2:=ih fun x hx=>hw x (by simp [hx])
   have h3:(aj w).length=w.size:=rfl;rw [List.flatMap_cons,HB,HB,Hx,HU];omega
 have h:=key ws hw;rw [←ji] at h;exact h
theorem zT (sep x y:List UInt8) (l:List (List UInt8)):sep.intercalate (x::y::l)=x++(sep++sep.intercalate (y::l)):=by
 simp [List.intercalate,List.intersperse_cons_cons]
theorem qn:∀(w:ByteArray) (ws:List ByteArray),((w::ws).flatMap fun w=>aj w++[32])=[32].intercalate ((w::ws).map aj)++[32]
 | w,[]=>by simp [List.intercalate]
 | w,v::ws=>by
  have:=qn v ws;have e:[32].intercalate ((w::v::ws).map aj)=aj w++([32]++[32].intercalate ((v::ws).map aj)):=zT _ _ _ _;rw [List.flatMap_cons,this,e];simp
def bil (f:List Srt) (l:List Int):Option Out:=if (fA f&&ki f l)=true then some (.ret [T (ee (bws f l f.length) ⟨⟨[32]⟩⟩),B true] []) else some (.ret [T ⟨⟨[]⟩⟩,B false] [])
theorem BG {ws:List ByteArray} (h1:ws.length≤32) (h2:∀w∈ws,w.size≤10):(ee ws ⟨⟨[32]⟩⟩).size≤352:=by
 have:=qq ws h2;cases ws with
 | nil=>exact HI _
 | cons w ws =>
  have e:aj (kl (w::ws))=aj (ee (w::ws) ⟨⟨[32]⟩⟩)++[32]:=by
   rw [ji,qn];rfl
  have e2:=congrArg List.length e;rw [HB,Hx] at e2;have h3:(aj (kl (w::ws))).length=(kl (w::ws)).size:=rfl;have h4:(aj (ee (w::ws) ⟨⟨[32]⟩⟩)).length=(ee (w::ws) ⟨⟨[32]⟩⟩).size:=rfl;omega
set_option maxHeartbeats 1000000 in
theorem rI (f:List Srt) (l:List Int) (hfi:FIn f) (h:l.length≤1048577):fc [srs f,aq l]=bil f l:=by
 rw [ri];have e1:=gC f l hfi h;unfold bil;cases hf:fA f&&ki f l
 ·rw [hf] at e1
  simp -implicitDefEqProofs only [ao,Hg,Hh,Hi,e1]
 ·rw [hf] at e1
  simp only [Hl] at hf;have hin:=tU hf.1 hf.2;have hn:=hin.n;simp -implicitDefEqProofs only [ao,Hg,Hh,Hi,e1];refine aG _ (eG l.length (fun i=>[srs f,txs (bws f l i),aq l,I l.length,I i]) (.ext 0 [txs (bws f l f.length)]) (fun i hil=>?_) ?_ rfl rfl) ?_
  ·have hi:i<f.length:=by rw [←hin.len];exact hil
   have hw:Hj.wrap ((i:Int)+1)=((i+1:Nat):Int):=by rw [wrap_id (by omega) (by omega)];omega
   have el:l.getD i 0=l[i]:=by simp [hil]
   have ef:f.getD i default=f[i]:=by simp [hi]
   have hd:=hin.d _ (Hk hil);have hs:=hin.s _ (Hk hi);have hbi:=tg hin i (by omega);rw [uc,el,ef];by_cases h0:0<l[i]
   ·have hI:=Gl (n:=l[i]) (by omega) (by omega)
    have hz:=qu 5 (n:=l[i]) hd.1 (by omega);have z1:(⟨⟨[61]⟩⟩:ByteArray).size=1:=rfl;have a1:=iJ (a:=f[i].1) (b:=⟨⟨[61]⟩⟩) (by omega);have a2:=iJ (a:=f[i].1++⟨⟨[61]⟩⟩) (b:=uJ l[i]) (by rw [Hm];omega);have ap:=Aw (l:=bws f l i) (m:=[Bn f[i] l[i]]) (by simp;omega);unfold Bn at ap ⊢;simp -implicitDefEqProofs [hi,hil,hw,h0,a1,a2,hI,Ad,wn,ap,-pz,-jC]
   ·simp -implicitDefEqProofs [hi,hil,hw,h0]
  ·rw [hin.len]
   simp -implicitDefEqProofs
  ·have hbi:=tg hin f.length (Hv _)
   have hj:=BG (by omega) hbi.2;have e:vu [txs (bws f l f.length),T ⟨⟨[32]⟩⟩]=some (.ret [T (ee (bws f l f.length) ⟨⟨[32]⟩⟩)] []):=by
    simp only [vu,vw,HV];rw [if_pos ⟨by omega,by omega⟩]
   simp -implicitDefEqProofs only [ao,Hg,Hh,Hi,e]
set_option maxHeartbeats 1000000 in
theorem rz (f:List Srt) (l:List Int) (hfi:FIn f) (h:l.length≤1048577):fi [srs f,aq l]=bil f l:=by
 rw [rv];have e0:=jU f hfi;have e1:=iZ f l h;unfold bil;cases hf:fA f
 ·rw [hf] at e0
  simp -implicitDefEqProofs only [ao,Hg,Hh,Hi,e0,Hp]
 ·rw [hf] at e0
  cases hc:ki f l
  ·rw [hc] at e1
   simp -implicitDefEqProofs only [ao,Hg,Hh,Hi,e0,e1,HC]
  ·rw [hc] at e1
   have hin:=tU hf hc;have hn:=hin.n;simp -implicitDefEqProofs only [ao,Hg,Hh,Hi,e0,e1,Ho];refine aG _ (eG l.length (fun i=>[srs f,T (kl (bws f l i)),aq l,I l.length,I i]) (.ext 0 [T (kl (bws f l f.length))]) (fun i hil=>?_) ?_ rfl rfl) ?_
   ·have hi:i<f.length:=by rw [←hin.len];exact hil
    have hw:Hj.wrap ((i:Int)+1)=((i+1:Nat):Int):=by rw [wrap_id (by omega) (by omega)];omega
    have el:l.getD i 0=l[i]:=by simp [hil]
    have ef:f.getD i default=f[i]:=by simp [hi]
    have hd:=hin.d _ (Hk hil);have hs:=hin.s _ (Hk hi);have hbi:=tg hin i (by omega);have hcs:=qq _ hbi.2;rw [uc,el,ef];by_cases h0:0<l[i]
    ·have hI:=wz (n:=l[i]) (by omega) (by omega)
     have hz:=qu 5 (n:=l[i]) hd.1 (by omega);have z1:(⟨⟨[61]⟩⟩:ByteArray).size=1:=rfl;have z2:(⟨⟨[32]⟩⟩:ByteArray).size=1:=rfl;have a1:=iJ (a:=f[i].1) (b:=⟨⟨[61]⟩⟩) (by omega);have a2:=iJ (a:=f[i].1++⟨⟨[61]⟩⟩) (b:=uJ l[i]) (by rw [Hm];omega);have a3:=iJ (a:=f[i].1++⟨⟨[61]⟩⟩++uJ l[i]) (b:=⟨⟨[32]⟩⟩) (by rw [Hm,Hm];omega);have a4:=iJ (a:=kl (bws f l i)) (b:=f[i].1++⟨⟨[61]⟩⟩++uJ l[i]++⟨⟨[32]⟩⟩) (by rw [Hm,Hm,Hm];omega);rw [if_pos h0,BK];unfold Bn;simp -implicitDefEqProofs only [dc,iK] ;simp -implicitDefEqProofs [hi,hil,hw,h0,a1,a2,a3,a4,hI,-pz]
    ·rw [if_neg h0]
     simp -implicitDefEqProofs [hi,hil,hw,h0]
   ·rw [hin.len]
    simp -implicitDefEqProofs
   ·have hbi:=tg hin f.length (Hv _)
    have hcs:=qq _ hbi.2;cases hb:bws f l f.length with
    | nil =>
     have e:kl []=⟨⟨[]⟩⟩:=rfl;have e2:ee [] ⟨⟨[32]⟩⟩=⟨⟨[]⟩⟩:=rfl;rw [e,e2];simp -implicitDefEqProofs only [ao,Hg,Hh,Hi,jh]
    | cons w ws =>
     rw [hb] at hcs;have e:aj (kl (w::ws))=aj (ee (w::ws) ⟨⟨[32]⟩⟩)++[32]:=by
      rw [ji,qn];rfl
     have hsz:(kl (w::ws)).size=(ee (w::ws) ⟨⟨[32]⟩⟩).size+1:=by
      have e2:=congrArg List.length e;rw [HB,Hx] at e2;exact e2
     have hne:¬kl (w::ws)=⟨⟨[]⟩⟩:=fun h0=>by
      rw [h0] at hsz;have:(⟨⟨[]⟩⟩:ByteArray).size=0:=rfl;omega
     have hwm:Hj.wrap (((kl (w::ws)).size:Int) - 1)=((ee (w::ws) ⟨⟨[32]⟩⟩).size:Int):=by
      have hb1:=hbi.1;rw [hb] at hb1;have hcs2:(kl (w::ws)).size≤352:=by omega
      rw [wrap_id (by omega) (by omega)];omega
     have hsl:=zx (s:=kl (w::ws)) (z:=0) (i:=0) (j:=(ee (w::ws) ⟨⟨[32]⟩⟩).size) (HI _) (by omega);have hx:(kl (w::ws)).extract 0 (ee (w::ws) ⟨⟨[32]⟩⟩).size=ee (w::ws) ⟨⟨[32]⟩⟩:=by
      apply gp;rw [ec,e,List.drop_zero];exact List.take_left
     rw [hx] at hsl;have hsl':fZ true 0 (T (kl (w::ws))) (D.v (Value.int Hj 0)) (I ((ee (w::ws) ⟨⟨[32]⟩⟩).size:Int))=some (T (ee (w::ws) ⟨⟨[32]⟩⟩)):=hsl;simp -implicitDefEqProofs only [ao,Hg,Hh,Hi,jh,hne,hwm,hsl']
set_option maxRecDepth 100000
def gvL (r:Nat→Int) (n k:Nat):List Bool:=(List.range n).map fun i=>decide (i∈(bD r n).take k)
abbrev iR (l:List Bool):D:=.arr 1 (l.map fun b=>B b)
theorem sj (r:Nat→Int) (n k:Nat):(gvL r n k).length=n:=by simp [gvL]
theorem vZ (r:Nat→Int) (n k i:Nat) (h:i<n):(gvL r n k)[i]'(by simp [gvL];exact h)=decide (i∈(bD r n).take k):=by simp [gvL]
theorem CB (r:Nat→Int) (n:Nat):D.arr 1 (Il n (B false))=iR (gvL r n 0):=by
 congr 1
 apply Ii
 ·simp [gvL]
 ·intro i h1 h2
  simp [gvL]
theorem BR (l:List Bool) (i:Nat) (x:Bool) (h:i<l.length):stD 1 (iR l) (.ref i 0) (B x)=some (iR (l.set i x)):=by
 rw [tE (w:=.bool l[i]) (by simp [h])];simp [List.map_set]
theorem Ds (r:Nat→Int) (n k:Nat) (hk:k<n):(gvL r n k).set ((bD r n).getD k 0) true=gvL r n (k+1):=by
 obtain⟨h1,h2,h3⟩:=iz r n;have hkl:k<(bD r n).length:=by omega
 have e:(bD r n).getD k 0=(bD r n)[k]:=by simp [hkl]
 rw [e];have htk:(bD r n).take (k+1)=(bD r n).take k++[(bD r n)[k]]:=Hr hkl;generalize (bD r n)[k]=x at *;apply Ii
 ·simp [gvL]
 ·intro i g1 g2
  have hi:i<n:=by simpa [gvL] using g2
  rw [List.getElem_set,vZ r n (k+1) i hi,htk];by_cases hc:x=i
  ·rw [if_pos hc]
   simp [hc]
  ·rw [if_neg hc,vZ r n k i hi]
   congr 1
   simp only [Ij,Ih,eq_iff_iff];constructor
   ·exact .inl
   ·rintro(h | h)
    ·exact h
    ·exact absurd h.symm hc
theorem oV {l m:List Int} (h:l.length+m.length≤1048577):gi 1 8 (aq l) (aq m)=some (aq (l++m)):=by
 rw [jC,if_pos (by simp only [HZ];omega)];show _=some (D.arr 1 ((l++m).map I))
 rw [List.map_append]
def bb (r:Nat→Int) (n k:Nat):Nat→Int
 | 0=>-1
 | i+1=>if i∉(bD r n).take k∧(bb r n k i<0∨r (bb r n k i).toNat<r i) then i else bb r n k i
theorem AA (r:Nat→Int) (n k i:Nat):bb r n k (i+1)=if i∉(bD r n).take k∧(bb r n k i<0∨r (bb r n k i).toNat<r i) then(i:Int) else bb r n k i:=rfl
theorem Cz (r:Nat→Int) (n k:Nat):∀i,(bb r n k i = -1∧∀j,j<i→j∈(bD r n).take k)∨∃b:Nat,bb r n k i=b∧b<i∧b∉(bD r n).take k∧∀j,j<i→j∉(bD r n).take k→j≠b→Bf r b j
 | 0=>.inl ⟨rfl,fun j hj=>by omega⟩
 | i+1=>by
  rw [AA];rcases Cz r n k i with ⟨h1,h2⟩ | ⟨b,h1,h2,h3,h4⟩
  ·by_cases hi:i∈(bD r n).take k
   ·rw [if_neg (fun h=>h.1 hi)]
    refine .inl ⟨h1,fun j hj=>?_⟩
    by_cases e:j=i
    ·rw [e];exact hi
    ·exact h2 j (by omega)
   ·rw [if_pos ⟨hi,.inl (by omega)⟩]
    refine .inr ⟨i,rfl,by omega,hi,fun j hj hn hne=>?_⟩
    exact absurd (h2 j (by omega)) hn
  ·rw [h1,HE]
   by_cases hc:i∉(bD r n).take k∧((b:Int)<0∨r b<r i)
   ·rw [if_pos hc]
    refine .inr ⟨i,rfl,by omega,hc.1,fun j hj hn hne=>?_⟩
    have hlt:r b<r i:=by
     rcases hc.2 with h | h
     ·omega
     ·exact h
    by_cases e:j=b
    ·rw [e]
     exact .inl hlt
    ·have:=h4 j (by omega) hn e
     unfold Bf at this ⊢;omega
   ·rw [if_neg hc]
    refine .inr ⟨b,rfl,by omega,h3,fun j hj hn hne=>?_⟩
    by_cases e:j=i
    ·rw [e] at hn ⊢
     have:¬r b<r i:=fun h=>hc ⟨hn,.inr h⟩
     unfold Bf;omega
    ·exact h4 j (by omega) hn hne
theorem FL (r:Nat→Int) (n k:Nat) (hk:k<n):bb r n k n=((bD r n).getD k 0:Nat)∧(bD r n).getD k 0<n:=by
 obtain⟨h1,h2,h3⟩:=iz r n;have hkl:k<(bD r n).length:=by omega
 have e:(bD r n).getD k 0=(bD r n)[k]:=by simp [hkl]
 rw [e];have hm:(bD r n)[k]<n:=(h2 _).1 (Hk _);refine⟨?_,hm⟩
 have hnot:(bD r n)[k]∉(bD r n).take k:=fun h=>by
  obtain⟨j,hj,ej⟩:=HH h;rw [Hu] at hj;rw [List.getElem_take] at ej;have:=HO.1 h1 j k (by omega) hkl (by omega);rw [ej] at this;unfold Bf at this;omega
 rcases Cz r n k n with ⟨_,g⟩ | ⟨b,g1,g2,g3,g4⟩
 ·exact absurd (g _ hm) hnot
 ·have:=AY r n k hk b g2 g3 g4
  rw [List.getElem?_eq_getElem hkl] at this;simp only [Option.some.injEq] at this;rw [g1,this]
theorem zH {body:List D→Option Out} {l out:List Int} {t a left:Int} {k:Nat} (hn:l.length≤32)
  (h1:∀(i:Nat) (hi:i<l.length) (b:Int),(b = -1∨∃q:Nat,q<l.length∧b=q)→Hj.wrap ((i:Int)+1)=(i:Int)+1 →
   body [aq l,I t,I a,aq out,I left,D.ref 0 0,I b,iR (gvL (bG l t a) l.length k),aq l,I l.length,I i]=some (.nrm [aq l,I t,I a,aq out,I left,D.ref 0 0,I (if i∉(bD (bG l t a) l.length).take k∧(b<0∨bG l t a b.toNat<bG l t a i) then(i:Int) else b),iR (gvL (bG l t a) l.length k),aq l,I l.length,I ((i:Int)+1)]))
  (h2:∀b:Int,body [aq l,I t,I a,aq out,I left,D.ref 0 0,I b,iR (gvL (bG l t a) l.length k),aq l,I l.length,I l.length]=some (.ext 6 [aq l,I t,I a,aq out,I left,D.ref 0 0,I b,iR (gvL (bG l t a) l.length k)])) :
  aI body [aq l,I t,I a,aq out,I left,D.ref 0 0,I (-1),iR (gvL (bG l t a) l.length k),aq l,I l.length,I 0]=some (.ext 6 [aq l,I t,I a,aq out,I left,D.ref 0 0,I (bb (bG l t a) l.length k l.length),iR (gvL (bG l t a) l.length k)]):=by
 refine eG l.length (fun i=>[aq l,I t,I a,aq out,I left,D.ref 0 0,I (bb (bG l t a) l.length k i),iR (gvL (bG l t a) l.length k),aq l,I l.length,I i]) _ (fun i hi=>?_) (h2 _) rfl rfl
 rw [h1 i hi _ (by
  rcases Cz (bG l t a) l.length k i with ⟨g,_⟩ | ⟨b,g,g2,_⟩
  ·exact .inl g
  ·exact .inr ⟨b,by omega,g⟩) (wrap_id (by omega) (by omega))]
 rw [AA];rfl
theorem wH {l:List Int} {t:Int} (ht:0≤t∧t≤100000) (hl:∀x∈l,0≤x∧x≤1000000) {x:Int} (hx:x∈l):0≤t*x∧Hj.wrap (t*x)=t*x∧t*x≤100000000000:=by
 have h:=hl x hx;have m1:0≤t*x:=Ht ht.1 h.1;have m2:t*x≤100000*1000000:=Hw ht.2 h.2 h.1 (by omega);exact⟨m1,wrap_id (by omega) (by omega),by omega⟩
set_option maxHeartbeats 4000000 in
theorem kJ (l:List Int) (t:Int) (h:l.length≤1000):cB [aq l,I t]=some (.ret [aq (cA l t),B (cK l t)] []):=by
 rw [kM];have e1:=eC (l.length:Int) 1 32;have e2:=pw l 0 1000000 (by omega);have e3:=eC t 0 100000;cases hc1:decide ((1:Int)≤l.length∧(l.length:Int)≤32)
 ·have hno:cK l t=false:=by
   have:=of_decide_eq_false hc1;unfold cK;rw [decide_eq_false (show ¬(1≤l.length∧l.length≤32) by omega)];simp
  have hd:cA l t=[]:=by unfold cA;rw [hno];rfl
  rw [hc1] at e1;rw [hno,hd];simp -implicitDefEqProofs only [ao,Hg,Hh,Hi,e1];rfl
 have hn:=of_decide_eq_true hc1;rw [hc1] at e1;cases hc2:l.all fun w=>decide (0≤w∧w≤1000000)
 ·have hno:cK l t=false:=by
   unfold cK;rw [hc2];rfl
  have hd:cA l t=[]:=by unfold cA;rw [hno];rfl
  rw [hc2] at e2;rw [hno,hd];simp -implicitDefEqProofs only [ao,Hg,Hh,Hi,e1,e2];rfl
 have hall:∀x∈l,0≤x∧x≤1000000:=fun x hx=>of_decide_eq_true (Hy.1 hc2 x hx)
 rw [hc2] at e2;cases hc3:decide (0≤t∧t≤100000)
 ·have hno:cK l t=false:=by
   unfold cK;rw [hc3];simp
  have hd:cA l t=[]:=by unfold cA;rw [hno];rfl
  rw [hc3] at e3;rw [hno,hd];simp -implicitDefEqProofs only [ao,Hg,Hh,Hi,e1,e2,e3];rfl
 have ht:=of_decide_eq_true hc3;rw [hc3] at e3;simp -implicitDefEqProofs only [ao,Hg,Hh,Hi,e1,e2,e3];refine aG _ (jd l (fun i a=>[aq l,I t,I a,aq l,I l.length,I i]) (fun i a=>0≤a∧a≤1000000*(i:Int)) (fun _ a x=>a+x) (fun a=>.ext 0 [aq l,I t,I a]) 0 (fun i a hi ha=>?_) (fun a _=>?_) (fun _=>rfl) (by simp) rfl) ?_
 ·have hw:Hj.wrap ((i:Int)+1)=(i:Int)+1:=wrap_id (by omega) (by omega)
  have hx:=hall _ (Hk hi);have w1:Hj.wrap (a+l[i])=a+l[i]:=wrap_id (by omega) (by omega);exact⟨by simp -implicitDefEqProofs [hi,hw,w1],by omega,by omega⟩
 ·simp -implicitDefEqProofs
 rw [qj];show cv (Out.ext 0 [aq l,I t,I (aB l)]) _ _=_
 by_cases hs0:aB l=0
 ·have hno:cK l t=false:=by
   unfold cK;rw [decide_eq_false (show ¬aB l≠0 by omega)];simp
  have hd:cA l t=[]:=by unfold cA;rw [hno];rfl
  rw [hno,hd];simp -implicitDefEqProofs only [ao,Hg,Hh,Hi,hs0];rfl
 have hok:cK l t=true:=by
  unfold cK;rw [hc2,hc3,decide_eq_true hs0,decide_eq_true (show 1≤l.length∧l.length≤32 by omega)];rfl
 have hsb:=eH 1000000 l hall;have ha0:0<aB l∧aB l≤32000000:=by omega
 have hleft:=wq l t (by omega) ha0.1;have hdl:cA l t=dE (bsW l t (aB l)) ((bD (bG l t (aB l)) l.length).take (lk l t)):=by unfold cA;rw [if_pos hok]
 obtain⟨m,hm⟩:∃m,m=lk l t:=⟨_,rfl⟩
 rw [←hm] at hdl;have hm2:(m:Int)=t - aB (bsW l t (aB l)):=by rw [hm];unfold lk;omega
 rw [hok,hdl];clear hm hdl hok hsb;generalize aB l=a at *;simp -implicitDefEqProofs only [ao,Hg,Hh,Hi,hs0];have hbse:=rN l t a ht ha0.1 hall;refine aG _ (eG l.length (fun i=>[aq l,I t,I a,aq ((bsW l t a).take i),I (t - aB ((bsW l t a).take i)),aq l,I l.length,I i]) (.ext 2 [aq l,I t,I a,aq (bsW l t a),I m]) (fun i hi=>?_) ?_ rfl ?_) ?_
 ·have hw:Hj.wrap ((i:Int)+1)=((i+1:Nat):Int):=by rw [wrap_id (by omega) (by omega)];omega
  obtain⟨m1,m2,m3⟩:=wH ht hall (Hk hi);have d1:0≤t*l[i] / a:=Ia m1 (by omega);have d2:t*l[i] / a≤t*l[i]:=Int.ediv_le_self _ m1;have hq:Hj.wrap ((t*l[i]).tdiv a)=t*l[i] / a:=by
   rw [HL m1,wrap_id (by omega) (by omega)]
  have hbk:(bsW l t a).take (i+1)=(bsW l t a).take i++[t*l[i] / a]:=by
   rw [Hr (by simpa [bsW] using hi)];simp [bsW]
  have hsb:=eH 100000000000 ((bsW l t a).take i) (fun x hx=>hbse x (Ib hx));rw [Hu,cL,Ik (by omega)] at hsb;have ws:Hj.wrap (t - aB ((bsW l t a).take i) - t*l[i] / a)=t - aB ((bsW l t a).take (i+1)):=by
   rw [hbk,AX,wrap_id (by omega) (by omega)];omega
  have ap:=oV (l:=(bsW l t a).take i) (m:=[t*l[i] / a]) (by rw [Hu];simp;omega);rw [←hbk] at ap;have hz:¬a=0:=by omega
  simp -implicitDefEqProofs [hi,hw,m2,hq,hz,rL,ke,ap,ws,-jC]
 ·have e:(bsW l t a).take l.length=bsW l t a:=List.take_of_length_le (by rw [cL];exact Hv _)
  rw [e,←hm2];simp -implicitDefEqProofs
 ·simp [aB]
 have hmk:vX 1 1 (D.v (Value.bool false)) (I (l.length:Int)) (I (l.length:Int))=some (iR (gvL (bG l t a) l.length 0)):=by
  rw [xS,if_pos (by omega),←CB]
 obtain⟨o1,o2,o3⟩:=iz (bG l t a) l.length;have hml:m<l.length:=by omega
 simp -implicitDefEqProofs only [ao,Hg,Hh,Hi,hmk];refine aG _ (eG m (fun k=>[aq l,I t,I a,aq (dE (bsW l t a) ((bD (bG l t a) l.length).take k)),I ((m - k:Nat):Int),D.ref 0 0,iR (gvL (bG l t a) l.length k)]) (.ext 4 [aq (dE (bsW l t a) ((bD (bG l t a) l.length).take m))]) (fun k hk=>?_) ?_ rfl rfl) ?_
 ·have hlp:(0:Int)<((m - k:Nat):Int):=by omega
  have hwl:Hj.wrap (((m - k:Nat):Int) - 1)=((m - (k+1):Nat):Int):=by rw [wrap_id (by omega) (by omega)];omega
  obtain⟨b1,b2⟩:=FL (bG l t a) l.length k (by omega);simp -implicitDefEqProofs only [ao,Hg,Hh,Hi,hlp];refine aG _ (zH (by omega) (fun i hi b hb hw=>?_) (fun b=>?_)) ?_
  ·have hz:¬a=0:=by omega
   have hg:=vZ (bG l t a) l.length k i hi;have hgl:i<(gvL (bG l t a) l.length k).length:=by rw [sj];exact hi
   obtain⟨x1,x2,x3⟩:=wH ht hall (Hk hi);have ei:bG l t a i=(t*l[i]).tmod a:=by
    unfold bG;rw [show l.getD i 0=l[i] by simp [hi],HN x1]
   have hat:atD (iR (gvL (bG l t a) l.length k)) (.ref i 0)=some [B (decide (i∈(bD (bG l t a) l.length).take k))]:=by
    rw [←hg];simp [hgl]
   have hrf:gd 1 (iR (gvL (bG l t a) l.length k)) (I (i:Int))=some (.ref i 0):=by simp [hgl]
   by_cases hin:i∈(bD (bG l t a) l.length).take k
   ·rw [if_neg (fun h=>h.1 hin)]
    rw [decide_eq_true hin] at hat;simp -implicitDefEqProofs [hi,hw,hat,hrf]
   ·rw [decide_eq_false hin] at hat
    rcases hb with rfl | ⟨q,hq,rfl⟩
    ·rw [if_pos ⟨hin,.inl (by decide)⟩]
     simp -implicitDefEqProofs [hi,hw,hat,hrf]
    ·have hq0:¬(q:Int)<0:=by omega
     obtain⟨y1,y2,y3⟩:=wH ht hall (Hk hq);have eq:bG l t a q=(t*l[q]).tmod a:=by
      unfold bG;rw [show l.getD q 0=l[q] by simp [hq],HN y1]
     rw [HE,ei,eq];by_cases hlt:(t*l[q]).tmod a<(t*l[i]).tmod a<;>simp -implicitDefEqProofs [hi,hw,hat,hrf,hin,hq0,hq,x2,y2,hz,hlt]
  ·simp -implicitDefEqProofs
  ·rw [b1]
   have htk:(bD (bG l t a) l.length).take (k+1)=(bD (bG l t a) l.length).take k++[(bD (bG l t a) l.length).getD k 0]:=by
    have hkl:k<(bD (bG l t a) l.length).length:=by omega
    rw [Hr hkl];simp [hkl]
   have hsucc:=Ds (bG l t a) l.length k (by omega);rw [htk,pJ,←hsucc];generalize (bD (bG l t a) l.length).getD k 0=x at *;have hlen:(dE (bsW l t a) ((bD (bG l t a) l.length).take k)).length=l.length:=by rw [eF,cL]
   have hbd:=jg 100000000000 ((bD (bG l t a) l.length).take k) (bsW l t a) hbse;rw [Hu,Ik (by omega)] at hbd;have hgl:x<(gvL (bG l t a) l.length k).length:=by rw [sj];exact b2
   have hs1:=BR (gvL (bG l t a) l.length k) x true hgl;generalize dE (bsW l t a) ((bD (bG l t a) l.length).take k)=o at *;have hxo:x<o.length:=by omega
   have hox:=hbd _ (Hk hxo);have w1:Hj.wrap (o[x]+1)=o[x]+1:=wrap_id (by omega) (by omega);have eo:o.getD x 0=o[x]:=by simp [hxo]
   rw [eo];have hs2:=ku o x (o[x]+1) hxo;have hrf1:gd 1 (iR (gvL (bG l t a) l.length k)) (I (x:Int))=some (.ref x 0):=by simp [hgl]
   have hrf2:gd 1 (aq o) (I (x:Int))=some (.ref x 0):=by simp [hxo]
   have hat2:atD (aq o) (.ref x 0)=some [I o[x]]:=by simp [hxo]
   simp -implicitDefEqProofs [hrf1,hrf2,hs1,hs2,hat2,w1,hwl]
 ·have e0:((m - m:Nat):Int)=0:=by omega
  rw [e0];simp -implicitDefEqProofs
 ·simp -implicitDefEqProofs only [ao,Hg,Hh,Hi]
set_option maxRecDepth 100000
theorem ED (l:List Int):nV 3 (D.agg [dn l,I 0,D.v (.int .u64 0)])=some (aU ⟨l,0,0⟩):=by simp [D.cells,D.single]
theorem pS {l:List Int} {k:Nat} (h:k<l.length):gd 1 (aq l) (I (k:Int))=some (.ref k 0):=by
 rw [tq,if_pos (by simpa using h)]
theorem At {body:List D→Option Out} {K:Out→Option Out} (B n:Nat) (hn:n≤50) (c0:Cur) (h0:c0.ok B) (Q:Option Out→Prop)
  (hs:∀(c:Cur) (l:List Int),c.ok (B+2*l.length)→l.length<n→∃s c',body [D.ref 0 0,aq l,I (n:Int),aU c]=some (.nrm [D.ref 0 0,aq (l++[s]),I (n:Int),aU c'])∧c'.ok (B+2*(l.length+1)))
  (he:∀(c:Cur) (l:List Int),¬l.length<n→body [D.ref 0 0,aq l,I (n:Int),aU c]=some (.ext 0 [D.ref 0 0,aq l,I (n:Int),aU c]))
  (hK:∀(c:Cur) (l:List Int),l.length=n→c.ok (B+100)→Q (K (.ext 0 [D.ref 0 0,aq l,I (n:Int),aU c]))):Q ((aI body [D.ref 0 0,aq [],I (n:Int),aU c0]).bind K):=by
 refine cT Q (fun a:Cur × List Int=>[D.ref 0 0,aq a.2,I (n:Int),aU a.1]) (fun a=>a.1.ok (B+2*a.2.length)∧a.2.length≤n) (fun a=>n - a.2.length)
  (fun o=>∃(c:Cur) (l:List Int),o = .ext 0 [D.ref 0 0,aq l,I (n:Int),aU c]∧l.length=n∧c.ok (B+100)) ?_ (c0,[]) ⟨h0.mono (by simp),by simp⟩ rfl ?_
 ·rintro⟨c,l⟩ ⟨h1,h2⟩
  simp only at h1 h2;by_cases hlt:l.length<n
  ·obtain⟨s,c',e,k2⟩:=hs c l h1 hlt
   exact .inl ⟨(c',l++[s]),e,⟨by simpa using k2,by simp;omega⟩,by simp;omega⟩
  ·exact .inr ⟨_,he c l hlt,rfl,c,l,rfl,by omega,h1.mono (by omega)⟩
 ·rintro o ⟨c,l,rfl,g1,g3⟩
  exact hK c l g1 g3
def W7:List Int:=[0,1,1,2,3,7,1000000]
theorem mi7:aA 1 [I 0,I 1,I 1,I 2,I 3,I 7,I 1000000]=some (il W7):=jW (l:=W7)
theorem tQ (c:Cur) (B:Nat) (h:c.ok B) (hB:B≤1000000):∃(v:Int) (c1:Cur) (t:Int) (c2:Cur),al [aU c,il [5,-1,100001]]=some (.ret [I v] [aU c1])∧aA 1 [I 0,I 1,I 10,I 11,I 100,I 997,I 100000,I v]=some (il [0,1,10,11,100,997,100000,v])∧al [aU c1,il [0,1,10,11,100,997,100000,v]]=some (.ret [I t] [aU c2]):=by
 obtain⟨v,c1,e1,h1,k1⟩:=gI c [5,-1,100001] B h (by omega) (by simp) (by simp);obtain⟨t,c2,e2,h2,k2⟩:=gI c1 [0,1,10,11,100,997,100000,v] _ k1 (by omega) (by simp) (by simp);exact⟨v,c1,t,c2,e1,jW (l:=[0,1,10,11,100,997,100000,v]),e2⟩
set_option maxHeartbeats 2000000 in
theorem wa (b:List Int) (h:Bytes b):∃(l:List Int) (t:Int),bO [dn b]=some (.ret [aq l,I t] [])∧l.length≤50:=by
 rw [iS];obtain⟨v,c1,e1,l1,u1,k1⟩:=eE ⟨b,0,0⟩ 6 0 (Fm h) (by omega) (by omega);obtain⟨v,rfl⟩:=HD l1;obtain⟨o,c2,e2,k2⟩:=vp c1 12 _ k1 (by omega) (by omega);have m3:aA 1 [I 0,I 32,I 33]=some (il [0,32,33]):=jW (l:=[0,32,33]);have m2:aA 1 [I (-1),I 1000001]=some (il [-1,1000001]):=jW (l:=[-1,1000001]);have m3':aA 1 [I 5,I (-1),I 100001]=some (il [5,-1,100001]):=jW (l:=[5,-1,100001]);have hw:Hj.wrap (1+(v:Int))=((1+v:Nat):Int):=by rw [wrap_id (by omega) (by omega)];omega
 have step:∀(B':Nat) (c:Cur) (l:List Int),B'≤1000→c.ok B'→l.length≤60→∃s c',al [aU c,il W7]=some (.ret [I s] [aU c'])∧c'.ok (B'+2)∧aA 1 [I s]=some (aq [s])∧gi 1 8 (aq l) (aq [s])=some (aq (l++[s])):=by
  intro B' c l h1 h2 h3;obtain⟨s,c',e,_,hc⟩:=gI c W7 B' h2 (by omega) (by decide) (by decide);exact⟨s,c',e,hc,rL s,oV (by simp only [Hx];omega)⟩
 have fin:∀(c:Cur) (l:List Int) (n:Nat),l.length=n→0<n→n≤60→c.ok 300→∃(q:Bool) (c3:Cur),aK [aU c,I 20]=some (.ret [.v (.bool q)] [aU c3])∧c3.ok 310∧∃(k:Nat) (c4:Cur) (x:Int) (c5:Cur),an [aU c3,I (n:Int)]=some (.ret [I (k:Int)] [aU c4])∧k<n∧al [aU c4,il [-1,1000001]]=some (.ret [I x] [aU c5])∧c5.ok 330:=by
  intro c l n h1 h2 h3 h4;obtain⟨q,c3,e3,k3⟩:=vp c 20 _ h4 (by omega) (by omega);obtain⟨k,c4,e4,l4,u4,k4⟩:=eE c3 (n:Int) _ k3 (by omega) (by omega);obtain⟨k,rfl⟩:=HD l4;obtain⟨x,c5,e5,_,k5⟩:=gI c4 [-1,1000001] _ k4 (by omega) (by simp) (by simp);exact⟨q,c3,e3,k3.mono (by omega),k,c4,x,c5,e4,by omega,e5,k5.mono (by omega)⟩
 have z1:∀n:Nat,¬(0:Int)<((0:Nat):Int):=fun _=>by decide
 simp -implicitDefEqProofs only [ao,Hg,Hh,Hi,vQ,ED,e1,e2,hw];cases o
 ·simp -implicitDefEqProofs only [ao,Hg,Hh,Hi]
  refine At 4 (1+v) (by omega) c2 (k2.mono (by omega)) (fun X=>∃(l:List Int) (t:Int),X=some (.ret [aq l,I t] [])∧l.length≤50) (fun c l h1 hlt=>?_) (fun c l hlt=>?_) (fun c l h1 h2=>?_)
  ·obtain⟨s,c',g1,g2,g3,g4⟩:=step _ c l (by omega) h1 (by omega)
   have hlt':(l.length:Int)<((1+v:Nat):Int):=by omega
   refine⟨s,c',?_,g2.mono (by omega)⟩
   simp -implicitDefEqProofs only [ao,Hg,Hh,Hi,hlt',mi7,g1,g3,ke,g4]
  ·have hlt':¬(l.length:Int)<((1+v:Nat):Int):=by omega
   simp -implicitDefEqProofs only [ao,Hg,Hh,Hi,hlt']
  ·have hv':(0:Int)<((1+v:Nat):Int):=by omega
   obtain⟨q,c3,g1,g2,k,c4,x,c5,g3,g4,g5,g6⟩:=fin c l (1+v) h1 (by omega) (by omega) (h2.mono (by omega));cases q
   ·obtain⟨y,d1,t,d2,p1,p2,p3⟩:=tQ c3 _ g2 (by omega)
    refine⟨l,t,?_,by omega⟩
    simp -implicitDefEqProofs only [ao,Hg,Hh,Hi,hv',g1,m3',p1,p2,p3]
   ·obtain⟨y,d1,t,d2,p1,p2,p3⟩:=tQ c5 _ g6 (by omega)
    have hr:=pS (l:=l) (k:=k) (by omega);have hst:=ku l k x (by omega);refine⟨l.set k x,t,?_,by rw [HA];omega⟩
    simp -implicitDefEqProofs only [ao,Hg,Hh,Hi,hv',g1,g3,m2,g5,hr,hst,m3',p1,p2,p3]
 ·obtain⟨n,c3,e3,hn,k3⟩:=gI c2 [0,32,33] _ k2 (by omega) (by simp) (by simp)
  obtain⟨n,rfl⟩:∃m:Nat,n=m:=by
   simp at hn;rcases hn with rfl | rfl | rfl
   ·exact⟨0,rfl⟩
   ·exact⟨32,rfl⟩
   ·exact⟨33,rfl⟩
  have hn50:n≤50:=by
   simp at hn;omega
  simp -implicitDefEqProofs only [ao,Hg,Hh,Hi,m3,e3];refine At 6 n (by omega) c3 (k3.mono (by omega)) (fun X=>∃(l:List Int) (t:Int),X=some (.ret [aq l,I t] [])∧l.length≤50) (fun c l h1 hlt=>?_) (fun c l hlt=>?_) (fun c l h1 h2=>?_)
  ·obtain⟨s,c',g1,g2,g3,g4⟩:=step _ c l (by omega) h1 (by omega)
   have hlt':(l.length:Int)<(n:Int):=by omega
   refine⟨s,c',?_,g2.mono (by omega)⟩
   simp -implicitDefEqProofs only [ao,Hg,Hh,Hi,hlt',mi7,g1,g3,ke,g4]
  ·have hlt':¬(l.length:Int)<(n:Int):=by omega
   simp -implicitDefEqProofs only [ao,Hg,Hh,Hi,hlt']
  ·by_cases hv:0<n
   ·have hv':(0:Int)<(n:Int):=by omega
    obtain⟨q,c3,g1,g2,k,c4,x,c5,g3,g4,g5,g6⟩:=fin c l n h1 (by omega) (by omega) (h2.mono (by omega));cases q
    ·obtain⟨y,d1,t,d2,p1,p2,p3⟩:=tQ c3 _ g2 (by omega)
     refine⟨l,t,?_,by omega⟩
     simp -implicitDefEqProofs only [ao,Hg,Hh,Hi,hv',g1,m3',p1,p2,p3]
    ·obtain⟨y,d1,t,d2,p1,p2,p3⟩:=tQ c5 _ g6 (by omega)
     have hr:=pS (l:=l) (k:=k) (by omega);have hst:=ku l k x (by omega);refine⟨l.set k x,t,?_,by rw [HA];omega⟩
     simp -implicitDefEqProofs only [ao,Hg,Hh,Hi,hv',g1,g3,m2,g5,hr,hst,m3',p1,p2,p3]
   ·have hv':¬(0:Int)<(n:Int):=by omega
    obtain⟨y,d1,t,d2,p1,p2,p3⟩:=tQ c _ h2 (by omega);refine⟨l,t,?_,by omega⟩
    simp -implicitDefEqProofs only [ao,Hg,Hh,Hi,hv',m3',p1,p2,p3]
def S8:List Int:=[0,1,2,3,5,8,20,100]
theorem mi8:aA 1 [I 0,I 1,I 2,I 3,I 5,I 8,I 20,I 100]=some (il S8):=jW (l:=S8)
set_option maxHeartbeats 2000000 in
theorem lX (c:Cur) (f:List Srt) (B:Nat) (h:c.ok B) (hB:B≤1000000) (hf:f.length≤50):∃(l:List Int) (c':Cur),bv [aU c,srs f]=some (.ret [aq l] [aU c'])∧l.length≤60∧c'.ok (B+200):=by
 rw [kI];have m3:aA 1 [I 100000,I 100001,I (-1)]=some (il [100000,100001,-1]):=jW (l:=[100000,100001,-1]);simp -implicitDefEqProofs only [ao,Hg,Hh,Hi];refine cT (fun X=>∃(l:List Int) (c':Cur),X=some (.ret [aq l] [aU c'])∧l.length≤60∧c'.ok (B+200)) (fun a:Cur × List Int × Nat=>[aU a.1,aq a.2.1,I f.length,I (a.2.2:Int)]) (fun a=>a.2.1.length=a.2.2∧a.2.2≤f.length∧a.1.ok (B+2*a.2.2)) (fun a=>f.length - a.2.2)
  (fun o=>∃(c:Cur) (l:List Int),o = .ext 0 [aU c,aq l]∧l.length=f.length∧c.ok (B+100)) ?_ (c,[],0) ⟨rfl,HI _,h⟩ rfl ?_
 ·rintro⟨c,l,i⟩ ⟨h1,h2,h3⟩
  simp only at h1 h2 h3;by_cases hlt:i<f.length
  ·have hlt':(i:Int)<(f.length:Int):=by omega
   have hw:Hj.wrap ((i:Int)+1)=((i+1:Nat):Int):=by rw [wrap_id (by omega) (by omega)];omega
   obtain⟨s,c',e,_,hc⟩:=gI c S8 _ h3 (by omega) (by decide) (by decide);have ap:=oV (l:=l) (m:=[s]) (by simp;omega);refine .inl ⟨(c',l++[s],i+1),?_,⟨by simp;omega,by simp only;omega,hc.mono (by simp only;omega)⟩,by simp only;omega⟩
   simp -implicitDefEqProofs only [ao,Hg,Hh,Hi,hlt',mi8,e,rL,ke,ap,hw]
  ·have hlt':¬(i:Int)<(f.length:Int):=by omega
   exact .inr ⟨_,by simp -implicitDefEqProofs only [ao,Hg,Hh,Hi,hlt'],rfl,c,l,rfl,by omega,h3.mono (by omega)⟩
 ·rintro o ⟨c,l,rfl,h1,h2⟩
  obtain⟨q,c1,e1,l1,u1,k1⟩:=eE c 24 _ h2 (by omega) (by omega);simp -implicitDefEqProofs only [ao,Hg,Hh,Hi,e1];by_cases q0:q=0
  ·have ap:=oV (l:=l) (m:=[1]) (by simp;omega)
   refine⟨l++[1],c1,?_,by simp;omega,k1.mono (by omega)⟩
   simp -implicitDefEqProofs only [ao,Hg,Hh,Hi,q0,rL,ke,ap]
  ·by_cases q1:q=1
   ·by_cases hl:0<l.length
    ·have hl':(0:Int)<(l.length:Int):=by omega
     obtain⟨k,c2,e2,l2,u2,k2⟩:=eE c1 (l.length:Int) _ k1 (by omega) (by omega);obtain⟨k,rfl⟩:=HD l2;obtain⟨x,c3,e3,_,k3⟩:=gI c2 [100000,100001,-1] _ k2 (by omega) (by simp) (by simp);have hr:=pS (l:=l) (k:=k) (by omega);have hst:=ku l k x (by omega);refine⟨l.set k x,c3,?_,by rw [HA];omega,k3.mono (by omega)⟩
     simp -implicitDefEqProofs only [ao,Hg,Hh,Hi,q0,q1,hl',e2,m3,e3,hr,hst,show ¬(1:Int)=0 by decide]
    ·have hl':¬(0:Int)<(l.length:Int):=by omega
     refine⟨l,c1,?_,by omega,k1.mono (by omega)⟩
     simp -implicitDefEqProofs only [ao,Hg,Hh,Hi,q0,q1,hl',show ¬(1:Int)=0 by decide]
   ·refine⟨l,c1,?_,by omega,k1.mono (by omega)⟩
    simp -implicitDefEqProofs only [ao,Hg,Hh,Hi,q0,q1]
theorem ub (b:List Int) (h:Bytes b):∃(f:List Srt) (l:List Int) (ws:List ByteArray),dA [dn b]=some (.ret [srs f,aq l,txs ws] [])∧FIn f∧l.length≤60∧WIn ws:=by
 rw [mS];obtain⟨f,c1,e1,hf,k1⟩:=qD ⟨b,0,0⟩ 0 (Fm h) (by omega);obtain⟨l,c2,e2,hl,k2⟩:=lX c1 f _ k1 (by omega) (by have:=hf.ln;omega);obtain⟨ws,c3,e3,hw,k3⟩:=EC c2 _ k2 (by omega);refine⟨f,l,ws,?_,hf.fin,hl,hw⟩
 simp -implicitDefEqProofs only [ao,Hg,Hh,Hi,vQ,ED,e1,e2,e3]
theorem tR (b:List Int) (h:Bytes b):∃(f:List Srt) (l:List Int) (ws:List ByteArray),cf [dn b]=some (.ret [srs f,aq l,txs ws] [])∧FIn f∧l.length≤60∧WIn ws:=by
 obtain⟨f,l,ws,e,h1,h2,h3⟩:=ub b h;refine⟨f,l,ws,?_,h1,h2,h3⟩
 rw [kv];simp -implicitDefEqProofs only [ao,Hg,Hh,Hi,e,ta0,ta1,tc1,ta2]
theorem we (b:List Int) (h:Bytes b):∃(f:List Srt) (l:List Int) (n:Int),bW [dn b]=some (.ret [srs f,aq l,I n] [])∧FIn f∧l.length≤60:=by
 rw [jQ];obtain⟨f,c1,e1,hf,k1⟩:=qD ⟨b,0,0⟩ 0 (Fm h) (by omega);obtain⟨l,c2,e2,hl,k2⟩:=lX c1 f _ k1 (by omega) (by have:=hf.ln;omega);obtain⟨x,c3,e3,_,k3⟩:=gI c2 [9,0,73] _ k2 (by omega) (by simp) (by simp);obtain⟨n,c4,e4,_,k4⟩:=gI c3 [1,6,8,10,12,72,x] _ k3 (by omega) (by simp) (by simp);have m3:aA 1 [I 9,I 0,I 73]=some (il [9,0,73]):=jW (l:=[9,0,73]);have m7:aA 1 [I 1,I 6,I 8,I 10,I 12,I 72,I x]=some (il [1,6,8,10,12,72,x]):=jW (l:=[1,6,8,10,12,72,x]);refine⟨f,l,n,?_,hf.fin,hl⟩
 simp -implicitDefEqProofs only [ao,Hg,Hh,Hi,vQ,ED,e1,e2,m3,e3,m7,e4]
theorem zY (b:List Int) (h:Bytes b):∃(f:List Srt) (l:List Int),dw [dn b]=some (.ret [srs f,aq l] [])∧FIn f∧l.length≤60:=by
 rw [na];obtain⟨f,c1,e1,hf,k1⟩:=qD ⟨b,0,0⟩ 0 (Fm h) (by omega);obtain⟨l,c2,e2,hl,k2⟩:=lX c1 f _ k1 (by omega) (by have:=hf.ln;omega);refine⟨f,l,?_,hf.fin,hl⟩
 simp -implicitDefEqProofs only [ao,Hg,Hh,Hi,vQ,ED,e1,e2]
end Go.Proofs.YtepkkkphfmckdaaGreatDoor

namespace Go.Proofs.YtepkkkphfmckdaaGreatDoor
open Go.V
set_option maxRecDepth 100000
@[reducible] def jY:Cx:={K:=[Yc,Yc,.no,.no,Y,Yb,Y,Yb,Y,Yb,Y,Y,Y,Y,Yb,Yb,Yb,Y,Y,Y,Y,Yb,Y,Y,Y,Yb,Yb,Y,Y,Y,Y,Y,Yb,Yb,Y,Y,Y,Y,Yc,Y,Yc,Y,Y,Y,.tup [Yo 1 0,Y],Yc,.tup [Yo 1 0,Y],Yb,Y,.tup [Yo 1 0,Y],Yb,Y,.tup [Yo 1 0,Y],Yb,Y,.tup [Yo 1 0,Y],Yb,Y,.tup [Yo 1 0,Y],Yb,Y,Y,Y,Y,Y,Yb,Yb,Y,Y,Y,Y,Yb,Y,Y,Y,Yb,Y,Yb,Y,Y,Y,Y,Yb,Y,Y,Y,Y,Y,Yb,Y,Yb,Y,Y,Y,Y,Y,Y,Y,Y,Y,Y,Yb,Y,Yb,Y,Y,Y,Y,Y,Y,Y,.tup [Yb,Yo 1 0,Yo 1 0],Yc,.tup [Yb,Yo 1 0,Yo 1 0],Yb,Yb,Yb,.tup [Y,Y],Yb,Yb,Yb,.tup [Y,Y],Y,Y,.tup [Y,Y],Yb,Yb,Yb,.tup [Y,Y],Y,Y,Y,Y,Y,Y,Y,Y,Y,Y,Y,.tup [Yo 1 0,Y],Yb,Yb,.tup [Yo 1 0,Y],Yb,Y,Y,Y,Y,Yb,Y,Yb,Y,Y,Y,Yb,Y,Y,Y,Y,Yb,Y,Y,Y,Y,Yb,Y,Yb,Y,Yb,Y,Yb,Y,Y,Yb,Y,Yb,Y,Y,Y,Y,Y,Y,.tup [Yb,Yo 1 0,Y],Yc,.tup [Yb,Yo 1 0,Y],Yb,Yb,Y,.tup [Y,Y],Yb,Yb,Y,.tup [Y,Y],Y,Y,.tup [Y,Y],Yb,Yb,Y,.tup [Y,Y],Y,Y,.tup [Yb,Yo 1 0],Yc,.tup [Yb,Yo 1 0],Yb,Yb,.tup [Y,Y],Yb,Yb,.tup [Y,Y],Y,Y,.tup [Y,Y],Yb,Yb,.tup [Y,Y],Y,Y,Y,Y,Y,Y,Y,Y,Y,Y,Y,Y,Y,Y,Y,Y,Y,Y,Y,Y,Y,Y,Y,Y,Y,Y,Y,Y],T:=[(3,ty3),(4,ty4),(5,ty5),(9,ty9),(22,xr),(23,gc)],S:=[(5,eD),(6,fX),(7,fS),(8,ou),(9,qM),(10,fx),(11,ig),(12,iu),(13,jt),(14,eU),(15,gX),(16,gR),(17,iy),(18,ll),(19,li)],H:=[(0,([1,5,6,11,77,78,79],[1])),(2,([1,15,19,21,155,156,157],[1]))],res:=[.tmp 4],ios:=[],G:=gl1}
@[reducible] def jZ:List (Nat × List Nat):=[(127,[1]),(4095,[1])]
def eQ:List D→Option Out:=qT jY jZ Tryz.f3
@[reducible] def gD:FS:={pm:=[Yc,Yc],rm:=[Y],f:=eQ}
theorem pV:ay gl1 Tryz.prog 3 gD:=BS (J:=jZ) (P:=Tryz.prog) (c:=jY) (fn:=Tryz.f3) (pm:=gD.pm) (rm:=gD.rm) (by kernel_rfl) (ab (bA mW iU) (ab (bA mW kQ) (ab (bA mW kN) (ab (bA mW vT) (ab (bA mW xC) (ab (bA mW kc) (ab (bA mW mX) (ab (bA mW nj) (ab (bA mW oI) (ab (bA mW jN) (ab (bA mW mz) (ab (bA mW mA) (ab (bA mW mV) (ab rH (ab (bA mW rc) ax))))))))))))))) jR (by kernel_rfl) Tryz.func3 (by kernel_rfl) (by kernel_rfl) rfl
open Go Go.V
set_option maxRecDepth 100000
theorem pQ (x0 x1:D):eQ [x0,x1]=((lenD false x0).bind fun z=>(lenD false x1).bind fun zs=>(bin .add false [] z zs).bind fun z=>(bin .gtr false [] z (I 1048576)).bind fun z=>ifD z (some (.ret [B true] [])) (ai (bO [x0]) fun c _=>(aT (.tup c) 0).bind fun y=>(aT (en (.tup c) 0) 1).bind fun z=>ai (vG [y,z]) fun c _=>(aT (.tup c) 0).bind fun zt=>(aT (en (.tup c) 0) 1).bind fun zr=>ai (cB [y,z]) fun c _=>(aT (.tup c) 0).bind fun u=>(aT (en (.tup c) 0) 1).bind fun zu=>(bin .neq true [] zr zu).bind fun n=>(ah (.tup []) n false (some zt)).bind fun zv=>(ah (.tup []) n false (some u)).bind fun zw=>dJ n false (ai (iI [zv,zw]) fun c _=>some (.nrm [sl c 0])) [.tup []] fun outs=>(ah (.tup []) n false (un .not (sl outs 0))).bind fun z_7=>(aW n (B true) z_7).bind fun z_8=>ifD z_8 (some (.ret [B false] [])) (xY (fun j=>ifD zr (ai (gY [u]) fun c _=>(bin .neq false [] (sl c 0) z).bind fun za=>ifD za (some (.ret [B false] [])) (ai (gY [y]) fun c _=>(lenD false u).bind fun v=>(aI (fun s=>(bin .lss false [] (sl s 6) (sl s 5)).bind fun z=>ifD z ((Hz D.ptr (aJ 1 (sl s 4) (sl s 6))).bind fun z=>((ldD false 1 z).bind bc).bind fun z=>(bin .mul false [] z (sl s 3)).bind fun p=>(Hz D.ptr (aJ 1 (sl s 1) (sl s 6))).bind fun zb=>((ldD false 1 zb).bind bc).bind fun f=>(bin .mul false [] (sl s 2) f).bind fun zc=>(bin .add false [] zc (sl s 3)).bind fun zd=>(bin .gtr false [] p zd).bind fun e=>(ah (.tup []) e false (some z)).bind fun z=>(ah (.tup []) e false (some (sl s 3))).bind fun ze=>(ah (.tup []) e false (bin .mul false [] z ze)).bind fun z=>(ah (.tup []) e false (some (sl s 2))).bind fun g=>(ah (.tup []) e false (some (sl s 1))).bind fun h=>(ah (.tup []) e false (some (sl s 6))).bind fun k=>(ah (.tup []) e false (Hz D.ptr (aJ 1 h k))).bind fun q=>(ah (.tup []) e false ((ldD false 1 q).bind bc)).bind fun l=>(ah (.tup []) e false (bin .mul false [] g l)).bind fun d=>(ah (.tup []) e false (some (sl s 3))).bind fun r=>(ah (.tup []) e false (bin .sub false [] d r)).bind fun t=>(ah (.tup []) e false (bin .lss false [] z t)).bind fun z=>(aW e (B true) z).bind fun z=>ifD z (some (.ret [B false] [])) ((bin .add false [] (sl s 6) (I 1)).bind fun z=>some (.nrm [sl s 0,sl s 1,sl s 2,sl s 3,sl s 4,sl s 5,z]))) (some (.ext 0 [sl s 0]))) [x1,y,z,sl c 0,u,v,I 0]).bind fun o=>cv o (fun i s=>ifN (i.beq 0) (j [sl s 0]) none) fun a b=>some (.ret a b))) (j [x1])) fun s=>ai (cf [sl s 0]) fun c _=>(aT (.tup c) 0).bind fun z=>(aT (.tup c) 1).bind fun y=>(aT (en (.tup c) 1) 2).bind fun zf=>ai (dv [z,y,zf]) fun c _=>(aT (.tup c) 0).bind fun za=>(aT (.tup c) 1).bind fun v=>ai (du [z,y,zf]) fun c _=>(aT (.tup c) 0).bind fun p=>(aT (.tup c) 1).bind fun zb=>(bin .neq true [] v zb).bind fun f=>(ah (.tup []) f false (some za)).bind fun zc=>(ah (.tup []) f false (some p)).bind fun zd=>(ah (.tup []) f false (bin .neq false [] zc zd)).bind fun e=>(aW f (B true) e).bind fun ze=>ifD ze (some (.ret [B false] [])) (xY (fun j=>ifD v (ai (ep [z,zf]) fun c _=>(aT (.tup c) 0).bind fun w=>(aT (en (.tup c) 0) 1).bind fun z=>(un .not z).bind fun z=>(ah (.tup []) z false (some w)).bind fun g=>(ah (.tup []) z false (some p)).bind fun h=>(ah (.tup []) z false (Hz D.ptr (aJ 1 g h))).bind fun k=>(ah (.tup []) z false ((ldD false 1 k).bind bc)).bind fun q=>(ah (.tup []) z false (bin .lss false [] q (I 1))).bind fun l=>(aW z (B true) l).bind fun z=>ifD z (some (.ret [B false] [])) ((lenD false w).bind fun z=>(aI (fun s=>(bin .lss false [] (sl s 6) (sl s 5)).bind fun z=>ifD z ((Hz D.ptr (aJ 1 (sl s 4) (sl s 6))).bind fun z=>((ldD false 1 z).bind bc).bind fun z=>(bin .gtr false [] z (I 0)).bind fun d=>(ah (.tup []) d true (some (sl s 1))).bind fun r=>(ah (.tup []) d true (some (sl s 6))).bind fun t=>(ah (.tup []) d true (Hz D.ptr (aJ 1 r t))).bind fun zg=>(ah (.tup []) d true ((ldD false 1 zg).bind bc)).bind fun m=>(ah (.tup []) d true (some (sl s 3))).bind fun zh=>(ah (.tup []) d true (some (sl s 2))).bind fun zi=>(ah (.tup []) d true (Hz D.ptr (aJ 1 zh zi))).bind fun zj=>(ah (.tup []) d true ((ldD false 1 zj).bind bc)).bind fun zk=>(ah (.tup []) d true (bin .mul false [] m zk)).bind fun zl=>(ah (.tup []) d true (some (sl s 1))).bind fun zm=>(ah (.tup []) d true (some (sl s 2))).bind fun zn=>(ah (.tup []) d true (Hz D.ptr (aJ 1 zm zn))).bind fun zo=>(ah (.tup []) d true ((ldD false 1 zo).bind bc)).bind fun zp=>(ah (.tup []) d true (some z)).bind fun z=>(ah (.tup []) d true (bin .mul false [] zp z)).bind fun z=>(ah (.tup []) d true (bin .lss false [] zl z)).bind fun z=>(aW d z (B false)).bind fun z=>ifD z (some (.ret [B false] [])) ((bin .add false [] (sl s 6) (I 1)).bind fun z=>some (.nrm [sl s 0,sl s 1,sl s 2,sl s 3,sl s 4,sl s 5,z]))) (some (.ext 2 [sl s 0]))) [sl s 0,y,p,w,w,z,I 0]).bind fun o=>cv o (fun i s=>ifN (i.beq 2) (j [sl s 0]) none) fun a b=>some (.ret a b))) (j [sl s 0])) fun s=>ai (bW [sl s 0]) fun c _=>(aT (.tup c) 0).bind fun z=>(aT (.tup c) 1).bind fun y=>(aT (en (.tup c) 1) 2).bind fun g=>ai (dh [z,y,g]) fun c _=>(aT (.tup c) 0).bind fun h=>(aT (.tup c) 1).bind fun k=>ai (cU [z,y,g]) fun c _=>(aT (.tup c) 0).bind fun z=>(aT (.tup c) 1).bind fun q=>ai (dw [sl s 0]) fun c _=>(aT (.tup c) 0).bind fun l=>(aT (.tup c) 1).bind fun y=>ai (fc [l,y]) fun c _=>(aT (.tup c) 0).bind fun d=>(aT (.tup c) 1).bind fun r=>ai (fi [l,y]) fun c _=>(aT (.tup c) 0).bind fun t=>(aT (.tup c) 1).bind fun zg=>(bin .eql true [] k q).bind fun m=>(ah (.tup []) m true (some h)).bind fun zh=>(ah (.tup []) m true (some z)).bind fun z=>(ah (.tup []) m true (bin .eql false [] zh z)).bind fun z=>(aW m z (B false)).bind fun z=>(ah (.tup []) z true (some r)).bind fun zi=>(ah (.tup []) z true (some zg)).bind fun zj=>(ah (.tup []) z true (bin .eql true [] zi zj)).bind fun zk=>(aW z zk (B false)).bind fun z=>(ah (.tup []) z true (some d)).bind fun zl=>(ah (.tup []) z true (some t)).bind fun zm=>(ah (.tup []) z true (bin .eql false [] zl zm)).bind fun zn=>(aW z zn (B false)).bind fun z=>(ah (.tup []) z true (some k)).bind fun zo=>(ah (.tup []) z true (un .not zo)).bind fun zp=>(ah (.tup []) z true (some zp)).bind fun zq=>(ah (.tup []) zq false (some h)).bind fun z_38=>(ah (.tup []) zq false (bin .geq false [] z_38 (I 0))).bind fun z_39=>(ah (.tup []) z true (aW zq (B true) z_39)).bind fun z_40=>(aW z z_40 (B false)).bind fun z=>some (.ret [z] []))))):=by kernel_rfl
set_option maxRecDepth 100000
theorem wu (l:List Int) (h:l.length≤1048576):iI [aq l,aq l]=some (.ret [B true] []):=by
 rw [wv];simp only [jo,HZ,HV,vY,decide_true,Bool.not_true,lN,Bool.false_eq_true,if_false];refine aG (.ext 0 []) (eG l.length (fun i=>[aq l,aq l,I l.length,I i]) _ (fun i hi=>?_) ?_ rfl rfl) ?_
 ·have hw:Hj.wrap ((i:Int)+1)=(i:Int)+1:=wrap_id (by omega) (by omega)
  simp -implicitDefEqProofs [hi,hw]
 ·simp
 ·simp
theorem xw:∀(s:List Int) (x:Nat),x<s.length→aB (s.set x (s.getD x 0+1))=aB s+1
 | [],x,h=>by simp at h
 | y::s,0,_=>by
  rw [List.set_cons_zero,eN,eN];simp only [Ic];omega
 | y::s,x+1,h=>by
  have:=xw s x (by simpa using h);rw [List.set_cons_succ,eN,eN,Ie];omega
theorem yr:∀(o:List Nat) (s:List Int),(∀x∈o,x<s.length)→aB (dE s o)=aB s+o.length
 | [],s,_=>by simp [dE]
 | x::o,s,h=>by
  have h1:=xw s x (h x (by simp));have h2:=yr o (s.set x (s.getD x 0+1)) (fun y hy=>by rw [HA];exact h y (by simp [hy]));have e:dE s (x::o)=dE (s.set x (s.getD x 0+1)) o:=rfl;rw [e,h2,h1,HU];omega
theorem xH:∀(o:List Nat) (s:List Int) (i:Nat),(∀x∈o,x<s.length)→o.Nodup→(dE s o).getD i 0=s.getD i 0+if i∈o then 1 else 0
 | [],s,i,_,_=>by simp [dE]
 | x::o,s,i,h,hn=>by
  obtain⟨n1,n2⟩:=List.nodup_cons.1 hn;have e:dE s (x::o)=dE (s.set x (s.getD x 0+1)) o:=rfl;rw [e,xH o _ i (fun y hy=>by rw [HA];exact h y (by simp [hy])) n2,CY s x i _ (h x (by simp))];by_cases hc:x=i
  ·subst hc
   simp [n1]
  ·have hc':¬i=x:=fun e=>hc e.symm
   simp [hc,hc']
theorem zS (r:Nat→Int) (n:Nat):(bD r n).Nodup:=by
 obtain⟨h1,_,_⟩:=iz r n;refine h1.imp fun {a b} h e=>?_
 subst e;unfold Bf at h;omega
structure Shr (l:List Int) (t:Int):Prop where
 n:1≤l.length∧l.length≤32
 all:∀x∈l,0≤x∧x≤1000000
 t0:0≤t∧t≤100000
 a0:0<aB l∧aB l≤32000000
 len:(cA l t).length=l.length
 sum:aB (cA l t)=t
 get:∀i,i<l.length→0≤(cA l t).getD i 0∧(cA l t).getD i 0≤100001∧t*l.getD i 0 - aB l≤(cA l t).getD i 0*aB l∧(cA l t).getD i 0*aB l≤t*l.getD i 0+aB l
theorem CV {l:List Int} {t:Int} (h:cK l t=true):Shr l t:=by
 have h0:=h;unfold cK at h;simp only [Hl,decide_eq_true_eq,Hy] at h;obtain⟨⟨⟨hall,hn⟩,hs0⟩,ht⟩:=h;have hsb:=eH 1000000 l hall;have ha0:0<aB l∧aB l≤32000000:=by omega
 have hleft:=wq l t hn.1 ha0.1;have hd:cA l t=dE (bsW l t (aB l)) ((bD (bG l t (aB l)) l.length).take (lk l t)):=by
  unfold cA;rw [if_pos h0]
 obtain⟨o1,o2,o3⟩:=iz (bG l t (aB l)) l.length;have hin:∀x∈(bD (bG l t (aB l)) l.length).take (lk l t),x<(bsW l t (aB l)).length:=fun x hx=>by
  rw [cL];exact(o2 x).1 (Ib hx)
 have hnd:((bD (bG l t (aB l)) l.length).take (lk l t)).Nodup:=(zS _ _).sublist (List.take_sublist _ _);have hlt:((bD (bG l t (aB l)) l.length).take (lk l t)).length=lk l t:=by
  rw [Hu,o3];unfold lk;omega
 refine⟨hn,hall,ht,ha0,by rw [hd,eF,cL],?_,fun i hi=>?_⟩
 ·rw [hd,yr _ _ hin,hlt]
  unfold lk;omega
 ·have hx:=hall _ (mu hi)
  rw [hd,xH _ _ i hin hnd];have eb:(bsW l t (aB l)).getD i 0=t*l.getD i 0 / aB l:=by simp [bsW,hi]
  rw [eb];have m1:0≤t*l.getD i 0:=Ht ht.1 hx.1;have d1:0≤t*l.getD i 0 / aB l:=Ia m1 (by omega);have hle:l.getD i 0≤aB l:=by
   clear hleft hd o1 o2 o3 hin hnd hlt eb m1 d1 h0;have key:∀(l:List Int) (i:Nat),(∀x∈l,0≤x∧x≤1000000)→l.getD i 0≤aB l:=by
    intro l;induction l with
    | nil=>intro i _;simp [aB]
    | cons y l ih =>
     intro i hy;have h1:=hy y (by simp);have h2:=eH 1000000 l fun z hz=>hy z (by simp [hz])
     rw [eN];cases i with
     | zero=>simp only [Ic];omega
     | succ i =>
      have:=ih i fun z hz=>hy z (by simp [hz])
      rw [Ie];omega
   exact key l i hall
  have d2:t*l.getD i 0 / aB l≤t:=by
   refine Int.ediv_le_of_le_mul ha0.1 ?_
   exact Int.mul_le_mul_of_nonneg_left hle ht.1
  have hdm:=Int.mul_ediv_add_emod (t*l.getD i 0) (aB l);have r1:=Int.emod_nonneg (t*l.getD i 0) (show aB l≠0 by omega);have r2:=Int.emod_lt_of_pos (t*l.getD i 0) ha0.1;generalize t*l.getD i 0 / aB l=q at *;generalize t*l.getD i 0=p at *;generalize aB l=a at *;rw [HY a q] at hdm;split
  ·rw [Int.add_mul]
   omega
  ·rw [Int.add_zero]
   omega
theorem Bw (f:List Srt) (st:List Int) (ws:List ByteArray):zV f st ws=some (.ret [I 0,B false] [])∨∃(r:List Int) (k:Nat),eY f ws=some r∧ScIn st r∧k<r.length∧zV f st ws=some (.ret [I (k:Int),B true] [])∧0<r.getD k 0∧∀j,j<r.length→0<r.getD j 0→st.getD k 0*r.getD j 0≤st.getD j 0*r.getD k 0:=by
 unfold zV;cases hn:eY f ws with
 | none=>exact .inl rfl
 | some r =>
  cases hc:ki f st
  ·exact .inl rfl
  ·have hin:=zD hn hc
   obtain⟨h1,-⟩:=AH hin r.length (Hv _);simp only [if_true];unfold scO;rcases h1 with h1 | ⟨k,h1,h2,h3,h4⟩
   ·rw [h1]
    exact .inl rfl
   ·rw [h1,if_neg (by omega)]
    exact .inr ⟨r,k,rfl,hin,h2,rfl,h3,h4⟩
theorem FO (f:List Srt) (l:List Int) (b:Int):∃(n:Int) (q:Bool),wgt f l b=some (.ret [I n,B q] [])∧(q=true→0≤n):=by
 unfold wgt;split
 ·rename_i h
  simp only [Hl,decide_eq_true_eq] at h;have hin:=tU h.1.1 h.1.2;have hp:=tk hin f.length (Hv _);have m1:0≤ps f l f.length*b:=Ht hp.1 (by omega);exact⟨_,true,rfl,fun _=>Ia (by omega) (by omega)⟩
 ·exact⟨0,false,rfl,fun h=>by cases h⟩
theorem Ga (f:List Srt) (l:List Int):∃(s:ByteArray) (q:Bool),bil f l=some (.ret [T s,B q] []):=by
 unfold bil;split
 ·exact⟨_,_,rfl⟩
 ·exact⟨_,_,rfl⟩
theorem xj (code more:List Int) (h1:∀n∈code,0≤n∧n≤255) (h2:∀n∈more,0≤n∧n≤255) (l1:code.length≤9223372036854775807) (l2:more.length≤9223372036854775807):eQ [dn code,dn more]=some (.ret [B true] []):=by
 rw [pQ];by_cases hbig:1048576<Hj.wrap ((code.length:Int)+(more.length:Int))
 ·simp -implicitDefEqProofs only [ao,Hg,Hh,Hi,hbig]
 obtain⟨l,t,d1,hl⟩:=wa code ⟨h1,l1⟩;have a1:=En l t (by omega);have a2:=kJ l t (by omega);have hdl:(cA l t).length≤50:=by
  cases h:cK l t
  ·unfold cA
   rw [h];simp
  ·rw [(CV h).len]
   exact hl
 have a3:=wu (cA l t) (by omega);simp -implicitDefEqProofs only [ao,Hg,Hh,Hi,hbig,d1,a1,a2,a3,ta0,tc0,tv1,tP,beq_self_eq_true];refine su (fun s=>s=[dn more]) ?_ ?_
 ·rintro _ rfl
  obtain⟨f,st,ws,d2,f1,f2,f3⟩:=tR more ⟨h2,l2⟩;obtain⟨g,cn,bd,d3,g1,g2⟩:=we more ⟨h2,l2⟩;obtain⟨u,cu,d4,u1,u2⟩:=zY more ⟨h2,l2⟩;have s1:=nf f st ws f1 f3 (by omega);have s2:=mP f st ws f1 f3 (by omega);have w1:=mo g cn bd g1 (by omega);have w2:=mr g cn bd g1 (by omega);have b1:=rI u cu u1 (by omega);have b2:=rz u cu u1 (by omega);obtain⟨n,q,ew,hq⟩:=FO g cn bd;obtain⟨tx,q2,eb⟩:=Ga u cu;rw [ew] at w1 w2;rw [eb] at b1 b2;have tl:∀j:List D→Option Out,(∀s,s=[dn more]→j s=some (.ret [B true] []))→j [dn more]=some (.ret [B true] []):=fun j hj=>hj _ rfl
  rcases Bw f st ws with hs | ⟨r,k,hn,hin,hk,hs,hp,hm⟩
  ·rw [hs] at s1 s2
   simp -implicitDefEqProofs only [ao,Hg,Hh,Hi,d2,ta0,ta1,tc1,ta2,s1,s2,tv0,tv1,tP,beq_self_eq_true];refine su (fun s=>s=[dn more]) ?_ (fun j hj=>hj _ rfl)
   rintro _ rfl;cases q
   ·simp -implicitDefEqProofs only [ao,Hg,Hh,Hi,d3,ta0,ta1,tc1,tv2,w1,w2,tv0,tv1,oB,beq_self_eq_true,d4,b1,b2,jh]
   ·have:=hq rfl
    simp -implicitDefEqProofs only [ao,Hg,Hh,Hi,d3,ta0,ta1,tc1,tv2,w1,w2,tv0,tv1,oB,beq_self_eq_true,d4,b1,b2,jh,this]
  ·rw [hs] at s1 s2
   have c1:=po f ws f1 f3;rw [hn] at c1;simp -implicitDefEqProofs only [ao,Hg,Hh,Hi,d2,ta0,ta1,tc1,ta2,s1,s2,tv0,tv1,tP,beq_self_eq_true];refine su (fun s=>s=[dn more]) ?_ (fun j hj=>?_)
   ·rintro _ rfl
    cases q
    ·simp -implicitDefEqProofs only [ao,Hg,Hh,Hi,d3,ta0,ta1,tc1,tv2,w1,w2,tv0,tv1,oB,beq_self_eq_true,d4,b1,b2,jh]
    ·have:=hq rfl
     simp -implicitDefEqProofs only [ao,Hg,Hh,Hi,d3,ta0,ta1,tc1,tv2,w1,w2,tv0,tv1,oB,beq_self_eq_true,d4,b1,b2,jh,this]
   ·have hrk:aJ 1 (aq r) (I (k:Int))=some [I r[k]]:=by simp [hk]
    have erk:r.getD k 0=r[k]:=by simp [hk]
    rw [erk] at hp;have hp1:¬r[k]<1:=by omega
    simp -implicitDefEqProofs only [ao,Hg,Hh,Hi,c1,ta0,tc0,tv1,Hn,Hs,hrk,hp1];have hn32:=hin.n;refine aG _ (eG r.length (fun i=>[dn more,aq st,I k,aq r,aq r,I r.length,I i]) (.ext 2 [dn more]) (fun i hi=>?_) ?_ rfl rfl) ?_
    ·have hw:Hj.wrap ((i:Int)+1)=((i+1:Nat):Int):=by rw [wrap_id (by omega) (by omega)];omega
     have hsl:=hin.len;have his:i<st.length:=by omega
     have hks:k<st.length:=by omega
     have e1:st.getD i 0=st[i]:=by simp [his]
     have e2:st.getD k 0=st[k]:=by simp [hks]
     have e3:r.getD i 0=r[i]:=by simp [hi]
     have p1:=vo hin (i:=i) (k:=k) hi hk;have p2:=vo hin (i:=k) (k:=i) hk hi;have hm':=hm i hi;rw [e1,e2,e3,erk] at hm';rw [e1,erk] at p1;rw [e2,e3] at p2;have v1:Hj.wrap (st[i]*r[k])=st[i]*r[k]:=wrap_id (by omega) (by omega);have v2:Hj.wrap (st[k]*r[i])=st[k]*r[i]:=wrap_id (by omega) (by omega);by_cases h0:0<r[i]
     ·have hc:¬st[i]*r[k]<st[k]*r[i]:=by have:=hm' h0;omega
      simp -implicitDefEqProofs [hi,his,hks,hk,hw,v1,v2,h0,hc]
     ·simp -implicitDefEqProofs [hi,hw,h0]
    ·simp -implicitDefEqProofs
    ·simp -implicitDefEqProofs only [ao,Hg,Hh,Hi]
     exact hj _ rfl
 ·intro j hj
  cases hok:cK l t
  ·simp -implicitDefEqProofs only [ao,Hg,Hh,Hi]
   exact hj _ rfl
  ·have S:=CV hok
   have b1:=qH (cA l t) (by omega) (fun x hx=>by
    obtain⟨i,hi,rfl⟩:=HH hx;have:=S.get i (by rw [←S.len];exact hi);rw [show(cA l t).getD i 0=(cA l t)[i] by simp [hi]] at this;omega)
   rw [S.sum] at b1;have b2:=qH l (by omega) (fun x hx=>by have:=S.all x hx;omega);simp -implicitDefEqProofs only [ao,Hg,Hh,Hi,b1,b2];refine aG _ (eG (cA l t).length (fun i=>[dn more,aq l,I t,I (aB l),aq (cA l t),I (cA l t).length,I i]) (.ext 0 [dn more]) (fun i hi=>?_) ?_ rfl rfl) ?_
   ·have hil:i<l.length:=by rw [←S.len];exact hi
    have hw:Hj.wrap ((i:Int)+1)=((i+1:Nat):Int):=by rw [wrap_id (by omega) (by omega)];omega
    obtain⟨g1,g2,g3,g4⟩:=S.get i hil;have e1:(cA l t).getD i 0=(cA l t)[i]:=by simp [hi]
    have e2:l.getD i 0=l[i]:=by simp [hil]
    rw [e1,e2] at g3 g4;rw [e1] at g1 g2;obtain⟨x1,x2,x3⟩:=wH S.t0 S.all (Hk hil);have ha:=S.a0;have m1:0≤(cA l t)[i]*aB l:=Ht g1 (by omega);have m2:(cA l t)[i]*aB l≤100001*32000000:=Hw g2 ha.2 (by omega) (by omega);have w1:Hj.wrap ((cA l t)[i]*aB l)=(cA l t)[i]*aB l:=wrap_id (by omega) (by omega);have w2:Hj.wrap (t*l[i]+aB l)=t*l[i]+aB l:=wrap_id (by omega) (by omega);have w3:Hj.wrap (t*l[i] - aB l)=t*l[i] - aB l:=wrap_id (by omega) (by omega);have c1:¬t*l[i]+aB l<(cA l t)[i]*aB l:=by omega
    have c2:¬(cA l t)[i]*aB l<t*l[i] - aB l:=by omega
    simp -implicitDefEqProofs [hi,hil,hw,w1,w2,w3,x2,c1,c2]
   ·simp -implicitDefEqProofs
   ·simp -implicitDefEqProofs only [ao,Hg,Hh,Hi]
    exact hj _ rfl
end Go.Proofs.YtepkkkphfmckdaaGreatDoor

end
