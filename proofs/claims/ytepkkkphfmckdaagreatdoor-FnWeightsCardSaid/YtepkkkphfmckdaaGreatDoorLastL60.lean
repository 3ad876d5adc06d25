/-
  'laws.FnWeights' holds: whatever it is given, it returns true, and what it was given reads as it did. Its row lists variables of the library; the card ties them to the program's text.
-/
import Derived.Test.YtepkkkphfmckdaaGreatDoorRows
import Derived.Test.YtepkkkphfmckdaaGreatDoorTie
import Derived.Test.YtepkkkphfmckdaaGreatDoorCards
import Derived.Test.YtepkkkphfmckdaaGreatDoorM7
set_option maxRecDepth 100000
namespace Go.Proofs.YtepkkkphfmckdaaGreatDoor
open Go Go.V Go.RowKit Go.WideShapes Go.ChangeShapes Go.ChangeAt
set_option maxRecDepth 100000
abbrev pA:Sh:=.sl (.int .u8)
theorem yE {y:D} (h:pA.IsV y):∃l:List Int,y=dn l∧l.length≤maxLen∧∀n∈l,0≤n∧n≤255:=by
 obtain⟨ds,rfl,hl,h2⟩:=Gy h
 have:∃l:List Int,ds=l.map U∧∀n∈l,0≤n∧n≤255:=by
  clear h hl
  induction ds with
  | nil=>exact⟨[],rfl,by simp⟩
  | cons d ds ih =>
   obtain⟨n,rfl,k1,k2⟩:=FK (h2 d (by simp))
   obtain⟨l,rfl,k3⟩:=ih (fun e he=>h2 e (by simp [he]))
   refine⟨n::l,rfl,fun m hm=>?_⟩
   rcases List.mem_cons.1 hm with rfl | hm
   ·exact⟨k1,k2⟩
   ·exact k3 m hm
 obtain⟨l,rfl,h3⟩:=this
 exact⟨l,rfl,by simpa using hl,h3⟩
theorem law (ds:List D) (h:xU [pA,pA] ds):eQ ds=some (.ret [B true] []):=by
 obtain⟨x,y,rfl,h1,h2⟩:=Fk h
 obtain⟨a,rfl,la,ha⟩:=yE h1
 obtain⟨b,rfl,lb,hb⟩:=yE h2
 exact xj a b ha hb la lb
noncomputable def start (os:Os):World:=World.doorLaid Tryz.prog 200 os
theorem DL (os:Os) (args:Array Value):laidMet Tryz.prog Rows.fnWeightsRow.laid ((start os).forCall (fun _ _=>0) ⟨#[],args,[]⟩).memory :=
 laidMet_of_run' 8 (by kernel_rfl) (by kernel_rfl)
theorem GA (os:Os) {H:Type} (enc:TypeId × Value→H):∃places,DataW.whole enc Tryz.prog ((start os).forCall (fun _ _=>0) ⟨#[],#[.slice none 0 0,.slice none 0 0],[]⟩).memory Tryz.f3.params.toList Rows.fnWeightsSpec.vars false (#[.slice none 0 0,.slice none 0 0]:Array Value).toList 8=some ([.nil,.nil],[],places) :=
 ⟨[],by kernel_rfl⟩
theorem Ge (os:Os) (started:os.Started) (H:Type) (enc:TypeId × Value→H) (F:Stop.Interp) :
  ReturnsInHanded {} Tryz.checked os 3 .any ((OpenSpec.ofChange Rows.fnWeightsSpec).preRow enc Tryz.prog Tryz.f3 Rows.fnWeightsRow.domain false Rows.fnWeightsRow.laid) (((OpenSpec.ofChange Rows.fnWeightsSpec).at F).post enc Tryz.prog Tryz.f3 false true false false):=by
 obtain⟨places,hx⟩:=GA os enc
 refine returnsInHanded_of_row (C:=Tryz.checked) (s:=OpenSpec.ofChange Rows.fnWeightsSpec) own started (by kernel_rfl) Tryz.func3
  (witness_row_atRef (enc:=enc) (C:=Tryz.checked) false (start os) #[.slice none 0 0,.slice none 0 0] rfl (by kernel_rfl) (by kernel_rfl) (by kernel_rfl)
   (OpenSpec.preRow_of_cond 8 hx (by kernel_rfl) (fun k hk=>by cases hk) (by kernel_rfl) (DL os _))) ?_
 intro W base args ds gs before hval hW _ _ _ hL hsh _
 rw [MakeChecks.laidMetH_plain _ _ _ (by kernel_rfl)] at hL
 exact Dy (s:=Rows.fnWeightsSpec) pV Tryz.func3 (by kernel_rfl) (by kernel_rfl) [pA,pA] ES (by kernel_rfl) (by kernel_rfl) rfl rfl (by kernel_rfl) law rfl
  (fun l hl=>by
   match l,hl with
   | [_,_],_=>rfl) hval hW (FM hsh (FT hL.tail.tail))
theorem Ha:Rows.FnWeightsSaid :=
 OpenClaim.holds_of_cond 3 Tryz.f3 rfl rfl rfl rfl rfl rfl rfl ⟨rfl,rfl,rfl,rfl,rfl⟩ rfl rfl rfl rfl rfl (by kernel_rfl) Tryz.func3 (by kernel_rfl)
  (of_decide_eq_true (by kernel_rfl)) (by unfold Func.isWrapper;first | (rw [if_pos (by decide +kernel)];kernel_rfl) | (rw [if_neg (by decide +kernel)];exact⟨rfl,rfl⟩))
  (fun os started H enc _ F=>by rw [OpenClaim.pre_eq_preRow];exact Ge os started H enc F)
theorem GF (f:FuncId) (fn:Func) (hf:Tryz.pinned.checked.prog.funcNamed "loop.example/g01054/laws.FnWeights"=some f) (hfn:Tryz.pinned.checked.prog.funcs[f]?=some fn) :
  true=Tryz.pinned.checked.prog.looks []∧∀(j:Nat) t,fn.params[j]?=some t→Tryz.pinned.checked.prog.wantsStandIn t=false:=by
 obtain rfl:f=3:=Option.some.inj ((show Tryz.prog.funcNamed "loop.example/g01054/laws.FnWeights"=some 3 by kernel_rfl).symm.trans hf) |>.symm
 obtain rfl:fn=Tryz.f3:=(Option.some.inj (Tryz.func3.symm.trans hfn)).symm
 refine⟨by kernel_rfl,fun j t ht=>?_⟩
 rw [Tryz.params3] at ht
 have hm:=Array.mem_of_getElem? ht
 have all:∀t∈(#[22,22]:Array Nat),Tryz.prog.wantsStandIn t=false:=by
  have:(#[22,22]:Array Nat).toList.all (fun t=>!Tryz.prog.wantsStandIn t)=true:=by kernel_rfl
  intro t ht
  have h:=List.all_eq_true.1 this t (by simpa using ht)
  simpa using h
 exact all t hm
theorem holds:Rows.FnWeightsCardSaid :=
 Claim7.holds_tied_plain_at .later [] _ _ _ _ Ha (fun _ h=>by cases h) (by kernel_rfl) (fun _ h=>by cases h) fnWeights_row_tie rfl ⟨rfl,rfl⟩ (by kernel_rfl) rfl GF (by kernel_rfl)
end Go.Proofs.YtepkkkphfmckdaaGreatDoor

