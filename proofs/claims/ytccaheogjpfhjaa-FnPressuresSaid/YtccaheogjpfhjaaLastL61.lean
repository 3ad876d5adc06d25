/-
  'laws.FnPressures' holds: whatever it is given, it returns true, and what it was given reads as it did.
-/
import Derived.Test.YtccaheogjpfhjaaRows
import Derived.Test.YtccaheogjpfhjaaM8
set_option maxRecDepth 100000
namespace Go.Proofs.Ytccaheogjpfhjaa
open Go Go.V Go.RowKit Go.WideShapes Go.ChangeShapes
set_option maxRecDepth 100000
theorem Try.own:ownKnob Try.prog.godebug=none:=by kernel_rfl
theorem Try.laidOut:laidOutB Try.prog=true:=by kernel_rfl
abbrev rF:Sh:=.sl (.int .u8)
theorem Al {y:D} (h:rF.IsV y):∃l:List Int,y=cR l∧l.length≤maxLen∧∀n∈l,0≤n∧n≤255:=by
 obtain⟨ds,rfl,hl,h2⟩:=Hv h
 have:∃l:List Int,ds=l.map U∧∀n∈l,0≤n∧n≤255:=by
  clear h hl
  induction ds with
  | nil=>exact⟨[],rfl,by simp⟩
  | cons d ds ih =>
   obtain⟨n,rfl,k1,k2⟩:=GM (h2 d (by simp))
   obtain⟨l,rfl,k3⟩:=ih (fun e he=>h2 e (by simp [he]))
   refine⟨n::l,rfl,fun m hm=>?_⟩
   rcases List.mem_cons.1 hm with rfl | hm
   ·exact⟨k1,k2⟩
   ·exact k3 m hm
 obtain⟨l,rfl,h3⟩:=this
 exact⟨l,rfl,by simpa using hl,h3⟩
theorem law (ds:List D) (h:zJ [rF,rF] ds):eD ds=some (.ret [B true] []):=by
 obtain⟨x,y,rfl,h1,h2⟩:=Gm h
 obtain⟨a,rfl,la,ha⟩:=Al h1
 obtain⟨b,rfl,lb,hb⟩:=Al h2
 exact vS a b ha hb
theorem Hd (os:Os) (started:os.Started) (H:Type) (enc:TypeId × Value→H) :
  ReturnsInHanded {} Try.checked os 3 .any (Rows.fnPressuresSpec.pre6 enc Try.prog Try.f3 Rows.fnPressuresRow.domain false) (Rows.fnPressuresSpec.post enc Try.prog Try.f3 false true false false):=by
 refine returnsInHanded_of_change (C:=Try.checked) Try.own started (by kernel_rfl) Try.func3
  (ChangeSpec.witness6 (enc:=enc) (C:=Try.checked) false ⟨#[],#[.slice none 0 0,.slice none 0 0],[]⟩ 8 (by kernel_rfl) (by kernel_rfl) (by kernel_rfl) (by kernel_rfl)) ?_
 intro W base args ds gs before hval hW _ _
 exact Ex qo Try.func3 (by kernel_rfl) (by kernel_rfl) [rF,rF] Try.laidOut (by kernel_rfl) (by kernel_rfl) rfl rfl (by kernel_rfl) law rfl
  (fun l hl=>by
   match l,hl with
   | [_,_],_=>rfl) hval hW oU
theorem holds:Rows.FnPressuresSaid :=
 OpenClaim.holds_of_wide 3 Try.f3 rfl rfl rfl rfl rfl rfl rfl ⟨rfl,rfl,rfl,rfl,rfl⟩ rfl rfl rfl rfl rfl (by kernel_rfl) Try.func3 (by kernel_rfl)
  (of_decide_eq_true (by kernel_rfl)) (by unfold Func.isWrapper;first | (rw [if_pos (by decide +kernel)];kernel_rfl) | (rw [if_neg (by decide +kernel)];exact⟨rfl,rfl⟩))
  (fun os started H enc _=>Hd os started H enc)
end Go.Proofs.Ytccaheogjpfhjaa

