/-
  'laws.FnShops' holds: whatever it is given, it returns true, and what it was given reads as it did.
-/
import Derived.Test.YtkcojipciiakdaaRows
import Derived.Test.YtkcojipciiakdaaM10
set_option maxRecDepth 100000
namespace Go.Proofs.Ytkcojipciiakdaa
open Go Go.V Go.RowKit Go.WideShapes Go.ChangeShapes
set_option maxRecDepth 100000
theorem Try.own:ownKnob Try.prog.godebug=none:=by kernel_rfl
theorem Try.laidOut:laidOutB Try.prog=true:=by kernel_rfl
abbrev sD:Sh:=.sl (.int .u8)
theorem AS {y:D} (h:sD.IsV y):∃l:List Int,y=iP l∧l.length≤maxLen∧∀n∈l,0≤n∧n≤255:=by
 obtain⟨ds,rfl,hl,h2⟩:=HT h
 have:∃l:List Int,ds=l.map U∧∀n∈l,0≤n∧n≤255:=by
  clear h hl
  induction ds with
  | nil=>exact⟨[],rfl,by simp⟩
  | cons d ds ih =>
   obtain⟨n,rfl,k1,k2⟩:=Hi (h2 d (by simp))
   obtain⟨l,rfl,k3⟩:=ih (fun e he=>h2 e (by simp [he]))
   refine⟨n::l,rfl,fun m hm=>?_⟩
   rcases List.mem_cons.1 hm with rfl | hm
   ·exact⟨k1,k2⟩
   ·exact k3 m hm
 obtain⟨l,rfl,h3⟩:=this
 exact⟨l,rfl,by simpa using hl,h3⟩
theorem law (ds:List D) (h:Ak [sD,sD] ds):iq ds=some (.ret [B true] []):=by
 obtain⟨x,y,rfl,h1,h2⟩:=GF h
 obtain⟨a,rfl,la,ha⟩:=AS h1
 obtain⟨b,rfl,lb,hb⟩:=AS h2
 exact Dp a b ha hb la lb
theorem Hy (os:Os) (started:os.Started) (H:Type) (enc:TypeId × Value→H) :
  ReturnsInHanded {} Try.checked os 7 .any (Rows.fnShopsSpec.pre6 enc Try.prog Try.f7 Rows.fnShopsRow.domain false) (Rows.fnShopsSpec.post enc Try.prog Try.f7 false true false false):=by
 refine returnsInHanded_of_change (C:=Try.checked) Try.own started (by kernel_rfl) Try.func7
  (ChangeSpec.witness6 (enc:=enc) (C:=Try.checked) false ⟨#[],#[.slice none 0 0,.slice none 0 0],[]⟩ 8 (by kernel_rfl) (by kernel_rfl) (by kernel_rfl) (by kernel_rfl)) ?_
 intro W base args ds gs before hval hW _ _
 exact ET vD Try.func7 (by kernel_rfl) (by kernel_rfl) [sD,sD] Try.laidOut (by kernel_rfl) (by kernel_rfl) rfl rfl (by kernel_rfl) law rfl
  (fun l hl=>by
   match l,hl with
   | [_,_],_=>rfl) hval hW jR
theorem holds:Rows.FnShopsSaid :=
 OpenClaim.holds_of_wide 7 Try.f7 rfl rfl rfl rfl rfl rfl rfl ⟨rfl,rfl,rfl,rfl,rfl⟩ rfl rfl rfl rfl rfl (by kernel_rfl) Try.func7 (by kernel_rfl)
  (of_decide_eq_true (by kernel_rfl)) (by unfold Func.isWrapper;first | (rw [if_pos (by decide +kernel)];kernel_rfl) | (rw [if_neg (by decide +kernel)];exact⟨rfl,rfl⟩))
  (fun os started H enc _=>Hy os started H enc)
end Go.Proofs.Ytkcojipciiakdaa

