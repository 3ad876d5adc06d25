/-
  'laws.FnTop' holds: whatever it is given, it returns true, and what it was given reads as it did.
-/
import Derived.Test.YtccaheogjpfhjaaGreatRows
import Derived.Test.YtccaheogjpfhjaaGreatM12
set_option maxRecDepth 100000
namespace Go.Proofs.YtccaheogjpfhjaaGreat
open Go Go.V Go.RowKit Go.WideShapes Go.ChangeShapes
set_option maxRecDepth 100000
theorem Tryz.own:ownKnob Tryz.prog.godebug=none:=by kernel_rfl
theorem Tryz.laidOut:laidOutB Tryz.prog=true:=by kernel_rfl
abbrev Bt:Sh:=.sl (.int .u8)
theorem ON {y:D} (h:Bt.IsV y):∃l:List Int,y=gw l∧l.length≤maxLen∧∀n∈l,0≤n∧n≤255:=by
 obtain⟨ds,rfl,hl,h2⟩:=YC h
 have:∃l:List Int,ds=l.map U∧∀n∈l,0≤n∧n≤255:=by
  clear h hl
  induction ds with
  | nil=>exact⟨[],rfl,by simp⟩
  | cons d ds ih =>
   obtain⟨n,rfl,k1,k2⟩:=Xt (h2 d (by simp))
   obtain⟨l,rfl,k3⟩:=ih (fun e he=>h2 e (by simp [he]))
   refine⟨n::l,rfl,fun m hm=>?_⟩
   rcases List.mem_cons.1 hm with rfl | hm
   ·exact⟨k1,k2⟩
   ·exact k3 m hm
 obtain⟨l,rfl,h3⟩:=this
 exact⟨l,rfl,by simpa using hl,h3⟩
theorem law (ds:List D) (h:NU [Bt,Bt] ds):nH ds=some (.ret [B true] []):=by
 obtain⟨x,y,rfl,h1,h2⟩:=WB h
 obtain⟨a,rfl,la,ha⟩:=ON h1
 obtain⟨b,rfl,lb,hb⟩:=ON h2
 exact Wf a b ha hb (by unfold maxLen at la;omega) (by unfold maxLen at lb;omega)
theorem Ya (os:Os) (started:os.Started) (H:Type) (enc:TypeId × Value→H) :
  ReturnsInHanded {} Tryz.checked os 3 .any (Rows.fnTopSpec.pre6 enc Tryz.prog Tryz.f3 Rows.fnTopRow.domain false) (Rows.fnTopSpec.post enc Tryz.prog Tryz.f3 false true false false):=by
 refine returnsInHanded_of_change (C:=Tryz.checked) Tryz.own started (by kernel_rfl) Tryz.func3
  (ChangeSpec.witness6 (enc:=enc) (C:=Tryz.checked) false ⟨#[],#[.slice none 0 0,.slice none 0 0],[]⟩ 8 (by kernel_rfl) (by kernel_rfl) (by kernel_rfl) (by kernel_rfl)) ?_
 intro W base args ds gs before hval hW _ _
 exact Ub LQ Tryz.func3 (by kernel_rfl) (by kernel_rfl) [Bt,Bt] Tryz.laidOut (by kernel_rfl) (by kernel_rfl) rfl rfl (by kernel_rfl) law rfl
  (fun l hl=>by
   match l,hl with
   | [_,_],_=>rfl) hval hW ga
theorem holds:Rows.FnTopSaid :=
 OpenClaim.holds_of_wide 3 Tryz.f3 rfl rfl rfl rfl rfl rfl rfl ⟨rfl,rfl,rfl,rfl,rfl⟩ rfl rfl rfl rfl rfl (by kernel_rfl) Tryz.func3 (by kernel_rfl)
  (of_decide_eq_true (by kernel_rfl)) (by unfold Func.isWrapper;first | (rw [if_pos (by decide +kernel)];kernel_rfl) | (rw [if_neg (by decide +kernel)];exact⟨rfl,rfl⟩))
  (fun os started H enc _=>Ya os started H enc)
end Go.Proofs.YtccaheogjpfhjaaGreat

