/-
  strings.FieldsFunc at 'c < '0' || c > '9''.
-/
import Derived.Test.YtfjkapnonljdeaaDoorT7
import Derived.Test.YtfjkapnonljdeaaDoorVz
namespace Go.Proofs.YtfjkapnonljdeaaDoor
open Go Go.V

theorem e_impl_numbersIn_1 (x : Int) : F_impl_numbersIn_1 [.v (.int .i32 x)] = some (.ret [B (decide (x < 48) || decide (57 < x))] []) := by
  rw [t_impl_numbersIn_1]
  by_cases h : x < 48 <;> simp [h]
/-- No digit. -/
def isSep (x : Nat) : Bool := decide (x < 48) || decide (57 < x)
@[reducible] def S_strings_FieldsFunc : FS := S_FieldsFunc 98 isSep
set_option maxRecDepth 100000 in
theorem M_strings_FieldsFunc : Meets gl0 Tryd.prog 97 S_strings_FieldsFunc :=
  M_FieldsFunc Tryd.lays229 (by kernel_rfl) (Go.Proofs.enters_of Tryd.func98 (by kernel_rfl) rfl) M_impl_numbersIn_1 rfl rfl
    (fun x _ => by
      show F_impl_numbersIn_1 _ = _
      rw [e_impl_numbersIn_1]
      have h1 : ((x : Int) < 48) ↔ x < 48 := by omega
      have h2 : ((57 : Int) < x) ↔ 57 < x := by omega
      simp only [isSep, h1, h2]) (by kernel_rfl) (by kernel_rfl)
end Go.Proofs.YtfjkapnonljdeaaDoor
