/-
  Contexts and contracts of functions, printed by gen.py.
-/
import Derived.Test.YtfjkapnonljdeaaDoorHJ
namespace Go.Proofs.YtfjkapnonljdeaaDoor
open Go.V
set_option maxRecDepth 100000
@[reducible] def ty31 : TI := { n := 1, zero := [.arr 3 []], elem := 62, ez := 3, eb := 24 }
@[reducible] def ty62 : TI := { agg := true, n := 3, zero := [.v (.int .i64 0), .v (.int .i64 0), .v (.int .i64 0)], fs := [(0, 3), (1, 3), (2, 3)], eq := [1, 1, 1] }
/-- loop.example/g01054/laws.szNoteS -/
@[reducible] noncomputable def c_laws_szNoteS : Cx := { K := [.dat 2, .dat 0, .no, .no, .dat 0, .dat 0, .dat 2, .dat 0, .dat 0, .dat 0, .dat 0, .dat 0], T := [(3, ty3), (31, ty31), (62, ty62)], S := [], H := [], res := [.tmp 4], ios := [], G := gl0 }
noncomputable def F_laws_szNoteS : List D → Option Out := denF c_laws_szNoteS Tryd.f18
@[reducible] noncomputable def S_laws_szNoteS : FS := { pm := [.dat 2, .dat 0], rm := [.dat 0], f := F_laws_szNoteS }
theorem M_laws_szNoteS : Meets gl0 Tryd.prog 18 S_laws_szNoteS := meets_of (P := Tryd.prog) (c := c_laws_szNoteS) (fn := Tryd.f18) (pm := S_laws_szNoteS.pm) (rm := S_laws_szNoteS.rm) (by kernel_rfl) lookNil follows_mixed Tryd.func18 (by kernel_rfl) (by kernel_rfl) rfl
/-- loop.example/g01054/laws.toNote -/
@[reducible] noncomputable def c_laws_toNote : Cx := { K := [.dat 0, .box 3 0 false, .box 3 0 false, .box 3 0 false, .ref 1, .dat 0, .ref 3, .ref 1, .dat 0, .ref 3, .ref 1, .dat 0, .ref 3, .dat 0], T := [(3, ty3), (62, ty62), (64, ty64)], S := [], H := [], res := [.cell 2 64], ios := [], G := gl0 }
noncomputable def F_laws_toNote : List D → Option Out := denF c_laws_toNote Tryd.f40
@[reducible] noncomputable def S_laws_toNote : FS := { pm := [.dat 0], rm := [.dat 0], f := F_laws_toNote }
theorem M_laws_toNote : Meets gl0 Tryd.prog 40 S_laws_toNote := meets_of (P := Tryd.prog) (c := c_laws_toNote) (fn := Tryd.f40) (pm := S_laws_toNote.pm) (rm := S_laws_toNote.rm) (by kernel_rfl) lookNil follows_mixed Tryd.func40 (by kernel_rfl) (by kernel_rfl) rfl
/-- loop.example/g01054/laws.toNoteS -/
@[reducible] noncomputable def c_laws_toNoteS : Cx := { K := [.dat 2, .no, .own 3 0 false, .own 3 0 false, .dat 0, .dat 2, .dat 0, .own 3 0 false, .dat 0, .dat 2, .dat 0, .dat 0, .dat 0, .dat 0, .via 3, .dat 0, .dat 2, .dat 0, .dat 2, .dat 0, .dat 0, .ref 3, .own 3 0 false], T := [(3, ty3), (31, ty31), (34, ty34), (62, ty62), (64, ty64)], S := [(40, S_laws_toNote)], H := [(0, ([0, 3, 4], [3]))], res := [.tmp 2], ios := [], G := gl0 }
noncomputable def F_laws_toNoteS : List D → Option Out := denF c_laws_toNoteS Tryd.f20
@[reducible] noncomputable def S_laws_toNoteS : FS := { pm := [.dat 2], rm := [.own 3 0 false], f := F_laws_toNoteS }
theorem M_laws_toNoteS : Meets gl0 Tryd.prog 20 S_laws_toNoteS := meets_of (P := Tryd.prog) (c := c_laws_toNoteS) (fn := Tryd.f20) (pm := S_laws_toNoteS.pm) (rm := S_laws_toNoteS.rm) (by kernel_rfl) (lookCons M_laws_toNote lookNil) follows_mixed Tryd.func20 (by kernel_rfl) (by kernel_rfl) rfl
/-- loop.example/g01054/spec.joText -/
@[reducible] noncomputable def c_spec_joText : Cx := { K := [.dat 2, .no, .dat 0, .dat 0, .dat 0, .no, .box 3 0 false, .dat 2, .dat 0, .dat 0, .dat 0, .dat 2, .dat 0, .dat 0, .dat 0, .dat 0, .dat 0, .dat 0, .dat 0, .dat 0, .dat 0, .dat 0, .dat 0], T := [(3, ty3), (9, ty9), (34, ty34), (64, ty64)], S := [(80, S_spec_joCheck), (81, S_spec_joLine)], H := [(0, ([3, 4, 7, 8, 9], [3]))], res := [.tmp 2], ios := [], G := gl0 }
noncomputable def F_spec_joText : List D → Option Out := denF c_spec_joText Tryd.f52
@[reducible] noncomputable def S_spec_joText : FS := { pm := [.dat 2], rm := [.dat 0], f := F_spec_joText }
theorem M_spec_joText : Meets gl0 Tryd.prog 52 S_spec_joText := meets_of (P := Tryd.prog) (c := c_spec_joText) (fn := Tryd.f52) (pm := S_spec_joText.pm) (rm := S_spec_joText.rm) (by kernel_rfl) (lookCons M_spec_joCheck (lookCons M_spec_joLine lookNil)) follows_mixed Tryd.func52 (by kernel_rfl) (by kernel_rfl) rfl
/-- loop.example/g01054/spec.joIf -/
@[reducible] noncomputable def c_spec_joIf : Cx := { K := [.dat 0, .no, .dat 0, .dat 0, .dat 0, .dat 0, .dat 0, .dat 0], T := [(3, ty3), (9, ty9)], S := [], H := [], res := [.tmp 2, .tmp 3], ios := [], G := gl0 }
noncomputable def F_spec_joIf : List D → Option Out := denF c_spec_joIf Tryd.f51
@[reducible] noncomputable def S_spec_joIf : FS := { pm := [.dat 0], rm := [.dat 0, .dat 0], f := F_spec_joIf }
theorem M_spec_joIf : Meets gl0 Tryd.prog 51 S_spec_joIf := meets_of (P := Tryd.prog) (c := c_spec_joIf) (fn := Tryd.f51) (pm := S_spec_joIf.pm) (rm := S_spec_joIf.rm) (by kernel_rfl) lookNil follows_mixed Tryd.func51 (by kernel_rfl) (by kernel_rfl) rfl
/-- loop.example/g01054/spec.JournalText -/
@[reducible] noncomputable def c_spec_JournalText : Cx := { K := [.dat 2, .no, .dat 0, .dat 0, .dat 2, .dat 0, .dat 0, .dat 2, .dat 0, .tup [.dat 0, .dat 0], .dat 0, .dat 0], T := [], S := [(50, S_spec_joGood), (51, S_spec_joIf), (52, S_spec_joText)], H := [], res := [.tmp 2, .tmp 3], ios := [], G := gl0 }
noncomputable def F_spec_JournalText : List D → Option Out := denF c_spec_JournalText Tryd.f19
@[reducible] noncomputable def S_spec_JournalText : FS := { pm := [.dat 2], rm := [.dat 0, .dat 0], f := F_spec_JournalText }
theorem M_spec_JournalText : Meets gl0 Tryd.prog 19 S_spec_JournalText := meets_of (P := Tryd.prog) (c := c_spec_JournalText) (fn := Tryd.f19) (pm := S_spec_JournalText.pm) (rm := S_spec_JournalText.rm) (by kernel_rfl) (lookCons M_spec_joGood (lookCons M_spec_joIf (lookCons M_spec_joText lookNil))) follows_mixed Tryd.func19 (by kernel_rfl) (by kernel_rfl) rfl
/-- loop.example/g01054/impl.JournalText -/
@[reducible] noncomputable def c_impl_JournalText : Cx := { K := [.dat 2, .no, .dat 0, .dat 0, .dat 2, .dat 0, .dat 0, .dat 0, .dat 2, .dat 0, .dat 0, .dat 0, .dat 0, .dat 2, .dat 0], T := [(3, ty3), (9, ty9)], S := [(53, S_impl_AreNotes), (54, S_impl_journalText)], H := [], res := [.tmp 2, .tmp 3], ios := [], G := gl1 }
noncomputable def F_impl_JournalText : List D → Option Out := denF c_impl_JournalText Tryd.f21
@[reducible] noncomputable def S_impl_JournalText : FS := { pm := [.dat 2], rm := [.dat 0, .dat 0], f := F_impl_JournalText }
theorem M_impl_JournalText : Meets gl1 Tryd.prog 21 S_impl_JournalText := meets_of (P := Tryd.prog) (c := c_impl_JournalText) (fn := Tryd.f21) (pm := S_impl_JournalText.pm) (rm := S_impl_JournalText.rm) (by kernel_rfl) (lookCons (meets_mono gl01 M_impl_AreNotes) (lookCons M_impl_journalText lookNil)) follows_mixed Tryd.func21 (by kernel_rfl) (by kernel_rfl) rfl
/-- loop.example/g01054/laws.FnExactJournalText -/
@[reducible] noncomputable def c_laws_FnExactJournalText : Cx := { K := [.dat 2, .no, .dat 0, .dat 0, .dat 0, .dat 0, .dat 1, .dat 0, .dat 0, .dat 2, .dat 0, .dat 0, .dat 0, .dat 0, .tup [.dat 0, .dat 0], .dat 2, .dat 1, .tup [.dat 0, .dat 0], .dat 0, .dat 0, .dat 2, .dat 1, .tup [.dat 0, .dat 0], .dat 1, .tup [.dat 0, .dat 0], .dat 0, .dat 0, .dat 0, .dat 0, .dat 0, .dat 0, .dat 0, .dat 0, .dat 0, .dat 0, .dat 1, .dat 2, .dat 1, .dat 0, .dat 0], T := [(3, ty3), (4, ty4), (9, ty9)], S := [(18, S_laws_szNoteS), (19, S_spec_JournalText), (20, S_laws_toNoteS), (21, S_impl_JournalText), (22, S_laws_eqNoteS)], H := [], res := [.tmp 2], ios := [], G := gl1 }
noncomputable def F_laws_FnExactJournalText : List D → Option Out := denF c_laws_FnExactJournalText Tryd.f5
@[reducible] noncomputable def S_laws_FnExactJournalText : FS := { pm := [.dat 2], rm := [.dat 0], f := F_laws_FnExactJournalText }
theorem M_laws_FnExactJournalText : Meets gl1 Tryd.prog 5 S_laws_FnExactJournalText := meets_of (P := Tryd.prog) (c := c_laws_FnExactJournalText) (fn := Tryd.f5) (pm := S_laws_FnExactJournalText.pm) (rm := S_laws_FnExactJournalText.rm) (by kernel_rfl) (lookCons (meets_mono gl01 M_laws_szNoteS) (lookCons (meets_mono gl01 M_spec_JournalText) (lookCons (meets_mono gl01 M_laws_toNoteS) (lookCons M_impl_JournalText (lookCons (meets_mono gl01 M_laws_eqNoteS) lookNil))))) follows_mixed Tryd.func5 (by kernel_rfl) (by kernel_rfl) rfl
/-- loop.example/g01054/spec.AppendNote -/
@[reducible] noncomputable def c_spec_AppendNote : Cx := { K := [.dat 0, .dat 0, .no, .box 3 0 false, .dat 0, .dat 0, .dat 1, .dat 0, .dat 1, .tup [.own 3 0 false, .dat 0], .dat 0, .tup [.own 3 0 false, .dat 0], .dat 1, .dat 0, .own 3 0 false, .dat 1, .own 3 0 false, .dat 0, .dat 1, .dat 1, .dat 0, .dat 0, .dat 0, .dat 1, .dat 0, .dat 0, .dat 0, .dat 1, .dat 0, .tup [.dat 0, .dat 0], .dat 0, .dat 0], T := [(3, ty3), (34, ty34), (64, ty64)], S := [(42, S_spec_ReadJournal), (50, S_spec_joGood), (51, S_spec_joIf), (52, S_spec_joText)], H := [], res := [.tmp 4, .tmp 5], ios := [], G := gl0 }
noncomputable def F_spec_AppendNote : List D → Option Out := denF c_spec_AppendNote Tryd.f39
@[reducible] noncomputable def S_spec_AppendNote : FS := { pm := [.dat 0, .dat 0], rm := [.dat 0, .dat 0], f := F_spec_AppendNote }
theorem M_spec_AppendNote : Meets gl0 Tryd.prog 39 S_spec_AppendNote := meets_of (P := Tryd.prog) (c := c_spec_AppendNote) (fn := Tryd.f39) (pm := S_spec_AppendNote.pm) (rm := S_spec_AppendNote.rm) (by kernel_rfl) (lookCons M_spec_ReadJournal (lookCons M_spec_joGood (lookCons M_spec_joIf (lookCons M_spec_joText lookNil)))) follows_mixed Tryd.func39 (by kernel_rfl) (by kernel_rfl) rfl
/-- loop.example/g01054/impl.AppendNote -/
@[reducible] noncomputable def c_impl_AppendNote : Cx := { K := [.dat 0, .dat 0, .no, .box 3 0 false, .dat 0, .dat 0, .own 3 0 false, .dat 0, .tup [.own 3 0 false, .dat 0], .dat 0, .tup [.own 3 0 false, .dat 0], .own 3 0 false, .dat 0, .dat 0, .dat 0, .dat 0, .dat 0, .dat 0, .dat 0, .dat 0, .own 3 0 false, .dat 0, .dat 1, .dat 1, .tup [.dat 0, .dat 0], .dat 0, .dat 0], T := [(3, ty3), (34, ty34), (64, ty64)], S := [(21, S_impl_JournalText), (70, S_impl_readJournal), (73, S_impl_isNote)], H := [], res := [.tmp 4, .tmp 5], ios := [], G := gl2 }
noncomputable def F_impl_AppendNote : List D → Option Out := denF c_impl_AppendNote Tryd.f41
@[reducible] noncomputable def S_impl_AppendNote : FS := { pm := [.dat 0, .dat 0], rm := [.dat 0, .dat 0], f := F_impl_AppendNote }
theorem M_impl_AppendNote : Meets gl2 Tryd.prog 41 S_impl_AppendNote := meets_of (P := Tryd.prog) (c := c_impl_AppendNote) (fn := Tryd.f41) (pm := S_impl_AppendNote.pm) (rm := S_impl_AppendNote.rm) (by kernel_rfl) (lookCons (meets_mono gl12 M_impl_JournalText) (lookCons M_impl_readJournal (lookCons (meets_mono gl02 M_impl_isNote) lookNil))) follows_mixed Tryd.func41 (by kernel_rfl) (by kernel_rfl) rfl
/-- loop.example/g01054/laws.FnExactAppendNote -/
@[reducible] noncomputable def c_laws_FnExactAppendNote : Cx := { K := [.dat 0, .dat 0, .no, .box 3 0 false, .dat 0, .dat 0, .dat 0, .dat 0, .dat 0, .dat 0, .dat 0, .dat 0, .tup [.dat 0, .dat 0], .dat 0, .dat 0, .dat 0, .tup [.dat 0, .dat 0], .dat 0, .dat 0, .tup [.dat 0, .dat 0], .dat 0, .dat 0, .dat 0, .tup [.dat 0, .dat 0], .dat 0, .dat 0, .dat 0, .dat 0, .dat 0, .dat 0, .dat 0, .dat 0, .dat 0, .dat 0], T := [(3, ty3), (4, ty4), (9, ty9), (62, ty62)], S := [(39, S_spec_AppendNote), (40, S_laws_toNote), (41, S_impl_AppendNote)], H := [], res := [.tmp 4], ios := [], G := gl2 }
noncomputable def F_laws_FnExactAppendNote : List D → Option Out := denF c_laws_FnExactAppendNote Tryd.f11
@[reducible] noncomputable def S_laws_FnExactAppendNote : FS := { pm := [.dat 0, .dat 0], rm := [.dat 0], f := F_laws_FnExactAppendNote }
theorem M_laws_FnExactAppendNote : Meets gl2 Tryd.prog 11 S_laws_FnExactAppendNote := meets_of (P := Tryd.prog) (c := c_laws_FnExactAppendNote) (fn := Tryd.f11) (pm := S_laws_FnExactAppendNote.pm) (rm := S_laws_FnExactAppendNote.rm) (by kernel_rfl) (lookCons (meets_mono gl02 M_spec_AppendNote) (lookCons (meets_mono gl02 M_laws_toNote) (lookCons M_impl_AppendNote lookNil))) follows_mixed Tryd.func11 (by kernel_rfl) (by kernel_rfl) rfl
end Go.Proofs.YtfjkapnonljdeaaDoor
