/- The listed tables, as the rows of lex ask. -/
import Derived.Test.YtemlkodkohgmmaaDoorLa
import Derived.Test.YtemlkodkohgmmaaDoorZb
import Derived.Test.YtemlkodkohgmmaaDoorRows
namespace Go.Proofs.YtemlkodkohgmmaaDoor
open Go Y
set_option maxRecDepth 100000

theorem own : ownKnob Tryd.prog.godebug = none := by kernel_rfl
abbrev laidL : List (String × DataW Unit) := [("haruspex/lex.keys", Rows.laid_haruspex_lex_keys), ("haruspex/lex.marks", Rows.laid_haruspex_lex_marks)]
theorem door_met (os : Os) (args : Array Value) : laidMetH Tryd.prog laidL ((World.doorLaid Tryd.prog 400 os).forCall (fun _ _ => 0) ⟨#[], args, []⟩).memory :=
  laidMetH_of_parts3 (fuel := 8) (laidMet_of_run' 8 (by kernel_rfl) (by kernel_rfl)) (by kernel_rfl) (by kernel_rfl)
theorem gt_ok : gtOK Tryd.prog 4 cx.gt laidL :=
  ⟨by kernel_rfl, ⟨84, by kernel_rfl, by kernel_rfl⟩, rfl, by kernel_rfl, ⟨85, by kernel_rfl, by kernel_rfl⟩, rfl, trivial⟩
theorem glob_ok {W : World} (h : laidMetH Tryd.prog laidL W) : ∀ g cs, gget cx.gt g = some cs → VP (fzOf W) (.fp cs) (.pointer (some ⟨g, 0, none⟩)) := by
  rw [MakeChecks.laidMetH_plain _ _ _ (by kernel_rfl)] at h
  obtain ⟨ps, h, _⟩ := h
  exact glob_of_laid gt_ok h

end Go.Proofs.YtemlkodkohgmmaaDoor
