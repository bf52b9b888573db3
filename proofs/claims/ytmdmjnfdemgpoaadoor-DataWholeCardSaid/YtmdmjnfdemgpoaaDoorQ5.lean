/- DataWhole: the row and the card. All parts of a split together have each case once; the counts of a part and of its rest add up to those of the data; for all drafts, numbers and sets. Conditions: those of the card. -/
import Derived.Test.YtmdmjnfdemgpoaaDoorRows
import Derived.Test.YtmdmjnfdemgpoaaDoorCards
import Derived.Test.YtmdmjnfdemgpoaaDoorTie
import Derived.SevenTiedAt
import Derived.Test.YtmdmjnfdemgpoaaDoorQ4
/- DataWhole: the row and the card. All parts of a split together have each case once; the counts of a part and of its rest add up to those of the data; for all drafts, numbers and sets. Conditions: those of the card. -/
namespace Go.Proofs.YtmdmjnfdemgpoaaDoor
open Go Y
set_option maxRecDepth 100000

theorem dataWhole_pure : ∀ xs, ArgsT Tryd.prog 5 Tryd.f9.params.toList xs → Pure cx 9 xs (· = .ret [.bool true]) := by
  intro xs h
  rw [Tryd.params9] at h
  obtain ⟨x0, _, rfl, h0, x1, _, rfl, h1, x2, _, rfl, h2, rfl⟩ := h
  obtain ⟨v0, rfl, g0⟩ := arg_draft h0
  obtain ⟨v1, e1⟩ := ty_u8 (arg_plain (by simp [partsOf, Tryd.underlying5]) h1)
  injection e1 with e1
  subst e1
  obtain ⟨v2, e2⟩ := ty_u8 (arg_plain (by simp [partsOf, Tryd.underlying5]) h2)
  injection e2 with e2
  subst e2
  exact dataWhole_c v0 v1 v2 g0
theorem dataWhole_lifted (os : Os) (started : os.Started) (H : Type) (enc : TypeId × Value → H) :
    ReturnsInHanded {} Tryd.checked os 9 .any (fun w args => (Rows.dataWholeSpec.pre enc Tryd.prog Tryd.f9 [] false w args ∧ laidMetH Tryd.prog laidD w) ∧ sizedMet enc Tryd.prog Tryd.f9 (OpenSpec.ofChange Rows.dataWholeSpec) false w args)
      (Rows.dataWholeSpec.post enc Tryd.prog Tryd.f9 false true false false) := by
  refine returnsInHanded_of_change_and (C := Tryd.checked) (X := fun w _ => laidMetH Tryd.prog laidD w) (fun _ _ _ hh h => h.of_heap hh) own started (by kernel_rfl) Tryd.func9
    (ChangeSpec.witness_shaped (enc := enc) (C := Tryd.checked) (os := os) (X := fun w _ => laidMetH Tryd.prog laidD w) false (World.laidAll Tryd.prog os laidD) #[.agg #[.slice none 0 0, .slice none 0 0, .int .u8 0, .slice none 0 0], .int .u8 0, .int .u8 0] 8 (World.laidAll_os _ _ _) (World.shaped_of_ZipB (by kernel_rfl) (by kernel_rfl)) (by kernel_rfl) (by kernel_rfl) (by kernel_rfl) (door_metD os _)) ?_
  intro W base args ds gs before hval hW _ _ hL _
  obtain ⟨p, q, hA, hV, _⟩ := id hW
  have hs : Tryd.f9.params.toList.all (supp Tryd.prog 5) = true := by kernel_rfl
  obtain ⟨_, _, _, hlen⟩ := args_of hs (fun j t v ht hv => hval j t v (by simpa using ht) (by simpa using hv)) hA
  refine (calls_of_pure (cx := cx) Tryd.func9 (by kernel_rfl) rfl hs dataWhole_pure hval hA (glob_okD hL)).mono fun e W' ⟨he, h1, h2, h3⟩ => ?_
  subst he
  exact ⟨_, rfl, post_of_kept (cx := cx) (m := 5) hs rfl (by kernel_rfl) Tryd.underlying4 (fun ds h => by
    rw [Tryd.params9] at h
    match ds, h with
    | [_, _, _], _ => rfl) hW hlen h1 h2 h3⟩

theorem dataWhole_holds : Rows.DataWholeSaid :=
  OpenClaim.holds_of_wide 9 Tryd.f9 rfl rfl rfl rfl rfl rfl rfl ⟨rfl, rfl, rfl, rfl, rfl⟩ rfl rfl rfl rfl rfl (by kernel_rfl) Tryd.func9 (by kernel_rfl)
    (of_decide_eq_true (by kernel_rfl)) (by unfold Func.isWrapper; first | (rw [if_pos (by decide +kernel)]; kernel_rfl) | (rw [if_neg (by decide +kernel)]; exact ⟨rfl, rfl⟩))
    (fun os started H enc _ => dataWhole_lifted os started H enc)

theorem dataWhole_card : Rows.DataWholeCardSaid :=
  Claim7.holds_tied_plain_at .later [] [.data, .data, .data, .data, .pinned] true (true, "759f20c24ed3b5ae13ada788480a642b750e1419b81eda2f2900b3f48897198e") false
    dataWhole_holds (fun _ h => by cases h) (by kernel_rfl) (fun _ h => by cases h) dataWhole_row_tie rfl ⟨rfl, rfl⟩ (by kernel_rfl) rfl
    (fun f fn hf hfn => by
      obtain rfl : f = 9 := Option.some.inj ((show Tryd.prog.funcNamed "haruspex/haruspexlaw25.DataWhole" = some 9 by kernel_rfl).symm.trans hf) |>.symm
      obtain rfl : fn = Tryd.f9 := (Option.some.inj (Tryd.func9.symm.trans hfn)).symm
      exact ⟨by kernel_rfl, fun j t ht => by
        have hall : (Tryd.f9.params.toList.all fun u => !Tryd.prog.wantsStandIn u) = true := by kernel_rfl
        exact (show Tryd.prog.wantsStandIn t = false by simpa using List.all_eq_true.1 hall t (by simpa using Array.mem_of_getElem? ht))⟩)
    (by kernel_rfl)
#print axioms dataWhole_card
end Go.Proofs.YtmdmjnfdemgpoaaDoor
