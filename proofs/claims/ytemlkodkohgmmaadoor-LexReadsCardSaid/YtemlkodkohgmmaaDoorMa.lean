/- LexReads: the row and the card. For all texts, lists of characters and numbers of repetitions the program's Read answers as the reference's does. Conditions: those of the card. -/
import Derived.Test.YtemlkodkohgmmaaDoorLu
import Derived.Test.YtemlkodkohgmmaaDoorMz
import Derived.Test.YtemlkodkohgmmaaDoorRows
import Derived.Test.YtemlkodkohgmmaaDoorCards
import Derived.Test.YtemlkodkohgmmaaDoorTie
import Derived.SevenTiedAt
namespace Go.Proofs.YtemlkodkohgmmaaDoor
open Go Y
set_option maxRecDepth 100000

theorem lexReads_pure : ∀ xs, ArgsT Tryd.prog 4 Tryd.f3.params.toList xs → Pure cx 3 xs (· = .ret [.bool true]) := by
  intro xs h
  rw [Tryd.params3] at h
  obtain ⟨x, _, rfl, h1, y, _, rfl, h2, z, _, rfl, h3, rfl⟩ := h
  obtain ⟨s, h1⟩ := ty_str (arg_plain (by simp [partsOf, Tryd.underlying9]) h1)
  obtain ⟨l, h2⟩ := ty_bytes (arg_plain (by simp [partsOf, Tryd.underlying22]) h2)
  obtain ⟨b, h3⟩ := ty_u8 (arg_plain (by simp [partsOf, Tryd.underlying5]) h3)
  injection h1 with h1
  injection h2 with h2
  injection h3 with h3
  subst h1 h2 h3
  exact lexReads_c s l b

theorem lexReads_lifted (os : Os) (started : os.Started) (H : Type) (enc : TypeId × Value → H) :
    ReturnsInHanded {} Tryd.checked os 3 .any (fun w args => (Rows.lexReadsSpec.pre enc Tryd.prog Tryd.f3 [] false w args ∧ laidMetH Tryd.prog laidL w) ∧ sizedMet enc Tryd.prog Tryd.f3 (OpenSpec.ofChange Rows.lexReadsSpec) false w args)
      (Rows.lexReadsSpec.post enc Tryd.prog Tryd.f3 false true false false) := by
  refine returnsInHanded_of_change_and (C := Tryd.checked) (X := fun w _ => laidMetH Tryd.prog laidL w) (fun _ _ _ hh h => h.of_heap hh) own started (by kernel_rfl) Tryd.func3
    (ChangeSpec.witness_shaped (enc := enc) (C := Tryd.checked) (os := os) (X := fun w _ => laidMetH Tryd.prog laidL w) false (World.doorLaid Tryd.prog 400 os) #[.string ⟨#[]⟩, .slice none 0 0, .int .u8 0] 8 rfl (World.shaped_of_RefB (by kernel_rfl) (by kernel_rfl)) (by kernel_rfl) (by kernel_rfl) (by kernel_rfl) (door_met os _)) ?_
  intro W base args ds gs before hval hW _ _ hL _
  obtain ⟨p, q, hA, hV, _⟩ := id hW
  have hs : Tryd.f3.params.toList.all (supp Tryd.prog 4) = true := by kernel_rfl
  obtain ⟨_, _, _, hlen⟩ := args_of hs (fun j t v ht hv => hval j t v (by simpa using ht) (by simpa using hv)) hA
  refine (calls_of_pure (cx := cx) Tryd.func3 (by kernel_rfl) rfl hs lexReads_pure hval hA (glob_ok hL)).mono fun e W' ⟨he, h1, h2, h3⟩ => ?_
  subst he
  exact ⟨_, rfl, post_of_kept (cx := cx) (m := 4) hs rfl (by kernel_rfl) Tryd.underlying4 (fun ds h => by
    rw [Tryd.params3] at h
    match ds, h with
    | [_, _, _], _ => rfl) hW hlen h1 h2 h3⟩

theorem lexReads_holds : Rows.LexReadsSaid :=
  OpenClaim.holds_of_wide 3 Tryd.f3 rfl rfl rfl rfl rfl rfl rfl ⟨rfl, rfl, rfl, rfl, rfl⟩ rfl rfl rfl rfl rfl (by kernel_rfl) Tryd.func3 (by kernel_rfl)
    (of_decide_eq_true (by kernel_rfl)) (by unfold Func.isWrapper; first | (rw [if_pos (by decide +kernel)]; kernel_rfl) | (rw [if_neg (by decide +kernel)]; exact ⟨rfl, rfl⟩))
    (fun os started H enc _ => lexReads_lifted os started H enc)

theorem lexReads_card : Rows.LexReadsCardSaid :=
  Claim7.holds_tied_plain_at .later [] [.data, .data] true (true, "c656817046542e22bb9fa6a79d1bf532833238fdf87142bdfc12bf5bc8548784") true
    lexReads_holds (fun _ h => by cases h) (by kernel_rfl) (fun _ h => by cases h) lexReads_row_tie rfl ⟨rfl, rfl⟩ (by kernel_rfl) rfl
    (fun f fn hf hfn => by
      obtain rfl : f = 3 := Option.some.inj ((show Tryd.prog.funcNamed "haruspex/haruspexlaw37.LexReads" = some 3 by kernel_rfl).symm.trans hf) |>.symm
      obtain rfl : fn = Tryd.f3 := (Option.some.inj (Tryd.func3.symm.trans hfn)).symm
      exact ⟨by kernel_rfl, fun j t ht => by
        have hall : (Tryd.f3.params.toList.all fun u => !Tryd.prog.wantsStandIn u) = true := by kernel_rfl
        exact (show Tryd.prog.wantsStandIn t = false by simpa using List.all_eq_true.1 hall t (by simpa using Array.mem_of_getElem? ht))⟩)
    (by kernel_rfl)
#print axioms lexReads_card
end Go.Proofs.YtemlkodkohgmmaaDoor
