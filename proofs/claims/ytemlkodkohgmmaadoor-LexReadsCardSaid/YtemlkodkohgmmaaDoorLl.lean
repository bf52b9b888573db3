/- The reference of layer 37: Read. -/
import Derived.Test.YtemlkodkohgmmaaDoorLk
namespace Go.Proofs.YtemlkodkohgmmaaDoor
open Go Y
set_option maxRecDepth 100000
set_option maxHeartbeats 4000000

theorem skipN_le : ∀ (f : Nat) (r : List UInt8) (n : Nat), (skipN f r = .inl n ∨ skipN f r = .inr n) → n ≤ r.length
  | 0, r, n, h => by simp [skipN] at h; omega
  | f + 1, [], n, h => by simp [skipN] at h; omega
  | f + 1, c :: r, n, h => by
    have sh : ∀ (m : Nat) (x : Nat ⊕ Nat), (shift m x = .inl n ∨ shift m x = .inr n) → ∃ n', (x = .inl n' ∨ x = .inr n') ∧ n = n' + m := by
      intro m x h
      cases x with
      | inl y => simp [shift] at h; exact ⟨y, .inl rfl, h.symm⟩
      | inr y => simp [shift] at h; exact ⟨y, .inr rfl, h.symm⟩
    rw [skipN] at h
    split at h
    · obtain ⟨n', h', rfl⟩ := sh _ _ h
      have := skipN_le f _ _ h'
      simp at *
      omega
    · split at h
      · obtain ⟨n', h', rfl⟩ := sh _ _ h
        have := skipN_le f _ _ h'
        have h2 := spanN_le notNl (c :: r)
        rw [List.length_drop] at this
        omega
      · split at h
        · split at h
          · simp at h
            omega
          · rename_i hcl
            obtain ⟨n', h', rfl⟩ := sh _ _ h
            have h1 := closeN_le _ _ _ _ hcl
            have := skipN_le f _ _ h'
            rename_i hp _ _
            rw [List.isPrefixOf_iff_prefix] at hp
            have h3 := hp.length_le
            rw [List.length_drop] at this h1
            simp only [List.length_cons, List.length_nil] at *
            omega
        · simp at h
          omega

theorem rRead_c (s : List UInt8) : Pure cx 11 [.str s] (· = .ret (readV s)) := by
  refine pure_of_vc Tryd.func11 rfl rfl rfl ?_
  refine And.intro (fun h1 => ?_) (fun h1 => ?_)
  · have h1 : (8000 : Int) < s.length := h1
    have e : readV s = [.lsts 4 [], i64 0, i64 0, i64 3] := by rw [readV, if_pos (by omega)]
    exact end4 (.lsts 4 []) (i64 0) (i64 0) (i64 3) rfl (.inr (.inr ⟨4, rfl⟩)) rfl rfl rfl (congrArg PEnd.ret e.symm)
  · have hs : s.length ≤ 8000 := by have h1 : ¬ (8000 : Int) < s.length := h1; omega
    have hno : ¬ 8000 < s.length := by omega
    refine ⟨Nat × Nat × List Wd, fun x => [(0, vS s), (6, .sl 0 4 0 x.2.2.length), (7, .p (i64 x.1))], fun x => ⟨1, [(0, rdA x.2.2)]⟩,
      fun x => x.1 ≤ s.length ∧ s.length - x.1 ≤ x.2.1 ∧ x.2.2.length ≤ 1500 ∧ readR s = readN (x.2.1 + 1) s x.1 x.2.2, fun x => s.length - x.1, ?_, ?_⟩
    · refine ⟨(0, s.length, []), ⟨by simp, by simp, by simp, rfl⟩, ?_⟩
      exact ent_of [] [] [(0, 4)] rfl (by (repeat' first | exact trivial | exact rfl | exact ⟨rfl, rfl⟩ | exact .inl rfl | refine ⟨_, rfl, rfl, rfl, ?_⟩ | refine ⟨_, _, rfl, ?_, ?_⟩ | refine ⟨_, rfl, ?_⟩ | refine And.intro ?_ ?_)) (by (repeat' first | exact trivial | exact rfl | exact ⟨rfl, rfl⟩ | exact .inl rfl | refine ⟨_, rfl, rfl, rfl, ?_⟩ | refine ⟨_, _, rfl, ?_, ?_⟩ | refine ⟨_, rfl, ?_⟩ | refine And.intro ?_ ?_)) rfl
    · rintro ⟨k, f, acc⟩ ⟨g1, g2, g3, g4⟩
      simp only [] at g1 g2 g3 g4
      have hS := rSkip_c s hs k s.length g1 (by omega)
      rw [readN] at g4
      refine Or.elim (sumC (skipN s.length (s.drop k))) (fun hn => Exists.elim hn fun n hsk => ?_) (fun hn => Exists.elim hn fun n hsk => ?_)
      · have hle := skipN_le _ _ _ (.inl hsk)
        rw [List.length_drop] at hle
        rw [hsk] at hS
        simp only [hsk] at g4
        refine hS.eq rfl ?_
        refine (rPlace_c s hs (k + n) (by omega)).eq rfl ?_
        have hat := at_le s (k + n)
        refine And.intro (fun h2 => ?_) (fun h2 => ?_)
        · have h2 : ((k + n : Nat) : Int) = ((s.length : Nat) : Int) := h2
          have e : readV s = [.lsts 4 (acc.map Wd.cells), i64 0, i64 0, i64 0] := by rw [readV, if_neg hno, g4, readB, if_pos (by omega)]
          refine end4 (.lsts 4 (acc.map Wd.cells)) (i64 0) (i64 0) (i64 0) rfl ?_ rfl rfl rfl (congrArg PEnd.ret e.symm)
          exact ⟨_, rfl, by simp, by rw [List.drop_zero, List.take_of_length_le (by simp)]⟩
        · have h2 : ¬ ((k + n : Nat) : Int) = ((s.length : Nat) : Int) := h2
          have hlt : k + n < s.length := by omega
          have hne : s.drop (k + n) ≠ [] := by intro e; have := congrArg List.length e; rw [List.length_drop] at this; simp only [List.length_nil] at this; omega
          have hpos := one_pos hne
          have htl : (oneN (s.drop (k + n))).2.length ≤ s.length - (k + n) := by
            have := spanN_le isAln (s.drop (k + n))
            have h4 : (s.drop (k + n)).length = s.length - (k + n) := List.length_drop
            unfold oneN
            split
            · split
              · simp; omega
              · split <;> simp <;> omega
            · split <;> simp <;> omega
          rw [readB, if_neg (by omega)] at g4
          refine (rOne_c s hs (k + n) hlt).eq rfl ?_
          have hR := rRight_c (oneN (s.drop (k + n))).1 (oneN (s.drop (k + n))).2 (by omega)
          by_cases hr : rightN (oneN (s.drop (k + n))).1 (oneN (s.drop (k + n))).2 = true
          · rw [hr] at hR
            refine hR.eq rfl ?_
            simp only [hr] at g4
            refine And.intro (fun h3 => ?_) (fun h3 => ?_)
            · have h3 : ((acc.length : Nat) : Int) = 1500 := h3
              rw [if_pos (by omega)] at g4
              have e : readV s = [.lsts 4 [], i64 (at_ s (k + n)).1, i64 (at_ s (k + n)).2, i64 3] := by rw [readV, if_neg hno, g4]
              exact end4 (.lsts 4 []) (i64 (at_ s (k + n)).1) (i64 (at_ s (k + n)).2) (i64 3) rfl (.inr (.inr ⟨4, rfl⟩)) rfl rfl rfl (congrArg PEnd.ret e.symm)
            · have h3 : ¬ ((acc.length : Nat) : Int) = 1500 := h3
              rw [if_neg (by omega)] at g4
              refine ⟨by show 0 + 1 ≤ 1; omega, [Wd.cells ⟨(oneN (s.drop (k + n))).1, (oneN (s.drop (k + n))).2, (at_ s (k + n)).1, (at_ s (k + n)).2⟩], rfl, ?_⟩
              refine ⟨by show 0 + acc.length ≤ (acc.map Wd.cells).length; simp, acc.map Wd.cells, ?_, ?_⟩
              · show acc.map Wd.cells = ((acc.map Wd.cells).drop 0).take acc.length
                rw [List.drop_zero, List.take_of_length_le (by simp)]
              refine ⟨by show (acc.length + 1) * 40 ≤ 140737488355328; omega, (acc ++ [(⟨(oneN (s.drop (k + n))).1, (oneN (s.drop (k + n))).2, (at_ s (k + n)).1, (at_ s (k + n)).2⟩ : Wd)]).map Wd.cells, by simp, ?_⟩
              refine ⟨((k + n + (oneN (s.drop (k + n))).2.length : Nat) : Int), by rw [show ((k + n + (oneN (s.drop (k + n))).2.length : Nat) : Int) = ((k + n : Nat) : Int) + ((oneN (s.drop (k + n))).2.length : Nat) by omega]; exact wrap_i64 (by omega) (by omega), ?_⟩
              obtain ⟨f', rfl⟩ : ∃ n, f = n + 1 := ⟨f - 1, by omega⟩
              refine ⟨(k + n + (oneN (s.drop (k + n))).2.length, f', acc ++ [⟨(oneN (s.drop (k + n))).1, (oneN (s.drop (k + n))).2, (at_ s (k + n)).1, (at_ s (k + n)).2⟩]), ⟨by simp only []; omega, by simp only []; omega, by simp; omega, g4⟩, ?_, by simp only []; omega⟩
              have hw0 : ∀ w : Wd, AV.sl 3 4 0 (acc.length + 1) = AV.sl 3 4 0 (acc ++ [w]).length := fun w => by rw [List.length_append]; rfl
              exact ent_of [] [(0, 3)] [] rfl ⟨rfl, hw0 _, rfl, trivial⟩ ⟨⟨_, rfl, rfl, rfl, rfl⟩, trivial⟩ rfl
          · rw [Bool.not_eq_true] at hr
            rw [hr] at hR
            refine hR.eq rfl ?_
            simp only [hr] at g4
            have e : readV s = [.lsts 4 [], i64 (at_ s (k + n)).1, i64 (at_ s (k + n)).2, i64 370] := by rw [readV, if_neg hno, g4]
            exact end4 (.lsts 4 []) (i64 (at_ s (k + n)).1) (i64 (at_ s (k + n)).2) (i64 370) rfl (.inr (.inr ⟨4, rfl⟩)) rfl rfl rfl (congrArg PEnd.ret e.symm)
      · have hle := skipN_le _ _ _ (.inr hsk)
        rw [List.length_drop] at hle
        rw [hsk] at hS
        simp only [hsk] at g4
        refine hS.eq rfl ?_
        refine (rPlace_c s hs (k + n) (by omega)).eq rfl ?_
        have e : readV s = [.lsts 4 [], i64 (at_ s (k + n)).1, i64 (at_ s (k + n)).2, i64 370] := by rw [readV, if_neg hno, g4]
        exact end4 (.lsts 4 []) (i64 (at_ s (k + n)).1) (i64 (at_ s (k + n)).2) (i64 370) rfl (.inr (.inr ⟨4, rfl⟩)) rfl rfl rfl (congrArg PEnd.ret e.symm)
end Go.Proofs.YtemlkodkohgmmaaDoor
