/- The reference of layer 37: comments, blanks, words. -/
import Derived.Test.YtemlkodkohgmmaaDoorLi
namespace Go.Proofs.YtemlkodkohgmmaaDoor
open Go Y
set_option maxRecDepth 100000
set_option maxHeartbeats 4000000

def closedV (k : Nat) : Option Nat → Int
  | some n => ((k + 2 + n : Nat) : Int)
  | none => -1

theorem rClosed_c (s : List UInt8) (hs : s.length ≤ 8000) (k f : Nat) (hk2 : k + 2 ≤ s.length) (hf : s.length - (k + 2) ≤ f) :
    Pure cx 56 [.str s, i64 k] (fun r => r = .ret [i64 (closedV k (closeN f 1 (s.drop (k + 2))))] ∧ ∀ n, closeN f 1 (s.drop (k + 2)) = some n → k + 2 + n ≤ s.length) := by
  refine pure_of_vc Tryd.func56 rfl rfl rfl ?_
  refine ⟨(k : Int) + 2, wrap_i64 (by omega) (by omega), ?_⟩
  refine ⟨Nat × Nat × Nat, fun x => [(0, vS s), (5, .p (i64 x.2.1)), (6, .p (i64 x.1))], fun _ => ⟨0, []⟩,
    fun x => x.1 ≤ s.length ∧ k + 2 ≤ x.1 ∧ x.2.1 ≤ x.1 ∧ ((x.2.1 = 0 ∧ closeN f 1 (s.drop (k + 2)) = some (x.1 - (k + 2))) ∨ (1 ≤ x.2.1 ∧ s.length - x.1 ≤ x.2.2 ∧ closeN f 1 (s.drop (k + 2)) = (closeN x.2.2 x.2.1 (s.drop x.1)).map (· + (x.1 - (k + 2))))), fun x => 2 * (s.length - x.1) + (if x.2.1 = 0 then 0 else 1), ?_, ?_⟩
  · exact ⟨(k + 2, 1, f), ⟨hk2, by simp, by simp, .inr ⟨by simp, hf, by simp⟩⟩, ent0 rfl ⟨rfl, rfl, rfl, trivial⟩ trivial rfl⟩
  · rintro ⟨i, d, f'⟩ ⟨g1, g2, g3, hx⟩
    simp only [] at g1 g2 g3 hx
    refine And.intro (fun h0 => ?_) (fun h0 => ?_)
    · have h0 : (0 : Int) < (d : Int) := h0
      obtain ⟨q1, q2, hc⟩ := hx.resolve_left (by omega)
      refine And.intro (fun h1 => ?_) (fun h1 => ?_)
      · have h1 : ((s.length : Nat) : Int) ≤ (i : Int) := h1
        have hn : closeN f 1 (s.drop (k + 2)) = none := by
          rw [hc, show i = s.length by omega, List.drop_length]
          cases f' <;> rfl
        rw [hn]
        exact end1 _ rfl rfl ⟨rfl, by intro n h; cases h⟩
      · have h1 : ¬ ((s.length : Nat) : Int) ≤ (i : Int) := h1
        have hlt : i < s.length := by omega
        obtain ⟨c, r, hr⟩ : ∃ c r, s.drop i = c :: r := ⟨_, _, List.drop_eq_getElem_cons hlt⟩
        obtain ⟨f'', rfl⟩ : ∃ n, f' = n + 1 := ⟨f' - 1, by omega⟩
        have hT := rTwo_c s hs i g1 40 42
        by_cases hb : List.isPrefixOf [40, 42] (s.drop i) = true
        · rw [hb] at hT
          refine hT.eq rfl ?_
          have hk3 : i + 2 ≤ s.length := (isPre_drop hb).resolve_right (by simp)
          refine ⟨(d : Int) + 1, wrap_i64 (by omega) (by omega), ?_⟩
          refine ⟨(i : Int) + 2, wrap_i64 (by omega) (by omega), ?_⟩
          refine ⟨(i + 2, d + 1, f''), ⟨hk3, by simp only []; omega, by simp only []; omega, .inr ⟨by simp, by simp only []; omega, ?_⟩⟩, ent0 rfl ⟨rfl, rfl, rfl, trivial⟩ trivial rfl, ?_⟩
          · rw [hc, hr, closeN, ← hr, if_pos hb, List.drop_drop, Option.map_map]
            congr 1
            funext n
            simp only [Function.comp]
            omega
          · simp only []
            split <;> split <;> omega
        · rw [Bool.not_eq_true] at hb
          rw [hb] at hT
          refine hT.eq rfl ?_
          have hT2 := rTwo_c s hs i g1 42 41
          by_cases hb2 : List.isPrefixOf [42, 41] (s.drop i) = true
          · rw [hb2] at hT2
            refine hT2.eq rfl ?_
            have hk3 : i + 2 ≤ s.length := (isPre_drop hb2).resolve_right (by simp)
            refine ⟨((d - 1 : Nat) : Int), by rw [show ((d - 1 : Nat) : Int) = (d : Int) - 1 by omega]; exact wrap_i64 (by omega) (by omega), ?_⟩
            refine ⟨(i : Int) + 2, wrap_i64 (by omega) (by omega), ?_⟩
            refine ⟨(i + 2, d - 1, f''), ⟨hk3, by simp only []; omega, by simp only []; omega, ?_⟩, ent0 rfl ⟨rfl, rfl, rfl, trivial⟩ trivial rfl, ?_⟩
            · simp only []
              by_cases hd : d = 1
              · refine .inl ⟨by omega, ?_⟩
                rw [hc, hr, closeN, ← hr, if_neg (by rw [hb]; simp), if_pos hb2, if_pos hd]
                simp only [Option.map_some]
                congr 1
                omega
              · refine .inr ⟨by omega, by omega, ?_⟩
                rw [hc, hr, closeN, ← hr, if_neg (by rw [hb]; simp), if_pos hb2, if_neg hd, List.drop_drop, Option.map_map]
                congr 1
                funext n
                simp only [Function.comp]
                omega
            · simp only []
              split <;> split <;> omega
          · rw [Bool.not_eq_true] at hb2
            rw [hb2] at hT2
            refine hT2.eq rfl ?_
            refine ⟨(i : Int) + 1, wrap_i64 (by omega) (by omega), ?_⟩
            refine ⟨(i + 1, d, f''), ⟨by simp only []; omega, by simp only []; omega, by simp only []; omega, .inr ⟨by simp only []; omega, by simp only []; omega, ?_⟩⟩, ent0 rfl ⟨rfl, rfl, rfl, trivial⟩ trivial rfl, ?_⟩
            · rw [hc, hr, closeN, ← hr, if_neg (by rw [hb]; simp), if_neg (by rw [hb2]; simp), List.drop_drop, Option.map_map]
              congr 1
              funext n
              simp only [Function.comp]
              omega
            · simp only []
              split <;> omega
    · have h0 : ¬ (0 : Int) < (d : Int) := h0
      rcases hx with ⟨-, hx⟩ | ⟨q1, -⟩
      · rw [hx]
        refine end1 (i64 i) rfl rfl ⟨?_, by intro n h; injection h with h; omega⟩
        show PEnd.ret [i64 i] = .ret [i64 ((k + 2 + (i - (k + 2)) : Nat) : Int)]
        rw [show k + 2 + (i - (k + 2)) = i by omega]
      · omega
end Go.Proofs.YtemlkodkohgmmaaDoor
