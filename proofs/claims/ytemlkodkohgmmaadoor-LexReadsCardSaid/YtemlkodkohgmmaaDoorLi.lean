/- The reference of layer 37: right words, two octets, comments, blanks. -/
import Derived.Test.YtemlkodkohgmmaaDoorLg
import Derived.Test.YtemlkodkohgmmaaDoorLh
namespace Go.Proofs.YtemlkodkohgmmaaDoor
open Go Y
set_option maxRecDepth 100000
set_option maxHeartbeats 4000000

theorem rName_c (t : List UInt8) (ht : t.length ≤ 100000) : Pure cx 60 [.str t] (· = .ret [.bool (nameN t)]) := by
  refine pure_of_vc Tryd.func60 rfl rfl rfl ?_
  have hR := rRun_c t ht
  by_cases hr : runN t = true
  · rw [hr] at hR
    refine hR.eq rfl ?_
    have hr2 := hr
    simp only [runN, Bool.and_eq_true, decide_eq_true_eq] at hr2
    obtain ⟨c, r, rfl⟩ : ∃ c r, t = c :: r := by cases t with | nil => exact (hr2.1 rfl).elim | cons c r => exact ⟨c, r, rfl⟩
    refine ⟨_, ⟨by omega, c, rfl, rfl⟩, ?_⟩
    have hL := rLetter_c c
    by_cases hl : isLet c = true
    · rw [hl] at hL
      refine hL.eq rfl ?_
      refine And.intro (fun h1 => ?_) (fun h1 => ?_)
      · have h1 : ((c :: r).length : Int) ≤ 10 := h1
        refine rKeys_c.eq rfl ?_
        refine (rIn_c keysL (by decide) (c :: r)).eq rfl ?_
        exact end1 _ rfl rfl (retB (by simp only [nameN, List.headD_cons, hl, decide_eq_true hr2.1, decide_eq_true hr2.2, decide_eq_true (show (c :: r).length ≤ 10 by omega), Bool.true_and]))
      · have h1 : ¬ ((c :: r).length : Int) ≤ 10 := h1
        exact end1 _ rfl rfl (retB (by simp only [nameN, decide_eq_false (show ¬ (c :: r).length ≤ 10 by omega), Bool.and_false, Bool.false_and]))
    · rw [Bool.not_eq_true] at hl
      rw [hl] at hL
      refine hL.eq rfl ?_
      exact end1 _ rfl rfl (retB (by simp only [nameN, List.headD_cons, hl, Bool.and_false, Bool.false_and]))
  · rw [Bool.not_eq_true] at hr
    rw [hr] at hR
    refine hR.eq rfl ?_
    refine end1 _ rfl rfl (retB ?_)
    simp only [runN, Bool.and_eq_false_iff, decide_eq_false_iff_not] at hr
    rcases hr with hr | hr
    · simp only [nameN, decide_eq_false hr, Bool.false_and]
    · simp only [nameN, decide_eq_false hr, Bool.and_false, Bool.false_and]

theorem rNumber_c (t : List UInt8) (ht : t.length ≤ 100000) : Pure cx 61 [.str t] (· = .ret [.bool (numN t)]) := by
  refine pure_of_vc Tryd.func61 rfl rfl rfl ?_
  refine ⟨Nat, fun k => [(3, .p (i64 k)), (0, vS t)], fun _ => ⟨0, []⟩, fun k => k ≤ t.length ∧ spanN isDig t = k + spanN isDig (t.drop k), fun k => t.length - k, ?_, ?_⟩
  · exact ⟨0, ⟨by omega, by simp⟩, ent0 rfl ⟨rfl, rfl, trivial⟩ trivial rfl⟩
  · rintro k ⟨hk, he⟩
    refine And.intro (fun h1 => ?_) (fun h1 => ?_)
    · have hk' : k < t.length := by have h1 : (k : Int) < (t.length : Nat) := h1; omega
      have hc : t.drop k = t[k] :: t.drop (k + 1) := List.drop_eq_getElem_cons hk'
      refine ⟨_, ⟨by omega, t[k], List.getElem?_eq_getElem hk', rfl⟩, ?_⟩
      have hD := rDigit_c t[k]
      by_cases hd : isDig t[k] = true
      · rw [hd] at hD
        refine hD.eq rfl ?_
        refine ⟨(k : Int) + 1, wrap_i64 (by omega) (by omega), k + 1, ⟨by omega, ?_⟩, ent0 rfl ⟨rfl, rfl, trivial⟩ trivial rfl, ?_⟩
        · rw [he, hc, spanN, if_pos hd]; omega
        · show t.length - (k + 1) < t.length - k
          omega
      · rw [Bool.not_eq_true] at hd
        rw [hd] at hD
        refine hD.eq rfl ?_
        refine end1 _ rfl rfl (retB ?_)
        have : spanN isDig t = k := by rw [he, hc, spanN, if_neg (by simp [hd])]; omega
        simp only [numN, decide_eq_false (show ¬ spanN isDig t = t.length by omega), Bool.and_false, Bool.false_and]
    · have hkk : k = t.length := by have h1 : ¬ (k : Int) < (t.length : Nat) := h1; omega
      have hsp : spanN isDig t = t.length := by rw [he, hkk]; simp [spanN]
      refine And.intro (fun h2 => ?_) (fun h2 => ?_)
      · have h2 : t = [48] := h2
        exact end1 _ rfl rfl (retB (by rw [h2]; decide))
      · have h2 : ¬ t = [48] := h2
        refine And.intro (fun h3 => ?_) (fun h3 => ?_)
        · have h3 : t = [] := h3
          exact end1 _ rfl rfl (retB (by rw [h3]; decide))
        · have h3 : ¬ t = [] := h3
          have hn : numN t = (decide (t.length ≤ 4) && decide ((t.headD 0).toNat ≠ 48)) := by
            simp only [numN, decide_eq_true hsp, decide_eq_true h3, decide_eq_false h2, Bool.true_and, Bool.and_true, Bool.false_or]
          rw [hn]
          obtain ⟨c, r, rfl⟩ : ∃ c r, t = c :: r := by cases t with | nil => exact (h3 rfl).elim | cons c r => exact ⟨c, r, rfl⟩
          refine ⟨_, ⟨by omega, c, rfl, rfl⟩, ?_⟩
          refine And.intro (fun h4 => ?_) (fun h4 => ?_)
          · have h4 : ((c.toNat : Nat) : Int) = 48 := h4
            exact end1 _ rfl rfl (retB (by rw [List.headD_cons, decide_eq_false (show ¬ c.toNat ≠ 48 by omega), Bool.and_false]))
          · have h4 : ¬ ((c.toNat : Nat) : Int) = 48 := h4
            refine And.intro (fun h5 => ?_) (fun h5 => ?_)
            · have h5 : ((c :: r).length : Int) ≤ 4 := h5
              exact end1 _ rfl rfl (retB (by rw [List.headD_cons, decide_eq_true (show c.toNat ≠ 48 by omega), decide_eq_true (show (c :: r).length ≤ 4 by omega)]; rfl))
            · have h5 : ¬ ((c :: r).length : Int) ≤ 4 := h5
              exact end1 _ rfl rfl (retB (by rw [decide_eq_false (show ¬ (c :: r).length ≤ 4 by omega)]; rfl))

theorem rRight_c (k : Int) (t : List UInt8) (ht : t.length ≤ 100000) : Pure cx 38 [i64 k, .str t] (· = .ret [.bool (rightN k t)]) := by
  refine pure_of_vc Tryd.func38 rfl rfl rfl ?_
  refine And.intro (fun h1 => ?_) (fun h1 => ?_)
  · have h1 : k = 1 := h1
    subst h1
    refine (rName_c t ht).eq rfl ?_
    exact end1 _ rfl rfl rfl
  · have h1 : ¬ k = 1 := h1
    refine And.intro (fun h2 => ?_) (fun h2 => ?_)
    · have h2 : k = 2 := h2
      subst h2
      refine rKeys_c.eq rfl ?_
      refine (rIn_c keysL (by decide) t).eq rfl ?_
      exact end1 _ rfl rfl rfl
    · have h2 : ¬ k = 2 := h2
      refine And.intro (fun h3 => ?_) (fun h3 => ?_)
      · have h3 : k = 3 := h3
        subst h3
        refine (rNumber_c t ht).eq rfl ?_
        exact end1 _ rfl rfl rfl
      · have h3 : ¬ k = 3 := h3
        refine And.intro (fun h4 => ?_) (fun h4 => ?_)
        · have h4 : k = 4 := h4
          subst h4
          refine rMarks_c.eq rfl ?_
          refine (rIn_c marksL (by decide) t).eq rfl ?_
          exact end1 _ rfl rfl rfl
        · have h4 : ¬ k = 4 := h4
          exact end1 _ rfl rfl (retB (by simp [rightN, h1, h2, h3, h4]))

theorem rTwo_c (s : List UInt8) (hs : s.length ≤ 8000) (k : Nat) (hk : k ≤ s.length) (a b : UInt8) : Pure cx 55 [.str s, i64 k, .str [a, b]] (· = .ret [.bool (List.isPrefixOf [a, b] (s.drop k))]) := by
  refine pure_of_vc Tryd.func55 rfl rfl rfl ?_
  refine ⟨(k : Int) + 2, wrap_i64 (by omega) (by omega), ?_⟩
  refine And.intro (fun h1 => ?_) (fun h1 => ?_)
  · have h1 : (k : Int) + 2 ≤ (s.length : Nat) := h1
    refine ⟨(k : Int) + 2, wrap_i64 (by omega) (by omega), ?_⟩
    refine ⟨⟨by omega, by omega, by omega⟩, ?_⟩
    have e : sub s (some (k : Int)) (some ((k : Int) + 2)) = (s.drop k).take 2 := by
      show (s.drop ((k : Int)).toNat).take (((k : Int) + 2).toNat - ((k : Int)).toNat) = _
      rw [show ((k : Int) + 2).toNat - ((k : Int)).toNat = 2 by omega]
      rfl
    refine And.intro (fun h2 => ?_) (fun h2 => ?_)
    · have h2 : sub s (some (k : Int)) (some ((k : Int) + 2)) = [a, b] := h2
      rw [e] at h2
      refine end1 _ rfl rfl (retB ?_)
      rw [eq_comm, List.isPrefixOf_iff_prefix]
      exact ⟨(s.drop k).drop 2, by rw [← h2, List.take_append_drop]⟩
    · have h2 : ¬ sub s (some (k : Int)) (some ((k : Int) + 2)) = [a, b] := h2
      rw [e] at h2
      refine end1 _ rfl rfl (retB ?_)
      rw [eq_comm, Bool.eq_false_iff]
      intro h
      rw [List.isPrefixOf_iff_prefix] at h
      obtain ⟨r, hr⟩ := h
      exact h2 (by rw [← hr]; rfl)
  · have h1 : ¬ (k : Int) + 2 ≤ (s.length : Nat) := h1
    refine end1 _ rfl rfl (retB ?_)
    rw [eq_comm, Bool.eq_false_iff]
    intro h
    have := (isPre_drop h).resolve_right (by simp)
    simp at this
    omega

/-- The place, as the reference finds it. -/
theorem rPlace_c (s : List UInt8) (hs : s.length ≤ 8000) (k : Nat) (hk : k ≤ s.length) : Pure cx 36 [.str s, i64 k] (· = .ret [i64 (at_ s k).1, i64 (at_ s k).2]) := by
  refine pure_of_vc Tryd.func36 rfl rfl rfl ?_
  refine ⟨Nat, fun j => [(6, .p (i64 (at_ s j).1)), (7, .p (i64 (at_ s j).2)), (8, .p (i64 j)), (0, vS s), (1, .p (i64 k))], fun _ => ⟨0, []⟩, fun j => j ≤ k, fun j => k - j, ?_, ?_⟩
  · exact ⟨0, by omega, ent0 rfl ⟨rfl, rfl, rfl, rfl, rfl, trivial⟩ trivial rfl⟩
  · intro j hj
    have hle := at_le s j
    refine And.intro (fun h1 => ?_) (fun h1 => ?_)
    · have hlt : j < s.length := by have h1 : (j : Int) < (k : Int) := h1; omega
      have hk2 : j < k := by have h1 : (j : Int) < (k : Int) := h1; omega
      refine ⟨((at_ s j).2 : Int) + 1, wrap_i64 (by omega) (by omega), ?_⟩
      refine ⟨_, ⟨by omega, s[j], List.getElem?_eq_getElem hlt, rfl⟩, ?_⟩
      have ha := at_succ hlt
      refine And.intro (fun h2 => ?_) (fun h2 => ?_)
      · have h2 : ((s[j].toNat : Nat) : Int) = 10 := h2
        refine ⟨((at_ s j).1 : Int) + 1, wrap_i64 (by omega) (by omega), ?_⟩
        refine ⟨(j : Int) + 1, wrap_i64 (by omega) (by omega), j + 1, hk2, ?_, ?_⟩
        · have e : at_ s (j + 1) = ((at_ s j).1 + 1, 1) := by rw [ha, adv, if_pos (by omega)]
          show Ent _ _ _ _ _ _ (sets (fun _ => .junk) [(6, .p (i64 (at_ s (j + 1)).1)), (7, .p (i64 (at_ s (j + 1)).2)), (8, .p (i64 ((j + 1 : Nat) : Int))), (0, vS s), (1, .p (i64 k))]) _ _
          rw [e]
          exact ent0 rfl ⟨rfl, rfl, rfl, rfl, rfl, trivial⟩ trivial rfl
        · show k - (j + 1) < k - j
          omega
      · have h2 : ¬ ((s[j].toNat : Nat) : Int) = 10 := h2
        refine ⟨(j : Int) + 1, wrap_i64 (by omega) (by omega), j + 1, hk2, ?_, ?_⟩
        · have e : at_ s (j + 1) = ((at_ s j).1, (at_ s j).2 + 1) := by rw [ha, adv, if_neg (by omega)]
          show Ent _ _ _ _ _ _ (sets (fun _ => .junk) [(6, .p (i64 (at_ s (j + 1)).1)), (7, .p (i64 (at_ s (j + 1)).2)), (8, .p (i64 ((j + 1 : Nat) : Int))), (0, vS s), (1, .p (i64 k))]) _ _
          rw [e]
          exact ent0 rfl ⟨rfl, rfl, rfl, rfl, rfl, trivial⟩ trivial rfl
        · show k - (j + 1) < k - j
          omega
    · have : j = k := by have h1 : ¬ (j : Int) < (k : Int) := h1; omega
      subst this
      exact end2 _ _ rfl rfl rfl rfl
end Go.Proofs.YtemlkodkohgmmaaDoor
