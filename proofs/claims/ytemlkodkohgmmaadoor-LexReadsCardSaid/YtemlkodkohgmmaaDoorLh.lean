/- The reference of layer 37: which words are right. -/
import Derived.Test.YtemlkodkohgmmaaDoorLe
namespace Go.Proofs.YtemlkodkohgmmaaDoor
open Go Y
set_option maxRecDepth 100000
set_option maxHeartbeats 4000000

theorem rDigit_c (b : UInt8) : Pure cx 59 [u8 b] (· = .ret [.bool (isDig b)]) := by
  refine pure_of_vc Tryd.func59 rfl rfl rfl ?_
  refine And.intro (fun h1 => ?_) (fun h1 => ?_)
  · refine And.intro (fun h2 => ?_) (fun h2 => ?_)
    · exact end1 _ rfl rfl (retB (by simp [isDig]; omega))
    · exact end1 _ rfl rfl (retB (by simp [isDig]; omega))
  · exact end1 _ rfl rfl (retB (by simp [isDig]; omega))
theorem rLetter_c (b : UInt8) : Pure cx 83 [u8 b] (· = .ret [.bool (isLet b)]) := by
  refine pure_of_vc Tryd.func83 rfl rfl rfl ?_
  refine And.intro (fun h1 => ?_) (fun h1 => ?_)
  · refine And.intro (fun h2 => ?_) (fun h2 => ?_)
    · exact end1 _ rfl rfl (retB (by simp [isLet]; omega))
    · refine And.intro (fun h3 => ?_) (fun h3 => ?_)
      · refine And.intro (fun h4 => ?_) (fun h4 => ?_)
        · exact end1 _ rfl rfl (retB (by simp [isLet]; omega))
        · exact end1 _ rfl rfl (retB (by simp [isLet]; omega))
      · exact end1 _ rfl rfl (retB (by simp [isLet]; omega))
  · refine And.intro (fun h3 => ?_) (fun h3 => ?_)
    · refine And.intro (fun h4 => ?_) (fun h4 => ?_)
      · exact end1 _ rfl rfl (retB (by simp [isLet]; omega))
      · exact end1 _ rfl rfl (retB (by simp [isLet]; omega))
    · exact end1 _ rfl rfl (retB (by simp [isLet]; omega))

theorem rIn_c (l : List (List UInt8)) (hl : l.length ≤ 100000) (s : List UInt8) : Pure cx 58 [.lst (l.map .str), .str s] (· = .ret [.bool (inL l s)]) := by
  refine pure_of_vc Tryd.func58 rfl rfl rfl ?_
  refine ⟨Nat, fun k => [(5, .p (i64 k)), (0, .p (.lst (l.map .str))), (1, vS s)], fun _ => ⟨0, []⟩, fun k => k ≤ l.length ∧ inL l s = inL (l.drop k) s, fun k => l.length - k, ?_, ?_⟩
  · exact ⟨0, ⟨by omega, rfl⟩, ent0 rfl ⟨rfl, rfl, rfl, trivial⟩ trivial rfl⟩
  · rintro k ⟨hk, he⟩
    refine And.intro (fun h1 => ?_) (fun h1 => ?_)
    · have h1 : (k : Int) < ((l.map PV.str).length : Nat) := h1
      rw [List.length_map] at h1
      have hk' : k < l.length := by omega
      have hc : l.drop k = l[k] :: l.drop (k + 1) := List.drop_eq_getElem_cons hk'
      refine ⟨_, ⟨by omega, .str l[k], by show (l.map PV.str)[k]? = _; rw [List.getElem?_map, List.getElem?_eq_getElem hk']; rfl, rfl⟩, ?_⟩
      refine And.intro (fun h2 => ?_) (fun h2 => ?_)
      · have h2 : l[k] = s := h2
        exact end1 _ rfl rfl (retB (by rw [he, hc, inL, h2]; simp))
      · have h2 : ¬ l[k] = s := h2
        refine ⟨(k : Int) + 1, wrap_i64 (by omega) (by omega), k + 1, ⟨by omega, ?_⟩, ent0 rfl ⟨rfl, rfl, rfl, trivial⟩ trivial rfl, ?_⟩
        · rw [he, hc, inL, decide_eq_false (fun e => h2 e.symm)]
          rfl
        · show l.length - (k + 1) < l.length - k
          omega
    · have h1 : ¬ (k : Int) < ((l.map PV.str).length : Nat) := h1
      rw [List.length_map] at h1
      have : k = l.length := by omega
      subst this
      exact end1 _ rfl rfl (retB (by rw [he, List.drop_length]; rfl))

theorem rKeys_c : Pure cx 24 [] (· = .ret [.lst (keysL.map .str)]) := by
  refine pure_of_vc Tryd.func24 rfl rfl rfl ?_
  exact end1 (.lst (keysL.map .str)) rfl ⟨_, rfl, by decide, rfl⟩ rfl
theorem rMarks_c : Pure cx 26 [] (· = .ret [.lst (marksL.map .str)]) := by
  refine pure_of_vc Tryd.func26 rfl rfl rfl ?_
  exact end1 (.lst (marksL.map .str)) rfl ⟨_, rfl, by decide, rfl⟩ rfl

def runN (s : List UInt8) : Bool := decide (s ≠ []) && decide (spanN isAln s = s.length)
theorem rRun_c (s : List UInt8) (hs : s.length ≤ 100000) : Pure cx 57 [.str s] (· = .ret [.bool (runN s)]) := by
  refine pure_of_vc Tryd.func57 rfl rfl rfl ?_
  refine ⟨Nat, fun k => [(3, .p (i64 k)), (0, vS s)], fun _ => ⟨0, []⟩, fun k => k ≤ s.length ∧ spanN isAln s = k + spanN isAln (s.drop k), fun k => s.length - k, ?_, ?_⟩
  · exact ⟨0, ⟨by omega, by simp⟩, ent0 rfl ⟨rfl, rfl, trivial⟩ trivial rfl⟩
  · rintro k ⟨hk, he⟩
    refine And.intro (fun h1 => ?_) (fun h1 => ?_)
    · have hk' : k < s.length := by have h1 : (k : Int) < (s.length : Nat) := h1; omega
      have hc : s.drop k = s[k] :: s.drop (k + 1) := List.drop_eq_getElem_cons hk'
      refine ⟨_, ⟨by omega, s[k], List.getElem?_eq_getElem hk', rfl⟩, ?_⟩
      have hL := rLetter_c s[k]
      have next : isAln s[k] = true → spanN isAln s = k + 1 + spanN isAln (s.drop (k + 1)) := by
        intro h
        rw [he, hc, spanN, if_pos h]
        omega
      by_cases hl : isLet s[k] = true
      · rw [hl] at hL
        refine hL.eq rfl ?_
        refine ⟨(k : Int) + 1, wrap_i64 (by omega) (by omega), k + 1, ⟨by omega, next (by simp [isAln, hl])⟩, ent0 rfl ⟨rfl, rfl, trivial⟩ trivial rfl, ?_⟩
        show s.length - (k + 1) < s.length - k
        omega
      · rw [Bool.not_eq_true] at hl
        rw [hl] at hL
        refine hL.eq rfl ?_
        refine ⟨_, ⟨by omega, s[k], List.getElem?_eq_getElem hk', rfl⟩, ?_⟩
        have hD := rDigit_c s[k]
        by_cases hd : isDig s[k] = true
        · rw [hd] at hD
          refine hD.eq rfl ?_
          refine ⟨(k : Int) + 1, wrap_i64 (by omega) (by omega), k + 1, ⟨by omega, next (by simp [isAln, hd])⟩, ent0 rfl ⟨rfl, rfl, trivial⟩ trivial rfl, ?_⟩
          show s.length - (k + 1) < s.length - k
          omega
        · rw [Bool.not_eq_true] at hd
          rw [hd] at hD
          refine hD.eq rfl ?_
          refine end1 _ rfl rfl (retB ?_)
          have : spanN isAln s = k := by rw [he, hc, spanN, if_neg (by simp [isAln, hl, hd])]; omega
          simp only [runN, decide_eq_false (show ¬ spanN isAln s = s.length by omega), Bool.and_false]
    · have : k = s.length := by have h1 : ¬ (k : Int) < (s.length : Nat) := h1; omega
      have hsp : spanN isAln s = s.length := by rw [he, this]; simp [spanN]
      refine And.intro (fun h2 => ?_) (fun h2 => ?_)
      · have h2 : s = [] := h2
        exact end1 _ rfl rfl (retB (by simp [runN, h2]))
      · have h2 : ¬ s = [] := h2
        exact end1 _ rfl rfl (retB (by simp [runN, h2, hsp]))
end Go.Proofs.YtemlkodkohgmmaaDoor
