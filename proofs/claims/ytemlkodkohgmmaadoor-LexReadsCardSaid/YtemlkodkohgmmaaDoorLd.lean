/- The reader of package lex: blanks. -/
import Derived.Test.YtemlkodkohgmmaaDoorLc
namespace Go.Proofs.YtemlkodkohgmmaaDoor
open Go Y
set_option maxRecDepth 100000
set_option maxHeartbeats 4000000

def shift (n : Nat) : Nat ⊕ Nat → Nat ⊕ Nat
  | .inl m => .inl (m + n)
  | .inr m => .inr (m + n)
theorem shift_shift (a b : Nat) (x : Nat ⊕ Nat) : shift a (shift b x) = shift (b + a) x := by
  cases x <;> simp [shift] <;> omega
theorem shift_zero (x : Nat ⊕ Nat) : shift 0 x = x := by cases x <;> rfl
def notNl (b : UInt8) : Bool := !decide (b.toNat = 10)
/-- How many octets are blank; or where a comment opens that is not closed. -/
def skipN : Nat → List UInt8 → Nat ⊕ Nat
  | 0, _ => .inl 0
  | f + 1, r => match r with
    | [] => .inl 0
    | c :: _ => if c.toNat = 32 ∨ c.toNat = 10 then shift 1 (skipN f (r.drop 1))
      else if List.isPrefixOf [45, 45] r then shift (spanN notNl r) (skipN f (r.drop (spanN notNl r)))
      else if List.isPrefixOf [40, 42] r then (match closeN f 1 (r.drop 2) with
        | none => .inr 0
        | some n => shift (2 + n) (skipN f (r.drop (2 + n))))
      else .inl 0

theorem span2 {r : List UInt8} (h : List.isPrefixOf [45, 45] r = true) : 2 ≤ spanN notNl r := by
  rw [List.isPrefixOf_iff_prefix] at h
  obtain ⟨t, rfl⟩ := h
  simp [spanN, notNl]

theorem blank_c (s : List UInt8) (hs : s.length ≤ 8000) (k f : Nat) (hk : k ≤ s.length) (hf : s.length - k ≤ f) :
    HoldsG cx 53 [.ptr 0 0 0] (rs s k) fun e H' => match skipN f (s.drop k) with
      | .inl n => k + n ≤ s.length ∧ e = .returned und ∧ H' = rs s (k + n)
      | .inr n => k + n ≤ s.length ∧ e = .panicked [⟨.p (err (at_ s (k + n)) 370), false⟩] ∧ ∃ k', k' ≤ s.length ∧ H' = rs s k' := by
  refine holds_of_vc Tryd.func53 rfl rfl rfl ?_
  refine ⟨Nat × Nat, fun x => [(0, .ptr 0 0 0)], fun x => rs s x.1,
    fun x => k ≤ x.1 ∧ x.1 ≤ s.length ∧ s.length - x.1 ≤ x.2 ∧ skipN f (s.drop k) = shift (x.1 - k) (skipN x.2 (s.drop x.1)), fun x => s.length - x.1, ?_, ?_⟩
  · exact ⟨(k, f), ⟨by simp, hk, hf, by simp [shift_zero]⟩, ent0 rfl ⟨⟨rfl, rfl⟩, trivial⟩ ⟨⟨_, rfl, rfl, rfl, _, rfl, _, _, rfl, rfl, _, _, rfl, rfl, _, _, rfl, rfl, _, _, rfl, rfl, rfl⟩, trivial⟩ rfl⟩
  · rintro ⟨k', f'⟩ ⟨g1, g2, g3, hc⟩
    simp only [] at g1 g2 g3 hc
    refine VDraw.seq rfl ?_
    refine And.intro (fun h1 => ?_) (fun h1 => ?_)
    · have hlt : k' < s.length := by have h1 : (k' : Int) < (s.length : Int) := h1; omega
      have hr : s.drop k' = s[k'] :: s.drop (k' + 1) := List.drop_eq_getElem_cons hlt
      obtain ⟨f'', rfl⟩ : ∃ n, f' = n + 1 := ⟨f' - 1, by omega⟩
      refine VDraw.seq rfl ?_
      refine ⟨_, ⟨by omega, s[k'], List.getElem?_eq_getElem hlt, rfl⟩, ?_⟩
      have one : (s[k'].toNat = 32 ∨ s[k'].toNat = 10) → skipN f (s.drop k) = shift (k' + 1 - k) (skipN f'' (s.drop (k' + 1))) := by
        intro h
        rw [hc, hr, skipN, if_pos h, shift_shift]
        congr 1
        omega
      refine And.intro (fun h2 => ?_) (fun h2 => ?_)
      · have h2 : ((s[k'].toNat : Nat) : Int) = 32 := h2
        refine (step_c s hs k' 1 (by omega)).useE [] [] rfl ⟨⟨_, rfl, rfl, rfl, _, rfl, _, _, rfl, rfl, _, _, rfl, rfl, _, _, rfl, rfl, _, _, rfl, rfl, rfl⟩, trivial⟩ ⟨_, _, rfl, ⟨rfl, rfl⟩, _, _, rfl, rfl, rfl⟩ ?_
        exact ⟨(k' + 1, f''), ⟨by simp only []; omega, by simp only []; omega, by simp only []; omega, one (by omega)⟩, ent0 rfl ⟨⟨rfl, rfl⟩, trivial⟩ ⟨⟨_, rfl, rfl, rfl, _, rfl, _, _, rfl, rfl, _, _, rfl, rfl, _, _, rfl, rfl, _, _, rfl, rfl, rfl⟩, trivial⟩ rfl, by simp only []; omega⟩
      · have h2 : ¬ ((s[k'].toNat : Nat) : Int) = 32 := h2
        refine And.intro (fun h3 => ?_) (fun h3 => ?_)
        · have h3 : ((s[k'].toNat : Nat) : Int) = 10 := h3
          refine (step_c s hs k' 1 (by omega)).useE [] [] rfl ⟨⟨_, rfl, rfl, rfl, _, rfl, _, _, rfl, rfl, _, _, rfl, rfl, _, _, rfl, rfl, _, _, rfl, rfl, rfl⟩, trivial⟩ ⟨_, _, rfl, ⟨rfl, rfl⟩, _, _, rfl, rfl, rfl⟩ ?_
          exact ⟨(k' + 1, f''), ⟨by simp only []; omega, by simp only []; omega, by simp only []; omega, one (by omega)⟩, ent0 rfl ⟨⟨rfl, rfl⟩, trivial⟩ ⟨⟨_, rfl, rfl, rfl, _, rfl, _, _, rfl, rfl, _, _, rfl, rfl, _, _, rfl, rfl, _, _, rfl, rfl, rfl⟩, trivial⟩ rfl, by simp only []; omega⟩
        · have h3 : ¬ ((s[k'].toNat : Nat) : Int) = 10 := h3
          have hno : ¬ (s[k'].toNat = 32 ∨ s[k'].toNat = 10) := by omega
          have hB := begins_c (at_ s k') s [45, 45] k' g2
          by_cases hb : List.isPrefixOf [45, 45] (s.drop k') = true
          rotate_left
          · rw [Bool.not_eq_true] at hb
            rw [hb] at hB
            refine hB.useE [] [] rfl ⟨⟨_, rfl, rfl, rfl, _, rfl, _, _, rfl, rfl, _, _, rfl, rfl, _, _, rfl, rfl, _, _, rfl, rfl, rfl⟩, trivial⟩ ⟨_, _, rfl, ⟨rfl, rfl⟩, _, _, rfl, rfl, rfl⟩ ?_
            have hB2 := begins_c (at_ s k') s [40, 42] k' g2
            by_cases hb2 : List.isPrefixOf [40, 42] (s.drop k') = true
            rotate_left
            · rw [Bool.not_eq_true] at hb2
              rw [hb2] at hB2
              refine hB2.useE [] [] rfl ⟨⟨_, rfl, rfl, rfl, _, rfl, _, _, rfl, rfl, _, _, rfl, rfl, _, _, rfl, rfl, _, _, rfl, rfl, rfl⟩, trivial⟩ ⟨_, _, rfl, ⟨rfl, rfl⟩, _, _, rfl, rfl, rfl⟩ ?_
              have e : skipN f (s.drop k) = .inl (k' - k) := by
                rw [hc, hr, skipN, if_neg hno, ← hr, if_neg (by rw [hb]; simp), if_neg (by rw [hb2]; simp)]
                simp [shift]
              show (match skipN f (s.drop k) with | .inl n => _ | .inr n => _)
              rw [e]
              have e2 : k + (k' - k) = k' := by omega
              exact ⟨by omega, rfl, by rw [e2]; rfl⟩
            · rw [hb2] at hB2
              refine hB2.useE [] [] rfl ⟨⟨_, rfl, rfl, rfl, _, rfl, _, _, rfl, rfl, _, _, rfl, rfl, _, _, rfl, rfl, _, _, rfl, rfl, rfl⟩, trivial⟩ ⟨_, _, rfl, ⟨rfl, rfl⟩, _, _, rfl, rfl, rfl⟩ ?_
              have hk2 : k' + 2 ≤ s.length := (isPre_drop hb2).resolve_right (by simp)
              have hcm := comment_c s hs k' f'' hb2 (by omega)
              refine Or.elim (Option.eq_none_or_eq_some (closeN f'' 1 (s.drop (k' + 2)))) (fun hcl => ?_) (fun hn => Exists.elim hn (fun n hcl => ?_))
              ·
                have e : skipN f (s.drop k) = .inr (k' - k) := by
                  rw [hc, hr, skipN, if_neg hno, ← hr, if_neg (by rw [hb]; simp), if_pos hb2, List.drop_drop, hcl]
                  simp [shift]
                simp only [hcl] at hcm
                refine hcm.holds.useN [] [] rfl ⟨⟨_, rfl, rfl, rfl, _, rfl, _, _, rfl, rfl, _, _, rfl, rfl, _, _, rfl, rfl, _, _, rfl, rfl, rfl⟩, trivial⟩ ⟨_, _, rfl, ⟨rfl, rfl⟩, rfl⟩ fun e0 H0' hq => ?_
                obtain ⟨rfl, k2, k3, rfl⟩ := hq
                refine ⟨rfl, ?_⟩
                show (match skipN f (s.drop k) with | .inl n => _ | .inr n => _)
                rw [e]
                have e2 : k + (k' - k) = k' := by omega
                exact ⟨by omega, by rw [e2]; rfl, k2, k3, rfl⟩
              ·
                simp only [hcl] at hcm
                refine hcm.holds.useN [] [] rfl ⟨⟨_, rfl, rfl, rfl, _, rfl, _, _, rfl, rfl, _, _, rfl, rfl, _, _, rfl, rfl, _, _, rfl, rfl, rfl⟩, trivial⟩ ⟨_, _, rfl, ⟨rfl, rfl⟩, rfl⟩ fun e0 H0' hq => ?_
                obtain ⟨k3, rfl, rfl⟩ := hq
                refine ⟨rfl, ?_⟩
                refine ⟨(k' + 2 + n, f''), ⟨by simp only []; omega, by simp only []; omega, by simp only []; omega, ?_⟩, ent0 rfl ⟨⟨rfl, rfl⟩, trivial⟩ ⟨⟨_, rfl, rfl, rfl, _, rfl, _, _, rfl, rfl, _, _, rfl, rfl, _, _, rfl, rfl, _, _, rfl, rfl, rfl⟩, trivial⟩ rfl, by simp only []; omega⟩
                rw [hc, hr, skipN, if_neg hno, ← hr, if_neg (by rw [hb]; simp), if_pos hb2, List.drop_drop, hcl]
                simp only []
                rw [shift_shift, List.drop_drop, show k' + (2 + n) = k' + 2 + n by omega]
                congr 1
                omega
          · rw [hb] at hB
            refine hB.useE [] [] rfl ⟨⟨_, rfl, rfl, rfl, _, rfl, _, _, rfl, rfl, _, _, rfl, rfl, _, _, rfl, rfl, _, _, rfl, rfl, rfl⟩, trivial⟩ ⟨_, _, rfl, ⟨rfl, rfl⟩, _, _, rfl, rfl, rfl⟩ ?_
            have hsp := span2 hb
            have hle := spanN_le notNl (s.drop k')
            rw [List.length_drop] at hle
            refine VDraw.seq rfl ?_
            refine ⟨⟨by omega, by omega⟩, ?_⟩
            refine (run_c (s.drop k')).eq rfl ?_
            refine (run1_c _ notNl blank1_c (s.drop k') (by rw [List.length_drop]; omega)).eq rfl ?_
            refine (step_c s hs k' (spanN notNl (s.drop k')) (by omega)).useE [] [] rfl ⟨⟨_, rfl, rfl, rfl, _, rfl, _, _, rfl, rfl, _, _, rfl, rfl, _, _, rfl, rfl, _, _, rfl, rfl, rfl⟩, trivial⟩ ⟨_, _, rfl, ⟨rfl, rfl⟩, _, _, rfl, rfl, rfl⟩ ?_
            refine ⟨(k' + spanN notNl (s.drop k'), f''), ⟨by simp only []; omega, by simp only []; omega, by simp only []; omega, ?_⟩, ent0 rfl ⟨⟨rfl, rfl⟩, trivial⟩ ⟨⟨_, rfl, rfl, rfl, _, rfl, _, _, rfl, rfl, _, _, rfl, rfl, _, _, rfl, rfl, _, _, rfl, rfl, rfl⟩, trivial⟩ rfl, by simp only []; omega⟩
            rw [hc]
            conv => lhs; rw [hr, skipN, if_neg hno, ← hr, if_pos hb]
            rw [shift_shift, List.drop_drop]
            congr 1
            omega
    · have hk' : k' = s.length := by have h1 : ¬ (k' : Int) < (s.length : Int) := h1; omega
      have e : skipN f (s.drop k) = .inl (k' - k) := by
        rw [hc, hk', List.drop_length]
        cases f' <;> simp [skipN, shift]
      show (match skipN f (s.drop k) with | .inl n => _ | .inr n => _)
      rw [e]
      have e2 : k + (k' - k) = k' := by omega
      exact ⟨by omega, rfl, by rw [e2]⟩
end Go.Proofs.YtemlkodkohgmmaaDoor
