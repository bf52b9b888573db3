/- The reader of package lex: steps. -/
import Derived.Test.YtemlkodkohgmmaaDoorLa
namespace Go.Proofs.YtemlkodkohgmmaaDoor
open Go Y
set_option maxRecDepth 100000

/-- Behind an octet. -/
def adv (p : Nat × Nat) (c : UInt8) : Nat × Nat := if c.toNat = 10 then (p.1 + 1, 1) else (p.1, p.2 + 1)
def advs (p : Nat × Nat) (s : List UInt8) : Nat × Nat := s.foldl adv p
theorem advs_cons (p : Nat × Nat) (c : UInt8) (s : List UInt8) : advs p (c :: s) = advs (adv p c) s := rfl
theorem advs_append (p : Nat × Nat) (a b : List UInt8) : advs p (a ++ b) = advs (advs p a) b := by simp [advs]
theorem adv_le (p : Nat × Nat) (c : UInt8) : (adv p c).1 ≤ p.1 + 1 ∧ (adv p c).2 ≤ p.2 + 1 := by
  unfold adv; split <;> simp

/-- A place in a block of its own, or at the head of a reader. -/
theorem pass_c (l c : Nat) (b : UInt8) (t : TypeId) (rest : List AV) (hl : l ≤ 100000) (hc : c ≤ 100000) :
    HoldsG cx 64 [.ptr 0 0 0, .p (u8 b)] ⟨1, [(0, ⟨t, false, .bx (.p (i64 l) :: .p (i64 c) :: rest)⟩)]⟩ fun e H' => e = .returned und ∧ H' = ⟨1, [(0, ⟨t, false, .bx (.p (i64 (adv (l, c) b).1) :: .p (i64 (adv (l, c) b).2) :: rest)⟩)]⟩ := by
  refine holds_of_vc Tryd.func64 rfl rfl rfl ?_
  refine And.intro (fun h1 => ?_) (fun h1 => ?_)
  · refine ⟨(l : Int) + 1, wrap_i64 (by omega) (by omega), ?_⟩
    have e : adv (l, c) b = (l + 1, 1) := by unfold adv; rw [if_pos (by omega)]
    rw [e]
    exact ⟨rfl, rfl⟩
  · refine ⟨(c : Int) + 1, wrap_i64 (by omega) (by omega), ?_⟩
    have e : adv (l, c) b = (l, c + 1) := by unfold adv; rw [if_neg (by omega)]
    rw [e]
    exact ⟨rfl, rfl⟩

/-- The reader: place, text, index. -/
def rdr (p : Nat × Nat) (s : List UInt8) (k : Nat) : List AV := [.p (i64 p.1), .p (i64 p.2), vS s, .p (i64 k)]
def rdH (p : Nat × Nat) (s : List UInt8) (k : Nat) : Hp := ⟨1, [(0, ⟨66, false, .bx (rdr p s k)⟩)]⟩

theorem hasPrefix0_c (s t : List UInt8) : Pure cx 73 [.str s, .str t] (· = .ret [.bool (t.isPrefixOf s)]) := by
  refine pure_of_vc Tryd.func73 rfl rfl rfl ?_
  refine And.intro (fun h1 => ?_) (fun h1 => ?_)
  · refine ⟨⟨by omega, by omega⟩, ?_⟩
    refine And.intro (fun h2 => ?_) (fun h2 => ?_)
    · refine end1 _ rfl rfl (retB ?_)
      have h2 : s.take t.length = t := h2
      rw [eq_comm, List.isPrefixOf_iff_prefix]
      exact ⟨s.drop t.length, by rw [← h2, List.length_take, Nat.min_eq_left (by omega)]; simp⟩
    · refine end1 _ rfl rfl (retB ?_)
      have h2 : ¬ s.take t.length = t := h2
      rw [eq_comm, Bool.eq_false_iff]
      intro h
      rw [List.isPrefixOf_iff_prefix] at h
      obtain ⟨r, rfl⟩ := h
      exact h2 (by simp)
  · refine end1 _ rfl rfl (retB ?_)
    rw [eq_comm, Bool.eq_false_iff]
    intro h
    rw [List.isPrefixOf_iff_prefix] at h
    have := h.length_le
    omega
theorem hasPrefix_c (s t : List UInt8) : Pure cx 46 [.str s, .str t] (· = .ret [.bool (t.isPrefixOf s)]) := by
  refine pure_of_vc Tryd.func46 rfl rfl rfl ?_
  refine (hasPrefix0_c s t).eq rfl ?_
  exact end1 _ rfl rfl rfl

theorem begins_c (p : Nat × Nat) (s t : List UInt8) (k : Nat) (hk : k ≤ s.length) :
    HoldsG cx 80 [.ptr 0 0 0, vS t] (rdH p s k) fun e H' => e = .returned (vB (t.isPrefixOf (s.drop k))) ∧ H' = rdH p s k := by
  refine holds_of_vc Tryd.func80 rfl rfl rfl ?_
  refine VDraw.seq rfl ?_
  refine ⟨⟨by omega, by omega⟩, ?_⟩
  refine (hasPrefix_c (s.drop k) t).eq rfl ?_
  exact ⟨rfl, rfl⟩
end Go.Proofs.YtemlkodkohgmmaaDoor
