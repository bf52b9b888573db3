/- The reader of package lex: steps, blanks, comments. -/
import Derived.Test.YtemlkodkohgmmaaDoorLb
namespace Go.Proofs.YtemlkodkohgmmaaDoor
open Go Y
set_option maxRecDepth 100000

/-- Line and column of an octet of a text, or of its end. -/
def at_ (s : List UInt8) (k : Nat) : Nat × Nat := advs (1, 1) (s.take k)
theorem advs_le (p : Nat × Nat) (s : List UInt8) : (advs p s).1 ≤ p.1 + s.length ∧ (advs p s).2 ≤ max 1 p.2 + s.length := by
  induction s generalizing p with
  | nil => simp [advs]; omega
  | cons c r ih =>
    rw [advs_cons]
    have h1 := ih (adv p c)
    have h2 : (adv p c).1 ≤ p.1 + 1 ∧ (adv p c).2 ≤ max 1 p.2 + 1 := by
      unfold adv; split <;> simp <;> omega
    simp only [List.length_cons]
    omega
theorem at_le (s : List UInt8) (k : Nat) : (at_ s k).1 ≤ s.length + 1 ∧ (at_ s k).2 ≤ s.length + 1 := by
  have := advs_le (1, 1) (s.take k)
  have h2 : (s.take k).length ≤ s.length := by rw [List.length_take]; omega
  simp only [at_]
  have : max 1 (1, 1).2 = 1 := rfl
  simp only [] at *
  omega
theorem at_succ {s : List UInt8} {k : Nat} (h : k < s.length) : at_ s (k + 1) = adv (at_ s k) s[k] := by
  unfold at_
  rw [List.take_add_one, advs_append, List.getElem?_eq_getElem h]
  rfl

/-- The reader at an index. -/
def rs (s : List UInt8) (k : Nat) : Hp := rdH (at_ s k) s k

theorem step_c (s : List UInt8) (hs : s.length ≤ 8000) (k m : Nat) (hk : k + m ≤ s.length) :
    HoldsG cx 79 [.ptr 0 0 0, .p (i64 m)] (rs s k) fun e H' => e = .returned und ∧ H' = rs s (k + m) := by
  refine holds_of_vc Tryd.func79 rfl rfl rfl ?_
  refine ⟨Nat, fun j => [(4, .p (i64 m)), (5, .p (i64 j)), (0, .ptr 0 0 0)], fun j => rs s (k + j), fun j => j ≤ m, fun j => m - j, ?_, ?_⟩
  · exact ⟨0, by omega, ent0 rfl (by (repeat' first | exact trivial | exact rfl | exact ⟨rfl, rfl⟩ | exact .inl rfl | refine ⟨_, rfl, rfl, rfl, ?_⟩ | refine ⟨_, _, rfl, ?_, ?_⟩ | refine ⟨_, rfl, ?_⟩ | refine And.intro ?_ ?_)) (by (repeat' first | exact trivial | exact rfl | exact ⟨rfl, rfl⟩ | exact .inl rfl | refine ⟨_, rfl, rfl, rfl, ?_⟩ | refine ⟨_, _, rfl, ?_, ?_⟩ | refine ⟨_, rfl, ?_⟩ | refine And.intro ?_ ?_)) rfl⟩
  · intro j hj
    refine And.intro (fun h1 => ?_) (fun h1 => ?_)
    · have hk' : k + j < s.length := by omega
      refine VDraw.seq rfl ?_
      refine ⟨_, ⟨by omega, s[k + j], List.getElem?_eq_getElem hk', rfl⟩, ?_⟩
      have hle := at_le s (k + j)
      refine (pass_c (at_ s (k + j)).1 (at_ s (k + j)).2 s[k + j] 66 [vS s, .p (i64 (k + j : Nat))] (by omega) (by omega)).useE [] [] rfl ?_ ?_ ?_
      · (repeat' first | exact trivial | exact rfl | exact ⟨rfl, rfl⟩ | exact .inl rfl | refine ⟨_, rfl, rfl, rfl, ?_⟩ | refine ⟨_, _, rfl, ?_, ?_⟩ | refine ⟨_, rfl, ?_⟩ | refine And.intro ?_ ?_)
      · (repeat' first | exact trivial | exact rfl | exact ⟨rfl, rfl⟩ | exact .inl rfl | refine ⟨_, rfl, rfl, rfl, ?_⟩ | refine ⟨_, _, rfl, ?_, ?_⟩ | refine ⟨_, rfl, ?_⟩ | refine And.intro ?_ ?_)
      · refine ⟨((k + j : Nat) : Int) + 1, wrap_i64 (by omega) (by omega), ?_⟩
        refine ⟨(j : Int) + 1, wrap_i64 (by omega) (by omega), ?_⟩
        refine ⟨j + 1, by omega, ?_, ?_⟩
        · have e : rs s (k + (j + 1)) = rdH (adv (at_ s (k + j)) s[k + j]) s (k + (j + 1)) := by
            rw [rs, ← at_succ hk']; rfl
          show Ent _ _ _ _ _ _ _ _ (rs s (k + (j + 1)))
          rw [e]
          exact ent0 rfl (by (repeat' first | exact trivial | exact rfl | exact ⟨rfl, rfl⟩ | exact .inl rfl | refine ⟨_, rfl, rfl, rfl, ?_⟩ | refine ⟨_, _, rfl, ?_, ?_⟩ | refine ⟨_, rfl, ?_⟩ | refine And.intro ?_ ?_)) (by (repeat' first | exact trivial | exact rfl | exact ⟨rfl, rfl⟩ | exact .inl rfl | refine ⟨_, rfl, rfl, rfl, ?_⟩ | refine ⟨_, _, rfl, ?_, ?_⟩ | refine ⟨_, rfl, ?_⟩ | refine And.intro ?_ ?_)) rfl
        · show m - (j + 1) < m - j
          omega
    · have : j = m := by omega
      subst this
      exact ⟨rfl, rfl⟩

/-- How many octets a comment has from here on that is so deep; none if it is not closed. -/
def closeN : Nat → Nat → List UInt8 → Option Nat
  | 0, _, _ => none
  | f + 1, d, r => match r with
    | [] => none
    | _ :: _ => if List.isPrefixOf [40, 42] r then (closeN f (d + 1) (r.drop 2)).map (· + 2)
      else if List.isPrefixOf [42, 41] r then (if d = 1 then some 2 else (closeN f (d - 1) (r.drop 2)).map (· + 2))
      else (closeN f d (r.drop 1)).map (· + 1)

abbrev err (p : Nat × Nat) (c : Int) : PV := .iface 62 (.agg [i64 p.1, i64 p.2, i64 c])

theorem blank1_c (b : UInt8) : Pure cx 81 [u8 b] (· = .ret [.bool (!decide (b.toNat = 10))]) := by
  refine pure_of_vc Tryd.func81 rfl rfl rfl ?_
  refine And.intro (fun h1 => ?_) (fun h1 => ?_)
  · exact end1 _ rfl rfl (retB (by simp; omega))
  · exact end1 _ rfl rfl (retB (by simp; omega))

theorem isPre_drop {a : List UInt8} {s : List UInt8} {k : Nat} (h : a.isPrefixOf (s.drop k) = true) : k + a.length ≤ s.length ∨ a = [] := by
  rw [List.isPrefixOf_iff_prefix] at h
  have := h.length_le
  rw [List.length_drop] at this
  cases a with
  | nil => exact .inr rfl
  | cons x r => simp only [List.length_cons] at *; exact .inl (by omega)

/-- The end of a comment: what the reader does at an index where one opens. -/
theorem comment_c (s : List UInt8) (hs : s.length ≤ 8000) (k f : Nat) (hk : List.isPrefixOf [40, 42] (s.drop k) = true) (hf : s.length - (k + 2) ≤ f) :
    HoldsG cx 82 [.ptr 0 0 0] (rs s k) fun e H' => match closeN f 1 (s.drop (k + 2)) with
      | some n => k + 2 + n ≤ s.length ∧ e = .returned und ∧ H' = rs s (k + 2 + n)
      | none => e = .panicked [⟨.p (err (at_ s k) 370), false⟩] ∧ ∃ k', k' ≤ s.length ∧ H' = rs s k' := by
  refine holdsN_of_vc Tryd.func82 rfl rfl rfl ?_
  have hk2 : k + 2 ≤ s.length := (isPre_drop hk).resolve_right (by simp)
  refine ⟨Nat × Nat × Nat, fun x => [(0, .ptr 0 0 0), (2, .ptr 1 0 0), (3, .p (i64 x.2.1))], fun x => ⟨2, [(0, ⟨66, false, .bx (rdr (at_ s x.1) s x.1)⟩), (1, ⟨60, false, .bx [.p (i64 (at_ s k).1), .p (i64 (at_ s k).2)]⟩)]⟩,
    fun x => x.1 ≤ s.length ∧ ((x.1 = k ∧ x.2.1 = 0) ∨ (1 ≤ x.2.1 ∧ x.2.1 ≤ x.1 ∧ k + 2 ≤ x.1 ∧ s.length - x.1 ≤ x.2.2 ∧ closeN f 1 (s.drop (k + 2)) = (closeN x.2.2 x.2.1 (s.drop x.1)).map (· + (x.1 - (k + 2))))), fun x => s.length - x.1, ?_, ?_⟩
  · exact ⟨(k, 0, 0), ⟨by omega, .inl ⟨rfl, rfl⟩⟩, ent0 rfl (by (repeat' first | exact trivial | exact rfl | exact ⟨rfl, rfl⟩ | exact .inl rfl | refine ⟨_, rfl, rfl, rfl, ?_⟩ | refine ⟨_, _, rfl, ?_, ?_⟩ | refine ⟨_, rfl, ?_⟩ | refine And.intro ?_ ?_)) (by (repeat' first | exact trivial | exact rfl | exact ⟨rfl, rfl⟩ | exact .inl rfl | refine ⟨_, rfl, rfl, rfl, ?_⟩ | refine ⟨_, _, rfl, ?_, ?_⟩ | refine ⟨_, rfl, ?_⟩ | refine And.intro ?_ ?_)) rfl⟩
  · rintro ⟨k', d, f'⟩ ⟨hk', hx⟩
    refine VDraw.seq rfl ?_
    refine And.intro (fun h1 => ?_) (fun h1 => ?_)
    · have h1 : (s.length : Int) ≤ (k' : Int) := h1
      simp only [] at hk' hx
      have ek : k' = s.length := by omega
      rcases hx with ⟨rfl, -⟩ | ⟨-, -, -, -, hc⟩
      · omega
      · have hn : closeN f 1 (s.drop (k + 2)) = none := by
          rw [hc, ek, List.drop_length]
          cases f' <;> rfl
        refine ⟨[], [], [], .panicked [⟨.p (err (at_ s k) 370), false⟩], rs s k', rfl, by (repeat' first | exact trivial | exact rfl | exact ⟨rfl, rfl⟩ | exact .inl rfl | refine ⟨_, rfl, rfl, rfl, ?_⟩ | refine ⟨_, _, rfl, ?_, ?_⟩ | refine ⟨_, rfl, ?_⟩ | refine And.intro ?_ ?_), by (repeat' first | exact trivial | exact rfl | exact ⟨rfl, rfl⟩ | exact .inl rfl | refine ⟨_, rfl, rfl, rfl, ?_⟩ | refine ⟨_, _, rfl, ?_, ?_⟩ | refine ⟨_, rfl, ?_⟩ | refine And.intro ?_ ?_), ?_⟩
        rw [hn]
        exact ⟨rfl, k', hk', rfl⟩
    · have h1 : ¬ (s.length : Int) ≤ (k' : Int) := h1
      simp only [] at hk' hx
      have hlt : k' < s.length := by omega
      obtain ⟨c, r, hr⟩ : ∃ c r, s.drop k' = c :: r := ⟨_, _, List.drop_eq_getElem_cons hlt⟩
      refine (begins_c (at_ s k') s [40, 42] k' hk').useE [] [] rfl (by (repeat' first | exact trivial | exact rfl | exact ⟨rfl, rfl⟩ | exact .inl rfl | refine ⟨_, rfl, rfl, rfl, ?_⟩ | refine ⟨_, _, rfl, ?_, ?_⟩ | refine ⟨_, rfl, ?_⟩ | refine And.intro ?_ ?_)) (by (repeat' first | exact trivial | exact rfl | exact ⟨rfl, rfl⟩ | exact .inl rfl | refine ⟨_, rfl, rfl, rfl, ?_⟩ | refine ⟨_, _, rfl, ?_, ?_⟩ | refine ⟨_, rfl, ?_⟩ | refine And.intro ?_ ?_)) ?_
      cases hb : List.isPrefixOf [40, 42] (s.drop k')
      · rcases hx with ⟨rfl, -⟩ | ⟨g1, g2, g3, g4, hc⟩
        · rw [hk] at hb; cases hb
        obtain ⟨f'', rfl⟩ : ∃ n, f' = n + 1 := ⟨f' - 1, by omega⟩
        refine (begins_c (at_ s k') s [42, 41] k' hk').useE [] [] rfl (by (repeat' first | exact trivial | exact rfl | exact ⟨rfl, rfl⟩ | exact .inl rfl | refine ⟨_, rfl, rfl, rfl, ?_⟩ | refine ⟨_, _, rfl, ?_, ?_⟩ | refine ⟨_, rfl, ?_⟩ | refine And.intro ?_ ?_)) (by (repeat' first | exact trivial | exact rfl | exact ⟨rfl, rfl⟩ | exact .inl rfl | refine ⟨_, rfl, rfl, rfl, ?_⟩ | refine ⟨_, _, rfl, ?_, ?_⟩ | refine ⟨_, rfl, ?_⟩ | refine And.intro ?_ ?_)) ?_
        cases hb2 : List.isPrefixOf [42, 41] (s.drop k')
        · refine (step_c s hs k' 1 (by omega)).useE [] [] rfl (by (repeat' first | exact trivial | exact rfl | exact ⟨rfl, rfl⟩ | exact .inl rfl | refine ⟨_, rfl, rfl, rfl, ?_⟩ | refine ⟨_, _, rfl, ?_, ?_⟩ | refine ⟨_, rfl, ?_⟩ | refine And.intro ?_ ?_)) (by (repeat' first | exact trivial | exact rfl | exact ⟨rfl, rfl⟩ | exact .inl rfl | refine ⟨_, rfl, rfl, rfl, ?_⟩ | refine ⟨_, _, rfl, ?_, ?_⟩ | refine ⟨_, rfl, ?_⟩ | refine And.intro ?_ ?_)) ?_
          refine ⟨(k' + 1, d, f''), ⟨by simp only []; omega, .inr ⟨g1, by simp only []; omega, by simp only []; omega, by simp only []; omega, ?_⟩⟩, ent0 rfl (by (repeat' first | exact trivial | exact rfl | exact ⟨rfl, rfl⟩ | exact .inl rfl | refine ⟨_, rfl, rfl, rfl, ?_⟩ | refine ⟨_, _, rfl, ?_, ?_⟩ | refine ⟨_, rfl, ?_⟩ | refine And.intro ?_ ?_)) (by (repeat' first | exact trivial | exact rfl | exact ⟨rfl, rfl⟩ | exact .inl rfl | refine ⟨_, rfl, rfl, rfl, ?_⟩ | refine ⟨_, _, rfl, ?_, ?_⟩ | refine ⟨_, rfl, ?_⟩ | refine And.intro ?_ ?_)) rfl, by simp only []; omega⟩
          rw [hc, hr, closeN, ← hr, if_neg (by rw [hb]; simp), if_neg (by rw [hb2]; simp), List.drop_drop]
          rw [Option.map_map]
          congr 1
          funext n
          simp only [Function.comp]
          omega
        · have hk3 : k' + 2 ≤ s.length := (isPre_drop hb2).resolve_right (by simp)
          refine ⟨(d : Int) - 1, wrap_i64 (by omega) (by omega), ?_⟩
          refine (step_c s hs k' 2 hk3).useE [] [] rfl (by (repeat' first | exact trivial | exact rfl | exact ⟨rfl, rfl⟩ | exact .inl rfl | refine ⟨_, rfl, rfl, rfl, ?_⟩ | refine ⟨_, _, rfl, ?_, ?_⟩ | refine ⟨_, rfl, ?_⟩ | refine And.intro ?_ ?_)) (by (repeat' first | exact trivial | exact rfl | exact ⟨rfl, rfl⟩ | exact .inl rfl | refine ⟨_, rfl, rfl, rfl, ?_⟩ | refine ⟨_, _, rfl, ?_, ?_⟩ | refine ⟨_, rfl, ?_⟩ | refine And.intro ?_ ?_)) ?_
          refine And.intro (fun h2 => ?_) (fun h2 => ?_)
          · have h2 : (d : Int) - 1 = 0 := h2
            have hn : closeN f 1 (s.drop (k + 2)) = some (k' - k) := by
              rw [hc, hr, closeN, ← hr, if_neg (by rw [hb]; simp), if_pos hb2, if_pos (by omega)]
              simp only [Option.map_some]
              congr 1
              omega
            refine ⟨[], [], [], .returned und, rs s (k' + 2), rfl, by (repeat' first | exact trivial | exact rfl | exact ⟨rfl, rfl⟩ | exact .inl rfl | refine ⟨_, rfl, rfl, rfl, ?_⟩ | refine ⟨_, _, rfl, ?_, ?_⟩ | refine ⟨_, rfl, ?_⟩ | refine And.intro ?_ ?_), by (repeat' first | exact trivial | exact rfl | exact ⟨rfl, rfl⟩ | exact .inl rfl | refine ⟨_, rfl, rfl, rfl, ?_⟩ | refine ⟨_, _, rfl, ?_, ?_⟩ | refine ⟨_, rfl, ?_⟩ | refine And.intro ?_ ?_), ?_⟩
            rw [hn]
            exact ⟨by omega, rfl, by rw [show k + 2 + (k' - k) = k' + 2 by omega]⟩
          · have h2 : ¬ (d : Int) - 1 = 0 := h2
            refine ⟨(k' + 2, d - 1, f''), ⟨by simp only []; omega, .inr ⟨by simp only []; omega, by simp only []; omega, by simp only []; omega, by simp only []; omega, ?_⟩⟩, ?_, by simp only []; omega⟩
            · rw [hc, hr, closeN, ← hr, if_neg (by rw [hb]; simp), if_pos hb2, if_neg (by omega), List.drop_drop]
              rw [Option.map_map]
              congr 1
              funext n
              simp only [Function.comp]
              omega
            · have e : (d : Int) - 1 = ((d - 1 : Nat) : Int) := by omega
              rw [e]
              exact ent0 rfl (by (repeat' first | exact trivial | exact rfl | exact ⟨rfl, rfl⟩ | exact .inl rfl | refine ⟨_, rfl, rfl, rfl, ?_⟩ | refine ⟨_, _, rfl, ?_, ?_⟩ | refine ⟨_, rfl, ?_⟩ | refine And.intro ?_ ?_)) (by (repeat' first | exact trivial | exact rfl | exact ⟨rfl, rfl⟩ | exact .inl rfl | refine ⟨_, rfl, rfl, rfl, ?_⟩ | refine ⟨_, _, rfl, ?_, ?_⟩ | refine ⟨_, rfl, ?_⟩ | refine And.intro ?_ ?_)) rfl
      · have hk3 : k' + 2 ≤ s.length := (isPre_drop hb).resolve_right (by simp)
        have hd : d ≤ k' := by rcases hx with ⟨rfl, rfl⟩ | ⟨g1, g2, -⟩ <;> omega
        refine ⟨(d : Int) + 1, wrap_i64 (by omega) (by omega), ?_⟩
        refine (step_c s hs k' 2 hk3).useE [] [] rfl (by (repeat' first | exact trivial | exact rfl | exact ⟨rfl, rfl⟩ | exact .inl rfl | refine ⟨_, rfl, rfl, rfl, ?_⟩ | refine ⟨_, _, rfl, ?_, ?_⟩ | refine ⟨_, rfl, ?_⟩ | refine And.intro ?_ ?_)) (by (repeat' first | exact trivial | exact rfl | exact ⟨rfl, rfl⟩ | exact .inl rfl | refine ⟨_, rfl, rfl, rfl, ?_⟩ | refine ⟨_, _, rfl, ?_, ?_⟩ | refine ⟨_, rfl, ?_⟩ | refine And.intro ?_ ?_)) ?_
        rcases hx with ⟨rfl, rfl⟩ | ⟨g1, g2, g3, g4, hc⟩
        · refine ⟨(k' + 2, 1, f), ⟨hk3, .inr ⟨by simp, by simp, by simp, hf, ?_⟩⟩, ent0 rfl (by (repeat' first | exact trivial | exact rfl | exact ⟨rfl, rfl⟩ | exact .inl rfl | refine ⟨_, rfl, rfl, rfl, ?_⟩ | refine ⟨_, _, rfl, ?_, ?_⟩ | refine ⟨_, rfl, ?_⟩ | refine And.intro ?_ ?_)) (by (repeat' first | exact trivial | exact rfl | exact ⟨rfl, rfl⟩ | exact .inl rfl | refine ⟨_, rfl, rfl, rfl, ?_⟩ | refine ⟨_, _, rfl, ?_, ?_⟩ | refine ⟨_, rfl, ?_⟩ | refine And.intro ?_ ?_)) rfl, by simp only []; omega⟩
          simp
        · obtain ⟨f'', rfl⟩ : ∃ n, f' = n + 1 := ⟨f' - 1, by omega⟩
          refine ⟨(k' + 2, d + 1, f''), ⟨hk3, .inr ⟨by simp only []; omega, by simp only []; omega, by simp only []; omega, by simp only []; omega, ?_⟩⟩, ent0 rfl (by (repeat' first | exact trivial | exact rfl | exact ⟨rfl, rfl⟩ | exact .inl rfl | refine ⟨_, rfl, rfl, rfl, ?_⟩ | refine ⟨_, _, rfl, ?_, ?_⟩ | refine ⟨_, rfl, ?_⟩ | refine And.intro ?_ ?_)) (by (repeat' first | exact trivial | exact rfl | exact ⟨rfl, rfl⟩ | exact .inl rfl | refine ⟨_, rfl, rfl, rfl, ?_⟩ | refine ⟨_, _, rfl, ?_, ?_⟩ | refine ⟨_, rfl, ?_⟩ | refine And.intro ?_ ?_)) rfl, by simp only []; omega⟩
          rw [hc, hr, closeN, ← hr, if_pos hb, List.drop_drop]
          rw [Option.map_map]
          congr 1
          funext n
          simp only [Function.comp]
          omega
end Go.Proofs.YtemlkodkohgmmaaDoor
