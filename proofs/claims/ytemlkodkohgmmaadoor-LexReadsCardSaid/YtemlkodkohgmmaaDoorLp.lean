/- spread: the text in which words stand at their places. -/
import Derived.Test.YtemlkodkohgmmaaDoorLo
namespace Go.Proofs.YtemlkodkohgmmaaDoor
open Go Y
set_option maxRecDepth 100000
set_option maxHeartbeats 4000000

theorem put_cons {a b : Nat} {w : Wd} {r : List Wd} {t : List UInt8} (h : putN a b (w :: r) = some t) : ¬ (w.line.toNat < a ∨ w.line.toNat = a ∧ w.col.toNat < b) ∧ ∃ t', putN w.line.toNat (w.col.toNat + w.text.length) r = some t' ∧ t = gapN a b w ++ w.text ++ t' := by
  rw [putN] at h
  split at h
  · cases h
  · rename_i hn
    rw [Option.map_eq_some_iff] at h
    obtain ⟨t', h1, h2⟩ := h
    exact ⟨hn, t', h1, h2.symm⟩

def bldO (acc : List UInt8) : AObj := ⟨5, false, .pu (acc.map ub)⟩
def bldB (n : Nat) (acc : List UInt8) : AObj := ⟨TB, false, .bx [.ptr 0 0 0, .sl n 1 0 acc.length]⟩
def plO (a b : Nat) : AObj := ⟨60, false, .bx [.p (i64 a), .p (i64 b)]⟩
def wdO (w : Wd) : AObj := ⟨34, false, .bx (w.cells.map .p)⟩

/-- The loop of spread. -/
def spSl (l : List Wd) (k : Nat) : List (Nat × AV) := [(5, .ptr 0 0 0), (6, .ptr 2 0 0), (12, .p (.lsts 4 (l.map Wd.cells))), (13, .p (i64 (l.map Wd.cells).length)), (14, .p (i64 k))]
def spHp (a b : Nat) (acc : List UInt8) : Hp := ⟨3, [(2, plO a b), (1, bldO acc), (0, bldB 1 acc)]⟩
def spSl' (l : List Wd) (k : Nat) : List (Nat × AV) := (8, .ptr 3 0 0) :: spSl l k
def spHp' (a b : Nat) (acc : List UInt8) (w : Wd) : Hp := ⟨4, [(3, wdO w), (2, plO a b), (1, bldO acc), (0, bldB 1 acc)]⟩

theorem spread_c (l : List Wd) (hl : l.length ≤ 1500) (hc : ∀ w ∈ l, checkN w = true) (T : List UInt8) (hT : putN 1 1 l = some T) (hT8 : T.length ≤ 8000) :
    Pure cx 41 [.lsts 4 (l.map Wd.cells), i64 T.length] (· = .ret [.str T]) := by
  refine pure_of_vc Tryd.func41 rfl rfl rfl ?_
  have inv0 : (0 : Nat) ≤ l.length ∧ 1 ≤ 1 ∧ 1 ≤ 8000 ∧ 1 ≤ 1 ∧ 1 ≤ 8010 ∧ ∃ r, putN 1 1 (l.drop 0) = some r ∧ T = [] ++ r := ⟨by omega, by omega, by omega, by omega, by omega, T, by simpa using hT, rfl⟩
  by_cases hz : T.length = 0
  · rw [hz]
    refine (growZ_c false).useE [] [] rfl ⟨⟨_, rfl, rfl, rfl, _, rfl, _, _, rfl, rfl, _, _, rfl, (.inl rfl), rfl⟩, trivial⟩ ⟨_, _, rfl, ⟨rfl, rfl⟩, _, _, rfl, rfl, rfl⟩ ?_
    have hT0 : T = [] := List.eq_nil_of_length_eq_zero hz
    have hl0 : l = [] := by
      cases l with
      | nil => rfl
      | cons w r =>
        obtain ⟨_, t', _, e⟩ := put_cons hT
        have := (check_facts (hc w (by simp))).2.2.2.2.1
        have e := congrArg List.length e
        simp at e
        omega
    subst hT0 hl0
    refine ⟨Unit, fun _ => [(5, .ptr 0 0 0), (13, .p (i64 0)), (14, .p (i64 0))], fun _ => ⟨1, [(0, ⟨TB, false, .bx [.ptr 0 0 0, .p .nils]⟩)]⟩, fun _ => True, fun _ => 0, ?_, ?_⟩
    · exact ⟨(), trivial, ent_of [] [] [] rfl (by (repeat' first | exact trivial | exact rfl | exact ⟨rfl, rfl⟩ | exact .inl rfl | refine ⟨_, rfl, rfl, rfl, ?_⟩ | refine ⟨_, _, rfl, ?_, ?_⟩ | refine ⟨_, rfl, ?_⟩ | refine And.intro ?_ ?_)) (by (repeat' first | exact trivial | exact rfl | exact ⟨rfl, rfl⟩ | exact .inl rfl | refine ⟨_, rfl, rfl, rfl, ?_⟩ | refine ⟨_, _, rfl, ?_, ?_⟩ | refine ⟨_, rfl, ?_⟩ | refine And.intro ?_ ?_)) rfl⟩
    · intro x _
      refine And.intro (fun h1 => ?_) (fun h1 => ?_)
      · have h1 : (0 : Int) < 0 := h1
        omega
      · refine (stringN_c true).useE [] [] rfl (by (repeat' first | exact trivial | exact rfl | exact ⟨rfl, rfl⟩ | exact .inl rfl | refine ⟨_, rfl, rfl, rfl, ?_⟩ | refine ⟨_, _, rfl, ?_, ?_⟩ | refine ⟨_, rfl, ?_⟩ | refine And.intro ?_ ?_)) ⟨_, _, rfl, ⟨rfl, rfl⟩, rfl⟩ ?_
        exact end1 _ rfl rfl rfl
  · refine (growN_c false T.length (by omega) (by omega)).useE [] [] rfl ⟨⟨_, rfl, rfl, rfl, _, rfl, _, _, rfl, rfl, _, _, rfl, (.inl rfl), rfl⟩, trivial⟩ ⟨_, _, rfl, ⟨rfl, rfl⟩, _, _, rfl, rfl, rfl⟩ ?_
    refine ⟨Nat × Nat × Nat × List UInt8, fun x => spSl l x.1, fun x => spHp x.2.1 x.2.2.1 x.2.2.2, fun x => x.1 ≤ l.length ∧ 1 ≤ x.2.1 ∧ x.2.1 ≤ 8000 ∧ 1 ≤ x.2.2.1 ∧ x.2.2.1 ≤ 8010 ∧ ∃ r, putN x.2.1 x.2.2.1 (l.drop x.1) = some r ∧ T = x.2.2.2 ++ r, fun x => l.length - x.1, ?_, ?_⟩
    · exact ⟨(0, 1, 1, []), inv0, ent_of [] [] [] rfl (by (repeat' first | exact trivial | exact rfl | exact ⟨rfl, rfl⟩ | exact .inl rfl | refine ⟨_, rfl, rfl, rfl, ?_⟩ | refine ⟨_, _, rfl, ?_, ?_⟩ | refine ⟨_, rfl, ?_⟩ | refine And.intro ?_ ?_)) (by (repeat' first | exact trivial | exact rfl | exact ⟨rfl, rfl⟩ | exact .inl rfl | refine ⟨_, rfl, rfl, rfl, ?_⟩ | refine ⟨_, _, rfl, ?_, ?_⟩ | refine ⟨_, rfl, ?_⟩ | refine And.intro ?_ ?_)) rfl⟩
    · rintro ⟨k, a, b, acc⟩ ⟨g1, g2, g3, g4, g5, r, g6, g7⟩
      simp only [] at g1 g2 g3 g4 g5 g6 g7
      refine And.intro (fun h2 => ?_) (fun h2 => ?_)
      · have h2 : (k : Int) < ((l.map Wd.cells).length : Nat) := h2
        rw [List.length_map] at h2
        have hk : k < l.length := by omega
        refine ⟨_, ⟨by omega, l[k].cells, wcell hk, rfl⟩, ?_⟩
        rw [drop_cons hk] at g6
        obtain ⟨f1, f2, f3, f4, f5, f6⟩ := check_facts (hc l[k] (List.getElem_mem hk))
        generalize l[k] = w at g6 f1 f2 f3 f4 f5 f6 ⊢
        obtain ⟨p1, r', p2, p3⟩ := put_cons g6
        have hTl : T.length = acc.length + (gapN a b w).length + w.text.length + r'.length := by rw [g7, p3]; simp; omega
        refine ⟨Nat × Nat × List UInt8, fun _ => spSl' l k, fun x => spHp' x.1 x.2.1 x.2.2 w, fun x => 1 ≤ x.1 ∧ x.1 ≤ 8000 ∧ 1 ≤ x.2.1 ∧ x.2.1 ≤ 8010 ∧ ¬ (w.line.toNat < x.1 ∨ w.line.toNat = x.1 ∧ w.col.toNat < x.2.1) ∧ x.2.2 ++ gapN x.1 x.2.1 w = acc ++ gapN a b w, fun x => w.line.toNat - x.1, ?_, ?_⟩
        · exact ⟨(a, b, acc), ⟨g2, g3, g4, g5, p1, rfl⟩, ent_of [] [] [] rfl (by (repeat' first | exact trivial | exact rfl | exact ⟨rfl, rfl⟩ | exact .inl rfl | refine ⟨_, rfl, rfl, rfl, ?_⟩ | refine ⟨_, _, rfl, ?_, ?_⟩ | refine ⟨_, rfl, ?_⟩ | refine And.intro ?_ ?_)) (by (repeat' first | exact trivial | exact rfl | exact ⟨rfl, rfl⟩ | exact .inl rfl | refine ⟨_, rfl, rfl, rfl, ?_⟩ | refine ⟨_, _, rfl, ?_, ?_⟩ | refine ⟨_, rfl, ?_⟩ | refine And.intro ?_ ?_)) rfl⟩
        · rintro ⟨a1, b1, acc1⟩ ⟨q1, q2, q3, q4, q5, q6⟩
          simp only [] at q1 q2 q3 q4 q5 q6
          have hl1 := congrArg List.length q6
          simp only [List.length_append] at hl1
          refine And.intro (fun h3 => ?_) (fun h3 => ?_)
          · have h3 : (a1 : Int) < w.line := h3
            refine (writeByte_c true acc1 10 (by omega)).useE [] [] rfl ⟨⟨_, rfl, rfl, rfl, rfl⟩, ⟨_, rfl, rfl, rfl, _, rfl, _, _, rfl, ⟨rfl, rfl⟩, _, _, rfl, rfl, rfl⟩, trivial⟩ ⟨_, _, rfl, ⟨rfl, rfl⟩, _, _, rfl, rfl, rfl⟩ ?_
            refine (pass_c a1 b1 10 60 [] (by omega) (by omega)).useE [] [(0, 2)] rfl ⟨⟨_, rfl, rfl, rfl, _, rfl, _, _, rfl, rfl, _, _, rfl, rfl, rfl⟩, trivial⟩ ⟨_, _, rfl, ⟨rfl, rfl⟩, _, _, rfl, rfl, rfl⟩ ?_
            refine ⟨(a1 + 1, 1, acc1 ++ [10]), ⟨by simp only []; omega, by simp only []; omega, by simp only []; omega, by simp only []; omega, by simp only []; omega, ?_⟩, ent_of [] [(1, 4)] [] rfl (by (repeat' first | exact trivial | exact rfl | exact ⟨rfl, rfl⟩ | exact .inl rfl | refine ⟨_, rfl, rfl, rfl, ?_⟩ | refine ⟨_, _, rfl, ?_, ?_⟩ | refine ⟨_, rfl, ?_⟩ | refine And.intro ?_ ?_)) (by (repeat' first | exact trivial | exact rfl | exact ⟨rfl, rfl⟩ | exact .inl rfl | refine ⟨_, rfl, rfl, rfl, ?_⟩ | refine ⟨_, _, rfl, ?_, ?_⟩ | refine ⟨_, rfl, ?_⟩ | refine And.intro ?_ ?_)) rfl, by simp only []; omega⟩
            simp only []
            rw [← q6, gap_line (l := a1) (c := b1) (by omega)]
            simp
          · have h3 : ¬ (a1 : Int) < w.line := h3
            refine ⟨Nat × List UInt8, fun _ => spSl' l k, fun x => spHp' a1 x.1 x.2 w, fun x => 1 ≤ x.1 ∧ x.1 ≤ 8010 ∧ ¬ w.col.toNat < x.1 ∧ x.2 ++ gapN a1 x.1 w = acc ++ gapN a b w, fun x => w.col.toNat - x.1, ?_, ?_⟩
            · exact ⟨(b1, acc1), ⟨q3, q4, by simp only []; omega, q6⟩, ent_of [] [] [] rfl (by (repeat' first | exact trivial | exact rfl | exact ⟨rfl, rfl⟩ | exact .inl rfl | refine ⟨_, rfl, rfl, rfl, ?_⟩ | refine ⟨_, _, rfl, ?_, ?_⟩ | refine ⟨_, rfl, ?_⟩ | refine And.intro ?_ ?_)) (by (repeat' first | exact trivial | exact rfl | exact ⟨rfl, rfl⟩ | exact .inl rfl | refine ⟨_, rfl, rfl, rfl, ?_⟩ | refine ⟨_, _, rfl, ?_, ?_⟩ | refine ⟨_, rfl, ?_⟩ | refine And.intro ?_ ?_)) rfl⟩
            · rintro ⟨b2, acc2⟩ ⟨u1, u2, u3, u4⟩
              simp only [] at u1 u2 u3 u4
              have hl2 := congrArg List.length u4
              simp only [List.length_append] at hl2
              refine And.intro (fun h4 => ?_) (fun h4 => ?_)
              · have h4 : (b2 : Int) < w.col := h4
                refine (writeByte_c true acc2 32 (by omega)).useE [] [] rfl ⟨⟨_, rfl, rfl, rfl, rfl⟩, ⟨_, rfl, rfl, rfl, _, rfl, _, _, rfl, ⟨rfl, rfl⟩, _, _, rfl, rfl, rfl⟩, trivial⟩ ⟨_, _, rfl, ⟨rfl, rfl⟩, _, _, rfl, rfl, rfl⟩ ?_
                refine (pass_c a1 b2 32 60 [] (by omega) (by omega)).useE [] [(0, 2)] rfl ⟨⟨_, rfl, rfl, rfl, _, rfl, _, _, rfl, rfl, _, _, rfl, rfl, rfl⟩, trivial⟩ ⟨_, _, rfl, ⟨rfl, rfl⟩, _, _, rfl, rfl, rfl⟩ ?_
                refine ⟨(b2 + 1, acc2 ++ [32]), ⟨by simp only []; omega, by simp only []; omega, by simp only []; omega, ?_⟩, ent_of [] [(1, 4)] [] rfl (by (repeat' first | exact trivial | exact rfl | exact ⟨rfl, rfl⟩ | exact .inl rfl | refine ⟨_, rfl, rfl, rfl, ?_⟩ | refine ⟨_, _, rfl, ?_, ?_⟩ | refine ⟨_, rfl, ?_⟩ | refine And.intro ?_ ?_)) (by (repeat' first | exact trivial | exact rfl | exact ⟨rfl, rfl⟩ | exact .inl rfl | refine ⟨_, rfl, rfl, rfl, ?_⟩ | refine ⟨_, _, rfl, ?_, ?_⟩ | refine ⟨_, rfl, ?_⟩ | refine And.intro ?_ ?_)) rfl, by simp only []; omega⟩
                simp only []
                rw [← u4, gap_col (l := a1) (c := b2) (by omega) (by omega)]
                simp
              · have h4 : ¬ (b2 : Int) < w.col := h4
                rw [gap_end (by omega) (by omega), List.append_nil] at u4
                refine (writeString_c true acc2 w.text (by omega) (by omega)).useE [] [] rfl ⟨⟨_, rfl, rfl, rfl, rfl⟩, ⟨_, rfl, rfl, rfl, _, rfl, _, _, rfl, ⟨rfl, rfl⟩, _, _, rfl, rfl, rfl⟩, trivial⟩ ⟨_, _, rfl, ⟨rfl, rfl⟩, _, _, rfl, rfl, rfl⟩ ?_
                refine ⟨(b2 : Int) + (w.text.length : Nat), wrap_i64 (by omega) (by omega), ?_⟩
                refine ⟨(k : Int) + 1, wrap_i64 (by omega) (by omega), ?_⟩
                have e1 : w.line.toNat = a1 := by omega
                have e2 : w.col.toNat = b2 := by omega
                rw [e1, e2] at p2
                refine ⟨(k + 1, a1, b2 + w.text.length, acc2 ++ w.text), ⟨hk, q1, q2, by simp only []; omega, by simp only []; omega, r', p2, ?_⟩, ent_of [] [(1, 4)] [] rfl (by (repeat' first | exact trivial | exact rfl | exact ⟨rfl, rfl⟩ | exact .inl rfl | refine ⟨_, rfl, rfl, rfl, ?_⟩ | refine ⟨_, _, rfl, ?_, ?_⟩ | refine ⟨_, rfl, ?_⟩ | refine And.intro ?_ ?_)) (by (repeat' first | exact trivial | exact rfl | exact ⟨rfl, rfl⟩ | exact .inl rfl | refine ⟨_, rfl, rfl, rfl, ?_⟩ | refine ⟨_, _, rfl, ?_, ?_⟩ | refine ⟨_, rfl, ?_⟩ | refine And.intro ?_ ?_)) rfl, by simp only []; omega⟩
                rw [g7, p3, u4]
                simp
      · have h2 : ¬ (k : Int) < ((l.map Wd.cells).length : Nat) := h2
        rw [List.length_map] at h2
        rw [List.drop_eq_nil_of_le (by omega), putN] at g6
        injection g6 with g6
        subst g6
        rw [List.append_nil] at g7
        subst g7
        refine (string_c true T (by intro e; rw [e] at hz; simp at hz) (by omega)).useE [] [] rfl ⟨⟨_, rfl, rfl, rfl, rfl⟩, ⟨_, rfl, rfl, rfl, _, rfl, _, _, rfl, ⟨rfl, rfl⟩, _, _, rfl, rfl, rfl⟩, trivial⟩ ⟨_, _, rfl, ⟨rfl, rfl⟩, rfl⟩ ?_
        exact end1 _ rfl rfl rfl
end Go.Proofs.YtemlkodkohgmmaaDoor
