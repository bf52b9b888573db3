/- Package lex: which words are right. -/
import Derived.Test.YtemlkodkohgmmaaDoorLb
namespace Go.Proofs.YtemlkodkohgmmaaDoor
open Go Y
set_option maxRecDepth 100000
set_option maxHeartbeats 4000000

def inL : List (List UInt8) → List UInt8 → Bool
  | [], _ => false
  | x :: r, s => decide (s = x) || inL r s

theorem isKey_c (s : List UInt8) : Pure cx 68 [.str s] (· = .ret [.bool (inL keysL s)]) := by
  refine pure_of_vc Tryd.func68 rfl rfl rfl ?_
  refine ⟨Nat, fun k => [(5, .p (.agg (keysL.map .str))), (6, .p (i64 k)), (0, vS s)], fun _ => ⟨0, []⟩, fun k => k ≤ 14 ∧ inL keysL s = inL (keysL.drop k) s, fun k => 14 - k, ?_, ?_⟩
  · exact ⟨0, ⟨by omega, rfl⟩, ent0 rfl (by (repeat' first | exact trivial | exact rfl | exact ⟨rfl, rfl⟩ | exact .inl rfl | refine ⟨_, rfl, rfl, rfl, ?_⟩ | refine ⟨_, _, rfl, ?_, ?_⟩ | refine ⟨_, rfl, ?_⟩ | refine And.intro ?_ ?_)) trivial rfl⟩
  · rintro k ⟨hk, he⟩
    refine And.intro (fun h1 => ?_) (fun h1 => ?_)
    · have hk' : k < 14 := by omega
      have hc : keysL.drop k = keysL[k] :: keysL.drop (k + 1) := List.drop_eq_getElem_cons hk'
      refine ⟨_, ⟨⟨by omega, by omega⟩, .str keysL[k], ldInP1 rfl (by show (keysL.map PV.str)[(k : Int).toNat * 1]? = _; simp; exact List.getElem?_eq_getElem hk'), rfl⟩, ?_⟩
      refine And.intro (fun h2 => ?_) (fun h2 => ?_)
      · have h2 : s = keysL[k] := h2
        exact end1 _ rfl rfl (retB (by rw [he, hc, inL, h2]; simp))
      · have h2 : ¬ s = keysL[k] := h2
        refine ⟨(k : Int) + 1, wrap_i64 (by omega) (by omega), k + 1, ⟨by omega, ?_⟩, ent0 rfl (by (repeat' first | exact trivial | exact rfl | exact ⟨rfl, rfl⟩ | exact .inl rfl | refine ⟨_, rfl, rfl, rfl, ?_⟩ | refine ⟨_, _, rfl, ?_, ?_⟩ | refine ⟨_, rfl, ?_⟩ | refine And.intro ?_ ?_)) trivial rfl, ?_⟩
        · rw [he, hc, inL, decide_eq_false h2]
          rfl
        · show 14 - (k + 1) < 14 - k
          omega
    · have : k = 14 := by omega
      subst this
      exact end1 _ rfl rfl (retB (by rw [he]; rfl))
theorem isMark_c (s : List UInt8) : Pure cx 70 [.str s] (· = .ret [.bool (inL marksL s)]) := by
  refine pure_of_vc Tryd.func70 rfl rfl rfl ?_
  refine ⟨Nat, fun k => [(5, .p (.agg (marksL.map .str))), (6, .p (i64 k)), (0, vS s)], fun _ => ⟨0, []⟩, fun k => k ≤ 16 ∧ inL marksL s = inL (marksL.drop k) s, fun k => 16 - k, ?_, ?_⟩
  · exact ⟨0, ⟨by omega, rfl⟩, ent0 rfl (by (repeat' first | exact trivial | exact rfl | exact ⟨rfl, rfl⟩ | exact .inl rfl | refine ⟨_, rfl, rfl, rfl, ?_⟩ | refine ⟨_, _, rfl, ?_, ?_⟩ | refine ⟨_, rfl, ?_⟩ | refine And.intro ?_ ?_)) trivial rfl⟩
  · rintro k ⟨hk, he⟩
    refine And.intro (fun h1 => ?_) (fun h1 => ?_)
    · have hk' : k < 16 := by omega
      have hc : marksL.drop k = marksL[k] :: marksL.drop (k + 1) := List.drop_eq_getElem_cons hk'
      refine ⟨_, ⟨⟨by omega, by omega⟩, .str marksL[k], ldInP1 rfl (by show (marksL.map PV.str)[(k : Int).toNat * 1]? = _; simp; exact List.getElem?_eq_getElem hk'), rfl⟩, ?_⟩
      refine And.intro (fun h2 => ?_) (fun h2 => ?_)
      · have h2 : s = marksL[k] := h2
        exact end1 _ rfl rfl (retB (by rw [he, hc, inL, h2]; simp))
      · have h2 : ¬ s = marksL[k] := h2
        refine ⟨(k : Int) + 1, wrap_i64 (by omega) (by omega), k + 1, ⟨by omega, ?_⟩, ent0 rfl (by (repeat' first | exact trivial | exact rfl | exact ⟨rfl, rfl⟩ | exact .inl rfl | refine ⟨_, rfl, rfl, rfl, ?_⟩ | refine ⟨_, _, rfl, ?_, ?_⟩ | refine ⟨_, rfl, ?_⟩ | refine And.intro ?_ ?_)) trivial rfl, ?_⟩
        · rw [he, hc, inL, decide_eq_false h2]
          rfl
        · show 16 - (k + 1) < 16 - k
          omega
    · have : k = 16 := by omega
      subst this
      exact end1 _ rfl rfl (retB (by rw [he]; rfl))

def nameN (t : List UInt8) : Bool := decide (t ≠ []) && decide (t.length ≤ 10) && isLet (t.headD 0) && decide (spanN isAln t = t.length) && !inL keysL t
def numN (t : List UInt8) : Bool := decide (t ≠ []) && decide (t.length ≤ 4) && decide (spanN isDig t = t.length) && (decide (t = [48]) || decide ((t.headD 0).toNat ≠ 48))
def rightN (k : Int) (t : List UInt8) : Bool :=
  if k = 1 then nameN t else if k = 2 then inL keysL t else if k = 3 then numN t else if k = 4 then inL marksL t else false

theorem proper_c (k : Int) (t : List UInt8) (ht : t.length ≤ 100000) : Pure cx 44 [i64 k, .str t] (· = .ret [.bool (rightN k t)]) := by
  refine pure_of_vc Tryd.func44 rfl rfl rfl ?_
  refine And.intro (fun h1 => ?_) (fun h1 => ?_)
  · have h1 : k = 1 := h1
    subst h1
    have er : rightN 1 t = nameN t := rfl
    rw [er]
    refine And.intro (fun h2 => ?_) (fun h2 => ?_)
    · have h2 : t = [] := h2
      subst h2
      exact end1 _ rfl rfl rfl
    · have h2 : ¬ t = [] := h2
      refine And.intro (fun h3 => ?_) (fun h3 => ?_)
      · have h3 : (t.length : Int) ≤ 10 := h3
        obtain ⟨c, r, rfl⟩ : ∃ c r, t = c :: r := by cases t with | nil => exact (h2 rfl).elim | cons c r => exact ⟨c, r, rfl⟩
        refine ⟨_, ⟨by omega, c, rfl, rfl⟩, ?_⟩
        have hL := letter_c c
        by_cases hl : isLet c = true
        rotate_left
        · rw [Bool.not_eq_true] at hl
          rw [hl] at hL
          refine hL.eq rfl ?_
          exact end1 _ rfl rfl (retB (by simp [nameN, hl]))
        · rw [hl] at hL
          refine hL.eq rfl ?_
          refine (run_c _).eq rfl ?_
          refine (run1_c _ isAln alnum_c (c :: r) ht).eq rfl ?_
          refine And.intro (fun h4 => ?_) (fun h4 => ?_)
          · have h4 : (spanN isAln (c :: r) : Int) = ((c :: r).length : Int) := h4
            refine (isKey_c (c :: r)).eq rfl ?_
            exact end1 _ rfl rfl (retB (by simp only [nameN, List.headD_cons, hl, decide_eq_true (show spanN isAln (c :: r) = (c :: r).length by omega), decide_eq_true h2, decide_eq_true (show (c :: r).length ≤ 10 by omega), Bool.true_and]))
          · have h4 : ¬ (spanN isAln (c :: r) : Int) = ((c :: r).length : Int) := h4
            exact end1 _ rfl rfl (retB (by simp only [nameN, decide_eq_false (show ¬ spanN isAln (c :: r) = (c :: r).length by omega), Bool.and_false, Bool.false_and]))
      · have h3 : ¬ (t.length : Int) ≤ 10 := h3
        exact end1 _ rfl rfl (retB (by simp only [nameN, decide_eq_false (show ¬ t.length ≤ 10 by omega), Bool.and_false, Bool.false_and]))
  · have h1 : ¬ k = 1 := h1
    refine And.intro (fun h2 => ?_) (fun h2 => ?_)
    · have h2 : k = 2 := h2
      subst h2
      refine (isKey_c t).eq rfl ?_
      exact end1 _ rfl rfl rfl
    · have h2 : ¬ k = 2 := h2
      refine And.intro (fun h3 => ?_) (fun h3 => ?_)
      · have h3 : k = 3 := h3
        subst h3
        have er : rightN 3 t = numN t := rfl
        rw [er]
        refine And.intro (fun h4 => ?_) (fun h4 => ?_)
        · have h4 : t = [] := h4
          subst h4
          exact end1 _ rfl rfl rfl
        · have h4 : ¬ t = [] := h4
          refine And.intro (fun h5 => ?_) (fun h5 => ?_)
          · have h5 : (4 : Int) < t.length := h5
            exact end1 _ rfl rfl (retB (by simp only [numN, decide_eq_false (show ¬ t.length ≤ 4 by omega), Bool.and_false, Bool.false_and]))
          · have h5 : ¬ (4 : Int) < t.length := h5
            refine (run_c _).eq rfl ?_
            refine (run1_c _ isDig digit_c t ht).eq rfl ?_
            have hle := spanN_le isDig t
            refine And.intro (fun h6 => ?_) (fun h6 => ?_)
            · have h6 : (spanN isDig t : Int) < t.length := h6
              exact end1 _ rfl rfl (retB (by simp only [numN, decide_eq_false (show ¬ spanN isDig t = t.length by omega), Bool.and_false, Bool.false_and]))
            · have h6 : ¬ (spanN isDig t : Int) < t.length := h6
              have hn : numN t = (decide (t = [48]) || decide ((t.headD 0).toNat ≠ 48)) := by
                simp only [numN, decide_eq_true (show spanN isDig t = t.length by omega), decide_eq_true h4, decide_eq_true (show t.length ≤ 4 by omega), Bool.true_and]
              rw [hn]
              refine And.intro (fun h7 => ?_) (fun h7 => ?_)
              · have h7 : t = [48] := h7
                exact end1 _ rfl rfl (retB (by simp [h7]))
              · have h7 : ¬ t = [48] := h7
                obtain ⟨c, r, rfl⟩ : ∃ c r, t = c :: r := by cases t with | nil => exact (h4 rfl).elim | cons c r => exact ⟨c, r, rfl⟩
                refine ⟨_, ⟨by omega, c, rfl, rfl⟩, ?_⟩
                rw [decide_eq_false h7, Bool.false_or]
                refine And.intro (fun h8 => ?_) (fun h8 => ?_)
                · have h8 : ((c.toNat : Nat) : Int) = 48 := h8
                  exact end1 _ rfl rfl (retB (by rw [eq_comm, decide_eq_false_iff_not]; show ¬ c.toNat ≠ 48; omega))
                · have h8 : ¬ ((c.toNat : Nat) : Int) = 48 := h8
                  exact end1 _ rfl rfl (retB (by rw [eq_comm, decide_eq_true_eq]; show c.toNat ≠ 48; omega))
      · have h3 : ¬ k = 3 := h3
        refine And.intro (fun h4 => ?_) (fun h4 => ?_)
        · have h4 : k = 4 := h4
          subst h4
          refine (isMark_c t).eq rfl ?_
          exact end1 _ rfl rfl rfl
        · have h4 : ¬ k = 4 := h4
          exact end1 _ rfl rfl (retB (by simp [rightN, h1, h2, h3, h4]))
end Go.Proofs.YtemlkodkohgmmaaDoor
