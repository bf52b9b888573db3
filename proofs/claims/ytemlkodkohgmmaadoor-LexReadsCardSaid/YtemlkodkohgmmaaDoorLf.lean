/- The reader of package lex: a word. -/
import Derived.Test.YtemlkodkohgmmaaDoorLd
import Derived.Test.YtemlkodkohgmmaaDoorLe
namespace Go.Proofs.YtemlkodkohgmmaaDoor
open Go Y
set_option maxRecDepth 100000
set_option maxHeartbeats 4000000

/-- A word: kind, text, line, column. -/
structure Wd where
  kind : Int
  text : List UInt8
  line : Int
  col : Int
deriving DecidableEq
abbrev Wd.cells (w : Wd) : List PV := [i64 w.kind, .str w.text, i64 w.line, i64 w.col]

/-- Kind and text of the word at the beginning. -/
def oneN (r : List UInt8) : Int × List UInt8 :=
  if 0 < spanN isAln r then
    (if inL keysL (r.take (spanN isAln r)) then (2, r.take (spanN isAln r))
     else if isDig ((r.take (spanN isAln r)).headD 0) then (3, r.take (spanN isAln r)) else (1, r.take (spanN isAln r)))
  else if 1 < r.length && inL marksL (r.take 2) then (4, r.take 2) else (4, r.take 1)


theorem word_c (s : List UInt8) (hs : s.length ≤ 8000) (k : Nat) (hk : k < s.length) :
    HoldsG cx 54 [.ptr 0 0 0] (rs s k) fun e H' => match rightN (oneN (s.drop k)).1 (oneN (s.drop k)).2 with
      | true => k + (oneN (s.drop k)).2.length ≤ s.length ∧ e = .returned (.p (.agg (Wd.cells ⟨(oneN (s.drop k)).1, (oneN (s.drop k)).2, (at_ s k).1, (at_ s k).2⟩))) ∧ H' = rs s (k + (oneN (s.drop k)).2.length)
      | false => e = .panicked [⟨.p (err (at_ s k) 370), false⟩] ∧ H' = rs s k := by
  refine holdsN_of_vc Tryd.func54 rfl rfl rfl ?_
  have hr : s.drop k = s[k] :: s.drop (k + 1) := List.drop_eq_getElem_cons hk
  have hlen : (s.drop k).length = s.length - k := List.length_drop
  have hsp := spanN_le isAln (s.drop k)
  refine VDraw.seqTo [(0, .ptr 0 0 0), (2, .ptr 1 0 0), (3, .ptr 2 0 0)] ⟨3, [(0, ⟨66, false, .bx (rdr (at_ s k) s k)⟩), (1, ⟨34, false, .bx [.p (i64 0), vS [], .p (i64 0), .p (i64 0)]⟩), (2, ⟨34, false, .bx [.p (i64 4), vS [], .p (i64 (at_ s k).1), .p (i64 (at_ s k).2)]⟩)]⟩ rfl ?_ ?_
  · refine ⟨by (repeat' first | exact trivial | exact rfl | exact ⟨rfl, rfl⟩ | exact .inl rfl | refine ⟨_, rfl, rfl, rfl, ?_⟩ | refine ⟨_, _, rfl, ?_, ?_⟩ | refine ⟨_, rfl, ?_⟩ | refine And.intro ?_ ?_), ?_⟩
    exact ent0 rfl ⟨⟨rfl, rfl⟩, ⟨rfl, rfl⟩, ⟨rfl, rfl⟩, trivial⟩ ⟨⟨_, rfl, rfl, rfl, _, rfl, _, _, rfl, rfl, _, _, rfl, rfl, _, _, rfl, rfl, _, _, rfl, rfl, rfl⟩, ⟨_, rfl, rfl, rfl, _, rfl, _, _, rfl, rfl, _, _, rfl, rfl, _, _, rfl, rfl, _, _, rfl, rfl, rfl⟩, ⟨_, rfl, rfl, rfl, _, rfl, _, _, rfl, rfl, _, _, rfl, rfl, _, _, rfl, rfl, _, _, rfl, rfl, rfl⟩, trivial⟩ rfl
  refine VDraw.seqTo [(0, .ptr 0 0 0), (2, .ptr 1 0 0), (3, .ptr 2 0 0), (4, vS (s.drop k))] ⟨3, [(0, ⟨66, false, .bx (rdr (at_ s k) s k)⟩), (1, ⟨34, false, .bx [.p (i64 0), vS [], .p (i64 0), .p (i64 0)]⟩), (2, ⟨34, false, .bx [.p (i64 4), vS [], .p (i64 (at_ s k).1), .p (i64 (at_ s k).2)]⟩)]⟩ rfl ?_ ?_
  · refine ⟨⟨by omega, by omega⟩, ?_⟩
    exact ent0 rfl ⟨⟨rfl, rfl⟩, ⟨rfl, rfl⟩, ⟨rfl, rfl⟩, rfl, trivial⟩ ⟨⟨_, rfl, rfl, rfl, _, rfl, _, _, rfl, rfl, _, _, rfl, rfl, _, _, rfl, rfl, _, _, rfl, rfl, rfl⟩, ⟨_, rfl, rfl, rfl, _, rfl, _, _, rfl, rfl, _, _, rfl, rfl, _, _, rfl, rfl, _, _, rfl, rfl, rfl⟩, ⟨_, rfl, rfl, rfl, _, rfl, _, _, rfl, rfl, _, _, rfl, rfl, _, _, rfl, rfl, _, _, rfl, rfl, rfl⟩, trivial⟩ rfl
  refine (run_c (s.drop k)).eq rfl ?_
  refine (run1_c _ isAln alnum_c (s.drop k) (by omega)).eq rfl ?_
  refine And.intro (fun h1 => ?_) (fun h1 => ?_)
  · have h1 : (0 : Int) < (spanN isAln (s.drop k) : Nat) := h1
    refine ⟨⟨by omega, by show ((spanN isAln (s.drop k) : Nat) : Int) ≤ ((s.drop k).length : Nat); omega⟩, ?_⟩
    have hpos : 0 < spanN isAln (s.drop k) := by omega
    have htl : ((s.drop k).take (spanN isAln (s.drop k))).length = spanN isAln (s.drop k) := by rw [List.length_take]; omega
    have hK := isKey_c ((s.drop k).take (spanN isAln (s.drop k)))
    by_cases hkey : inL keysL ((s.drop k).take (spanN isAln (s.drop k))) = true
    rotate_left
    · rw [Bool.not_eq_true] at hkey
      rw [hkey] at hK
      refine hK.eq rfl ?_
      obtain ⟨c, r, hcr⟩ : ∃ c r, (s.drop k).take (spanN isAln (s.drop k)) = c :: r := by
        cases ht : (s.drop k).take (spanN isAln (s.drop k)) with
        | nil => rw [ht] at htl; simp at htl; omega
        | cons c r => exact ⟨c, r, rfl⟩
      refine ⟨_, ⟨by omega, c, by show ((s.drop k).take (spanN isAln (s.drop k)))[0]? = _; rw [hcr]; rfl, rfl⟩, ?_⟩
      have hD := digit_c c
      by_cases hd : isDig c = true
      rotate_left
      · rw [Bool.not_eq_true] at hd
        rw [hd] at hD
        refine hD.eq rfl ?_
        have e1 := (show oneN (s.drop k) = (1, (s.drop k).take (spanN isAln (s.drop k))) by rw [oneN, if_pos hpos, if_neg (by rw [hkey]; simp), if_neg (by rw [hcr]; simp [hd])])
        have hl := (show k + ((s.drop k).take (spanN isAln (s.drop k))).length ≤ s.length by omega)
        have hP := proper_c 1 ((s.drop k).take (spanN isAln (s.drop k))) (by omega)
        by_cases hp : rightN 1 ((s.drop k).take (spanN isAln (s.drop k))) = true
        rotate_left
        · rw [Bool.not_eq_true] at hp
          rw [hp] at hP
          refine hP.eq rfl ?_
          refine ⟨[], [], [], .panicked [⟨.p (err (at_ s k) 370), false⟩], rs s k, rfl, ⟨_, rfl, _, _, rfl, rfl, rfl⟩, ⟨⟨_, rfl, rfl, rfl, _, rfl, _, _, rfl, rfl, _, _, rfl, rfl, _, _, rfl, rfl, _, _, rfl, rfl, rfl⟩, trivial⟩, ?_⟩
          rw [e1]
          show (match rightN 1 ((s.drop k).take (spanN isAln (s.drop k))) with | true => _ | false => _)
          rw [hp]
          exact ⟨rfl, rfl⟩
        · rw [hp] at hP
          refine hP.eq rfl ?_
          refine (step_c s hs k (List.length ((s.drop k).take (spanN isAln (s.drop k)))) (by omega)).useE [] [] rfl ⟨⟨_, rfl, rfl, rfl, _, rfl, _, _, rfl, rfl, _, _, rfl, rfl, _, _, rfl, rfl, _, _, rfl, rfl, rfl⟩, trivial⟩ ⟨_, _, rfl, ⟨rfl, rfl⟩, _, _, rfl, rfl, rfl⟩ ?_
          refine ⟨[], [], [], .returned (.p (.agg (Wd.cells ⟨1, ((s.drop k).take (spanN isAln (s.drop k))), (at_ s k).1, (at_ s k).2⟩))), rs s (k + (List.length ((s.drop k).take (spanN isAln (s.drop k))))), rfl, ⟨_, rfl, rfl⟩, ⟨⟨_, rfl, rfl, rfl, _, rfl, _, _, rfl, rfl, _, _, rfl, rfl, _, _, rfl, rfl, _, _, rfl, rfl, rfl⟩, trivial⟩, ?_⟩
          rw [e1]
          show (match rightN 1 ((s.drop k).take (spanN isAln (s.drop k))) with | true => _ | false => _)
          rw [hp]
          exact ⟨by omega, rfl, rfl⟩
      · rw [hd] at hD
        refine hD.eq rfl ?_
        have e1 := (show oneN (s.drop k) = (3, (s.drop k).take (spanN isAln (s.drop k))) by rw [oneN, if_pos hpos, if_neg (by rw [hkey]; simp), if_pos (by rw [hcr]; simp [hd])])
        have hl := (show k + ((s.drop k).take (spanN isAln (s.drop k))).length ≤ s.length by omega)
        have hP := proper_c 3 ((s.drop k).take (spanN isAln (s.drop k))) (by omega)
        by_cases hp : rightN 3 ((s.drop k).take (spanN isAln (s.drop k))) = true
        rotate_left
        · rw [Bool.not_eq_true] at hp
          rw [hp] at hP
          refine hP.eq rfl ?_
          refine ⟨[], [], [], .panicked [⟨.p (err (at_ s k) 370), false⟩], rs s k, rfl, ⟨_, rfl, _, _, rfl, rfl, rfl⟩, ⟨⟨_, rfl, rfl, rfl, _, rfl, _, _, rfl, rfl, _, _, rfl, rfl, _, _, rfl, rfl, _, _, rfl, rfl, rfl⟩, trivial⟩, ?_⟩
          rw [e1]
          show (match rightN 3 ((s.drop k).take (spanN isAln (s.drop k))) with | true => _ | false => _)
          rw [hp]
          exact ⟨rfl, rfl⟩
        · rw [hp] at hP
          refine hP.eq rfl ?_
          refine (step_c s hs k (List.length ((s.drop k).take (spanN isAln (s.drop k)))) (by omega)).useE [] [] rfl ⟨⟨_, rfl, rfl, rfl, _, rfl, _, _, rfl, rfl, _, _, rfl, rfl, _, _, rfl, rfl, _, _, rfl, rfl, rfl⟩, trivial⟩ ⟨_, _, rfl, ⟨rfl, rfl⟩, _, _, rfl, rfl, rfl⟩ ?_
          refine ⟨[], [], [], .returned (.p (.agg (Wd.cells ⟨3, ((s.drop k).take (spanN isAln (s.drop k))), (at_ s k).1, (at_ s k).2⟩))), rs s (k + (List.length ((s.drop k).take (spanN isAln (s.drop k))))), rfl, ⟨_, rfl, rfl⟩, ⟨⟨_, rfl, rfl, rfl, _, rfl, _, _, rfl, rfl, _, _, rfl, rfl, _, _, rfl, rfl, _, _, rfl, rfl, rfl⟩, trivial⟩, ?_⟩
          rw [e1]
          show (match rightN 3 ((s.drop k).take (spanN isAln (s.drop k))) with | true => _ | false => _)
          rw [hp]
          exact ⟨by omega, rfl, rfl⟩
    · rw [hkey] at hK
      refine hK.eq rfl ?_
      have e1 := (show oneN (s.drop k) = (2, (s.drop k).take (spanN isAln (s.drop k))) by rw [oneN, if_pos hpos, if_pos hkey])
      have hl := (show k + ((s.drop k).take (spanN isAln (s.drop k))).length ≤ s.length by omega)
      have hP := proper_c 2 ((s.drop k).take (spanN isAln (s.drop k))) (by omega)
      by_cases hp : rightN 2 ((s.drop k).take (spanN isAln (s.drop k))) = true
      rotate_left
      · rw [Bool.not_eq_true] at hp
        rw [hp] at hP
        refine hP.eq rfl ?_
        refine ⟨[], [], [], .panicked [⟨.p (err (at_ s k) 370), false⟩], rs s k, rfl, ⟨_, rfl, _, _, rfl, rfl, rfl⟩, ⟨⟨_, rfl, rfl, rfl, _, rfl, _, _, rfl, rfl, _, _, rfl, rfl, _, _, rfl, rfl, _, _, rfl, rfl, rfl⟩, trivial⟩, ?_⟩
        rw [e1]
        show (match rightN 2 ((s.drop k).take (spanN isAln (s.drop k))) with | true => _ | false => _)
        rw [hp]
        exact ⟨rfl, rfl⟩
      · rw [hp] at hP
        refine hP.eq rfl ?_
        refine (step_c s hs k (List.length ((s.drop k).take (spanN isAln (s.drop k)))) (by omega)).useE [] [] rfl ⟨⟨_, rfl, rfl, rfl, _, rfl, _, _, rfl, rfl, _, _, rfl, rfl, _, _, rfl, rfl, _, _, rfl, rfl, rfl⟩, trivial⟩ ⟨_, _, rfl, ⟨rfl, rfl⟩, _, _, rfl, rfl, rfl⟩ ?_
        refine ⟨[], [], [], .returned (.p (.agg (Wd.cells ⟨2, ((s.drop k).take (spanN isAln (s.drop k))), (at_ s k).1, (at_ s k).2⟩))), rs s (k + (List.length ((s.drop k).take (spanN isAln (s.drop k))))), rfl, ⟨_, rfl, rfl⟩, ⟨⟨_, rfl, rfl, rfl, _, rfl, _, _, rfl, rfl, _, _, rfl, rfl, _, _, rfl, rfl, _, _, rfl, rfl, rfl⟩, trivial⟩, ?_⟩
        rw [e1]
        show (match rightN 2 ((s.drop k).take (spanN isAln (s.drop k))) with | true => _ | false => _)
        rw [hp]
        exact ⟨by omega, rfl, rfl⟩
  · have h1 : ¬ (0 : Int) < (spanN isAln (s.drop k) : Nat) := h1
    have hpos : ¬ 0 < spanN isAln (s.drop k) := by omega
    have ht1 : ((s.drop k).take 1).length = 1 := by rw [List.length_take]; omega
    refine And.intro (fun h2 => ?_) (fun h2 => ?_)
    · have h2 : (1 : Int) < ((s.drop k).length : Nat) := h2
      have ht2 : ((s.drop k).take 2).length = 2 := by rw [List.length_take]; omega
      refine ⟨⟨by omega, by show (2 : Int) ≤ ((s.drop k).length : Nat); omega⟩, ?_⟩
      have hM := isMark_c ((s.drop k).take 2)
      by_cases hm : inL marksL ((s.drop k).take 2) = true
      rotate_left
      · rw [Bool.not_eq_true] at hm
        rw [hm] at hM
        refine hM.eq rfl ?_
        refine ⟨⟨by omega, by show (1 : Int) ≤ ((s.drop k).length : Nat); omega⟩, ?_⟩
        have e1 := (show oneN (s.drop k) = (4, (s.drop k).take 1) by rw [oneN, if_neg hpos, if_neg (by rw [hm]; simp)])
        have hl := (show k + ((s.drop k).take 1).length ≤ s.length by omega)
        have hP := proper_c 4 ((s.drop k).take 1) (by omega)
        by_cases hp : rightN 4 ((s.drop k).take 1) = true
        rotate_left
        · rw [Bool.not_eq_true] at hp
          rw [hp] at hP
          refine hP.eq rfl ?_
          refine ⟨[], [], [], .panicked [⟨.p (err (at_ s k) 370), false⟩], rs s k, rfl, ⟨_, rfl, _, _, rfl, rfl, rfl⟩, ⟨⟨_, rfl, rfl, rfl, _, rfl, _, _, rfl, rfl, _, _, rfl, rfl, _, _, rfl, rfl, _, _, rfl, rfl, rfl⟩, trivial⟩, ?_⟩
          rw [e1]
          show (match rightN 4 ((s.drop k).take 1) with | true => _ | false => _)
          rw [hp]
          exact ⟨rfl, rfl⟩
        · rw [hp] at hP
          refine hP.eq rfl ?_
          refine (step_c s hs k (List.length ((s.drop k).take 1)) (by omega)).useE [] [] rfl ⟨⟨_, rfl, rfl, rfl, _, rfl, _, _, rfl, rfl, _, _, rfl, rfl, _, _, rfl, rfl, _, _, rfl, rfl, rfl⟩, trivial⟩ ⟨_, _, rfl, ⟨rfl, rfl⟩, _, _, rfl, rfl, rfl⟩ ?_
          refine ⟨[], [], [], .returned (.p (.agg (Wd.cells ⟨4, ((s.drop k).take 1), (at_ s k).1, (at_ s k).2⟩))), rs s (k + (List.length ((s.drop k).take 1))), rfl, ⟨_, rfl, rfl⟩, ⟨⟨_, rfl, rfl, rfl, _, rfl, _, _, rfl, rfl, _, _, rfl, rfl, _, _, rfl, rfl, _, _, rfl, rfl, rfl⟩, trivial⟩, ?_⟩
          rw [e1]
          show (match rightN 4 ((s.drop k).take 1) with | true => _ | false => _)
          rw [hp]
          exact ⟨by omega, rfl, rfl⟩
      · rw [hm] at hM
        refine hM.eq rfl ?_
        refine ⟨⟨by omega, by show (2 : Int) ≤ ((s.drop k).length : Nat); omega⟩, ?_⟩
        have e1 := (show oneN (s.drop k) = (4, (s.drop k).take 2) by rw [oneN, if_neg hpos, if_pos (by rw [hm, decide_eq_true (by omega)]; rfl)])
        have hl := (show k + ((s.drop k).take 2).length ≤ s.length by omega)
        have hP := proper_c 4 ((s.drop k).take 2) (by omega)
        by_cases hp : rightN 4 ((s.drop k).take 2) = true
        rotate_left
        · rw [Bool.not_eq_true] at hp
          rw [hp] at hP
          refine hP.eq rfl ?_
          refine ⟨[], [], [], .panicked [⟨.p (err (at_ s k) 370), false⟩], rs s k, rfl, ⟨_, rfl, _, _, rfl, rfl, rfl⟩, ⟨⟨_, rfl, rfl, rfl, _, rfl, _, _, rfl, rfl, _, _, rfl, rfl, _, _, rfl, rfl, _, _, rfl, rfl, rfl⟩, trivial⟩, ?_⟩
          rw [e1]
          show (match rightN 4 ((s.drop k).take 2) with | true => _ | false => _)
          rw [hp]
          exact ⟨rfl, rfl⟩
        · rw [hp] at hP
          refine hP.eq rfl ?_
          refine (step_c s hs k (List.length ((s.drop k).take 2)) (by omega)).useE [] [] rfl ⟨⟨_, rfl, rfl, rfl, _, rfl, _, _, rfl, rfl, _, _, rfl, rfl, _, _, rfl, rfl, _, _, rfl, rfl, rfl⟩, trivial⟩ ⟨_, _, rfl, ⟨rfl, rfl⟩, _, _, rfl, rfl, rfl⟩ ?_
          refine ⟨[], [], [], .returned (.p (.agg (Wd.cells ⟨4, ((s.drop k).take 2), (at_ s k).1, (at_ s k).2⟩))), rs s (k + (List.length ((s.drop k).take 2))), rfl, ⟨_, rfl, rfl⟩, ⟨⟨_, rfl, rfl, rfl, _, rfl, _, _, rfl, rfl, _, _, rfl, rfl, _, _, rfl, rfl, _, _, rfl, rfl, rfl⟩, trivial⟩, ?_⟩
          rw [e1]
          show (match rightN 4 ((s.drop k).take 2) with | true => _ | false => _)
          rw [hp]
          exact ⟨by omega, rfl, rfl⟩
    · have h2 : ¬ (1 : Int) < ((s.drop k).length : Nat) := h2
      refine ⟨⟨by omega, by show (1 : Int) ≤ ((s.drop k).length : Nat); omega⟩, ?_⟩
      have e1 := (show oneN (s.drop k) = (4, (s.drop k).take 1) by rw [oneN, if_neg hpos, if_neg (by rw [decide_eq_false (by omega)]; simp)])
      have hl := (show k + ((s.drop k).take 1).length ≤ s.length by omega)
      have hP := proper_c 4 ((s.drop k).take 1) (by omega)
      by_cases hp : rightN 4 ((s.drop k).take 1) = true
      rotate_left
      · rw [Bool.not_eq_true] at hp
        rw [hp] at hP
        refine hP.eq rfl ?_
        refine ⟨[], [], [], .panicked [⟨.p (err (at_ s k) 370), false⟩], rs s k, rfl, ⟨_, rfl, _, _, rfl, rfl, rfl⟩, ⟨⟨_, rfl, rfl, rfl, _, rfl, _, _, rfl, rfl, _, _, rfl, rfl, _, _, rfl, rfl, _, _, rfl, rfl, rfl⟩, trivial⟩, ?_⟩
        rw [e1]
        show (match rightN 4 ((s.drop k).take 1) with | true => _ | false => _)
        rw [hp]
        exact ⟨rfl, rfl⟩
      · rw [hp] at hP
        refine hP.eq rfl ?_
        refine (step_c s hs k (List.length ((s.drop k).take 1)) (by omega)).useE [] [] rfl ⟨⟨_, rfl, rfl, rfl, _, rfl, _, _, rfl, rfl, _, _, rfl, rfl, _, _, rfl, rfl, _, _, rfl, rfl, rfl⟩, trivial⟩ ⟨_, _, rfl, ⟨rfl, rfl⟩, _, _, rfl, rfl, rfl⟩ ?_
        refine ⟨[], [], [], .returned (.p (.agg (Wd.cells ⟨4, ((s.drop k).take 1), (at_ s k).1, (at_ s k).2⟩))), rs s (k + (List.length ((s.drop k).take 1))), rfl, ⟨_, rfl, rfl⟩, ⟨⟨_, rfl, rfl, rfl, _, rfl, _, _, rfl, rfl, _, _, rfl, rfl, _, _, rfl, rfl, _, _, rfl, rfl, rfl⟩, trivial⟩, ?_⟩
        rw [e1]
        show (match rightN 4 ((s.drop k).take 1) with | true => _ | false => _)
        rw [hp]
        exact ⟨by omega, rfl, rfl⟩
end Go.Proofs.YtemlkodkohgmmaaDoor
