/- The reference's Join. -/
import Derived.Test.YtemlkodkohgmmaaDoorLq
namespace Go.Proofs.YtemlkodkohgmmaaDoor
open Go Y
set_option maxRecDepth 100000
set_option maxHeartbeats 4000000



theorem gap_le (a b : Nat) {w : Wd} (h1 : w.line ≤ 8000) (h2 : w.col ≤ 8000) : (gapN a b w).length ≤ 16000 := by
  rw [gap_len]; split <;> omega
theorem takeUbN {xs : List UInt8} {n : Nat} : (xs.take n).map ub = ((xs.map ub).drop 0).take n := by rw [List.drop_zero, List.map_take]

structure JS where
  k : Nat
  a : Nat
  b : Nat
  lg : Nat
  n : Nat
  xs : List UInt8
  pre : List UInt8
structure JI where
  a : Nat
  b : Nat
  n : Nat
  xs : List UInt8

def jSl (l : List Wd) (k a b lg n : Nat) : List (Nat × AV) := [(0, .p (.lsts 4 (l.map Wd.cells))), (5, .p (i64 a)), (6, .p (i64 b)), (7, .p (i64 lg)), (8, .sl 0 1 0 n), (9, .p (i64 k))]
def jSl' (l : List Wd) (k a b lg n : Nat) : List (Nat × AV) := (10, .ptr 1 0 0) :: jSl l k a b lg n
def jHp (xs : List UInt8) : Hp := ⟨1, [(0, bldO xs)]⟩
def jHp' (xs : List UInt8) (w : Wd) : Hp := ⟨2, [(1, wdO w), (0, bldO xs)]⟩

theorem rJoin_c (l : List Wd) (ht : ∀ w ∈ l, w.text.length ≤ 100000) : Pure cx 17 [.lsts 4 (l.map Wd.cells)] (· = .ret (joinV l)) := by
  refine pure_of_vc Tryd.func17 rfl rfl rfl ?_
  refine And.intro (fun h1 => ?_) (fun h1 => ?_)
  · have h1 : (1500 : Int) < ((l.map Wd.cells).length : Nat) := h1
    rw [List.length_map] at h1
    exact end2 _ _ rfl rfl rfl (joinV_of (by rw [joinN, if_pos (by omega)]))
  · have h1 : ¬ (1500 : Int) < ((l.map Wd.cells).length : Nat) := h1
    rw [List.length_map] at h1
    refine ⟨Nat, fun k => [(0, .p (.lsts 4 (l.map Wd.cells))), (4, .p (i64 k))], fun _ => ⟨0, []⟩, fun k => k ≤ l.length ∧ ∀ w ∈ l.take k, checkN w = true, fun k => l.length - k, ?_, ?_⟩
    · exact ⟨0, ⟨by omega, by simp⟩, ent0 rfl ⟨rfl, rfl, trivial⟩ trivial rfl⟩
    · rintro k ⟨hk0, hall⟩
      refine And.intro (fun h2 => ?_) (fun h2 => ?_)
      · have h2 : (k : Int) < ((l.map Wd.cells).length : Nat) := h2
        rw [List.length_map] at h2
        have hk : k < l.length := by omega
        refine ⟨_, ⟨by omega, l[k].cells, wcell hk, rfl⟩, ?_⟩
        have hP := rRightW_c l[k] (ht _ (List.getElem_mem hk))
        by_cases hw : checkN l[k] = true
        · rw [hw] at hP
          refine hP.eq rfl ?_
          refine ⟨(k : Int) + 1, wrap_i64 (by omega) (by omega), k + 1, ⟨hk, all_step hall hk hw⟩, ent_of [] [] [] rfl ⟨rfl, rfl, trivial⟩ trivial rfl, ?_⟩
          show l.length - (k + 1) < l.length - k
          omega
        · rw [Bool.not_eq_true] at hw
          rw [hw] at hP
          refine hP.eq rfl ?_
          exact end2 _ _ rfl rfl rfl (joinV_of (by rw [joinN, if_neg (by omega), if_pos]; rw [List.all_eq_false]; exact ⟨_, List.getElem_mem hk, by rw [hw]; simp⟩))
      · have h2 : ¬ (k : Int) < ((l.map Wd.cells).length : Nat) := h2
        rw [List.length_map] at h2
        have hall := all_take hall (by omega)
        have hall' : ¬ l.all checkN = false := by rw [Bool.not_eq_false, List.all_eq_true]; exact hall
        clear hk0 h2
        refine ⟨JS, fun x => jSl l x.k x.a x.b x.lg x.n, fun x => jHp x.xs, fun x => x.k ≤ l.length ∧ (1 ≤ x.a ∧ x.a ≤ 8000 ∧ 1 ≤ x.b ∧ x.b ≤ 8010) ∧ x.n ≤ x.xs.length ∧ x.n ≤ 8000 ∧ (x.lg = 0 ∧ x.xs.take x.n = x.pre ∨ x.lg = 1 ∧ 8000 < x.pre.length) ∧ putN 1 1 l = (putN x.a x.b (l.drop x.k)).map (x.pre ++ ·), fun x => l.length - x.k, ?_, ?_⟩
        · exact ⟨⟨0, 1, 1, 0, 0, [], []⟩, ⟨by simp, by simp, by simp, by simp, by simp, by simp⟩, ent_of [] [] [(0, 1)] rfl (by (repeat' first | exact trivial | exact rfl | exact ⟨rfl, rfl⟩ | exact .inl rfl | refine ⟨_, rfl, rfl, rfl, ?_⟩ | refine ⟨_, _, rfl, ?_, ?_⟩ | refine ⟨_, rfl, ?_⟩ | refine And.intro ?_ ?_)) (by (repeat' first | exact trivial | exact rfl | exact ⟨rfl, rfl⟩ | exact .inl rfl | refine ⟨_, rfl, rfl, rfl, ?_⟩ | refine ⟨_, _, rfl, ?_, ?_⟩ | refine ⟨_, rfl, ?_⟩ | refine And.intro ?_ ?_)) rfl⟩
        · rintro ⟨k, a, b, lg, n, xs, pre⟩ ⟨g1, ⟨g2, g3, g4, g5⟩, g6, g7, g8, g9⟩
          simp only [] at g1 g2 g3 g4 g5 g6 g7 g8 g9
          refine And.intro (fun h2 => ?_) (fun h2 => ?_)
          · have h2 : (k : Int) < ((l.map Wd.cells).length : Nat) := h2
            rw [List.length_map] at h2
            have hk : k < l.length := by omega
            refine ⟨_, ⟨by omega, l[k].cells, wcell hk, rfl⟩, ?_⟩
            rw [drop_cons hk] at g9
            obtain ⟨f1, f2, f3, f4, f5, f6⟩ := check_facts (hall l[k] (List.getElem_mem hk))
            generalize l[k] = w at g9 f1 f2 f3 f4 f5 f6 ⊢
            have bad : w.line.toNat < a ∨ w.line.toNat = a ∧ w.col.toNat < b → joinN l = ([], 371) := by
              intro hb
              rw [putN, if_pos hb] at g9
              rw [joinN, if_neg (by omega), if_neg hall', g9]
              rfl
            have hgl := gap_le a b f2 f4
            refine And.intro (fun h3 => ?_) (fun h3 => ?_)
            · have h3 : w.line < a := h3
              exact end2 _ _ rfl rfl rfl (joinV_of (bad (by omega)))
            · have h3 : ¬ w.line < a := h3
              refine And.intro (fun h4 => ?_) (fun h4 => ?_)
              · have h4 : w.line = a := h4
                refine And.intro (fun h5 => ?_) (fun h5 => ?_)
                · have h5 : w.col < b := h5
                  exact end2 _ _ rfl rfl rfl (joinV_of (bad (by omega)))
                · have h5 : ¬ w.col < b := h5
                  have hnb : ¬ (w.line.toNat < a ∨ w.line.toNat = a ∧ w.col.toNat < b) := by omega
                  rw [putN, if_neg hnb, Option.map_map] at g9
                  refine ⟨JI, fun x => jSl' l k x.a x.b lg x.n, fun x => jHp' x.xs w, fun x => (1 ≤ x.a ∧ x.a ≤ 8000 ∧ 1 ≤ x.b ∧ x.b ≤ 8010) ∧ ¬ (w.line.toNat < x.a ∨ w.line.toNat = x.a ∧ w.col.toNat < x.b) ∧ x.n ≤ x.xs.length ∧ x.xs.take x.n ++ gapN x.a x.b w = xs.take n ++ gapN a b w, fun x => w.line.toNat - x.a, ?_, ?_⟩
                  · exact ⟨⟨a, b, n, xs⟩, ⟨⟨g2, g3, g4, g5⟩, hnb, g6, rfl⟩, ent_of [] [] [] rfl (by (repeat' first | exact trivial | exact rfl | exact ⟨rfl, rfl⟩ | exact .inl rfl | refine ⟨_, rfl, rfl, rfl, ?_⟩ | refine ⟨_, _, rfl, ?_, ?_⟩ | refine ⟨_, rfl, ?_⟩ | refine And.intro ?_ ?_)) (by (repeat' first | exact trivial | exact rfl | exact ⟨rfl, rfl⟩ | exact .inl rfl | refine ⟨_, rfl, rfl, rfl, ?_⟩ | refine ⟨_, _, rfl, ?_, ?_⟩ | refine ⟨_, rfl, ?_⟩ | refine And.intro ?_ ?_)) rfl⟩
                  · rintro ⟨a1, b1, n1, xs1⟩ ⟨⟨q1, q2, q3, q4⟩, q5, q6, q7⟩
                    simp only [] at q1 q2 q3 q4 q5 q6 q7
                    have hl1 := congrArg List.length q7
                    simp only [List.length_append, List.length_take, Nat.min_eq_left q6, Nat.min_eq_left g6] at hl1
                    refine And.intro (fun h6 => ?_) (fun h6 => ?_)
                    · have h6 : (a1 : Int) < w.line := h6
                      refine ⟨by show 0 + 1 ≤ 1; omega, [ub 10], rfl, ?_⟩
                      refine ⟨by show 0 + n1 ≤ (xs1.map ub).length; rw [List.length_map]; omega, (xs1.take n1).map ub, takeUbN, by show (n1 + 1) * 1 ≤ 140737488355328; omega, (xs1.take n1 ++ [10]).map ub, by simp, ?_⟩
                      refine ⟨(a1 : Int) + 1, wrap_i64 (by omega) (by omega), ⟨a1 + 1, 1, n1 + 1, xs1.take n1 ++ [10]⟩, ⟨⟨by simp only []; omega, by simp only []; omega, by simp only []; omega, by simp only []; omega⟩, by simp only []; omega, by simp; omega, ?_⟩, ent_of [] [(0, 3)] [] rfl (by (repeat' first | exact trivial | exact rfl | exact ⟨rfl, rfl⟩ | exact .inl rfl | refine ⟨_, rfl, rfl, rfl, ?_⟩ | refine ⟨_, _, rfl, ?_, ?_⟩ | refine ⟨_, rfl, ?_⟩ | refine And.intro ?_ ?_)) (by (repeat' first | exact trivial | exact rfl | exact ⟨rfl, rfl⟩ | exact .inl rfl | refine ⟨_, rfl, rfl, rfl, ?_⟩ | refine ⟨_, _, rfl, ?_, ?_⟩ | refine ⟨_, rfl, ?_⟩ | refine And.intro ?_ ?_)) rfl, by simp only []; omega⟩
                      simp only []
                      rw [← q7, gap_line (l := a1) (c := b1) (by omega), List.take_of_length_le (by simp; omega)]
                      simp
                    · have h6 : ¬ (a1 : Int) < w.line := h6
                      refine ⟨JI, fun x => jSl' l k a1 x.b lg x.n, fun x => jHp' x.xs w, fun x => (1 ≤ x.b ∧ x.b ≤ 8010) ∧ ¬ w.col.toNat < x.b ∧ x.n ≤ x.xs.length ∧ x.xs.take x.n ++ gapN a1 x.b w = xs.take n ++ gapN a b w, fun x => w.col.toNat - x.b, ?_, ?_⟩
                      · exact ⟨⟨a1, b1, n1, xs1⟩, ⟨⟨q3, q4⟩, by simp only []; omega, q6, q7⟩, ent_of [] [] [] rfl (by (repeat' first | exact trivial | exact rfl | exact ⟨rfl, rfl⟩ | exact .inl rfl | refine ⟨_, rfl, rfl, rfl, ?_⟩ | refine ⟨_, _, rfl, ?_, ?_⟩ | refine ⟨_, rfl, ?_⟩ | refine And.intro ?_ ?_)) (by (repeat' first | exact trivial | exact rfl | exact ⟨rfl, rfl⟩ | exact .inl rfl | refine ⟨_, rfl, rfl, rfl, ?_⟩ | refine ⟨_, _, rfl, ?_, ?_⟩ | refine ⟨_, rfl, ?_⟩ | refine And.intro ?_ ?_)) rfl⟩
                      · rintro ⟨a2, b2, n2, xs2⟩ ⟨⟨u1, u2⟩, u3, u4, u5⟩
                        simp only [] at u1 u2 u3 u4 u5
                        have hl2 := congrArg List.length u5
                        simp only [List.length_append, List.length_take, Nat.min_eq_left u4, Nat.min_eq_left g6] at hl2
                        refine And.intro (fun h7 => ?_) (fun h7 => ?_)
                        · have h7 : (b2 : Int) < w.col := h7
                          refine ⟨by show 0 + 1 ≤ 1; omega, [ub 32], rfl, ?_⟩
                          refine ⟨by show 0 + n2 ≤ (xs2.map ub).length; rw [List.length_map]; omega, (xs2.take n2).map ub, takeUbN, by show (n2 + 1) * 1 ≤ 140737488355328; omega, (xs2.take n2 ++ [32]).map ub, by simp, ?_⟩
                          refine ⟨(b2 : Int) + 1, wrap_i64 (by omega) (by omega), ⟨0, b2 + 1, n2 + 1, xs2.take n2 ++ [32]⟩, ⟨⟨by simp only []; omega, by simp only []; omega⟩, by simp only []; omega, by simp; omega, ?_⟩, ent_of [] [(0, 3)] [] rfl (by (repeat' first | exact trivial | exact rfl | exact ⟨rfl, rfl⟩ | exact .inl rfl | refine ⟨_, rfl, rfl, rfl, ?_⟩ | refine ⟨_, _, rfl, ?_, ?_⟩ | refine ⟨_, rfl, ?_⟩ | refine And.intro ?_ ?_)) (by (repeat' first | exact trivial | exact rfl | exact ⟨rfl, rfl⟩ | exact .inl rfl | refine ⟨_, rfl, rfl, rfl, ?_⟩ | refine ⟨_, _, rfl, ?_, ?_⟩ | refine ⟨_, rfl, ?_⟩ | refine And.intro ?_ ?_)) rfl, by simp only []; omega⟩
                          simp only []
                          rw [← u5, gap_col (l := a1) (c := b2) (by omega) (by omega), List.take_of_length_le (by simp; omega)]
                          simp
                        · have h7 : ¬ (b2 : Int) < w.col := h7
                          rw [gap_end (l := a1) (c := b2) (by omega) (by omega), List.append_nil] at u5
                          refine ⟨by show 0 + n2 ≤ (xs2.map ub).length; rw [List.length_map]; omega, (xs2.take n2).map ub, takeUbN, by show (n2 + w.text.length) * 1 ≤ 140737488355328; omega, (xs2.take n2 ++ w.text).map ub, by simp, ?_⟩
                          refine ⟨(b2 : Int) + (w.text.length : Nat), wrap_i64 (by omega) (by omega), ?_⟩
                          have e1 : w.line.toNat = a1 := by omega
                          have e2 : w.col.toNat = b2 := by omega
                          rw [e1, e2] at g9
                          have hcat : (xs2.take n2 ++ w.text).take (n2 + w.text.length) = xs2.take n2 ++ w.text := List.take_of_length_le (by simp; omega)
                          have hnl : (xs2.take n2).length = n2 := by rw [List.length_take]; omega
                          have g9' : putN 1 1 l = (putN a1 (b2 + w.text.length) (l.drop (k + 1))).map ((pre ++ (gapN a b w ++ w.text)) ++ ·) := by rw [g9]; congr 1; funext x; simp
                          refine And.intro (fun h8 => ?_) (fun h8 => ?_)
                          · have h8 : (8000 : Int) < ((n2 + w.text.length : Nat) : Int) := h8
                            refine ⟨by show (0 : Int) ≤ 0 ∧ (0 : Int) ≤ ((n2 + w.text.length : Nat) : Int); omega, ?_⟩
                            refine ⟨(k : Int) + 1, wrap_i64 (by omega) (by omega), ⟨k + 1, a1, b2 + w.text.length, 1, 0, xs2.take n2 ++ w.text, pre ++ (gapN a b w ++ w.text)⟩, ⟨hk, ⟨q1, q2, by simp only []; omega, by simp only []; omega⟩, by simp, by simp, .inr ⟨rfl, ?_⟩, g9'⟩, ent_of [] [(0, 2)] [] rfl (by (repeat' first | exact trivial | exact rfl | exact ⟨rfl, rfl⟩ | exact .inl rfl | refine ⟨_, rfl, rfl, rfl, ?_⟩ | refine ⟨_, _, rfl, ?_, ?_⟩ | refine ⟨_, rfl, ?_⟩ | refine And.intro ?_ ?_)) (by (repeat' first | exact trivial | exact rfl | exact ⟨rfl, rfl⟩ | exact .inl rfl | refine ⟨_, rfl, rfl, rfl, ?_⟩ | refine ⟨_, _, rfl, ?_, ?_⟩ | refine ⟨_, rfl, ?_⟩ | refine And.intro ?_ ?_)) rfl, by simp only []; omega⟩
                            simp only [List.length_append]
                            rcases g8 with ⟨_, g8⟩ | ⟨_, g8⟩
                            · rw [← g8, List.length_take]; omega
                            · omega
                          · have h8 : ¬ (8000 : Int) < ((n2 + w.text.length : Nat) : Int) := h8
                            refine ⟨(k : Int) + 1, wrap_i64 (by omega) (by omega), ⟨k + 1, a1, b2 + w.text.length, lg, n2 + w.text.length, xs2.take n2 ++ w.text, pre ++ (gapN a b w ++ w.text)⟩, ⟨hk, ⟨q1, q2, by simp only []; omega, by simp only []; omega⟩, by simp only [List.length_append]; omega, by simp only []; omega, ?_, g9'⟩, ent_of [] [(0, 2)] [] rfl (by (repeat' first | exact trivial | exact rfl | exact ⟨rfl, rfl⟩ | exact .inl rfl | refine ⟨_, rfl, rfl, rfl, ?_⟩ | refine ⟨_, _, rfl, ?_, ?_⟩ | refine ⟨_, rfl, ?_⟩ | refine And.intro ?_ ?_)) (by (repeat' first | exact trivial | exact rfl | exact ⟨rfl, rfl⟩ | exact .inl rfl | refine ⟨_, rfl, rfl, rfl, ?_⟩ | refine ⟨_, _, rfl, ?_, ?_⟩ | refine ⟨_, rfl, ?_⟩ | refine And.intro ?_ ?_)) rfl, by simp only []; omega⟩
                            simp only []
                            rcases g8 with ⟨g8', g8⟩ | ⟨g8', g8⟩
                            · exact .inl ⟨g8', by rw [hcat, u5, g8]; simp⟩
                            · exact .inr ⟨g8', by simp only [List.length_append]; omega⟩
              · have h4 : ¬ w.line = a := h4
                have hnb : ¬ (w.line.toNat < a ∨ w.line.toNat = a ∧ w.col.toNat < b) := by omega
                rw [putN, if_neg hnb, Option.map_map] at g9
                refine ⟨JI, fun x => jSl' l k x.a x.b lg x.n, fun x => jHp' x.xs w, fun x => (1 ≤ x.a ∧ x.a ≤ 8000 ∧ 1 ≤ x.b ∧ x.b ≤ 8010) ∧ ¬ (w.line.toNat < x.a ∨ w.line.toNat = x.a ∧ w.col.toNat < x.b) ∧ x.n ≤ x.xs.length ∧ x.xs.take x.n ++ gapN x.a x.b w = xs.take n ++ gapN a b w, fun x => w.line.toNat - x.a, ?_, ?_⟩
                · exact ⟨⟨a, b, n, xs⟩, ⟨⟨g2, g3, g4, g5⟩, hnb, g6, rfl⟩, ent_of [] [] [] rfl (by (repeat' first | exact trivial | exact rfl | exact ⟨rfl, rfl⟩ | exact .inl rfl | refine ⟨_, rfl, rfl, rfl, ?_⟩ | refine ⟨_, _, rfl, ?_, ?_⟩ | refine ⟨_, rfl, ?_⟩ | refine And.intro ?_ ?_)) (by (repeat' first | exact trivial | exact rfl | exact ⟨rfl, rfl⟩ | exact .inl rfl | refine ⟨_, rfl, rfl, rfl, ?_⟩ | refine ⟨_, _, rfl, ?_, ?_⟩ | refine ⟨_, rfl, ?_⟩ | refine And.intro ?_ ?_)) rfl⟩
                · rintro ⟨a1, b1, n1, xs1⟩ ⟨⟨q1, q2, q3, q4⟩, q5, q6, q7⟩
                  simp only [] at q1 q2 q3 q4 q5 q6 q7
                  have hl1 := congrArg List.length q7
                  simp only [List.length_append, List.length_take, Nat.min_eq_left q6, Nat.min_eq_left g6] at hl1
                  refine And.intro (fun h6 => ?_) (fun h6 => ?_)
                  · have h6 : (a1 : Int) < w.line := h6
                    refine ⟨by show 0 + 1 ≤ 1; omega, [ub 10], rfl, ?_⟩
                    refine ⟨by show 0 + n1 ≤ (xs1.map ub).length; rw [List.length_map]; omega, (xs1.take n1).map ub, takeUbN, by show (n1 + 1) * 1 ≤ 140737488355328; omega, (xs1.take n1 ++ [10]).map ub, by simp, ?_⟩
                    refine ⟨(a1 : Int) + 1, wrap_i64 (by omega) (by omega), ⟨a1 + 1, 1, n1 + 1, xs1.take n1 ++ [10]⟩, ⟨⟨by simp only []; omega, by simp only []; omega, by simp only []; omega, by simp only []; omega⟩, by simp only []; omega, by simp; omega, ?_⟩, ent_of [] [(0, 3)] [] rfl (by (repeat' first | exact trivial | exact rfl | exact ⟨rfl, rfl⟩ | exact .inl rfl | refine ⟨_, rfl, rfl, rfl, ?_⟩ | refine ⟨_, _, rfl, ?_, ?_⟩ | refine ⟨_, rfl, ?_⟩ | refine And.intro ?_ ?_)) (by (repeat' first | exact trivial | exact rfl | exact ⟨rfl, rfl⟩ | exact .inl rfl | refine ⟨_, rfl, rfl, rfl, ?_⟩ | refine ⟨_, _, rfl, ?_, ?_⟩ | refine ⟨_, rfl, ?_⟩ | refine And.intro ?_ ?_)) rfl, by simp only []; omega⟩
                    simp only []
                    rw [← q7, gap_line (l := a1) (c := b1) (by omega), List.take_of_length_le (by simp; omega)]
                    simp
                  · have h6 : ¬ (a1 : Int) < w.line := h6
                    refine ⟨JI, fun x => jSl' l k a1 x.b lg x.n, fun x => jHp' x.xs w, fun x => (1 ≤ x.b ∧ x.b ≤ 8010) ∧ ¬ w.col.toNat < x.b ∧ x.n ≤ x.xs.length ∧ x.xs.take x.n ++ gapN a1 x.b w = xs.take n ++ gapN a b w, fun x => w.col.toNat - x.b, ?_, ?_⟩
                    · exact ⟨⟨a1, b1, n1, xs1⟩, ⟨⟨q3, q4⟩, by simp only []; omega, q6, q7⟩, ent_of [] [] [] rfl (by (repeat' first | exact trivial | exact rfl | exact ⟨rfl, rfl⟩ | exact .inl rfl | refine ⟨_, rfl, rfl, rfl, ?_⟩ | refine ⟨_, _, rfl, ?_, ?_⟩ | refine ⟨_, rfl, ?_⟩ | refine And.intro ?_ ?_)) (by (repeat' first | exact trivial | exact rfl | exact ⟨rfl, rfl⟩ | exact .inl rfl | refine ⟨_, rfl, rfl, rfl, ?_⟩ | refine ⟨_, _, rfl, ?_, ?_⟩ | refine ⟨_, rfl, ?_⟩ | refine And.intro ?_ ?_)) rfl⟩
                    · rintro ⟨a2, b2, n2, xs2⟩ ⟨⟨u1, u2⟩, u3, u4, u5⟩
                      simp only [] at u1 u2 u3 u4 u5
                      have hl2 := congrArg List.length u5
                      simp only [List.length_append, List.length_take, Nat.min_eq_left u4, Nat.min_eq_left g6] at hl2
                      refine And.intro (fun h7 => ?_) (fun h7 => ?_)
                      · have h7 : (b2 : Int) < w.col := h7
                        refine ⟨by show 0 + 1 ≤ 1; omega, [ub 32], rfl, ?_⟩
                        refine ⟨by show 0 + n2 ≤ (xs2.map ub).length; rw [List.length_map]; omega, (xs2.take n2).map ub, takeUbN, by show (n2 + 1) * 1 ≤ 140737488355328; omega, (xs2.take n2 ++ [32]).map ub, by simp, ?_⟩
                        refine ⟨(b2 : Int) + 1, wrap_i64 (by omega) (by omega), ⟨0, b2 + 1, n2 + 1, xs2.take n2 ++ [32]⟩, ⟨⟨by simp only []; omega, by simp only []; omega⟩, by simp only []; omega, by simp; omega, ?_⟩, ent_of [] [(0, 3)] [] rfl (by (repeat' first | exact trivial | exact rfl | exact ⟨rfl, rfl⟩ | exact .inl rfl | refine ⟨_, rfl, rfl, rfl, ?_⟩ | refine ⟨_, _, rfl, ?_, ?_⟩ | refine ⟨_, rfl, ?_⟩ | refine And.intro ?_ ?_)) (by (repeat' first | exact trivial | exact rfl | exact ⟨rfl, rfl⟩ | exact .inl rfl | refine ⟨_, rfl, rfl, rfl, ?_⟩ | refine ⟨_, _, rfl, ?_, ?_⟩ | refine ⟨_, rfl, ?_⟩ | refine And.intro ?_ ?_)) rfl, by simp only []; omega⟩
                        simp only []
                        rw [← u5, gap_col (l := a1) (c := b2) (by omega) (by omega), List.take_of_length_le (by simp; omega)]
                        simp
                      · have h7 : ¬ (b2 : Int) < w.col := h7
                        rw [gap_end (l := a1) (c := b2) (by omega) (by omega), List.append_nil] at u5
                        refine ⟨by show 0 + n2 ≤ (xs2.map ub).length; rw [List.length_map]; omega, (xs2.take n2).map ub, takeUbN, by show (n2 + w.text.length) * 1 ≤ 140737488355328; omega, (xs2.take n2 ++ w.text).map ub, by simp, ?_⟩
                        refine ⟨(b2 : Int) + (w.text.length : Nat), wrap_i64 (by omega) (by omega), ?_⟩
                        have e1 : w.line.toNat = a1 := by omega
                        have e2 : w.col.toNat = b2 := by omega
                        rw [e1, e2] at g9
                        have hcat : (xs2.take n2 ++ w.text).take (n2 + w.text.length) = xs2.take n2 ++ w.text := List.take_of_length_le (by simp; omega)
                        have hnl : (xs2.take n2).length = n2 := by rw [List.length_take]; omega
                        have g9' : putN 1 1 l = (putN a1 (b2 + w.text.length) (l.drop (k + 1))).map ((pre ++ (gapN a b w ++ w.text)) ++ ·) := by rw [g9]; congr 1; funext x; simp
                        refine And.intro (fun h8 => ?_) (fun h8 => ?_)
                        · have h8 : (8000 : Int) < ((n2 + w.text.length : Nat) : Int) := h8
                          refine ⟨by show (0 : Int) ≤ 0 ∧ (0 : Int) ≤ ((n2 + w.text.length : Nat) : Int); omega, ?_⟩
                          refine ⟨(k : Int) + 1, wrap_i64 (by omega) (by omega), ⟨k + 1, a1, b2 + w.text.length, 1, 0, xs2.take n2 ++ w.text, pre ++ (gapN a b w ++ w.text)⟩, ⟨hk, ⟨q1, q2, by simp only []; omega, by simp only []; omega⟩, by simp, by simp, .inr ⟨rfl, ?_⟩, g9'⟩, ent_of [] [(0, 2)] [] rfl (by (repeat' first | exact trivial | exact rfl | exact ⟨rfl, rfl⟩ | exact .inl rfl | refine ⟨_, rfl, rfl, rfl, ?_⟩ | refine ⟨_, _, rfl, ?_, ?_⟩ | refine ⟨_, rfl, ?_⟩ | refine And.intro ?_ ?_)) (by (repeat' first | exact trivial | exact rfl | exact ⟨rfl, rfl⟩ | exact .inl rfl | refine ⟨_, rfl, rfl, rfl, ?_⟩ | refine ⟨_, _, rfl, ?_, ?_⟩ | refine ⟨_, rfl, ?_⟩ | refine And.intro ?_ ?_)) rfl, by simp only []; omega⟩
                          simp only [List.length_append]
                          rcases g8 with ⟨_, g8⟩ | ⟨_, g8⟩
                          · rw [← g8, List.length_take]; omega
                          · omega
                        · have h8 : ¬ (8000 : Int) < ((n2 + w.text.length : Nat) : Int) := h8
                          refine ⟨(k : Int) + 1, wrap_i64 (by omega) (by omega), ⟨k + 1, a1, b2 + w.text.length, lg, n2 + w.text.length, xs2.take n2 ++ w.text, pre ++ (gapN a b w ++ w.text)⟩, ⟨hk, ⟨q1, q2, by simp only []; omega, by simp only []; omega⟩, by simp only [List.length_append]; omega, by simp only []; omega, ?_, g9'⟩, ent_of [] [(0, 2)] [] rfl (by (repeat' first | exact trivial | exact rfl | exact ⟨rfl, rfl⟩ | exact .inl rfl | refine ⟨_, rfl, rfl, rfl, ?_⟩ | refine ⟨_, _, rfl, ?_, ?_⟩ | refine ⟨_, rfl, ?_⟩ | refine And.intro ?_ ?_)) (by (repeat' first | exact trivial | exact rfl | exact ⟨rfl, rfl⟩ | exact .inl rfl | refine ⟨_, rfl, rfl, rfl, ?_⟩ | refine ⟨_, _, rfl, ?_, ?_⟩ | refine ⟨_, rfl, ?_⟩ | refine And.intro ?_ ?_)) rfl, by simp only []; omega⟩
                          simp only []
                          rcases g8 with ⟨g8', g8⟩ | ⟨g8', g8⟩
                          · exact .inl ⟨g8', by rw [hcat, u5, g8]; simp⟩
                          · exact .inr ⟨g8', by simp only [List.length_append]; omega⟩
          · have h2 : ¬ (k : Int) < ((l.map Wd.cells).length : Nat) := h2
            rw [List.length_map] at h2
            rw [List.drop_eq_nil_of_le (by omega)] at g9
            have hput : putN 1 1 l = some pre := by rw [g9]; simp [putN]
            refine Or.elim g8 (fun g8' => ?_) (fun g8' => ?_)
            · clear g8
              obtain ⟨rfl, g8⟩ := g8'
              refine And.intro (fun h3 => ?_) (fun h3 => ?_)
              · have h3 : (0 : Int) < (0 : Nat) := h3
                omega
              · refine And.intro (fun h4 => ?_) (fun h4 => ?_)
                · have h4 : (8000 : Int) < n := h4
                  omega
                · obtain ⟨T, hTp⟩ : ∃ T, T = pre := ⟨_, rfl⟩
                  rw [← hTp] at hput g8
                  have hTl : T.length = n := by rw [← g8, List.length_take]; omega
                  have hstr : ((xs.map ub).drop 0).take n = T.map ub := by rw [List.drop_zero, ← List.map_take, g8]
                  refine ⟨_, ⟨by show 0 + n ≤ (xs.map ub).length; rw [List.length_map]; omega, T, hstr, rfl⟩, ?_⟩
                  refine Or.elim (rdC (readR T)) (fun hn => Exists.elim hn fun ws hrd => ?_) (fun hn => Exists.elim hn fun p hn => Exists.elim hn fun c hrd => ?_)
                  · have hR := rRead_c T
                    rw [show readV T = [.lsts 4 (ws.map Wd.cells), i64 0, i64 0, i64 0] by rw [readV, if_neg (by omega), hrd]] at hR
                    refine hR.eq rfl ?_
                    refine And.intro (fun h5 => ?_) (fun h5 => absurd (show (0 : Int) = 0 from rfl) h5)
                    have hE := same_c ws l (by have := readR_ok hrd; omega) (by omega)
                    by_cases he : ws = l
                    · rw [decide_eq_true he] at hE
                      refine hE.eq rfl ?_
                      refine ⟨_, ⟨by show 0 + n ≤ (xs.map ub).length; rw [List.length_map]; omega, T, hstr, rfl⟩, ?_⟩
                      exact end2 _ _ rfl rfl rfl (joinV_of (by rw [joinN, if_neg (by omega), if_neg hall', hput]; simp only []; rw [if_neg (by omega), hrd]; simp only []; rw [if_pos he]))
                    · rw [decide_eq_false he] at hE
                      refine hE.eq rfl ?_
                      exact end2 _ _ rfl rfl rfl (joinV_of (by rw [joinN, if_neg (by omega), if_neg hall', hput]; simp only []; rw [if_neg (by omega), hrd]; simp only []; rw [if_neg he]))
                  · have hR := rRead_c T
                    rw [show readV T = [.lsts 4 [], i64 p.1, i64 p.2, i64 c] by rw [readV, if_neg (by omega), hrd]] at hR
                    refine hR.eq rfl ?_
                    have hc0 := readR_err hrd
                    refine And.intro (fun h5 => ?_) (fun h5 => ?_)
                    · have h5 : c = 0 := h5
                      omega
                    · exact end2 _ _ rfl rfl rfl (joinV_of (by rw [joinN, if_neg (by omega), if_neg hall', hput]; simp only []; rw [if_neg (by omega), hrd]))
            · clear g8
              obtain ⟨rfl, g8⟩ := g8'
              refine And.intro (fun h3 => ?_) (fun h3 => ?_)
              · exact end2 _ _ rfl rfl rfl (joinV_of (by rw [joinN, if_neg (by omega), if_neg hall', hput]; simp only []; rw [if_pos (by omega)]))
              · have h3 : ¬ (0 : Int) < (1 : Nat) := h3
                omega
end Go.Proofs.YtemlkodkohgmmaaDoor
