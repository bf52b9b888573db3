/- The statements' helpers, and the chapter's examples. -/
import Derived.Test.YtemlkodkohgmmaaDoorLr
namespace Go.Proofs.YtemlkodkohgmmaaDoor
open Go Y
set_option maxRecDepth 100000
set_option maxHeartbeats 4000000

/-- What Read returns: words, line, column, error. -/
def readT (s : List UInt8) : List Wd × Int × Int × Int :=
  if 8000 < s.length then ([], 0, 0, 3)
  else match readR s with
    | .ok ws => (ws, 0, 0, 0)
    | .err p c => ([], p.1, p.2, c)
theorem readV_T (s : List UInt8) : readV s = [.lsts 4 ((readT s).1.map Wd.cells), i64 (readT s).2.1, i64 (readT s).2.2.1, i64 (readT s).2.2.2] := by
  unfold readV readT
  split
  · rfl
  · split <;> rename_i h <;> rw [h] <;> rfl
theorem readT_len (s : List UInt8) : (readT s).1.length ≤ 1500 := by
  unfold readT
  split
  · simp
  · split
    · rename_i h; exact readR_ok h
    · simp
theorem readW_c (s : List UInt8) : Pure cx 10 [.str s] (· = .ret [.lsts 4 ((readT s).1.map Wd.cells), i64 (readT s).2.1, i64 (readT s).2.2.1, i64 (readT s).2.2.2]) := by
  rw [← readV_T]; exact read_c s
theorem rReadW_c (s : List UInt8) : Pure cx 11 [.str s] (· = .ret [.lsts 4 ((readT s).1.map Wd.cells), i64 (readT s).2.1, i64 (readT s).2.2.1, i64 (readT s).2.2.2]) := by
  rw [← readV_T]; exact rRead_c s

theorem lawWord_c (k : Int) (t : List UInt8) (l c : Int) : Pure cx 27 [i64 k, .str t, i64 l, i64 c] (· = .ret [.agg (Wd.mk k t l c).cells]) := by
  refine pure_of_vc Tryd.func27 rfl rfl rfl ?_
  exact end1 _ rfl rfl rfl

def givesN (s : List UInt8) (ws : List Wd) : Bool := decide (readT s = (ws, 0, 0, 0))
theorem gives_c (s : List UInt8) (ws : List Wd) (hw : ws.length ≤ 100000) : Pure cx 18 [.str s, .lsts 4 (ws.map Wd.cells)] (· = .ret [.bool (givesN s ws)]) := by
  refine pure_of_vc Tryd.func18 rfl rfl rfl ?_
  have hr := readW_c s
  have hn := readT_len s
  have hg : givesN s ws = decide (readT s = (ws, 0, 0, 0)) := rfl
  generalize readT s = r at hr hg hn
  obtain ⟨us, a, b, e⟩ := r
  simp only [] at hr hn
  refine hr.eq rfl ?_
  refine And.intro (fun h1 => ?_) (fun h1 => ?_)
  · have h1 : e = 0 := h1
    refine And.intro (fun h2 => ?_) (fun h2 => ?_)
    · have h2 : a = 0 := h2
      refine And.intro (fun h3 => ?_) (fun h3 => ?_)
      · have h3 : b = 0 := h3
        refine (same_c us ws (by omega) hw).eq rfl ?_
        exact end1 _ rfl rfl (retB (by rw [hg, h1, h2, h3]; simp))
      · have h3 : ¬ b = 0 := h3
        exact end1 _ rfl rfl (retB (by rw [hg]; simp [h3]))
    · have h2 : ¬ a = 0 := h2
      exact end1 _ rfl rfl (retB (by rw [hg]; simp [h2]))
  · have h1 : ¬ e = 0 := h1
    exact end1 _ rfl rfl (retB (by rw [hg]; simp [h1]))

def refusedN (s : List UInt8) (i j c : Int) : Bool := decide (readT s = ([], i, j, c))
theorem refused_c (s : List UInt8) (i j c : Int) : Pure cx 19 [.str s, i64 i, i64 j, i64 c] (· = .ret [.bool (refusedN s i j c)]) := by
  refine pure_of_vc Tryd.func19 rfl rfl rfl ?_
  have hr := readW_c s
  have hg : refusedN s i j c = decide (readT s = ([], i, j, c)) := rfl
  generalize readT s = r at hr hg
  obtain ⟨us, a, b, e⟩ := r
  simp only [] at hr
  refine hr.eq rfl ?_
  refine And.intro (fun h1 => ?_) (fun h1 => ?_)
  · have h1 : (((us.map Wd.cells).length : Nat) : Int) = 0 := h1
    rw [List.length_map] at h1
    have h1 : us = [] := List.eq_nil_of_length_eq_zero (by omega)
    refine And.intro (fun h2 => ?_) (fun h2 => ?_)
    · have h2 : a = i := h2
      refine And.intro (fun h3 => ?_) (fun h3 => ?_)
      · have h3 : b = j := h3
        refine And.intro (fun h4 => ?_) (fun h4 => ?_)
        · have h4 : e = c := h4
          exact end1 _ rfl rfl (retB (by rw [hg, h1, h2, h3, h4]; simp))
        · have h4 : ¬ e = c := h4
          exact end1 _ rfl rfl (retB (by rw [hg]; simp [h4]))
      · have h3 : ¬ b = j := h3
        exact end1 _ rfl rfl (retB (by rw [hg]; simp [h3]))
    · have h2 : ¬ a = i := h2
      exact end1 _ rfl rfl (retB (by rw [hg]; simp [h2]))
  · have h1 : ¬ (((us.map Wd.cells).length : Nat) : Int) = 0 := h1
    rw [List.length_map] at h1
    exact end1 _ rfl rfl (retB (by rw [hg, eq_comm, decide_eq_false_iff_not]; intro e; injection e with e; subst e; exact h1 rfl))

def joinsN (t : List UInt8) (l : List Wd) : Bool := decide (joinN l = (t, 0))
theorem joins_c (t : List UInt8) (l : List Wd) (ht : ∀ w ∈ l, w.text.length ≤ 100000) : Pure cx 31 [.str t, .lsts 4 (l.map Wd.cells)] (· = .ret [.bool (joinsN t l)]) := by
  refine pure_of_vc Tryd.func31 rfl rfl rfl ?_
  have hr := join_c l ht
  have hg : joinsN t l = decide (joinN l = (t, 0)) := rfl
  rw [joinV] at hr
  generalize joinN l = r at hr hg
  obtain ⟨u, e⟩ := r
  simp only [] at hr
  refine hr.eq rfl ?_
  refine And.intro (fun h1 => ?_) (fun h1 => ?_)
  · have h1 : u = t := h1
    refine And.intro (fun h2 => ?_) (fun h2 => ?_)
    · have h2 : e = 0 := h2
      exact end1 _ rfl rfl (retB (by rw [hg, h1, h2]; simp))
    · have h2 : ¬ e = 0 := h2
      exact end1 _ rfl rfl (retB (by rw [hg]; simp [h2]))
  · have h1 : ¬ u = t := h1
    exact end1 _ rfl rfl (retB (by rw [hg]; simp [h1]))
theorem apart_c (l : List Wd) (ht : ∀ w ∈ l, w.text.length ≤ 100000) : Pure cx 30 [.lsts 4 (l.map Wd.cells)] (· = .ret [i64 (joinN l).2]) := by
  refine pure_of_vc Tryd.func30 rfl rfl rfl ?_
  refine (join_c l ht).eq rfl ?_
  exact end1 _ rfl rfl rfl
end Go.Proofs.YtemlkodkohgmmaaDoor
