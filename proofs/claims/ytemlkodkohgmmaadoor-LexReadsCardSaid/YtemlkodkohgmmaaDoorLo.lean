/- Where words stand: the text in which they stand at their places; measure. -/
import Derived.Test.YtemlkodkohgmmaaDoorLn
namespace Go.Proofs.YtemlkodkohgmmaaDoor
open Go Y
set_option maxRecDepth 100000
set_option maxHeartbeats 4000000

theorem inL_mem {l : List (List UInt8)} {s : List UInt8} (h : inL l s = true) : s ∈ l := by
  induction l with
  | nil => simp [inL] at h
  | cons x r ih =>
    simp only [inL, Bool.or_eq_true, decide_eq_true_eq] at h
    rcases h with rfl | h
    · simp
    · exact List.mem_cons_of_mem _ (ih h)

theorem right_len {k : Int} {t : List UInt8} (h : rightN k t = true) : 1 ≤ t.length ∧ t.length ≤ 10 := by
  have ne : ∀ {t : List UInt8}, t ≠ [] → 1 ≤ t.length := by intro t ht; cases t <;> simp at ht ⊢
  unfold rightN at h
  split at h
  · simp [nameN] at h; exact ⟨ne h.1.1.1.1, h.1.1.1.2⟩
  · split at h
    · exact (by decide : ∀ t ∈ keysL, 1 ≤ t.length ∧ t.length ≤ 10) t (inL_mem h)
    · split at h
      · simp [numN] at h
        exact ⟨ne h.1.1.1, by omega⟩
      · split at h
        · exact (by decide : ∀ t ∈ marksL, 1 ≤ t.length ∧ t.length ≤ 10) t (inL_mem h)
        · cases h

theorem check_facts {w : Wd} (h : checkN w = true) : 1 ≤ w.line ∧ w.line ≤ 8000 ∧ 1 ≤ w.col ∧ w.col ≤ 8000 ∧ 1 ≤ w.text.length ∧ w.text.length ≤ 10 := by
  simp only [checkN, Bool.and_eq_true, decide_eq_true_eq] at h
  obtain ⟨h1, h2, h3, h4, h5⟩ := h
  exact ⟨h1, h2, h3, h4, right_len h5⟩

/-- What stands between a place and a word behind it. -/
def gapN (l c : Nat) (w : Wd) : List UInt8 := List.replicate (w.line.toNat - l) 10 ++ List.replicate (w.col.toNat - (if l < w.line.toNat then 1 else c)) 32
theorem gap_line {l c : Nat} {w : Wd} (h : l < w.line.toNat) : gapN l c w = 10 :: gapN (l + 1) 1 w := by
  simp only [gapN, if_pos h]
  rw [show w.line.toNat - l = (w.line.toNat - (l + 1)) + 1 by omega, List.replicate_succ]
  simp
theorem gap_col {l c : Nat} {w : Wd} (h : ¬ l < w.line.toNat) (hc : c < w.col.toNat) : gapN l c w = 32 :: gapN l (c + 1) w := by
  simp only [gapN, if_neg h]
  rw [show w.line.toNat - l = 0 by omega, show w.col.toNat - c = (w.col.toNat - (c + 1)) + 1 by omega, List.replicate_succ]
  simp
theorem gap_end {l c : Nat} {w : Wd} (h : ¬ l < w.line.toNat) (hc : ¬ c < w.col.toNat) : gapN l c w = [] := by
  simp only [gapN, if_neg h]
  rw [show w.line.toNat - l = 0 by omega, show w.col.toNat - c = 0 by omega]
  simp
theorem gap_len (l c : Nat) (w : Wd) : (gapN l c w).length = (w.line.toNat - l) + (w.col.toNat - (if l < w.line.toNat then 1 else c)) := by simp [gapN]

def putN : Nat → Nat → List Wd → Option (List UInt8)
  | _, _, [] => some []
  | l, c, w :: r => if w.line.toNat < l ∨ w.line.toNat = l ∧ w.col.toNat < c then none
    else (putN w.line.toNat (w.col.toNat + w.text.length) r).map (gapN l c w ++ w.text ++ ·)

def measV (l : List Wd) : List PV := match putN 1 1 l with
  | none => [i64 0, .bool false]
  | some t => [i64 t.length, .bool true]

theorem drop_cons {α : Type} {l : List α} {k : Nat} (h : k < l.length) : l.drop k = l[k] :: l.drop (k + 1) := List.drop_eq_getElem_cons h

theorem wcell {l : List Wd} {k : Nat} (h : k < l.length) : (l.map Wd.cells)[k]? = some l[k].cells := by
  rw [List.getElem?_map, List.getElem?_eq_getElem h]; rfl

theorem measure_c (l : List Wd) (hl : l.length ≤ 1500) (hc : ∀ w ∈ l, checkN w = true) : Pure cx 40 [.lsts 4 (l.map Wd.cells)] (· = .ret (measV l)) := by
  refine pure_of_vc Tryd.func40 rfl rfl rfl ?_
  refine ⟨Nat × Nat × Nat × List UInt8, fun x => [(5, .p (i64 x.2.2.2.length)), (4, .ptr 0 0 0), (9, .p (.lsts 4 (l.map Wd.cells))), (10, .p (i64 (l.map Wd.cells).length)), (11, .p (i64 x.1))],
    fun x => ⟨1, [(0, ⟨60, false, .bx [.p (i64 x.2.1), .p (i64 x.2.2.1)]⟩)]⟩,
    fun x => x.1 ≤ l.length ∧ 1 ≤ x.2.1 ∧ x.2.1 ≤ 8000 ∧ 1 ≤ x.2.2.1 ∧ x.2.2.1 ≤ 8010 ∧ x.2.2.2.length ≤ x.1 * 16010 ∧ putN 1 1 l = (putN x.2.1 x.2.2.1 (l.drop x.1)).map (x.2.2.2 ++ ·), fun x => l.length - x.1, ?_, ?_⟩
  · exact ⟨(0, 1, 1, []), ⟨by simp, by simp, by simp, by simp, by simp, by simp, by simp⟩, ent0 rfl ⟨rfl, ⟨rfl, rfl⟩, rfl, rfl, rfl, trivial⟩ ⟨⟨_, rfl, rfl, rfl, _, rfl, _, _, rfl, rfl, _, _, rfl, rfl, rfl⟩, trivial⟩ rfl⟩
  · rintro ⟨k, a, b, pre⟩ ⟨g1, g2, g3, g4, g5, g6, g7⟩
    simp only [] at g1 g2 g3 g4 g5 g6 g7
    refine And.intro (fun h2 => ?_) (fun h2 => ?_)
    · have h2 : (k : Int) < ((l.map Wd.cells).length : Nat) := h2
      rw [List.length_map] at h2
      have hk : k < l.length := by omega
      refine ⟨_, ⟨by omega, l[k].cells, wcell hk, rfl⟩, ?_⟩
      rw [drop_cons hk] at g7
      obtain ⟨f1, f2, f3, f4, f5, f6⟩ := check_facts (hc l[k] (List.getElem_mem hk))
      generalize l[k] = w at g7 f1 f2 f3 f4 f5 f6 ⊢
      have hgl := gap_len a b w
      refine And.intro (fun h3 => ?_) (fun h3 => ?_)
      · have h3 : (a : Int) < w.line := h3
        rw [putN, if_neg (by omega), Option.map_map] at g7
        rw [if_pos (by omega)] at hgl
        refine ⟨w.line - a, wrap_i64 (by omega) (by omega), ?_⟩
        refine ⟨(pre.length : Int) + (w.line - a), wrap_i64 (by omega) (by omega), ?_⟩
        refine And.intro (fun h4 => ?_) (fun h4 => ?_)
        · have h4 : w.line < w.line := h4
          omega
        · refine And.intro (fun h5 => ?_) (fun h5 => ?_)
          · have h5 : w.col < 1 := h5
            omega
          · refine ⟨w.col - 1, wrap_i64 (by omega) (by omega), ?_⟩
            refine ⟨w.col - 1 + (w.text.length : Nat), wrap_i64 (by omega) (by omega), ?_⟩
            refine ⟨(pre.length : Int) + (w.line - a) + (w.col - 1 + (w.text.length : Nat)), wrap_i64 (by omega) (by omega), ?_⟩
            refine ⟨w.col + (w.text.length : Nat), wrap_i64 (by omega) (by omega), ?_⟩
            refine ⟨(k : Int) + 1, wrap_i64 (by omega) (by omega), ?_⟩
            have hlen : (pre ++ (gapN a b w ++ w.text)).length = pre.length + (w.line.toNat - a + (w.col.toNat - 1)) + w.text.length := by simp [hgl]; omega
            refine ⟨(k + 1, w.line.toNat, w.col.toNat + w.text.length, pre ++ (gapN a b w ++ w.text)), ⟨by simp only []; omega, by simp only []; omega, by simp only []; omega, by simp only []; omega, by simp only []; omega, by simp only []; rw [hlen]; omega, ?_⟩, ?_, by simp only []; omega⟩
            · rw [g7]; congr 1; funext x; simp
            · have e1 : (pre.length : Int) + (w.line - a) + (w.col - 1 + (w.text.length : Nat)) = (((pre ++ (gapN a b w ++ w.text)).length : Nat) : Int) := by rw [hlen]; omega
              have e2 : w.line = ((w.line.toNat : Nat) : Int) := by omega
              have e3 : w.col + (w.text.length : Nat) = ((w.col.toNat + w.text.length : Nat) : Int) := by omega
              refine ent_of [] [] [] rfl ⟨?_, ⟨rfl, rfl⟩, rfl, rfl, rfl, trivial⟩ ⟨⟨_, rfl, rfl, rfl, _, rfl, _, _, rfl, ?_, _, _, rfl, ?_, rfl⟩, trivial⟩ rfl
              · exact congrArg (fun z => i64 z) e1.symm
              · exact congrArg (fun z => i64 z) e2.symm
              · exact congrArg (fun z => i64 z) e3.symm
      · have h3 : ¬ (a : Int) < w.line := h3
        rw [if_neg (by omega)] at hgl
        refine And.intro (fun h4 => ?_) (fun h4 => ?_)
        · have h4 : w.line < a := h4
          rw [putN, if_pos (by omega)] at g7
          have e : measV l = [i64 0, .bool false] := by rw [measV, g7]; rfl
          rw [e]
          exact end2 _ _ rfl rfl rfl rfl
        · have h4 : ¬ w.line < a := h4
          refine And.intro (fun h5 => ?_) (fun h5 => ?_)
          · have h5 : w.col < b := h5
            rw [putN, if_pos (by omega)] at g7
            have e : measV l = [i64 0, .bool false] := by rw [measV, g7]; rfl
            rw [e]
            exact end2 _ _ rfl rfl rfl rfl
          · have h5 : ¬ w.col < b := h5
            rw [putN, if_neg (by omega), Option.map_map] at g7
            refine ⟨w.col - b, wrap_i64 (by omega) (by omega), ?_⟩
            refine ⟨w.col - b + (w.text.length : Nat), wrap_i64 (by omega) (by omega), ?_⟩
            refine ⟨(pre.length : Int) + (w.col - b + (w.text.length : Nat)), wrap_i64 (by omega) (by omega), ?_⟩
            refine ⟨w.col + (w.text.length : Nat), wrap_i64 (by omega) (by omega), ?_⟩
            refine ⟨(k : Int) + 1, wrap_i64 (by omega) (by omega), ?_⟩
            have hlen : (pre ++ (gapN a b w ++ w.text)).length = pre.length + (w.col.toNat - b) + w.text.length := by simp [hgl]; omega
            refine ⟨(k + 1, w.line.toNat, w.col.toNat + w.text.length, pre ++ (gapN a b w ++ w.text)), ⟨by simp only []; omega, by simp only []; omega, by simp only []; omega, by simp only []; omega, by simp only []; omega, by simp only []; rw [hlen]; omega, ?_⟩, ?_, by simp only []; omega⟩
            · rw [g7]; congr 1; funext x; simp
            · have e1 : (pre.length : Int) + (w.col - b + (w.text.length : Nat)) = (((pre ++ (gapN a b w ++ w.text)).length : Nat) : Int) := by rw [hlen]; omega
              have e2 : (a : Int) = ((w.line.toNat : Nat) : Int) := by omega
              have e3 : w.col + (w.text.length : Nat) = ((w.col.toNat + w.text.length : Nat) : Int) := by omega
              refine ent_of [] [] [] rfl ⟨?_, ⟨rfl, rfl⟩, rfl, rfl, rfl, trivial⟩ ⟨⟨_, rfl, rfl, rfl, _, rfl, _, _, rfl, ?_, _, _, rfl, ?_, rfl⟩, trivial⟩ rfl
              · exact congrArg (fun z => i64 z) e1.symm
              · exact congrArg (fun z => i64 z) e2.symm
              · exact congrArg (fun z => i64 z) e3.symm
    · have h2 : ¬ (k : Int) < ((l.map Wd.cells).length : Nat) := h2
      rw [List.length_map] at h2
      rw [List.drop_eq_nil_of_le (by omega)] at g7
      have e : measV l = [i64 pre.length, .bool true] := by rw [measV, g7]; simp [putN]
      rw [e]
      exact end2 _ _ rfl rfl rfl rfl
end Go.Proofs.YtemlkodkohgmmaaDoor
