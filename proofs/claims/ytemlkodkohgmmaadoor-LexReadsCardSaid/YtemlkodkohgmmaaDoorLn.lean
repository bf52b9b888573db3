/- Which words are valid; the keywords and the marks. -/
import Derived.Test.YtemlkodkohgmmaaDoorLm
import Derived.Test.YtemlkodkohgmmaaDoorBa
namespace Go.Proofs.YtemlkodkohgmmaaDoor
open Go Y
set_option maxRecDepth 100000
set_option maxHeartbeats 4000000

theorem takeAll {α : Type} {l : List α} {n : Nat} (h : l.length = n) : l = (l.drop 0).take n := by rw [List.drop_zero, List.take_of_length_le (by omega)]

def checkN (w : Wd) : Bool := decide (1 ≤ w.line) && (decide (w.line ≤ 8000) && (decide (1 ≤ w.col) && (decide (w.col ≤ 8000) && rightN w.kind w.text)))
def checkV (w : Wd) : Int := if checkN w then 0 else 370

theorem check_c (w : Wd) (ht : w.text.length ≤ 100000) : Pure cx 20 [.agg w.cells] (· = .ret [i64 (checkV w)]) := by
  refine pure_of_vc Tryd.func20 rfl rfl rfl ?_
  have bad : checkN w = false → PEnd.ret [i64 370] = .ret [i64 (checkV w)] := fun h => by rw [checkV, h]; rfl
  refine And.intro (fun h1 => ?_) (fun h1 => ?_)
  · have h1 : w.line < 1 := h1
    exact end1 _ rfl rfl (bad (by simp [checkN]; omega))
  · have h1 : ¬ w.line < 1 := h1
    refine And.intro (fun h2 => ?_) (fun h2 => ?_)
    · have h2 : 8000 < w.line := h2
      exact end1 _ rfl rfl (bad (by simp [checkN]; omega))
    · have h2 : ¬ 8000 < w.line := h2
      refine And.intro (fun h3 => ?_) (fun h3 => ?_)
      · have h3 : w.col < 1 := h3
        exact end1 _ rfl rfl (bad (by simp [checkN]; omega))
      · have h3 : ¬ w.col < 1 := h3
        refine And.intro (fun h4 => ?_) (fun h4 => ?_)
        · have h4 : 8000 < w.col := h4
          exact end1 _ rfl rfl (bad (by simp [checkN]; omega))
        · have h4 : ¬ 8000 < w.col := h4
          have hP := proper_c w.kind w.text ht
          by_cases hr : rightN w.kind w.text = true
          · rw [hr] at hP
            refine hP.eq rfl ?_
            refine end1 _ rfl rfl ?_
            rw [checkV, if_pos (by simp [checkN, hr]; omega)]
          · rw [Bool.not_eq_true] at hr
            rw [hr] at hP
            refine hP.eq rfl ?_
            exact end1 _ rfl rfl (bad (by simp [checkN, hr]))

theorem rRightW_c (w : Wd) (ht : w.text.length ≤ 100000) : Pure cx 43 [.agg w.cells] (· = .ret [.bool (checkN w)]) := by
  refine pure_of_vc Tryd.func43 rfl rfl rfl ?_
  have bad : checkN w = false → PEnd.ret [.bool false] = .ret [.bool (checkN w)] := fun h => by rw [h]
  refine And.intro (fun h1 => ?_) (fun h1 => ?_)
  · have h1 : 1 ≤ w.line := h1
    refine And.intro (fun h2 => ?_) (fun h2 => ?_)
    · have h2 : w.line ≤ 8000 := h2
      refine And.intro (fun h3 => ?_) (fun h3 => ?_)
      · have h3 : 1 ≤ w.col := h3
        refine And.intro (fun h4 => ?_) (fun h4 => ?_)
        · have h4 : w.col ≤ 8000 := h4
          refine (rRight_c w.kind w.text ht).eq rfl ?_
          refine end1 _ rfl rfl (retB ?_)
          simp [checkN, h1, h2, h3, h4]
        · have h4 : ¬ w.col ≤ 8000 := h4
          exact end1 _ rfl rfl (bad (by simp [checkN]; omega))
      · have h3 : ¬ 1 ≤ w.col := h3
        exact end1 _ rfl rfl (bad (by simp [checkN]; omega))
    · have h2 : ¬ w.line ≤ 8000 := h2
      exact end1 _ rfl rfl (bad (by simp [checkN]; omega))
  · have h1 : ¬ 1 ≤ w.line := h1
    exact end1 _ rfl rfl (bad (by simp [checkN]; omega))

theorem rCheck_c (w : Wd) (ht : w.text.length ≤ 100000) : Pure cx 21 [.agg w.cells] (· = .ret [i64 (checkV w)]) := by
  refine pure_of_vc Tryd.func21 rfl rfl rfl ?_
  have hP := rRightW_c w ht
  by_cases hr : checkN w = true
  · rw [hr] at hP
    refine hP.eq rfl ?_
    exact end1 _ rfl rfl (by rw [checkV, if_pos hr])
  · rw [Bool.not_eq_true] at hr
    rw [hr] at hP
    refine hP.eq rfl ?_
    exact end1 _ rfl rfl (by rw [checkV, hr]; rfl)

theorem keys_c : Pure cx 23 [] (· = .ret [.lst (keysL.map .str)]) := by
  refine pure_of_vc Tryd.func23 rfl rfl rfl ?_
  refine ⟨by decide, ?_⟩
  refine ⟨Nat, fun k => [(1, .sl 0 1 0 k), (5, .p (.agg (keysL.map .str))), (6, .p (i64 k))], fun k => ⟨1, [(0, ⟨9, false, .pu ((keysL.take k).map .str)⟩)]⟩, fun k => k ≤ 14, fun k => 14 - k, ?_, ?_⟩
  · exact ⟨0, by decide, ent0 rfl ⟨rfl, rfl, rfl, trivial⟩ ⟨⟨_, rfl, rfl, rfl, rfl⟩, trivial⟩ rfl⟩
  · intro k hk
    refine And.intro (fun h1 => ?_) (fun h1 => ?_)
    · have hk' : k < 14 := by have h1 : (k : Int) < 14 := h1; omega
      have hkl : k < keysL.length := hk'
      have hlen : ((keysL.take k).map PV.str).length = k := by simp; omega
      refine ⟨_, ⟨by omega, .str keysL[k], by show nth (keysL.map PV.str) (k * 1) = _; rw [nth_get, Nat.mul_one, List.getElem?_map, List.getElem?_eq_getElem hkl]; rfl, rfl⟩, ?_⟩
      refine ⟨by show 0 + 1 ≤ 1; omega, [.str keysL[k]], rfl, ?_⟩
      refine ⟨by show 0 + k ≤ ((keysL.take k).map PV.str).length; omega, (keysL.take k).map .str, takeAll hlen, ?_⟩
      refine ⟨by show (k + 1) * 16 ≤ 140737488355328; omega, (keysL.take (k + 1)).map .str, by rw [List.take_add_one, List.getElem?_eq_getElem hkl, List.map_append]; rfl, ?_⟩
      refine ⟨(k : Int) + 1, wrap_i64 (by omega) (by omega), k + 1, by omega, ent_of [] [(0, 2)] [] rfl ⟨rfl, rfl, rfl, trivial⟩ ⟨⟨_, rfl, rfl, rfl, rfl⟩, trivial⟩ rfl, ?_⟩
      show 14 - (k + 1) < 14 - k
      omega
    · have hk' : k = 14 := by have h1 : ¬ (k : Int) < 14 := h1; omega
      subst hk'
      exact end1 (.lst (keysL.map .str)) rfl ⟨_, rfl, by decide, by rfl⟩ rfl
theorem marks_c : Pure cx 25 [] (· = .ret [.lst (marksL.map .str)]) := by
  refine pure_of_vc Tryd.func25 rfl rfl rfl ?_
  refine ⟨by decide, ?_⟩
  refine ⟨Nat, fun k => [(1, .sl 0 1 0 k), (5, .p (.agg (marksL.map .str))), (6, .p (i64 k))], fun k => ⟨1, [(0, ⟨9, false, .pu ((marksL.take k).map .str)⟩)]⟩, fun k => k ≤ 16, fun k => 16 - k, ?_, ?_⟩
  · exact ⟨0, by decide, ent0 rfl ⟨rfl, rfl, rfl, trivial⟩ ⟨⟨_, rfl, rfl, rfl, rfl⟩, trivial⟩ rfl⟩
  · intro k hk
    refine And.intro (fun h1 => ?_) (fun h1 => ?_)
    · have hk' : k < 16 := by have h1 : (k : Int) < 16 := h1; omega
      have hkl : k < marksL.length := hk'
      have hlen : ((marksL.take k).map PV.str).length = k := by simp; omega
      refine ⟨_, ⟨by omega, .str marksL[k], by show nth (marksL.map PV.str) (k * 1) = _; rw [nth_get, Nat.mul_one, List.getElem?_map, List.getElem?_eq_getElem hkl]; rfl, rfl⟩, ?_⟩
      refine ⟨by show 0 + 1 ≤ 1; omega, [.str marksL[k]], rfl, ?_⟩
      refine ⟨by show 0 + k ≤ ((marksL.take k).map PV.str).length; omega, (marksL.take k).map .str, takeAll hlen, ?_⟩
      refine ⟨by show (k + 1) * 16 ≤ 140737488355328; omega, (marksL.take (k + 1)).map .str, by rw [List.take_add_one, List.getElem?_eq_getElem hkl, List.map_append]; rfl, ?_⟩
      refine ⟨(k : Int) + 1, wrap_i64 (by omega) (by omega), k + 1, by omega, ent_of [] [(0, 2)] [] rfl ⟨rfl, rfl, rfl, trivial⟩ ⟨⟨_, rfl, rfl, rfl, rfl⟩, trivial⟩ rfl, ?_⟩
      show 16 - (k + 1) < 16 - k
      omega
    · have hk' : k = 16 := by have h1 : ¬ (k : Int) < 16 := h1; omega
      subst hk'
      exact end1 (.lst (marksL.map .str)) rfl ⟨_, rfl, by decide, by rfl⟩ rfl

theorem equal_c (a b : List Wd) (ha : a.length ≤ 100000) (hb : b.length ≤ 100000) : Pure cx 42 [.lsts 4 (a.map Wd.cells), .lsts 4 (b.map Wd.cells)] (· = .ret [.bool (decide (a = b))]) := by
  refine pure_of_vc Tryd.func42 rfl rfl rfl ?_
  refine And.intro (fun h1 => ?_) (fun h1 => ?_)
  · have h1 : (((a.map Wd.cells).length : Nat) : Int) = ((b.map Wd.cells).length : Nat) := h1
    rw [List.length_map, List.length_map] at h1
    have hl : a.length = b.length := by omega
    refine ⟨Nat, fun k => [(0, .p (.lsts 4 (a.map Wd.cells))), (1, .p (.lsts 4 (b.map Wd.cells))), (12, .p (i64 (a.map Wd.cells).length)), (13, .p (i64 k))], fun _ => ⟨0, []⟩, fun k => k ≤ a.length ∧ a.take k = b.take k, fun k => a.length - k, ?_, ?_⟩
    · exact ⟨0, ⟨by omega, by simp⟩, ent0 rfl ⟨rfl, rfl, rfl, rfl, trivial⟩ trivial rfl⟩
    · rintro k ⟨hk, he⟩
      refine And.intro (fun h2 => ?_) (fun h2 => ?_)
      · have h2 : (k : Int) < ((a.map Wd.cells).length : Nat) := h2
        rw [List.length_map] at h2
        have hka : k < a.length := by omega
        have hkb : k < b.length := by omega
        refine VDraw.seq rfl ?_
        refine ⟨_, ⟨by omega, a[k].cells, by show (a.map Wd.cells)[k]? = _; rw [List.getElem?_map, List.getElem?_eq_getElem hka]; rfl, rfl⟩, ?_⟩
        refine ⟨_, ⟨by omega, b[k].cells, by show (b.map Wd.cells)[k]? = _; rw [List.getElem?_map, List.getElem?_eq_getElem hkb]; rfl, rfl⟩, ?_⟩
        refine ⟨⟨by kernel_rfl, by kernel_rfl⟩, ?_⟩
        refine And.intro (fun h3 => ?_) (fun h3 => ?_)
        · have h3 : a[k].cells = b[k].cells := h3
          refine ⟨(k : Int) + 1, wrap_i64 (by omega) (by omega), k + 1, ⟨hka, ?_⟩, ent0 rfl ⟨rfl, rfl, rfl, rfl, trivial⟩ trivial rfl, ?_⟩
          · rw [List.take_add_one, List.take_add_one, he, List.getElem?_eq_getElem hka, List.getElem?_eq_getElem hkb, cells_inj h3]
          · show a.length - (k + 1) < a.length - k
            omega
        · have h3 : ¬ a[k].cells = b[k].cells := h3
          refine end1 _ rfl rfl (retB ?_)
          rw [eq_comm, decide_eq_false_iff_not]
          intro e
          subst e
          exact h3 rfl
      · have h2 : ¬ (k : Int) < ((a.map Wd.cells).length : Nat) := h2
        rw [List.length_map] at h2
        refine end1 _ rfl rfl (retB ?_)
        rw [eq_comm, decide_eq_true_eq]
        rw [List.take_of_length_le (by omega), List.take_of_length_le (by omega)] at he
        exact he
  · have h1 : ¬ (((a.map Wd.cells).length : Nat) : Int) = ((b.map Wd.cells).length : Nat) := h1
    rw [List.length_map, List.length_map] at h1
    refine end1 _ rfl rfl (retB ?_)
    rw [eq_comm, decide_eq_false_iff_not]
    intro e
    subst e
    exact h1 rfl
end Go.Proofs.YtemlkodkohgmmaaDoor
