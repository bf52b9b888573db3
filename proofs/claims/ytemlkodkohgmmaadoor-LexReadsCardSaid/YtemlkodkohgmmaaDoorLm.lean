/- The reference of layer 37: Same. -/
import Derived.Test.YtemlkodkohgmmaaDoorLl
namespace Go.Proofs.YtemlkodkohgmmaaDoor
open Go Y
set_option maxRecDepth 100000
set_option maxHeartbeats 4000000

theorem cells_inj {v w : Wd} (h : v.cells = w.cells) : v = w := by
  obtain ⟨a, b, c, d⟩ := v
  obtain ⟨a', b', c', d'⟩ := w
  simp only [Wd.cells, List.cons.injEq, PV.int.injEq, PV.str.injEq, true_and, and_true] at h
  obtain ⟨h1, h2, h3, h4⟩ := h
  subst h1 h2 h3 h4
  rfl

theorem same_c (a b : List Wd) (ha : a.length ≤ 100000) (hb : b.length ≤ 100000) : Pure cx 12 [.lsts 4 (a.map Wd.cells), .lsts 4 (b.map Wd.cells)] (· = .ret [.bool (decide (a = b))]) := by
  refine pure_of_vc Tryd.func12 rfl rfl rfl ?_
  refine And.intro (fun h1 => ?_) (fun h1 => ?_)
  · have h1 : (((a.map Wd.cells).length : Nat) : Int) = ((b.map Wd.cells).length : Nat) := h1
    rw [List.length_map, List.length_map] at h1
    have hl : a.length = b.length := by omega
    refine ⟨Nat, fun k => [(0, .p (.lsts 4 (a.map Wd.cells))), (1, .p (.lsts 4 (b.map Wd.cells))), (5, .p (i64 k))], fun _ => ⟨0, []⟩, fun k => k ≤ a.length ∧ a.take k = b.take k, fun k => a.length - k, ?_, ?_⟩
    · exact ⟨0, ⟨by omega, by simp⟩, ent0 rfl ⟨rfl, rfl, rfl, trivial⟩ trivial rfl⟩
    · rintro k ⟨hk, he⟩
      refine And.intro (fun h2 => ?_) (fun h2 => ?_)
      · have h2 : (k : Int) < ((a.map Wd.cells).length : Nat) := h2
        rw [List.length_map] at h2
        have hka : k < a.length := by omega
        have hkb : k < b.length := by omega
        refine VDraw.seq rfl ?_
        refine ⟨_, ⟨by omega, a[k].cells, by show (a.map Wd.cells)[k]? = _; rw [List.getElem?_map, List.getElem?_eq_getElem hka]; rfl, rfl⟩, ?_⟩
        refine ⟨_, ⟨by omega, b[k].cells, by show (b.map Wd.cells)[k]? = _; rw [List.getElem?_map, List.getElem?_eq_getElem hkb]; rfl, rfl⟩, ?_⟩
        refine ⟨⟨by kernel_rfl, by kernel_rfl⟩, ?_⟩
        refine And.intro (fun h3 => ?_) (fun h3 => ?_)
        · have h3 : a[k].cells = b[k].cells := h3
          refine ⟨(k : Int) + 1, wrap_i64 (by omega) (by omega), k + 1, ⟨hka, ?_⟩, ent0 rfl ⟨rfl, rfl, rfl, trivial⟩ trivial rfl, ?_⟩
          · rw [List.take_add_one, List.take_add_one, he, List.getElem?_eq_getElem hka, List.getElem?_eq_getElem hkb, cells_inj h3]
          · show a.length - (k + 1) < a.length - k
            omega
        · have h3 : ¬ a[k].cells = b[k].cells := h3
          refine end1 _ rfl rfl (retB ?_)
          rw [eq_comm, decide_eq_false_iff_not]
          intro e
          subst e
          exact h3 rfl
      · have h2 : ¬ (k : Int) < ((a.map Wd.cells).length : Nat) := h2
        rw [List.length_map] at h2
        refine end1 _ rfl rfl (retB ?_)
        rw [eq_comm, decide_eq_true_eq]
        rw [List.take_of_length_le (by omega), List.take_of_length_le (by omega)] at he
        exact he
  · have h1 : ¬ (((a.map Wd.cells).length : Nat) : Int) = ((b.map Wd.cells).length : Nat) := h1
    rw [List.length_map, List.length_map] at h1
    refine end1 _ rfl rfl (retB ?_)
    rw [eq_comm, decide_eq_false_iff_not]
    intro e
    subst e
    exact h1 rfl
end Go.Proofs.YtemlkodkohgmmaaDoor
