/- LexBack: the row and the card. Reading what was joined gives the same words at the same places, also if comments stand between them instead of blanks; for all drafts and fillers. Conditions: those of the card. -/
import Derived.Lib.Bytealg
import Derived.Laws.Externs
import Derived.Test.YtemlkodkohgmmaaDoorRows
import Derived.Lay
import Derived.Test.YtemlkodkohgmmaaDoorCards
import Derived.Test.YtemlkodkohgmmaaDoorTie
import Derived.SevenTiedAt
import Derived.Test.YtemlkodkohgmmaaDoorQ3
/- The statement on valid words. -/
namespace Go.Proofs.YtemlkodkohgmmaaDoor
open Go Y
set_option maxRecDepth 100000
set_option maxHeartbeats 4000000

theorem ty_word {m : Nat} {xs : List PV} (h : TyT Tryd.prog (m + 2) 34 xs) : ∃ w : Wd, xs = w.cells := by
  have hp : partsOf Tryd.prog 34 = some [(3, 0), (9, 1), (3, 2), (3, 3)] := by kernel_rfl
  rw [TyT] at h
  simp only [hp] at h
  obtain ⟨x1, _, rfl, _, h1, x2, _, rfl, _, h2, x3, _, rfl, _, h3, x4, _, rfl, _, h4, rfl⟩ := h
  obtain ⟨a, rfl, _⟩ := ty_int h1
  obtain ⟨t, rfl⟩ := ty_str h2
  obtain ⟨b, rfl, _⟩ := ty_int h3
  obtain ⟨c, rfl, _⟩ := ty_int h4
  exact ⟨⟨a, t, b, c⟩, rfl⟩
theorem ty_u16 {m : Nat} {xs : List PV} (h : TyT Tryd.prog (m + 1) 77 xs) : ∃ b : UInt16, xs = [.int .u16 (b.toNat : Int)] := by
  have hp : partsOf Tryd.prog 77 = none := by simp [partsOf, Tryd.underlying77]
  simp only [TyT, hp, Tryd.underlying77] at h
  obtain ⟨n, rfl, hw⟩ := h
  have := bounds_u16 hw
  refine ⟨UInt16.ofNat n.toNat, ?_⟩
  have e : ((UInt16.ofNat n.toNat).toNat : Int) = n := by
    simp
    omega
  rw [e]
theorem ty_draft {m : Nat} {xs : List PV} (h : TyT Tryd.prog (m + 3) 79 xs) : ∃ d : Dr, xs = d.cells := by
  have hp : partsOf Tryd.prog 79 = some [(5, 0), (5, 1), (22, 2), (77, 3), (5, 4), (5, 5)] := by kernel_rfl
  rw [TyT] at h
  simp only [hp] at h
  obtain ⟨x1, _, rfl, _, h1, x2, _, rfl, _, h2, x3, _, rfl, _, h3, x4, _, rfl, _, h4, x5, _, rfl, _, h5, x6, _, rfl, _, h6, rfl⟩ := h
  obtain ⟨a, rfl⟩ := ty_u8 h1
  obtain ⟨b, rfl⟩ := ty_u8 h2
  obtain ⟨c, rfl⟩ := ty_bytes h3
  obtain ⟨d, rfl⟩ := ty_u16 h4
  obtain ⟨e, rfl⟩ := ty_u8 h5
  obtain ⟨f, rfl⟩ := ty_u8 h6
  exact ⟨⟨a, b, c, d, e, f⟩, rfl⟩
theorem lift_lists {α : Type} {f : α → List PV} {ys : List (List PV)} (h : ∀ y ∈ ys, ∃ a, y = f a) : ∃ zs : List α, ys = zs.map f := by
  induction ys with
  | nil => exact ⟨[], rfl⟩
  | cons y r ih =>
    obtain ⟨a, rfl⟩ := h y (by simp)
    obtain ⟨zs, rfl⟩ := ih fun z hz => h z (by simp [hz])
    exact ⟨a :: zs, rfl⟩
theorem ty_words {m : Nat} {xs : List PV} (h : TyT Tryd.prog (m + 3) 25 xs) : ∃ l : List Wd, xs = [.lsts 4 (l.map Wd.cells)] := by
  have hp : partsOf Tryd.prog 25 = none := by simp [partsOf, Tryd.underlying25]
  have hc : Tryd.prog.cellsOf 34 = 4 := by kernel_rfl
  rw [TyT] at h
  simp only [hp, Tryd.underlying25, hc] at h
  obtain ⟨ys, rfl, _, hy⟩ := h
  obtain ⟨l, rfl⟩ := lift_lists (f := Wd.cells) fun y hy' => ty_word (hy y hy')
  exact ⟨l, rfl⟩
theorem ty_drafts {m : Nat} {xs : List PV} (h : TyT Tryd.prog (m + 4) 32 xs) : ∃ l : List Dr, xs = [.lsts 6 (l.map Dr.cells)] := by
  have hp : partsOf Tryd.prog 32 = none := by simp [partsOf, Tryd.underlying32]
  have hc : Tryd.prog.cellsOf 79 = 6 := by kernel_rfl
  rw [TyT] at h
  simp only [hp, Tryd.underlying32, hc] at h
  obtain ⟨ys, rfl, _, hy⟩ := h
  obtain ⟨l, rfl⟩ := lift_lists (f := Dr.cells) fun y hy' => ty_draft (hy y hy')
  exact ⟨l, rfl⟩
theorem arg_word {x : PV} (h : ArgT Tryd.prog 5 34 x) : ∃ w : Wd, x = .agg w.cells := by
  have hp : partsOf Tryd.prog 34 = some [(3, 0), (9, 1), (3, 2), (3, 3)] := by kernel_rfl
  simp only [ArgT, hp] at h
  obtain ⟨xs, rfl, h⟩ := h
  obtain ⟨w, rfl⟩ := ty_word h
  exact ⟨w, rfl⟩

theorem texts_c (a : List (List UInt8)) (ha : a.length ≤ 100000) : Pure cx 22 [.lst (a.map .str), .lst (a.map .str)] (· = .ret [.bool true]) := by
  refine pure_of_vc Tryd.func22 rfl rfl rfl ?_
  refine And.intro (fun _ => ?_) (fun h1 => absurd rfl h1)
  refine ⟨Nat, fun k => [(0, .p (.lst (a.map .str))), (1, .p (.lst (a.map .str))), (5, .p (i64 k))], fun _ => ⟨0, []⟩, fun k => k ≤ a.length, fun k => a.length - k, ?_, ?_⟩
  · exact ⟨0, by omega, ent0 rfl ⟨rfl, rfl, rfl, trivial⟩ trivial rfl⟩
  · intro k hk
    refine And.intro (fun h2 => ?_) (fun h2 => ?_)
    · have h2 : (k : Int) < ((a.map PV.str).length : Nat) := h2
      rw [List.length_map] at h2
      have hka : k < a.length := by omega
      refine VDraw.seq rfl ?_
      refine ⟨_, ⟨by omega, .str a[k], by show (a.map PV.str)[k]? = _; rw [List.getElem?_map, List.getElem?_eq_getElem hka]; rfl, rfl⟩, ?_⟩
      refine ⟨_, ⟨by omega, .str a[k], by show (a.map PV.str)[k]? = _; rw [List.getElem?_map, List.getElem?_eq_getElem hka]; rfl, rfl⟩, ?_⟩
      refine And.intro (fun _ => ?_) (fun h1 => absurd rfl h1)
      refine ⟨(k : Int) + 1, wrap_i64 (by omega) (by omega), k + 1, hka, ent0 rfl ⟨rfl, rfl, rfl, trivial⟩ trivial rfl, ?_⟩
      show a.length - (k + 1) < a.length - k
      omega
    · exact end1 _ rfl rfl rfl

def cutN (w : Wd) : Wd := { w with text := w.text.take 20 }
theorem min_take {α : Type} (s : List α) (n : Nat) : s.take (if (n : Int) < (s.length : Nat) then (n : Int) else (s.length : Nat)).toNat = s.take n := by
  split
  · rfl
  · rename_i h
    rw [List.take_of_length_le (by omega), List.take_of_length_le (by omega)]
theorem min_ok (n m : Nat) : 0 ≤ (if (n : Int) < (m : Nat) then (n : Int) else (m : Nat)) ∧ (if (n : Int) < (m : Nat) then (n : Int) else (m : Nat)) ≤ m := by
  split <;> omega
theorem cut_c (w : Wd) : Pure cx 15 [.agg w.cells] (· = .ret [.agg (cutN w).cells]) := by
  refine pure_of_vc Tryd.func15 rfl rfl rfl ?_
  refine ⟨min_ok 20 w.text.length, ?_⟩
  refine end1 (.agg (cutN w).cells) rfl ?_ rfl
  show PV.agg (cutN w).cells = .agg [i64 w.kind, .str (w.text.take (if (20 : Int) < (w.text.length : Nat) then (20 : Int) else (w.text.length : Nat)).toNat), i64 w.line, i64 w.col]
  rw [show w.text.take (if (20 : Int) < (w.text.length : Nat) then (20 : Int) else (w.text.length : Nat)).toNat = w.text.take 20 from min_take w.text 20]
  rfl

theorem words_text : ∀ (l c : Nat) (ds : List Dr), ∀ w ∈ wordsN l c ds, w.text.length ≤ 20
  | _, _, [], w, h => by simp [wordsN] at h
  | l, c, d :: r, w, h => by
    simp only [wordsN, List.mem_cons] at h
    rcases h with rfl | h
    · have := text_len d (kindD d); simp only [wordD]; omega
    · exact words_text _ _ r w h
theorem words_len : ∀ (l c : Nat) (ds : List Dr), (wordsN l c ds).length = ds.length
  | _, _, [] => rfl
  | l, c, d :: r => by simp [wordsN, words_len _ _ r]

def wds (l : List Wd) : AObj := ⟨34, false, .pus (l.map Wd.cells)⟩

theorem lexChecks_c (w0 : Wd) (l : List Dr) (kind line col : Int) : Pure cx 7 [.agg w0.cells, .lsts 6 (l.map Dr.cells), i64 kind, i64 line, i64 col] (· = .ret [.bool true]) := by
  refine pure_of_vc Tryd.func7 rfl rfl rfl ?_
  refine (cut_c w0).eq rfl ?_
  refine ⟨by show 0 ≤ (if ((20 : Nat) : Int) < ((l.map Dr.cells).length : Nat) then ((20 : Nat) : Int) else ((l.map Dr.cells).length : Nat)) ∧ _; exact min_ok 20 _, ?_⟩
  have hW := words37_c (l.take 20)
  rw [List.take_take] at hW
  obtain ⟨ws, hws⟩ : ∃ ws, ws = wordsN 1 1 (l.take (min 200 20)) := ⟨_, rfl⟩
  have hwl : ws.length ≤ 20 := by rw [hws, words_len, List.length_take]; omega
  have hwt : ∀ w ∈ ws, w.text.length ≤ 20 := by rw [hws]; exact words_text _ _ _
  rw [← hws] at hW
  refine hW.eq (congrArg (fun z => [AV.p (.lsts 6 z)]) ?_) ?_
  · show (l.map Dr.cells).take (if ((20 : Nat) : Int) < ((l.map Dr.cells).length : Nat) then ((20 : Nat) : Int) else ((l.map Dr.cells).length : Nat)).toNat = _
    rw [min_take, List.map_take]
  clear hW
  refine ⟨Nat × List Wd, fun x => [(2, .p (i64 kind)), (3, .p (i64 line)), (4, .p (i64 col)), (11, .sl 0 4 0 x.2.length), (27, .p (.lsts 4 (ws.map Wd.cells))), (28, .p (i64 (ws.map Wd.cells).length)), (29, .p (i64 x.1))], fun x => ⟨1, [(0, wds x.2)]⟩, fun x => x.1 ≤ ws.length ∧ x.2.length = 1 + 4 * x.1 ∧ ∀ w ∈ x.2, w.text.length ≤ 20, fun x => ws.length - x.1, ?_, ?_⟩
  · refine ⟨(0, [cutN w0]), ⟨by simp, by simp, by simp [cutN]; omega⟩, ent_of [] [(0, 1)] [] rfl (by (repeat' first | exact trivial | exact rfl | exact ⟨rfl, rfl⟩ | exact .inl rfl | refine ⟨_, rfl, rfl, rfl, ?_⟩ | refine ⟨_, _, rfl, ?_, ?_⟩ | refine ⟨_, rfl, ?_⟩ | refine And.intro ?_ ?_)) (by (repeat' first | exact trivial | exact rfl | exact ⟨rfl, rfl⟩ | exact .inl rfl | refine ⟨_, rfl, rfl, rfl, ?_⟩ | refine ⟨_, _, rfl, ?_, ?_⟩ | refine ⟨_, rfl, ?_⟩ | refine And.intro ?_ ?_)) rfl⟩
  · rintro ⟨k, out⟩ ⟨g1, g2, g3⟩
    simp only [] at g1 g2 g3
    refine And.intro (fun h1 => ?_) (fun h1 => ?_)
    · have h1 : (k : Int) < ((ws.map Wd.cells).length : Nat) := h1
      rw [List.length_map] at h1
      have hk : k < ws.length := by omega
      refine ⟨_, ⟨by omega, ws[k].cells, wcell hk, rfl⟩, ?_⟩
      have hwk := hwt _ (List.getElem_mem hk)
      generalize ws[k] = w at hwk ⊢
      refine VDraw.altTo [(2, .p (i64 kind)), (3, .p (i64 line)), (4, .p (i64 col)), (11, .sl 0 4 0 out.length), (27, .p (.lsts 4 (ws.map Wd.cells))), (28, .p (i64 (ws.map Wd.cells).length)), (29, .p (i64 k)), (13, .ptr 1 0 0), (14, .ptr 2 0 0), (15, .ptr 3 0 0)] ⟨4, [(3, wdO w), (2, wdO w), (1, wdO w), (0, wds out)]⟩ rfl ?_ ?_
      · refine And.intro ?_ ?_
        · refine ⟨by (repeat' first | exact trivial | exact rfl | exact ⟨rfl, rfl⟩ | exact .inl rfl | refine ⟨_, rfl, rfl, rfl, ?_⟩ | refine ⟨_, _, rfl, ?_, ?_⟩ | refine ⟨_, rfl, ?_⟩ | refine And.intro ?_ ?_), ?_⟩
          refine ⟨by (repeat' first | exact trivial | exact rfl | exact ⟨rfl, rfl⟩ | exact .inl rfl | refine ⟨_, rfl, rfl, rfl, ?_⟩ | refine ⟨_, _, rfl, ?_, ?_⟩ | refine ⟨_, rfl, ?_⟩ | refine And.intro ?_ ?_), ?_⟩
          refine ⟨by (repeat' first | exact trivial | exact rfl | exact ⟨rfl, rfl⟩ | exact .inl rfl | refine ⟨_, rfl, rfl, rfl, ?_⟩ | refine ⟨_, _, rfl, ?_, ?_⟩ | refine ⟨_, rfl, ?_⟩ | refine And.intro ?_ ?_), ?_⟩
          exact ent_of [] [] [] rfl (by (repeat' first | exact trivial | exact rfl | exact ⟨rfl, rfl⟩ | exact .inl rfl | refine ⟨_, rfl, rfl, rfl, ?_⟩ | refine ⟨_, _, rfl, ?_, ?_⟩ | refine ⟨_, rfl, ?_⟩ | refine And.intro ?_ ?_)) (by (repeat' first | exact trivial | exact rfl | exact ⟨rfl, rfl⟩ | exact .inl rfl | refine ⟨_, rfl, rfl, rfl, ?_⟩ | refine ⟨_, _, rfl, ?_, ?_⟩ | refine ⟨_, rfl, ?_⟩ | refine And.intro ?_ ?_)) rfl
        · refine ⟨by (repeat' first | exact trivial | exact rfl | exact ⟨rfl, rfl⟩ | exact .inl rfl | refine ⟨_, rfl, rfl, rfl, ?_⟩ | refine ⟨_, _, rfl, ?_, ?_⟩ | refine ⟨_, rfl, ?_⟩ | refine And.intro ?_ ?_), ?_⟩
          refine ⟨by (repeat' first | exact trivial | exact rfl | exact ⟨rfl, rfl⟩ | exact .inl rfl | refine ⟨_, rfl, rfl, rfl, ?_⟩ | refine ⟨_, _, rfl, ?_, ?_⟩ | refine ⟨_, rfl, ?_⟩ | refine And.intro ?_ ?_), ?_⟩
          refine ⟨by (repeat' first | exact trivial | exact rfl | exact ⟨rfl, rfl⟩ | exact .inl rfl | refine ⟨_, rfl, rfl, rfl, ?_⟩ | refine ⟨_, _, rfl, ?_, ?_⟩ | refine ⟨_, rfl, ?_⟩ | refine And.intro ?_ ?_), ?_⟩
          exact ent_of [] [(2, 3), (3, 2)] [] rfl (by (repeat' first | exact trivial | exact rfl | exact ⟨rfl, rfl⟩ | exact .inl rfl | refine ⟨_, rfl, rfl, rfl, ?_⟩ | refine ⟨_, _, rfl, ?_, ?_⟩ | refine ⟨_, rfl, ?_⟩ | refine And.intro ?_ ?_)) (by (repeat' first | exact trivial | exact rfl | exact ⟨rfl, rfl⟩ | exact .inl rfl | refine ⟨_, rfl, rfl, rfl, ?_⟩ | refine ⟨_, _, rfl, ?_, ?_⟩ | refine ⟨_, rfl, ?_⟩ | refine And.intro ?_ ?_)) rfl
      · refine ⟨by show 0 + 3 ≤ 3; omega, [w.cells, (Wd.mk kind w.text w.line w.col).cells, (Wd.mk w.kind w.text line w.col).cells], rfl, ?_⟩
        refine ⟨by show 0 + out.length ≤ (out.map Wd.cells).length; simp, out.map Wd.cells, takeAll (by simp), ?_⟩
        refine ⟨by show (out.length + 3) * 40 ≤ 140737488355328; omega, (out ++ [w, Wd.mk kind w.text w.line w.col, Wd.mk w.kind w.text line w.col]).map Wd.cells, by simp, ?_⟩
        refine ⟨by show 0 + 1 ≤ 1; omega, [(Wd.mk w.kind w.text w.line col).cells], rfl, ?_⟩
        refine ⟨by show 0 + (out.length + 3) ≤ (List.map Wd.cells _).length; simp, (out ++ [w, Wd.mk kind w.text w.line w.col, Wd.mk w.kind w.text line w.col]).map Wd.cells, takeAll (by simp), ?_⟩
        refine ⟨by show (out.length + 3 + 1) * 40 ≤ 140737488355328; omega, (out ++ [w, Wd.mk kind w.text w.line w.col, Wd.mk w.kind w.text line w.col, Wd.mk w.kind w.text w.line col]).map Wd.cells, by simp, ?_⟩
        refine ⟨(k : Int) + 1, wrap_i64 (by omega) (by omega), (k + 1, out ++ [w, Wd.mk kind w.text w.line w.col, Wd.mk w.kind w.text line w.col, Wd.mk w.kind w.text w.line col]), ⟨hk, by simp; omega, ?_⟩, ent_of [] [(0, 7)] [] rfl ⟨rfl, rfl, rfl, ?_, rfl, rfl, rfl, trivial⟩ (by (repeat' first | exact trivial | exact rfl | exact ⟨rfl, rfl⟩ | exact .inl rfl | refine ⟨_, rfl, rfl, rfl, ?_⟩ | refine ⟨_, _, rfl, ?_, ?_⟩ | refine ⟨_, rfl, ?_⟩ | refine And.intro ?_ ?_)) rfl, by simp only []; omega⟩
        · intro x hx
          simp only [List.mem_append, List.mem_cons, List.not_mem_nil, or_false] at hx
          rcases hx with hx | rfl | rfl | rfl | rfl
          · exact g3 x hx
          all_goals exact hwk
        · exact congrArg (fun n => AV.sl _ 4 0 n) (by simp)
    · refine ⟨Nat, fun j => [(53, .p (.lsts 4 (out.map Wd.cells))), (54, .p (i64 out.length)), (55, .p (i64 j))], fun _ => ⟨0, []⟩, fun j => j ≤ out.length, fun j => out.length - j, ?_, ?_⟩
      · exact ⟨0, by omega, ent_of [0] [] [] rfl ⟨⟨_, rfl, by simp, takeAll (by simp)⟩, rfl, rfl, trivial⟩ trivial rfl⟩
      · intro j hj
        refine And.intro (fun h2 => ?_) (fun h2 => ?_)
        · have h2 : (j : Int) < (out.length : Nat) := h2
          have hjl : j < out.length := by omega
          refine ⟨_, ⟨by omega, out[j].cells, wcell hjl, rfl⟩, ?_⟩
          have hx := g3 _ (List.getElem_mem hjl)
          generalize out[j] = x at hx ⊢
          refine VDraw.seq rfl ?_
          refine (check_c x (by omega)).eq rfl ?_
          refine ⟨by (repeat' first | exact trivial | exact rfl | exact ⟨rfl, rfl⟩ | exact .inl rfl | refine ⟨_, rfl, rfl, rfl, ?_⟩ | refine ⟨_, _, rfl, ?_, ?_⟩ | refine ⟨_, rfl, ?_⟩ | refine And.intro ?_ ?_), ?_⟩
          refine (rCheck_c x (by omega)).eq rfl ?_
          refine And.intro (fun _ => ?_) (fun h => absurd rfl h)
          refine ⟨(j : Int) + 1, wrap_i64 (by omega) (by omega), j + 1, hjl, ent_of [] [] [] rfl ⟨rfl, rfl, rfl, trivial⟩ trivial rfl, ?_⟩
          show out.length - (j + 1) < out.length - j
          omega
        · refine keys_c.eq rfl ?_
          refine rKeys_c.eq rfl ?_
          refine (texts_c keysL (by decide)).eq rfl ?_
          refine marks_c.eq rfl ?_
          refine rMarks_c.eq rfl ?_
          refine (texts_c marksL (by decide)).eq rfl ?_
          refine works_c.eq rfl ?_
          exact end1 _ rfl rfl rfl
end Go.Proofs.YtemlkodkohgmmaaDoor

/- Plain laws: the words of drafts stand in a text; a malformed word behind them. -/
namespace Go.Proofs.YtemlkodkohgmmaaDoor
open Go Y
set_option maxRecDepth 100000
set_option maxHeartbeats 4000000

theorem ten_dig : ∀ m < 10, isDig (tenL.getD m 0) = true := by decide
theorem ten_head : ∀ m < 10, m ≠ 0 → (tenL.getD m 0).toNat ≠ 48 := by decide
theorem dig_props : ∀ (f n : Nat), n < 10 ^ f → digN (f + 1) n ≠ [] ∧ (∀ c ∈ digN (f + 1) n, isDig c = true) ∧ (digN (f + 1) n).length ≤ max f 1 ∧ (n = 0 → digN (f + 1) n = [48]) ∧ (n ≠ 0 → ((digN (f + 1) n).headD 0).toNat ≠ 48)
  | 0, n, h => by
    have : n = 0 := by simpa using h
    subst this
    decide
  | f + 1, n, h => by
    rw [digN]
    split
    · rename_i h1
      refine ⟨by simp, fun c hc => ?_, by simp, fun h0 => by subst h0; rfl, fun h0 => ten_head n h1 h0⟩
      simp at hc
      subst hc
      have := ten_dig n h1
      simpa using this
    · rename_i h1
      have hn : n / 10 < 10 ^ f := by rw [Nat.pow_succ] at h; omega
      obtain ⟨a1, a2, a3, a4, a5⟩ := dig_props f (n / 10) hn
      have hf : 1 ≤ f := by
        cases f with
        | zero => simp at hn; omega
        | succ f => omega
      refine ⟨by simp, fun c hc => ?_, ?_, fun h0 => by omega, fun _ => ?_⟩
      · rcases List.mem_append.1 hc with hc | hc
        · exact a2 c hc
        · simp at hc
          subst hc
          have := ten_dig (n % 10) (by omega)
          simpa using this
      · rw [List.length_append, List.length_singleton]; omega
      · have := a5 (by omega)
        cases e : digN (f + 1) (n / 10) with
        | nil => exact absurd e a1
        | cons x r => rw [e] at this; simpa using this

theorem getD_mem {α : Type} {l : List α} {n : Nat} {d : α} (h : n < l.length) : l.getD n d ∈ l := List.mem_of_getElem? (getD_get h)
theorem abc_aln : ∀ m < 8, isAln (abcL.getD m 0) = true := by decide
theorem key_x (r : List UInt8) : inL keysL (120 :: r) = false := by
  cases h : inL keysL (120 :: r) with
  | false => rfl
  | true =>
    have := inL_mem h
    simp [keysL] at this
theorem mem_inL {l : List (List UInt8)} {s : List UInt8} (h : s ∈ l) : inL l s = true := by
  induction l with
  | nil => simp at h
  | cons x l ih =>
    simp only [inL]
    rcases List.mem_cons.1 h with rfl | h
    · simp
    · simp [ih h]

theorem text_right (d : Dr) : rightN (kindD d) (textN d (kindD d)) = true := by
  have hk : kindD d = 1 ∨ kindD d = 2 ∨ kindD d = 3 ∨ kindD d = 4 := by unfold kindD; omega
  rcases hk with h | h | h | h <;> rw [h]
  · show nameN (nameT d.letters) = true
    have hs : spanN isAln (nameT d.letters) = (nameT d.letters).length := spanN_all.2 fun c hc => by
      rcases List.mem_cons.1 hc with rfl | hc
      · decide
      · obtain ⟨b, -, rfl⟩ := List.mem_map.1 hc
        exact abc_aln _ (Nat.mod_lt _ (by decide))
    have hl : (nameT d.letters).length ≤ 10 := by simp [nameT]; omega
    unfold nameN
    rw [hs, show inL keysL (nameT d.letters) = false from key_x _, decide_eq_true hl]
    simp [nameT, isLet]
  · exact mem_inL (getD_mem (Nat.mod_lt _ (by decide)))
  · show numN (digN 5 (d.n.toNat % 10000)) = true
    obtain ⟨a1, a2, a3, a4, a5⟩ := dig_props 4 (d.n.toNat % 10000) (Nat.mod_lt _ (by decide))
    have hs := (spanN_all (f := isDig)).2 a2
    unfold numN
    rw [decide_eq_true a1, decide_eq_true (show (digN 5 (d.n.toNat % 10000)).length ≤ 4 from a3), decide_eq_true hs]
    by_cases h0 : d.n.toNat % 10000 = 0
    · rw [a4 h0]; rfl
    · rw [decide_eq_true (a5 h0)]; simp
  · exact mem_inL (getD_mem (Nat.mod_lt _ (by decide)))

def BlS (s : List UInt8) : Prop := s = [] ∨ ∃ x r, s = x :: r ∧ isBl x
theorem BlS.fol {s : List UInt8} (h : BlS s) : Fol [] s := by
  rcases h with rfl | ⟨x, r, rfl, hx⟩
  · exact Fol.nil _
  · exact Fol.bl _ _ _ (.inl hx)

theorem words_take : ∀ (l c k : Nat) (ds : List Dr), (wordsN l c ds).take k = wordsN l c (ds.take k)
  | _, _, 0, _ => by simp [wordsN]
  | _, _, _ + 1, [] => by simp [wordsN]
  | l, c, k + 1, d :: r => by simp [wordsN, words_take _ _ k r]

theorem words_lay {suf : List UInt8} (hsuf : BlS suf) : ∀ (ds : List Dr) (l c c0 : Nat), c0 ≤ c → 1 ≤ c → ∃ T, putN l c0 (wordsN l c ds) = some T ∧ Lay (l, c0) T (wordsN l c ds) suf ∧ T.length + c0 ≤ c + 16 * ds.length ∧ (c0 < c → BlS T) ∧ ∀ w ∈ wordsN l c ds, (l ≤ w.line ∧ w.line ≤ l + 2 * ds.length ∧ 1 ≤ w.col ∧ w.col ≤ c + 14 * ds.length)
  | [], l, c, c0, h, _ => ⟨[], rfl, Lay.nil _ _, by simp; omega, fun _ => .inl rfl, by simp [wordsN]⟩
  | d :: ds, l, c, c0, h, h1 => by
    have htl := text_len d (kindD d)
    have hr := text_right d
    have hwl := right_len hr
    obtain ⟨w, hw⟩ : ∃ w, w = wordD d l c := ⟨_, rfl⟩
    have e1 : w.line = lineD d l := by rw [hw]; rfl
    have e2 : w.col = colD d c := by rw [hw]; rfl
    have e3 : w.text = textN d (kindD d) := by rw [hw]; rfl
    have e4 : w.kind = kindD d := by rw [hw]; rfl
    have hL : l ≤ lineD d l ∧ lineD d l ≤ l + 2 := by unfold lineD; split <;> omega
    have hC : 1 ≤ colD d c ∧ colD d c ≤ c + 3 := by unfold colD; split <;> omega
    have hC2 : lineD d l = l → c ≤ colD d c := by
      unfold lineD colD
      split
      · rename_i hnw; unfold newL at hnw; omega
      · omega
    obtain ⟨T, t1, t2, t3, t4, t5⟩ := words_lay hsuf ds (lineD d l) (colD d c + (textN d (kindD d)).length + 1) (colD d c + (textN d (kindD d)).length) (by omega) (by omega)
    have hnb : ¬ (lineD d l < l ∨ lineD d l = l ∧ colD d c < c0) := by
      rintro (hb | ⟨hb, hb2⟩)
      · omega
      · have := hC2 hb; omega
    have hT : BlS (T ++ suf) := by
      rcases t4 (by omega) with rfl | ⟨x, r, rfl, hx⟩
      · simpa using hsuf
      · exact .inr ⟨x, r ++ suf, rfl, hx⟩
    obtain ⟨o1, o2⟩ := right_one hr
    have hne : textN d (kindD d) ≠ [] := by intro e; rw [e] at hwl; simp at hwl
    have hone : oneN (w.text ++ (T ++ suf)) = (w.kind, w.text) := by
      rw [e3, e4]
      exact one_fol hr (by rw [List.append_nil]; exact o1) hT.fol
    have hst : stopB (w.text ++ (T ++ suf)) = true := by
      rw [e3]
      exact stop_fol hne (by rw [List.append_nil]; exact o2) hT.fol
    have hgl := gap_len l c0 w
    rw [e1, e2] at hgl
    simp only [Int.toNat_natCast] at hgl
    refine ⟨gapN l c0 w ++ (w.text ++ T), ?_, ?_, ?_, ?_, ?_⟩
    · rw [wordsN, ← hw, putN, e1, e2, e3]
      simp only [Int.toNat_natCast]
      rw [if_neg hnb, t1]
      simp
    · rw [wordsN, ← hw]
      refine Lay.cons (skips_blank hst (gap_bl _ _ _)) hone (by rw [e3, e4]; exact hr) (advs_gap e1 e2 hC.1 hnb) e1 e2 (by rw [e3]; exact t2)
    · have hcc : lineD d l ≠ l → colD d c ≤ 4 := by
        unfold lineD colD
        split
        · omega
        · intro h; exact absurd rfl h
      have h1 : ¬ l < lineD d l → lineD d l = l := by omega
      simp only [List.length_append, List.length_cons]
      rw [hgl, e3]
      split
      · have := hcc (by omega); omega
      · omega
    · intro hlt
      right
      have hpos : 0 < (gapN l c0 w).length := by
        rw [hgl]
        split
        · omega
        · rename_i hn
          have := hC2 (by omega)
          omega
      cases e : gapN l c0 w with
      | nil => rw [e] at hpos; simp at hpos
      | cons x g => exact ⟨x, _, rfl, gap_bl l c0 w x (by rw [e]; simp)⟩
    · intro v hv
      rw [wordsN, ← hw] at hv
      simp only [List.length_cons]
      rcases List.mem_cons.1 hv with rfl | hv
      · rw [e1, e2]; omega
      · have hb := t5 v hv
        omega

theorem Lay.lastLine {p : Nat × Nat} {T : List UInt8} {ws : List Wd} {suf : List UInt8} (h : Lay p T ws suf) : ∀ w, ws.getLast? = some w → ((advs p T).1 : Int) = w.line := by
  induction h with
  | nil => intro w hw; simp at hw
  | @cons p g T w ws suf l c hsk h1 hr hp hl hc h ih =>
    intro v hv
    rw [advs_append, advs_append, hp, advs_text (right_noNl hr)]
    cases h with
    | nil => simp at hv; subst hv; simp [advs, hl]
    | cons => exact ih v (by simpa using hv)

/-- Words of drafts: Join gives a text, Read gives them back, also with something behind that begins with a blank. -/
theorem drafts_join (ds : List Dr) (hn : ds.length ≤ 200) : ∃ T, joinN (wordsN 1 1 ds) = (T, 0) ∧ T.length ≤ 16 * ds.length ∧ readT T = (wordsN 1 1 ds, 0, 0, 0) ∧ ∀ suf, BlS suf → Lay (1, 1) T (wordsN 1 1 ds) suf := by
  obtain ⟨T, t1, t2, t3, _, t5⟩ := words_lay (suf := []) (.inl rfl) ds 1 1 1 (by omega) (by omega)
  have hl := words_len 1 1 ds
  have hrd := readR_lay t2 (by omega)
  have hall : ¬ (wordsN 1 1 ds).all checkN = false := by
    rw [Bool.not_eq_false, List.all_eq_true]
    intro v hv
    have hb := t5 v hv
    have hr : rightN v.kind v.text = true := by
      clear t1 t2 t3 t5 hl hrd hb hn
      have : ∀ (ds : List Dr) (l c : Nat), v ∈ wordsN l c ds → rightN v.kind v.text = true := by
        intro ds
        induction ds with
        | nil => intro l c hv; simp [wordsN] at hv
        | cons d ds ih =>
          intro l c hv
          rcases List.mem_cons.1 hv with rfl | hv
          · exact text_right d
          · exact ih _ _ hv
      exact this ds 1 1 hv
    simp only [checkN, Bool.and_eq_true, decide_eq_true_eq]
    refine ⟨by omega, by omega, by omega, by omega, hr⟩
  refine ⟨T, ?_, by omega, ?_, fun suf hs => ?_⟩
  · rw [joinN, if_neg (by omega), if_neg hall, t1]
    simp only []
    rw [if_neg (by omega), hrd]
    simp
  · rw [readT, if_neg (by omega), hrd]
  · obtain ⟨T', u1, u2, _⟩ := words_lay hs ds 1 1 1 (by omega) (by omega)
    rw [t1] at u1
    injection u1 with u1
    subst u1
    exact u2

/-- A malformed word behind words. -/
theorem read_bad {T : List UInt8} {ws : List Wd} {w : Wd} {tl : List UInt8} (hL : Lay (1, 1) T ws (10 :: 32 :: 32 :: tl)) (hw : ws.getLast? = some w) (hn : ws.length ≤ 1500) (hlen : (T ++ 10 :: 32 :: 32 :: tl).length ≤ 8000)
    (hst : stopB tl = true) (hne : tl ≠ []) (hbad : rightN (oneN tl).1 (oneN tl).2 = false) : readT (T ++ 10 :: 32 :: 32 :: tl) = ([], w.line + 1, 3, 370) := by
  obtain ⟨s, hs⟩ : ∃ s, s = T ++ 10 :: 32 :: 32 :: tl := ⟨_, rfl⟩
  have hl := hL.len
  have hsl : s.length = T.length + 3 + tl.length := by rw [hs]; simp; omega
  have h1 := read_lay hL [] [] (s.length + 1 - ws.length) rfl (by simpa using hn)
  simp only [List.nil_append, List.length_nil] at h1
  rw [← hs] at h1 hlen ⊢
  obtain ⟨f, hf⟩ : ∃ f, s.length + 1 - ws.length = f + 1 := ⟨s.length - ws.length, by omega⟩
  have hd : s.drop T.length = [10, 32, 32] ++ tl := by rw [hs]; simp
  have hsk : skipN s.length (s.drop T.length) = .inl 3 := by
    rw [hd]
    exact skips_blank hst (g := [10, 32, 32]) (by intro c hc; simp at hc; unfold isBl; rcases hc with rfl | rfl <;> decide) _ (by simp; omega)
  have hd2 : s.drop (T.length + 3) = tl := by rw [← List.drop_drop, hd]; rfl
  have htl : 1 ≤ tl.length := by cases tl with
    | nil => exact absurd rfl hne
    | cons => simp
  have hat : at_ s (T.length + 3) = ((advs (1, 1) T).1 + 1, 3) := by
    have : s = (T ++ [10, 32, 32]) ++ tl := by rw [hs]; simp
    rw [this, show T.length + 3 = (T ++ [10, 32, 32]).length by simp, at_app, advs_append]
    rfl
  have hrd : readR s = .err ((advs (1, 1) T).1 + 1, 3) 370 := by
    rw [readR, show s.length + 1 = s.length + 1 - ws.length + ws.length by omega, h1, hf, readN, hsk]
    simp only []
    rw [readB, if_neg (by omega), hd2, hbad, hat]
  rw [readT, if_neg (by omega), hrd]
  simp only []
  rw [← hL.lastLine w hw]
  rfl
end Go.Proofs.YtemlkodkohgmmaaDoor

/- Searching a byte in a string: strings.Index, strings.Count at one byte. -/
namespace Go.Proofs.YtemlkodkohgmmaaDoor
open Go Y
set_option maxRecDepth 100000
set_option maxHeartbeats 4000000

theorem byteBack (c : UInt8) : ((c.toNat : Int)).toNat.toUInt8 = c := by
  show (c.toNat).toUInt8 = c
  exact UInt8.ofNat_toNat

theorem pure_extern {g : FuncId} {args : List PV} {x : PV} (hx : Res [] 5 (.p x) x) (h : ∀ (Γ : Gm) (w : World) (args' : List Value), VRL Γ (args.map .p) args' → ∃ v', (callFunc g ⟨args'⟩).run cx.P w = .ok (.value v') w ∧ VP Γ.fz x v') : Pure cx g args (· = .ret [x]) := by
  intro Γ w args' hR hA
  obtain ⟨v', h1, h2⟩ := h Γ w args' hA
  refine .inr ⟨v', w, h1, .returned (.p x), ⟨0, []⟩, Γ, ?_, ⟨v', rfl, h2⟩, Later.refl hR _ (Nat.le_refl _)⟩
  exact ⟨.ret [x], ⟨rfl, _, rfl, hx⟩, rfl⟩

theorem indexByteString_c (s : List UInt8) (c : UInt8) : Pure cx 95 [.str s, u8 c] (· = .ret [i64 (Lib.indexByte s c)]) := by
  refine pure_extern rfl fun Γ w args' hA => ?_
  simp only [List.map, VRL, VR, VP] at hA
  obtain ⟨a, as', rfl, rfl, b, bs', rfl, rfl, rfl⟩ := hA
  refine ⟨_, ?_, rfl⟩
  show (callFunc 95 #[.string ⟨⟨s⟩⟩, .int .u8 c.toNat]).run Tryd.prog w = _
  rw [run_callFunc_extern Tryd.func95 (by kernel_rfl) (by kernel_rfl) (by kernel_rfl) (e := Extern.BytealgIndexByte.indexByte) (by kernel_rfl), Lib.run_indexByteString, byteBack]
  rfl
theorem countString_c (s : List UInt8) (c : UInt8) : Pure cx 88 [.str s, u8 c] (· = .ret [i64 (s.count c : Nat)]) := by
  refine pure_extern rfl fun Γ w args' hA => ?_
  simp only [List.map, VRL, VR, VP] at hA
  obtain ⟨a, as', rfl, rfl, b, bs', rfl, rfl, rfl⟩ := hA
  refine ⟨_, ?_, rfl⟩
  show (callFunc 88 #[.string ⟨⟨s⟩⟩, .int .u8 c.toNat]).run Tryd.prog w = _
  rw [run_callFunc_extern Tryd.func88 (by kernel_rfl) (by kernel_rfl) (by kernel_rfl) (e := Extern.BytealgCount.count) (by kernel_rfl), Lib.run_countString, byteBack]
  rfl

theorem indexByte_c (s : List UInt8) (c : UInt8) : Pure cx 91 [.str s, u8 c] (· = .ret [i64 (Lib.indexByte s c)]) := by
  refine pure_of_vc Tryd.func91 rfl rfl rfl ?_
  refine (indexByteString_c s c).eq rfl ?_
  exact end1 _ rfl rfl rfl
theorem index1_c (s : List UInt8) (c : UInt8) : Pure cx 89 [.str s, .str [c]] (· = .ret [i64 (Lib.indexByte s c)]) := by
  refine pure_of_vc Tryd.func89 rfl rfl rfl ?_
  refine And.intro (fun h => absurd (show (1 : Int) = 0 from h) (by decide)) (fun _ => ?_)
  refine And.intro (fun h => ?_) (fun _ => ?_)
  · have h : [c] = s := h
    subst h
    exact end1 _ rfl rfl (retI (by simp [Lib.indexByte]))
  · refine And.intro (fun _ => ?_) (fun h => absurd rfl h)
    refine ⟨_, ⟨by omega, c, rfl, rfl⟩, ?_⟩
    refine (indexByte_c s c).eq rfl ?_
    exact end1 _ rfl rfl rfl
theorem strIndex1_c (s : List UInt8) (c : UInt8) : Pure cx 77 [.str s, .str [c]] (· = .ret [i64 (Lib.indexByte s c)]) := by
  refine pure_of_vc Tryd.func77 rfl rfl rfl ?_
  refine (index1_c s c).eq rfl ?_
  exact end1 _ rfl rfl rfl
theorem strCount1_c (s : List UInt8) (c : UInt8) : Pure cx 76 [.str s, .str [c]] (· = .ret [i64 (s.count c : Nat)]) := by
  refine pure_of_vc Tryd.func76 rfl rfl rfl ?_
  refine And.intro (fun h => absurd (show (1 : Int) = 0 from h) (by decide)) (fun _ => ?_)
  refine And.intro (fun _ => ?_) (fun h => absurd rfl h)
  refine ⟨_, ⟨by omega, c, rfl, rfl⟩, ?_⟩
  refine (countString_c s c).eq rfl ?_
  exact end1 _ rfl rfl rfl

/-- How many octets come ahead of the first one that is so. -/
def ahead (c : UInt8) : List UInt8 → Nat
  | [] => 0
  | b :: r => if b = c then 0 else ahead c r + 1
theorem ahead_le (c : UInt8) (s : List UInt8) : ahead c s ≤ s.length := by
  induction s with
  | nil => simp [ahead]
  | cons b r ih => simp only [ahead]; split <;> simp <;> omega
theorem index_ahead {c : UInt8} {s : List UInt8} : (c ∈ s → Lib.indexByte s c = (ahead c s : Nat)) ∧ (c ∉ s → Lib.indexByte s c = -1) := by
  induction s with
  | nil => simp [Lib.indexByte]
  | cons b r ih =>
    simp only [Lib.indexByte, ahead, List.mem_cons]
    by_cases h : b = c
    · subst h; simp
    · have hb : (b == c) = false := by simpa using h
      have hc : ¬ c = b := fun e => h e.symm
      rw [hb, if_neg h]
      simp only [Bool.false_eq_true, if_false, hc, false_or]
      refine ⟨fun hm => ?_, fun hm => ?_⟩
      · rw [ih.1 hm, if_neg (by simp)]; rfl
      · rw [ih.2 hm]; rfl
theorem ahead_split {c : UInt8} {s : List UInt8} (h : c ∈ s) : s = s.take (ahead c s) ++ c :: s.drop (ahead c s + 1) ∧ c ∉ s.take (ahead c s) ∧ ahead c s < s.length := by
  induction s with
  | nil => simp at h
  | cons b r ih =>
    by_cases e : b = c
    · subst e; simp [ahead]
    · have hr : c ∈ r := by
        rcases List.mem_cons.1 h with h | h
        · exact absurd h.symm e
        · exact h
      obtain ⟨h1, h2, h3⟩ := ih hr
      have ea : ahead c (b :: r) = ahead c r + 1 := by simp [ahead, e]
      rw [ea]
      refine ⟨?_, ?_, by simp; omega⟩
      · simp only [List.take_succ_cons, List.drop_succ_cons, List.cons_append]
        exact congrArg _ h1
      · simp only [List.take_succ_cons, List.mem_cons, not_or]
        exact ⟨fun e' => e e'.symm, h2⟩

/-- Each octet c becomes a text. -/
def replN (c : UInt8) (new : List UInt8) (s : List UInt8) : List UInt8 := s.flatMap fun b => if b = c then new else [b]
theorem repl_not {c : UInt8} {new s : List UInt8} (h : c ∉ s) : replN c new s = s := by
  induction s with
  | nil => rfl
  | cons b r ih =>
    simp only [List.mem_cons, not_or] at h
    have := ih h.2
    unfold replN at this ⊢
    rw [List.flatMap_cons, this, if_neg fun e => h.1 e.symm]
    rfl
theorem repl_append (c : UInt8) (new a b : List UInt8) : replN c new (a ++ b) = replN c new a ++ replN c new b := by simp [replN]
theorem repl_ne {c : UInt8} {new s : List UInt8} (hs : s ≠ []) (hn : new ≠ []) : replN c new s ≠ [] := by
  cases s with
  | nil => exact absurd rfl hs
  | cons b r =>
    unfold replN
    rw [List.flatMap_cons]
    intro e
    have := (List.append_eq_nil_iff.1 e).1
    split at this
    · exact hn this
    · cases this
theorem repl_len (c : UInt8) (new s : List UInt8) : (replN c new s).length ≤ s.length * (new.length + 1) := by
  induction s with
  | nil => simp [replN]
  | cons b r ih =>
    unfold replN at ih ⊢
    rw [List.flatMap_cons, List.length_append, List.length_cons, Nat.succ_mul]
    split
    · omega
    · rw [List.length_singleton]; omega
end Go.Proofs.YtemlkodkohgmmaaDoor

/- Plain laws: comments in the place of blanks. -/
namespace Go.Proofs.YtemlkodkohgmmaaDoor
open Go Y
set_option maxRecDepth 100000
set_option maxHeartbeats 4000000

def comL : List (List UInt8) := [[40, 42, 32, 42, 41], [40, 42, 45, 42, 41], [40, 42, 42, 42, 41]]
def eolL : List UInt8 := [32, 45, 45, 32, 40, 42, 32, 101, 110, 100, 10]
def endL : List UInt8 := [32, 40, 42, 32, 40, 42, 32, 42, 41, 32, 45, 45, 32, 42, 41]

/-- Some runs of five blanks have become comments. -/
inductive Cv : List UInt8 → List UInt8 → Prop
  | nil : Cv [] []
  | same (c : UInt8) {a b : List UInt8} (h : Cv a b) : Cv (c :: a) (c :: b)
  | com {k a b : List UInt8} (hk : k ∈ comL) (h : Cv a b) : Cv (32 :: 32 :: 32 :: 32 :: 32 :: a) (k ++ b)

theorem com_len {k : List UInt8} (h : k ∈ comL) : k.length = 5 := (by decide : ∀ k ∈ comL, k.length = 5) k h
theorem Cv.refl : ∀ a : List UInt8, Cv a a
  | [] => .nil
  | c :: a => .same c (Cv.refl a)
theorem Cv.append {a b c d : List UInt8} (h : Cv a b) (k : Cv c d) : Cv (a ++ c) (b ++ d) := by
  induction h with
  | nil => exact k
  | same c _ ih => exact .same c ih
  | com hk _ ih => rw [List.append_assoc]; exact .com hk ih
theorem Cv.len {a b : List UInt8} (h : Cv a b) : b.length = a.length := by
  induction h with
  | nil => rfl
  | same c _ ih => simp [ih]
  | com hk _ ih => simp [ih, com_len hk]; omega

theorem adv32 (p : Nat × Nat) : adv p 32 = (p.1, p.2 + 1) := by simp [adv]
theorem Cv.advs {a b : List UInt8} (h : Cv a b) : ∀ p, advs p b = advs p a := by
  induction h with
  | nil => intro p; rfl
  | same c _ ih => intro p; rw [advs_cons, advs_cons, ih]
  | @com k a b hk _ ih =>
    intro p
    have hno : ∀ c ∈ k, c.toNat ≠ 10 := (by decide : ∀ k ∈ comL, ∀ c ∈ k, c.toNat ≠ 10) _ hk
    rw [advs_append, advs_text hno, com_len hk, ih]
    simp only [advs_cons, adv32]
theorem repl_advs (X : List UInt8) : ∀ p, advs p (replN 10 eolL X) = advs p X := by
  induction X with
  | nil => intro p; rfl
  | cons c X ih =>
    intro p
    have e : replN 10 eolL (c :: X) = (if c = 10 then eolL else [c]) ++ replN 10 eolL X := by unfold replN; rw [List.flatMap_cons]
    rw [e, advs_append, ih, advs_cons]
    congr 1
    split
    · rename_i h; subst h; rfl
    · rfl

/-- The gap ahead of a word. -/
theorem Cv.split {tx T : List UInt8} (hne : tx ≠ []) (h32 : ∀ c ∈ tx, c.toNat ≠ 32) : ∀ (n : Nat) (g B : List UInt8), g.length ≤ n → Cv (g ++ (tx ++ T)) B → ∃ g1 B', B = g1 ++ (tx ++ B') ∧ Cv g g1 ∧ Cv T B' := by
  have noS : ∀ (t X b : List UInt8), (∀ c ∈ t, c.toNat ≠ 32) → Cv (t ++ X) b → ∃ B', b = t ++ B' ∧ Cv X B' := by
    intro t
    induction t with
    | nil => intro X b _ h; exact ⟨b, rfl, h⟩
    | cons c t ih =>
      intro X b hc h
      generalize e : c :: t ++ X = Y at h
      cases h with
      | nil => simp at e
      | @same c' a b' h' =>
        simp only [List.cons_append, List.cons.injEq] at e
        obtain ⟨rfl, rfl⟩ := e
        obtain ⟨B', rfl, h2⟩ := ih X b' (fun x hx => hc x (by simp [hx])) h'
        exact ⟨B', rfl, h2⟩
      | com hk h' =>
        simp only [List.cons_append, List.cons.injEq] at e
        exact absurd (by rw [e.1]; rfl) (hc c (by simp))
  intro n
  induction n with
  | zero =>
    intro g B hg h
    have : g = [] := List.eq_nil_of_length_eq_zero (by omega)
    subst this
    obtain ⟨B', rfl, h2⟩ := noS tx T B h32 h
    exact ⟨[], B', rfl, .nil, h2⟩
  | succ n ih =>
    intro g B hg h
    cases g with
    | nil =>
      obtain ⟨B', rfl, h2⟩ := noS tx T B h32 h
      exact ⟨[], B', rfl, .nil, h2⟩
    | cons c g =>
      simp only [List.length_cons] at hg
      generalize e : c :: g ++ (tx ++ T) = Y at h
      cases h with
      | nil => simp at e
      | @same c' a b' h' =>
        simp only [List.cons_append, List.cons.injEq] at e
        obtain ⟨rfl, rfl⟩ := e
        obtain ⟨g1, B', rfl, h2, h3⟩ := ih g b' (by omega) h'
        exact ⟨c :: g1, B', rfl, .same c h2, h3⟩
      | @com k a b' hk h' =>
        obtain ⟨t, tx', rfl⟩ : ∃ t tx', tx = t :: tx' := by
          cases tx with
          | nil => exact absurd rfl hne
          | cons t tx' => exact ⟨t, tx', rfl⟩
        have ht := h32 t (by simp)
        simp only [List.cons_append, List.cons.injEq] at e
        obtain ⟨rfl, e⟩ := e
        match g, hg, e with
        | [], _, e => simp at e; exact absurd (by rw [e.1]; rfl) ht
        | [a1], _, e => simp at e; exact absurd (by rw [e.2.1]; rfl) ht
        | [a1, a2], _, e => simp at e; exact absurd (by rw [e.2.2.1]; rfl) ht
        | [a1, a2, a3], _, e => simp at e; exact absurd (by rw [e.2.2.2.1]; rfl) ht
        | a1 :: a2 :: a3 :: a4 :: g, hg, e =>
          simp only [List.cons_append, List.cons.injEq] at e
          obtain ⟨rfl, rfl, rfl, rfl, rfl⟩ := e
          simp only [List.length_cons] at hg
          obtain ⟨g1, B', rfl, h2, h3⟩ := ih g b' (by omega) h'
          exact ⟨k ++ g1, B', by rw [List.append_assoc], .com hk h2, h3⟩

theorem skips_one {c : UInt8} (hc : isBl c) {g r : List UInt8} (h : Skips g r) : Skips (c :: g) r := by
  intro f hf
  cases f with
  | zero => simp at hf
  | succ f =>
    have := h f (by simpa using hf)
    rw [List.cons_append, skipN]
    simp only [List.drop_succ_cons, List.drop_zero]
    rw [if_pos (show c.toNat = 32 ∨ c.toNat = 10 from hc), this]
    simp [shift]
theorem skips_com {k : List UInt8} (hk : k ∈ comL) {g r : List UInt8} (h : Skips g r) : Skips (k ++ g) r := by
  intro f hf
  have hl := com_len hk
  obtain ⟨f', rfl⟩ : ∃ f', f = f' + 5 := ⟨f - 5, by simp at hf; omega⟩
  have h1 := h (f' + 4) (by simp at hf ⊢; omega)
  simp only [comL, List.mem_cons, List.not_mem_nil, or_false] at hk
  rcases hk with rfl | rfl | rfl
  · show shift (2 + 3) (skipN (f' + 4) (g ++ r)) = _
    rw [h1]
    simp [shift]
  · show shift (2 + 3) (skipN (f' + 4) (g ++ r)) = _
    rw [h1]
    simp [shift]
  · show shift (2 + 3) (skipN (f' + 4) (g ++ r)) = _
    rw [h1]
    simp [shift]
theorem skips_eol {g r : List UInt8} (h : Skips g r) : Skips (eolL ++ g) r := by
  have h1 := skips_one (c := 10) (.inr rfl) h
  have h2 : Skips ([45, 45, 32, 40, 42, 32, 101, 110, 100] ++ 10 :: g) r := by
    intro f hf
    obtain ⟨f', rfl⟩ : ∃ f', f = f' + 1 := ⟨f - 1, by simp at hf; omega⟩
    have h3 := h1 f' (by simp at hf ⊢; omega)
    show shift 9 (skipN f' (10 :: g ++ r)) = _
    rw [h3]
    simp [shift]
  exact skips_one (c := 32) (.inl rfl) h2

theorem skips_cov {r : List UInt8} (hr : stopB r = true) {g g1 : List UInt8} (h : Cv g g1) : (∀ c ∈ g, isBl c) → Skips (replN 10 eolL g1) r := by
  induction h with
  | nil => intro _; exact fun f _ => skip_stop hr f
  | @same c a b h ih =>
    intro hb
    have e : replN 10 eolL (c :: b) = (if c = 10 then eolL else [c]) ++ replN 10 eolL b := by unfold replN; rw [List.flatMap_cons]
    have i := ih fun x hx => hb x (by simp [hx])
    rw [e]
    split
    · exact skips_eol i
    · exact skips_one (hb c (by simp)) i
  | @com k a b hk h ih =>
    intro hb
    have i := ih fun x hx => hb x (by simp [hx])
    rw [repl_append, repl_not ((by decide : ∀ k ∈ comL, (10 : UInt8) ∉ k) k hk)]
    exact skips_com hk i

def SepS (s : List UInt8) : Prop := s = [] ∨ ∃ x r, s = x :: r ∧ isSep x
theorem SepS.fol {s : List UInt8} (h : SepS s) : Fol [] s := by
  rcases h with rfl | ⟨x, r, rfl, hx⟩
  · exact Fol.nil _
  · exact Fol.bl _ _ _ hx
theorem SepS.append {s t : List UInt8} (h : SepS s) (k : SepS t) : SepS (s ++ t) := by
  rcases h with rfl | ⟨x, r, rfl, hx⟩
  · exact k
  · exact .inr ⟨x, r ++ t, rfl, hx⟩
theorem sep_cov {g g1 : List UInt8} (h : Cv g g1) (hb : ∀ c ∈ g, isBl c) : SepS (replN 10 eolL g1) := by
  cases h with
  | nil => exact .inl rfl
  | @same c a b h =>
    have e : replN 10 eolL (c :: b) = (if c = 10 then eolL else [c]) ++ replN 10 eolL b := by unfold replN; rw [List.flatMap_cons]
    rw [e]
    split
    · exact .inr ⟨32, _, rfl, .inl (.inl rfl)⟩
    · exact .inr ⟨c, _, rfl, .inl (hb c (by simp))⟩
  | @com k a b hk h =>
    rw [repl_append, repl_not ((by decide : ∀ k ∈ comL, (10 : UInt8) ∉ k) k hk)]
    simp only [comL, List.mem_cons, List.not_mem_nil, or_false] at hk
    rcases hk with rfl | rfl | rfl
    all_goals exact .inr ⟨40, _, rfl, .inr rfl⟩

theorem right_no32 {kd : Int} {tx : List UInt8} (h : rightN kd tx = true) : ∀ c ∈ tx, c.toNat ≠ 32 := by
  have aln : ∀ {t : List UInt8}, spanN isAln t = t.length → ∀ c ∈ t, c.toNat ≠ 32 := by
    intro t ha c hc
    have := spanN_all.1 ha c hc
    simp [isAln, isDig, isLet] at this
    omega
  unfold rightN at h
  split at h
  · simp [nameN] at h
    exact aln h.1.2
  · split at h
    · exact aln (key_aln tx (inL_mem h)).1
    · split at h
      · simp [numN] at h
        exact aln (spanN_all.2 fun c hc => by simp [isAln, spanN_all.1 h.1.2 c hc])
      · split at h
        · exact (by decide : ∀ t ∈ marksL, ∀ c ∈ t, c.toNat ≠ 32) tx (inL_mem h)
        · cases h

theorem words_cov {suf : List UInt8} (hsuf : SepS suf) : ∀ (ds : List Dr) (l c c0 : Nat) (T B : List UInt8), c0 ≤ c → 1 ≤ c → putN l c0 (wordsN l c ds) = some T → Cv T B → Lay (l, c0) (replN 10 eolL B) (wordsN l c ds) suf ∧ (c0 < c → SepS (replN 10 eolL B))
  | [], l, c, c0, T, B, _, _, hp, hc => by
    rw [wordsN, putN] at hp
    injection hp with hp
    subst hp
    cases hc
    exact ⟨Lay.nil _ _, fun _ => .inl rfl⟩
  | d :: ds, l, c, c0, T, B, h, h1, hp, hcv => by
    have hr := text_right d
    have hwl := right_len hr
    obtain ⟨w, hw⟩ : ∃ w, w = wordD d l c := ⟨_, rfl⟩
    have e1 : w.line = lineD d l := by rw [hw]; rfl
    have e2 : w.col = colD d c := by rw [hw]; rfl
    have e3 : w.text = textN d (kindD d) := by rw [hw]; rfl
    have e4 : w.kind = kindD d := by rw [hw]; rfl
    have hC : 1 ≤ colD d c := by unfold colD; split <;> omega
    have hC2 : lineD d l = l → c ≤ colD d c := by
      unfold lineD colD
      split
      · rename_i hnw; unfold newL at hnw; omega
      · omega
    rw [wordsN, ← hw] at hp ⊢
    obtain ⟨hnb, t', hp', rfl⟩ := put_cons hp
    rw [e1, e2] at hnb hp'
    rw [e3] at hp'
    simp only [Int.toNat_natCast] at hnb hp'
    have hne : textN d (kindD d) ≠ [] := by intro e; rw [e] at hwl; simp at hwl
    rw [List.append_assoc] at hcv
    obtain ⟨g1, B', rfl, hg, hB⟩ := Cv.split (tx := w.text) (by rw [e3]; exact hne) (by rw [e3]; exact right_no32 hr) _ _ _ (Nat.le_refl _) hcv
    obtain ⟨i1, i2⟩ := words_cov hsuf ds (lineD d l) (colD d c + (textN d (kindD d)).length + 1) (colD d c + (textN d (kindD d)).length) t' B' (by omega) (by omega) hp' hB
    have hT : SepS (replN 10 eolL B' ++ suf) := (i2 (by omega)).append hsuf
    have etx : replN 10 eolL w.text = w.text := repl_not fun hm => right_noNl hr 10 (by rw [← e3]; exact hm) rfl
    obtain ⟨o1, o2⟩ := right_one hr
    have hone : oneN (w.text ++ (replN 10 eolL B' ++ suf)) = (w.kind, w.text) := by
      rw [e3, e4]
      exact one_fol hr (by rw [List.append_nil]; exact o1) hT.fol
    have hst : stopB (w.text ++ (replN 10 eolL B' ++ suf)) = true := by
      rw [e3]
      exact stop_fol hne (by rw [List.append_nil]; exact o2) hT.fol
    rw [repl_append, repl_append, etx]
    refine ⟨Lay.cons (skips_cov hst hg (gap_bl _ _ _)) hone (by rw [e3, e4]; exact hr) ?_ e1 e2 (by rw [e3]; exact i1), fun hlt => ?_⟩
    · rw [repl_advs, hg.advs, advs_gap e1 e2 hC hnb]
    · have hpos : 0 < (gapN l c0 w).length := by
        have hgl := gap_len l c0 w
        rw [e1, e2] at hgl
        simp only [Int.toNat_natCast] at hgl
        rw [hgl]
        split
        · omega
        · have := hC2 (by omega)
          omega
      rcases sep_cov hg (gap_bl _ _ _) with h0 | ⟨x, r, hx, hs⟩
      · exfalso
        have hz : g1 = [] := by
          cases g1 with
          | nil => rfl
          | cons a b => exact absurd h0 (repl_ne (by simp) (by simp [eolL]))
        have := hg.len
        rw [hz] at this
        simp at this
        rw [← this] at hpos
        simp at hpos
      · rw [hx]
        exact .inr ⟨x, _, rfl, hs⟩

theorem end_skip (f : Nat) : skipN (f + 15) endL = .inl 15 := rfl

/-- THE LAW of LexBack. -/
theorem back_read (ds : List Dr) (hn : ds.length ≤ 200) {T B : List UInt8} (hp : putN 1 1 (wordsN 1 1 ds) = some T) (hB : Cv T B) (hlen : (replN 10 eolL B ++ endL).length ≤ 8000) : readT (replN 10 eolL B ++ endL) = (wordsN 1 1 ds, 0, 0, 0) := by
  obtain ⟨hL, _⟩ := words_cov (suf := endL) (.inr ⟨32, _, rfl, .inl (.inl rfl)⟩) ds 1 1 1 T B (by omega) (by omega) hp hB
  have hwl := words_len 1 1 ds
  obtain ⟨ws, hws⟩ : ∃ ws, ws = wordsN 1 1 ds := ⟨_, rfl⟩
  obtain ⟨U, hU⟩ : ∃ U, U = replN 10 eolL B := ⟨_, rfl⟩
  rw [← hws] at hL hwl ⊢
  rw [← hU] at hL hlen ⊢
  obtain ⟨s, hs⟩ : ∃ s, s = U ++ endL := ⟨_, rfl⟩
  have hl := hL.len
  have hsl : s.length = U.length + 15 := by rw [hs]; simp [endL]
  have h1 := read_lay hL [] [] (s.length + 1 - ws.length) rfl (by simp; omega)
  simp only [List.nil_append, List.length_nil] at h1
  rw [← hs] at h1 hlen ⊢
  obtain ⟨f, hf⟩ : ∃ f, s.length + 1 - ws.length = f + 1 := ⟨s.length - ws.length, by omega⟩
  have hd : s.drop U.length = endL := by rw [hs]; simp
  have hsk : skipN s.length (s.drop U.length) = .inl 15 := by
    rw [hd, hsl]
    exact end_skip _
  have hrd : readR s = .ok ws := by
    rw [readR, show s.length + 1 = s.length + 1 - ws.length + ws.length by omega, h1, hf, readN, hsk]
    simp only []
    rw [readB, if_pos (by omega)]
  rw [readT, if_neg (by omega), hrd]
end Go.Proofs.YtemlkodkohgmmaaDoor

/- strings.ReplaceAll of one byte. -/
namespace Go.Proofs.YtemlkodkohgmmaaDoor
open Go Y
set_option maxRecDepth 100000
set_option maxHeartbeats 4000000

def bO (acc : List UInt8) : AObj := ⟨5, false, .pu (acc.map ub)⟩
def bB (n : Nat) (acc : List UInt8) : AObj := ⟨TB, false, .bx [.ptr 0 0 0, .sl n 1 0 acc.length]⟩

theorem replace_c (s : List UInt8) (c : UInt8) (new : List UInt8) (hs : s.length ≤ 8000) (hn : new.length ≤ 100) (hne : new ≠ [c]) (h2 : 2 ≤ new.length) :
    Pure cx 51 [.str s, .str [c], .str new, i64 (-1)] (· = .ret [.str (replN c new s)]) := by
  refine pure_of_vc Tryd.func51 rfl rfl rfl ?_
  refine And.intro (fun h => absurd (show [c] = new from h).symm hne) (fun _ => ?_)
  refine And.intro (fun h => absurd (show (-1 : Int) = 0 from h) (by decide)) (fun _ => ?_)
  have hcl : s.count c ≤ s.length := List.count_le_length
  refine (strCount1_c s c).eq rfl ?_
  refine And.intro (fun h => ?_) (fun h => ?_)
  · have h : ((s.count c : Nat) : Int) = 0 := h
    refine end1 _ rfl rfl ?_
    rw [repl_not (fun hm => by have := List.count_pos_iff.2 hm; omega)]
  · have h : ¬ ((s.count c : Nat) : Int) = 0 := h
    refine And.intro (fun _ => ?_) (fun h => absurd (show (-1 : Int) < 0 by decide) h)
    have hmul : s.count c * (new.length - 1) ≤ 8000 * 100 := Nat.mul_le_mul (by omega) (by omega)
    refine ⟨(new.length : Int) - 1, wrap_i64 (by omega) (by omega), ?_⟩
    have em : ((s.count c : Nat) : Int) * ((new.length : Int) - 1) = ((s.count c * (new.length - 1) : Nat) : Int) := by
      rw [Int.natCast_mul, Int.natCast_sub (by omega)]
      rfl
    refine ⟨((s.count c * (new.length - 1) : Nat) : Int), by rw [← em]; exact wrap_i64 (by rw [em]; omega) (by rw [em]; omega), ?_⟩
    refine ⟨((s.length + s.count c * (new.length - 1) : Nat) : Int), by rw [Int.natCast_add]; exact wrap_i64 (by omega) (by omega), ?_⟩
    obtain ⟨N, hN⟩ : ∃ N, N = s.count c := ⟨_, rfl⟩
    rw [← hN] at hcl h hmul em ⊢
    refine (growN_c false (s.length + N * (new.length - 1)) (by omega) (by omega)).useE [] [] rfl ⟨⟨_, rfl, rfl, rfl, _, rfl, _, _, rfl, rfl, _, _, rfl, (.inl rfl), rfl⟩, trivial⟩ ⟨_, _, rfl, ⟨rfl, rfl⟩, _, _, rfl, rfl, rfl⟩ ?_
    refine And.intro (fun _ => ?_) (fun h => absurd (show (0 : Int) < 1 by decide) h)
    refine ⟨Nat × Nat × List UInt8, fun x => [(0, vS s), (1, vS [c]), (2, vS new), (10, .ptr 0 0 0), (11, .p (i64 x.2.1)), (52, .p (i64 N)), (53, .p (i64 x.1))], fun x => ⟨2, [(1, bO x.2.2), (0, bB 1 x.2.2)]⟩,
      fun x => x.1 ≤ N ∧ x.2.1 ≤ s.length ∧ (s.drop x.2.1).count c = N - x.1 ∧ x.2.2 = replN c new (s.take x.2.1), fun x => N - x.1, ?_, ?_⟩
    · exact ⟨(0, 0, []), ⟨by simp, by simp, by simp [hN], by simp [replN]⟩, ent_of [] [] [] rfl (by (repeat' first | exact trivial | exact rfl | exact ⟨rfl, rfl⟩ | exact .inl rfl | refine ⟨_, rfl, rfl, rfl, ?_⟩ | refine ⟨_, _, rfl, ?_, ?_⟩ | refine ⟨_, rfl, ?_⟩ | refine And.intro ?_ ?_)) (by (repeat' first | exact trivial | exact rfl | exact ⟨rfl, rfl⟩ | exact .inl rfl | refine ⟨_, rfl, rfl, rfl, ?_⟩ | refine ⟨_, _, rfl, ?_, ?_⟩ | refine ⟨_, rfl, ?_⟩ | refine And.intro ?_ ?_)) rfl⟩
    · rintro ⟨k, j, acc⟩ ⟨g1, g2, g3, g4⟩
      simp only [] at g1 g2 g3 g4
      have hal : acc.length ≤ 8000 * 101 := by
        rw [g4]
        refine Nat.le_trans (repl_len _ _ _) (Nat.mul_le_mul ?_ (by omega))
        rw [List.length_take]; omega
      refine And.intro (fun h1 => ?_) (fun h1 => ?_)
      · have h1 : (k : Int) < (N : Int) := h1
        have hm : c ∈ s.drop j := List.count_pos_iff.1 (by omega)
        obtain ⟨e1, e2, e3⟩ := ahead_split hm
        rw [List.length_drop] at e3
        refine ⟨by show (0 : Int) ≤ j ∧ (j : Int) ≤ (s.length : Nat); omega, ?_⟩
        have hI := strIndex1_c (s.drop j) c
        rw [index_ahead.1 hm] at hI
        refine hI.eq rfl ?_
        refine ⟨((j + ahead c (s.drop j) : Nat) : Int), by rw [Int.natCast_add]; exact wrap_i64 (by omega) (by omega), ?_⟩
        refine ⟨by show (0 : Int) ≤ j ∧ (j : Int) ≤ ((j + ahead c (s.drop j) : Nat) : Int) ∧ ((j + ahead c (s.drop j) : Nat) : Int) ≤ (s.length : Nat); omega, ?_⟩
        obtain ⟨p, hp⟩ : ∃ p, p = ahead c (s.drop j) := ⟨_, rfl⟩
        rw [← hp] at e1 e2 e3 ⊢
        have esub : sub s (some ((j : Nat) : Int)) (some ((j + p : Nat) : Int)) = (s.drop j).take p := by
          show (s.drop ((j : Int)).toNat).take (((j + p : Nat) : Int).toNat - ((j : Int)).toNat) = _
          rw [show ((j + p : Nat) : Int).toNat - ((j : Int)).toNat = p by omega]
          rfl
        have hW := writeString_c true acc (sub s (some ((j : Nat) : Int)) (some ((j + p : Nat) : Int))) (by omega) (by rw [esub, List.length_take, List.length_drop]; omega)
        refine hW.useE [] [] rfl ⟨⟨_, rfl, rfl, rfl, rfl⟩, ⟨_, rfl, rfl, rfl, _, rfl, _, _, rfl, ⟨rfl, rfl⟩, _, _, rfl, rfl, rfl⟩, trivial⟩ ⟨_, _, rfl, ⟨rfl, rfl⟩, _, _, rfl, rfl, rfl⟩ ?_
        refine (writeString_c true (acc ++ sub s (some ((j : Nat) : Int)) (some ((j + p : Nat) : Int))) new (by rw [esub]; simp; omega) (by omega)).useE [] [(1, 2)] rfl ⟨⟨_, rfl, rfl, rfl, rfl⟩, ⟨_, rfl, rfl, rfl, _, rfl, _, _, rfl, ⟨rfl, rfl⟩, _, _, rfl, rfl, rfl⟩, trivial⟩ ⟨_, _, rfl, ⟨rfl, rfl⟩, _, _, rfl, rfl, rfl⟩ ?_
        refine ⟨((j + p : Nat) : Int) + 1, wrap_i64 (by omega) (by omega), ?_⟩
        refine ⟨(k : Int) + 1, wrap_i64 (by omega) (by omega), ?_⟩
        refine ⟨(k + 1, j + p + 1, acc ++ sub s (some ((j : Nat) : Int)) (some ((j + p : Nat) : Int)) ++ new), ⟨by simp only []; omega, by simp only []; omega, ?_, ?_⟩, ent_of [] [(1, 3)] [] rfl (by (repeat' first | exact trivial | exact rfl | exact ⟨rfl, rfl⟩ | exact .inl rfl | refine ⟨_, rfl, rfl, rfl, ?_⟩ | refine ⟨_, _, rfl, ?_, ?_⟩ | refine ⟨_, rfl, ?_⟩ | refine And.intro ?_ ?_)) (by (repeat' first | exact trivial | exact rfl | exact ⟨rfl, rfl⟩ | exact .inl rfl | refine ⟨_, rfl, rfl, rfl, ?_⟩ | refine ⟨_, _, rfl, ?_, ?_⟩ | refine ⟨_, rfl, ?_⟩ | refine And.intro ?_ ?_)) rfl, by simp only []; omega⟩
        · simp only []
          have e4 : (s.drop j).count c = 1 + (s.drop (j + p + 1)).count c := by
            rw [e1, List.count_append, List.count_eq_zero.2 e2, List.count_cons_self, List.drop_drop]
            rw [show j + (p + 1) = j + p + 1 by omega]
            omega
          omega
        · simp only []
          rw [esub, g4]
          have e5 : s.take (j + p + 1) = s.take j ++ ((s.drop j).take p ++ [c]) := by
            rw [show j + p + 1 = j + (p + 1) by omega, List.take_add]
            congr 1
            conv => lhs; rw [e1]
            have hpl : ((s.drop j).take p).length = p := by rw [List.length_take, List.length_drop]; omega
            rw [List.take_append, hpl, List.take_of_length_le (by omega), show p + 1 - p = 1 by omega]
            rfl
          rw [e5, repl_append, repl_append, repl_not e2]
          simp [replN]
      · have h1 : ¬ (k : Int) < (N : Int) := h1
        refine ⟨by show (0 : Int) ≤ j ∧ (j : Int) ≤ (s.length : Nat); omega, ?_⟩
        have hz : c ∉ s.drop j := fun hm => by have := List.count_pos_iff.2 hm; omega
        refine (writeString_c true acc (s.drop j) (by omega) (by rw [List.length_drop]; omega)).useE [] [] rfl ⟨⟨_, rfl, rfl, rfl, rfl⟩, ⟨_, rfl, rfl, rfl, _, rfl, _, _, rfl, ⟨rfl, rfl⟩, _, _, rfl, rfl, rfl⟩, trivial⟩ ⟨_, _, rfl, ⟨rfl, rfl⟩, _, _, rfl, rfl, rfl⟩ ?_
        have er : acc ++ s.drop j = replN c new s := by
          conv => rhs; rw [← List.take_append_drop j s, repl_append, repl_not hz]
          rw [g4]
        refine (string_c true (acc ++ s.drop j) ?_ ?_).useE [] [(1, 2)] rfl ⟨⟨_, rfl, rfl, rfl, rfl⟩, ⟨_, rfl, rfl, rfl, _, rfl, _, _, rfl, ⟨rfl, rfl⟩, _, _, rfl, rfl, rfl⟩, trivial⟩ ⟨_, _, rfl, ⟨rfl, rfl⟩, rfl⟩ ?_
        · rw [er]
          exact repl_ne (by intro e; rw [e] at hcl; simp at hcl; omega) (by intro e; rw [e] at h2; simp at h2)
        · rw [List.length_append, List.length_drop]; omega
        · refine end1 _ rfl rfl ?_
          rw [er]

theorem replaceAll_c (s : List UInt8) (c : UInt8) (new : List UInt8) (hs : s.length ≤ 8000) (hn : new.length ≤ 100) (hne : new ≠ [c]) (h2 : 2 ≤ new.length) :
    Pure cx 32 [.str s, .str [c], .str new] (· = .ret [.str (replN c new s)]) := by
  refine pure_of_vc Tryd.func32 rfl rfl rfl ?_
  refine (replace_c s c new hs hn hne h2).eq rfl ?_
  exact end1 _ rfl rfl rfl
end Go.Proofs.YtemlkodkohgmmaaDoor

/- The statement on reading what was joined. -/
namespace Go.Proofs.YtemlkodkohgmmaaDoor
open Go Y
set_option maxRecDepth 100000
set_option maxHeartbeats 4000000

theorem spl0_app {α : Type} : ∀ (R k : List α), k.length ≤ R.length → spl0 R k = k ++ R.drop k.length
  | _, [], _ => by simp [spl0]
  | [], _ :: _, h => by simp at h
  | _ :: R, v :: k, h => by simp only [spl0, List.cons_append, List.length_cons, List.drop_succ_cons]; rw [spl0_app R k (by simpa using h)]
theorem spl_app {α : Type} (R k : List α) (h : k.length ≤ R.length) : ∀ X : List α, spl (X ++ R) X.length k = X ++ (k ++ R.drop k.length)
  | [] => spl0_app R k h
  | x :: X => by simp only [List.cons_append, List.length_cons, spl]; rw [spl_app R k h X]

theorem cov_last : ∀ k ∈ comL, k[4]? = some 41 := by decide

structure BkI (T : List UInt8) (i n m : Nat) (b : List UInt8) : Prop where
  im : i ≤ m
  mi : m ≤ i + 4
  mT : m ≤ T.length
  ni : n ≤ i
  cv : ∃ X, b = X ++ T.drop m ∧ Cv (T.take m) X
  lst : i < m → b[m - 1]? = some 41

theorem BkI.len {T : List UInt8} {i n m : Nat} {b : List UInt8} (h : BkI T i n m b) : b.length = T.length := by
  obtain ⟨X, rfl, hX⟩ := h.cv
  have := hX.len
  have := h.mT
  rw [List.length_append, List.length_drop, ‹X.length = _›, List.length_take]
  omega

/-- Nothing is done. -/
theorem BkI.next {T : List UInt8} {i n m : Nat} {b : List UInt8} (h : BkI T i n m b) (hi : i < T.length) : BkI T (i + 1) n (if i = m then m + 1 else m) b := by
  by_cases e : i = m
  · rw [if_pos e]
    obtain ⟨X, hb, hX⟩ := h.cv
    have hm : m < T.length := by omega
    refine ⟨by omega, by omega, by omega, by have := h.ni; omega, ⟨X ++ [T[m]], ?_, ?_⟩, fun h' => by omega⟩
    · rw [hb, List.drop_eq_getElem_cons hm]; simp
    · rw [List.take_add_one, List.getElem?_eq_getElem hm]
      exact hX.append (Cv.refl _)
  · rw [if_neg e]
    have h1 := h.im
    have h2 := h.mi
    exact ⟨by omega, by omega, h.mT, by have := h.ni; omega, h.cv, fun _ => h.lst (by omega)⟩

/-- Five blanks. -/
theorem BkI.com {T : List UInt8} {i n m : Nat} {b : List UInt8} (h : BkI T i n m b) (hi : i + 5 ≤ T.length) (hw : (b.drop i).take 5 = [32, 32, 32, 32, 32]) {k : List UInt8} (hk : k ∈ comL) : BkI T (i + 1) (n + 1) (m + 5) (spl b i k) := by
  have e : i = m := by
    rcases Nat.lt_or_ge i m with h1 | h1
    · exfalso
      have h2 := h.lst h1
      have h3 := h.mi
      have h4 : ((b.drop i).take 5)[m - 1 - i]? = some 41 := by
        rw [List.getElem?_take, if_pos (by omega), List.getElem?_drop, show i + (m - 1 - i) = m - 1 by omega, h2]
      rw [hw] at h4
      have h5 := List.mem_of_getElem? h4
      simp at h5
    · have := h.im; omega
  subst e
  obtain ⟨X, hb, hX⟩ := h.cv
  have hxl : X.length = i := by rw [hX.len, List.length_take]; omega
  have hkl := com_len hk
  have hd : b.drop i = T.drop i := by rw [hb, ← hxl]; simp [hxl]
  rw [hd] at hw
  have hT : T.drop i = [32, 32, 32, 32, 32] ++ T.drop (i + 5) := by
    conv => lhs; rw [← List.take_append_drop 5 (T.drop i)]
    rw [hw, List.drop_drop]
  have hs : spl b i k = X ++ (k ++ T.drop (i + 5)) := by
    have := spl_app (T.drop i) k (by rw [hkl, List.length_drop]; omega) X
    rw [hxl, ← hb, hkl, List.drop_drop] at this
    exact this
  refine ⟨by omega, by omega, by omega, by have := h.ni; omega, ⟨X ++ k, by rw [hs]; simp, ?_⟩, fun _ => ?_⟩
  · rw [List.take_add, hw]
    refine hX.append ?_
    have := Cv.com hk Cv.nil
    rwa [List.append_nil] at this
  · rw [hs, show i + 5 - 1 = i + 4 by omega, List.getElem?_append_right (by omega), hxl, show i + 4 - i = 4 by omega, List.getElem?_append_left (by omega)]
    exact cov_last k hk

theorem spl_map {α β : Type} (f : α → β) : ∀ (l : List α) (k : Nat) (vs : List α), spl (l.map f) k (vs.map f) = (spl l k vs).map f := by
  have s0 : ∀ (l vs : List α), spl0 (l.map f) (vs.map f) = (spl0 l vs).map f := by
    intro l vs
    induction vs generalizing l with
    | nil => cases l <;> rfl
    | cons v vs ih => cases l with
      | nil => rfl
      | cons x l => simp only [List.map_cons, spl0, ih]
  intro l k vs
  induction k generalizing l with
  | zero => cases l <;> exact s0 _ _
  | succ k ih => cases l with
    | nil => rfl
    | cons x l => simp only [List.map_cons, spl, ih]


theorem lexBack_c (l : List Dr) (fill : List UInt8) : Pure cx 9 [.lsts 6 (l.map Dr.cells), .lst (fill.map u8)] (· = .ret [.bool true]) := by
  refine pure_of_vc Tryd.func9 rfl rfl rfl ?_
  refine works_c.eq rfl ?_
  refine ⟨by show 0 ≤ (if ((60 : Nat) : Int) < ((l.map Dr.cells).length : Nat) then ((60 : Nat) : Int) else ((l.map Dr.cells).length : Nat)) ∧ _; exact min_ok 60 _, ?_⟩
  have hW := words37_c (l.take 60)
  rw [List.take_take] at hW
  obtain ⟨ds, hds⟩ : ∃ ds, ds = l.take (min 200 60) := ⟨_, rfl⟩
  have hdl : ds.length ≤ 60 := by rw [hds, List.length_take]; omega
  rw [← hds] at hW
  refine hW.eq (congrArg (fun z => [AV.p (.lsts 6 z)]) ?_) ?_
  · show (l.map Dr.cells).take (if ((60 : Nat) : Int) < ((l.map Dr.cells).length : Nat) then ((60 : Nat) : Int) else ((l.map Dr.cells).length : Nat)).toNat = _
    rw [min_take, List.map_take]
  clear hW
  obtain ⟨T, t1, t2, t3, _, t5⟩ := words_lay (suf := []) (.inl rfl) ds 1 1 1 (by omega) (by omega)
  obtain ⟨T', j1, j2, j3, j4⟩ := drafts_join ds (by omega)
  obtain rfl : T' = T := by
    have hjn := j1
    rw [joinN, t1] at hjn
    split at hjn
    · simp at hjn
    · split at hjn
      · simp at hjn
      · simp only [] at hjn
        split at hjn
        · simp at hjn
        · split at hjn
          · split at hjn
            · exact (Prod.mk.inj hjn).1.symm
            · simp at hjn
          · simp at hjn
  obtain ⟨T, hT⟩ : ∃ T, T = T' := ⟨_, rfl⟩
  rw [← hT] at t1 t2 t3 j1 j2 j3 j4
  obtain ⟨ws, hws⟩ : ∃ ws, ws = wordsN 1 1 ds := ⟨_, rfl⟩
  have hwl : ws.length = ds.length := by rw [hws, words_len]
  have hsm : ∀ w ∈ ws, w.text.length ≤ 20 := by rw [hws]; exact words_text _ _ _
  rw [← hws] at j1 j3 ⊢
  have hJ := join_c ws (fun w hw => by have := hsm w hw; omega)
  rw [joinV, j1] at hJ
  refine hJ.eq rfl ?_
  refine And.intro (fun _ => ?_) (fun h => absurd rfl h)
  have hG := gives_c T ws (by omega)
  rw [show givesN T ws = true by simp [givesN, j3]] at hG
  refine hG.eq rfl ?_
  refine ⟨Nat × Nat × Nat × List UInt8, fun x => [(1, .p (.lst (fill.map u8))), (5, .p (.lsts 4 (ws.map Wd.cells))), (8, .sl 0 1 0 T.length), (9, .p (i64 x.2.1)), (10, .p (i64 x.1))], fun x => ⟨1, [(0, ⟨5, false, .pu (x.2.2.2.map ub)⟩)]⟩, fun x => x.1 ≤ T.length ∧ BkI T x.1 x.2.1 x.2.2.1 x.2.2.2, fun x => T.length - x.1, ?_, ?_⟩
  · exact ⟨(0, 0, 0, T), ⟨by simp, ⟨by simp, by simp, by simp, by simp, ⟨[], by simp, by simp; exact .nil⟩, by simp⟩⟩, ent_of [] [] [] rfl (by (repeat' first | exact trivial | exact rfl | exact ⟨rfl, rfl⟩ | exact .inl rfl | refine ⟨_, rfl, rfl, rfl, ?_⟩ | refine ⟨_, _, rfl, ?_, ?_⟩ | refine ⟨_, rfl, ?_⟩ | refine And.intro ?_ ?_)) (by (repeat' first | exact trivial | exact rfl | exact ⟨rfl, rfl⟩ | exact .inl rfl | refine ⟨_, rfl, rfl, rfl, ?_⟩ | refine ⟨_, _, rfl, ?_, ?_⟩ | refine ⟨_, rfl, ?_⟩ | refine And.intro ?_ ?_)) rfl⟩
  · rintro ⟨i, n, m, b⟩ ⟨hi, g⟩
    simp only [] at hi g
    have hbl := g.len
    refine ⟨(i : Int) + 5, wrap_i64 (by omega) (by omega), ?_⟩
    refine And.intro (fun h1 => ?_) (fun h1 => ?_)
    · have h1 : (i : Int) + 5 ≤ (T.length : Nat) := h1
      have hni := g.ni
      refine ⟨(i : Int) + 5, wrap_i64 (by omega) (by omega), ?_⟩
      refine ⟨by show (0 : Int) ≤ i ∧ (i : Int) ≤ (i : Int) + 5 ∧ (i : Int) + 5 ≤ (T.length : Nat); omega, ?_⟩
      refine ⟨_, ⟨by show 0 + i + (i + 5 - i) ≤ (b.map ub).length; rw [List.length_map]; omega, (b.drop i).take 5, by show ((b.map ub).drop (0 + i)).take (i + 5 - i) = _; rw [Nat.zero_add, show i + 5 - i = 5 by omega, List.map_take, List.map_drop], rfl⟩, ?_⟩
      have nxt := g.next (by omega)
      refine And.intro (fun h2 => ?_) (fun h2 => ?_)
      · have h2 : (b.drop i).take 5 = [32, 32, 32, 32, 32] := h2
        refine And.intro (fun h3 => ?_) (fun h3 => ?_)
        · have h3 : (n : Int) < ((fill.map u8).length : Nat) := h3
          rw [List.length_map] at h3
          have hn : n < fill.length := by omega
          refine VDraw.seq rfl ?_
          refine ⟨by show (0 : Int) ≤ i ∧ (i : Int) ≤ (T.length : Nat); omega, ?_⟩
          refine ⟨_, ⟨by omega, u8 fill[n], by show (fill.map u8)[n]? = _; rw [List.getElem?_map, List.getElem?_eq_getElem hn]; rfl, rfl⟩, ?_⟩
          generalize fill[n] = q
          have hr := tmod_range q 3 (by decide)
          have hq := q.toNat_lt
          refine ⟨by decide, ?_⟩
          have hj : ((q.toNat : Int).tmod 3).toNat < comL.length := by show _ < 3; omega
          refine ⟨_, ⟨hr, .str comL[((q.toNat : Int).tmod 3).toNat], ldInP1 rfl (by show (comL.map PV.str)[((q.toNat : Int).tmod 3).toNat * 1]? = _; rw [Nat.mul_one, List.getElem?_map, List.getElem?_eq_getElem hj]; rfl), rfl⟩, ?_⟩
          have hk := List.getElem_mem hj
          generalize comL[((q.toNat : Int).tmod 3).toNat] = k at hk ⊢
          have hkl := com_len hk
          have g' := g.com (by omega) h2 hk
          refine ⟨⟨by show 0 + i + (T.length - i) ≤ (b.map ub).length; rw [List.length_map]; omega, by show k.length ≤ T.length - i; omega⟩, (spl b i k).map ub, by show _ = spl (b.map ub) (0 + i) (k.map ub); rw [Nat.zero_add, spl_map], ?_⟩
          refine ⟨(n : Int) + 1, wrap_i64 (by omega) (by omega), ?_⟩
          refine ⟨(i : Int) + 1, wrap_i64 (by omega) (by omega), ?_⟩
          exact ⟨(i + 1, n + 1, m + 5, spl b i k), ⟨by simp only []; omega, g'⟩, ent_of [] [] [] rfl (by (repeat' first | exact trivial | exact rfl | exact ⟨rfl, rfl⟩ | exact .inl rfl | refine ⟨_, rfl, rfl, rfl, ?_⟩ | refine ⟨_, _, rfl, ?_, ?_⟩ | refine ⟨_, rfl, ?_⟩ | refine And.intro ?_ ?_)) (by (repeat' first | exact trivial | exact rfl | exact ⟨rfl, rfl⟩ | exact .inl rfl | refine ⟨_, rfl, rfl, rfl, ?_⟩ | refine ⟨_, _, rfl, ?_, ?_⟩ | refine ⟨_, rfl, ?_⟩ | refine And.intro ?_ ?_)) rfl, by simp only []; omega⟩
        · refine ⟨(i : Int) + 1, wrap_i64 (by omega) (by omega), ?_⟩
          exact ⟨(i + 1, n, _, b), ⟨by simp only []; omega, nxt⟩, ent_of [] [] [] rfl (by (repeat' first | exact trivial | exact rfl | exact ⟨rfl, rfl⟩ | exact .inl rfl | refine ⟨_, rfl, rfl, rfl, ?_⟩ | refine ⟨_, _, rfl, ?_, ?_⟩ | refine ⟨_, rfl, ?_⟩ | refine And.intro ?_ ?_)) (by (repeat' first | exact trivial | exact rfl | exact ⟨rfl, rfl⟩ | exact .inl rfl | refine ⟨_, rfl, rfl, rfl, ?_⟩ | refine ⟨_, _, rfl, ?_, ?_⟩ | refine ⟨_, rfl, ?_⟩ | refine And.intro ?_ ?_)) rfl, by simp only []; omega⟩
      · refine ⟨(i : Int) + 1, wrap_i64 (by omega) (by omega), ?_⟩
        exact ⟨(i + 1, n, _, b), ⟨by simp only []; omega, nxt⟩, ent_of [] [] [] rfl (by (repeat' first | exact trivial | exact rfl | exact ⟨rfl, rfl⟩ | exact .inl rfl | refine ⟨_, rfl, rfl, rfl, ?_⟩ | refine ⟨_, _, rfl, ?_, ?_⟩ | refine ⟨_, rfl, ?_⟩ | refine And.intro ?_ ?_)) (by (repeat' first | exact trivial | exact rfl | exact ⟨rfl, rfl⟩ | exact .inl rfl | refine ⟨_, rfl, rfl, rfl, ?_⟩ | refine ⟨_, _, rfl, ?_, ?_⟩ | refine ⟨_, rfl, ?_⟩ | refine And.intro ?_ ?_)) rfl, by simp only []; omega⟩
    · have hcv : Cv T b := by
        obtain ⟨X, hX, hc⟩ := g.cv
        have := hc.append (Cv.refl (T.drop m))
        rw [List.take_append_drop, ← hX] at this
        exact this
      refine ⟨_, ⟨by show 0 + T.length ≤ (b.map ub).length; rw [List.length_map]; omega, b, by show ((b.map ub).drop 0).take T.length = _; rw [List.drop_zero, List.take_of_length_le (by rw [List.length_map]; omega)], rfl⟩, ?_⟩
      refine (replaceAll_c b 10 eolL (by omega) (by decide) (by decide) (by decide)).eq rfl ?_
      have hrl := repl_len 10 eolL b
      refine ⟨by show (replN 10 eolL b).length + 15 ≤ 9223372036854775807; have : eolL.length = 11 := rfl; rw [this] at hrl; omega, ?_⟩
      refine And.intro (fun _ => ?_) (fun h => ?_)
      · exact end1 _ rfl rfl rfl
      · have h : ¬ (8000 : Int) < ((replN 10 eolL b ++ endL).length : Nat) := h
        have hrd := back_read ds (by omega) t1 hcv (by omega)
        rw [← hws] at hrd
        have hG := gives_c (replN 10 eolL b ++ endL) ws (by omega)
        rw [show givesN (replN 10 eolL b ++ endL) ws = true by simp [givesN, hrd]] at hG
        refine hG.eq rfl ?_
        exact end1 _ rfl rfl rfl
end Go.Proofs.YtemlkodkohgmmaaDoor

/- The listed tables, as the rows of lex ask. -/
namespace Go.Proofs.YtemlkodkohgmmaaDoor
open Go Y
set_option maxRecDepth 100000

theorem own : ownKnob Tryd.prog.godebug = none := by kernel_rfl
abbrev laidL : List (String × DataW Unit) := [("haruspex/lex.keys", Rows.laid_haruspex_lex_keys), ("haruspex/lex.marks", Rows.laid_haruspex_lex_marks)]
theorem door_met (os : Os) (args : Array Value) : laidMetH Tryd.prog laidL ((World.doorLaid Tryd.prog 400 os).forCall (fun _ _ => 0) ⟨#[], args, []⟩).memory :=
  laidMetH_of_parts3 (fuel := 8) (laidMet_of_run' 8 (by kernel_rfl) (by kernel_rfl)) (by kernel_rfl) (by kernel_rfl)
theorem gt_ok : gtOK Tryd.prog 4 cx.gt laidL :=
  ⟨by kernel_rfl, ⟨84, by kernel_rfl, by kernel_rfl⟩, rfl, by kernel_rfl, ⟨85, by kernel_rfl, by kernel_rfl⟩, rfl, trivial⟩
theorem glob_ok {W : World} (h : laidMetH Tryd.prog laidL W) : ∀ g cs, gget cx.gt g = some cs → VP (fzOf W) (.fp cs) (.pointer (some ⟨g, 0, none⟩)) := by
  rw [MakeChecks.laidMetH_plain _ _ _ (by kernel_rfl)] at h
  obtain ⟨ps, h, _⟩ := h
  exact glob_of_laid gt_ok h

end Go.Proofs.YtemlkodkohgmmaaDoor

/- The listed tables, as the row of LexBack asks. -/
namespace Go.Proofs.YtemlkodkohgmmaaDoor
open Go Y
set_option maxRecDepth 100000

abbrev laidB : List (String × DataW Unit) := [("unicode/utf8.acceptRanges", Rows.laid_unicode_utf8_acceptRanges), ("haruspex/lex.keys", Rows.laid_haruspex_lex_keys), ("haruspex/lex.marks", Rows.laid_haruspex_lex_marks), ("unicode/utf8.first", Rows.laid_unicode_utf8_first)]
theorem door_metB (os : Os) (args : Array Value) : laidMetH Tryd.prog laidB ((World.laidAll Tryd.prog os laidB).forCall (fun _ _ => 0) ⟨#[], args, []⟩).memory := by
  rw [MakeChecks.laidMetH_plain _ _ _ (by kernel_rfl)]
  exact laidMet_laidAll _ (by kernel_rfl) (by kernel_rfl)
theorem gt_okB : gtOK Tryd.prog 4 cx.gt [("haruspex/lex.keys", Rows.laid_haruspex_lex_keys), ("haruspex/lex.marks", Rows.laid_haruspex_lex_marks), ("unicode/utf8.first", Rows.laid_unicode_utf8_first)] :=
  ⟨by kernel_rfl, ⟨84, by kernel_rfl, by kernel_rfl⟩, rfl, by kernel_rfl, ⟨85, by kernel_rfl, by kernel_rfl⟩, rfl, trivial⟩
theorem glob_okB {W : World} (h : laidMetH Tryd.prog laidB W) : ∀ g cs, gget cx.gt g = some cs → VP (fzOf W) (.fp cs) (.pointer (some ⟨g, 0, none⟩)) := by
  rw [MakeChecks.laidMetH_plain _ _ _ (by kernel_rfl)] at h
  obtain ⟨ps, h, _⟩ := h
  obtain ⟨_, _, _, _, _, _, _, _, _, _, h, _⟩ := h
  exact glob_of_laid gt_okB h

end Go.Proofs.YtemlkodkohgmmaaDoor

/- LexBack: the row and the card. Reading what was joined gives the same words at the same places, also if comments stand between them instead of blanks; for all drafts and fillers. Conditions: those of the card. -/
namespace Go.Proofs.YtemlkodkohgmmaaDoor
open Go Y
set_option maxRecDepth 100000

theorem lexBack_pure : ∀ xs, ArgsT Tryd.prog 5 Tryd.f9.params.toList xs → Pure cx 9 xs (· = .ret [.bool true]) := by
  intro xs h
  rw [Tryd.params9] at h
  obtain ⟨x0, _, rfl, h0, x1, _, rfl, h1, rfl⟩ := h
  obtain ⟨v0, e0⟩ := ty_drafts (arg_plain (by simp [partsOf, Tryd.underlying32]) h0)
  injection e0 with e0
  subst e0
  obtain ⟨v1, e1⟩ := ty_bytes (arg_plain (by simp [partsOf, Tryd.underlying22]) h1)
  injection e1 with e1
  subst e1
  exact lexBack_c v0 v1
theorem lexBack_lifted (os : Os) (started : os.Started) (H : Type) (enc : TypeId × Value → H) :
    ReturnsInHanded {} Tryd.checked os 9 .any (fun w args => (Rows.lexBackSpec.pre enc Tryd.prog Tryd.f9 [] false w args ∧ laidMetH Tryd.prog laidB w) ∧ sizedMet enc Tryd.prog Tryd.f9 (OpenSpec.ofChange Rows.lexBackSpec) false w args)
      (Rows.lexBackSpec.post enc Tryd.prog Tryd.f9 false true false false) := by
  refine returnsInHanded_of_change_and (C := Tryd.checked) (X := fun w _ => laidMetH Tryd.prog laidB w) (fun _ _ _ hh h => h.of_heap hh) own started (by kernel_rfl) Tryd.func9
    (ChangeSpec.witness_shaped (enc := enc) (C := Tryd.checked) (os := os) (X := fun w _ => laidMetH Tryd.prog laidB w) false (World.laidAll Tryd.prog os laidB) #[.slice none 0 0, .slice none 0 0] 8 (World.laidAll_os _ _ _) (World.shaped_of_ZipB (by kernel_rfl) (by kernel_rfl)) (by kernel_rfl) (by kernel_rfl) (by kernel_rfl) (door_metB os _)) ?_
  intro W base args ds gs before hval hW _ _ hL _
  obtain ⟨p, q, hA, hV, _⟩ := id hW
  have hs : Tryd.f9.params.toList.all (supp Tryd.prog 5) = true := by kernel_rfl
  obtain ⟨_, _, _, hlen⟩ := args_of hs (fun j t v ht hv => hval j t v (by simpa using ht) (by simpa using hv)) hA
  refine (calls_of_pure (cx := cx) Tryd.func9 (by kernel_rfl) rfl hs lexBack_pure hval hA (glob_okB hL)).mono fun e W' ⟨he, h1, h2, h3⟩ => ?_
  subst he
  exact ⟨_, rfl, post_of_kept (cx := cx) (m := 5) hs rfl (by kernel_rfl) Tryd.underlying4 (fun ds h => by
    rw [Tryd.params9] at h
    match ds, h with
    | [_, _], _ => rfl) hW hlen h1 h2 h3⟩

theorem lexBack_holds : Rows.LexBackSaid :=
  OpenClaim.holds_of_wide 9 Tryd.f9 rfl rfl rfl rfl rfl rfl rfl ⟨rfl, rfl, rfl, rfl, rfl⟩ rfl rfl rfl rfl rfl (by kernel_rfl) Tryd.func9 (by kernel_rfl)
    (of_decide_eq_true (by kernel_rfl)) (by unfold Func.isWrapper; first | (rw [if_pos (by decide +kernel)]; kernel_rfl) | (rw [if_neg (by decide +kernel)]; exact ⟨rfl, rfl⟩))
    (fun os started H enc _ => lexBack_lifted os started H enc)

theorem lexBack_card : Rows.LexBackCardSaid :=
  Claim7.holds_tied_plain_at .later [] [.data, .data, .data, .pinned] true (true, "c656817046542e22bb9fa6a79d1bf532833238fdf87142bdfc12bf5bc8548784") true
    lexBack_holds (fun _ h => by cases h) (by kernel_rfl) (fun _ h => by cases h) lexBack_row_tie rfl ⟨rfl, rfl⟩ (by kernel_rfl) rfl
    (fun f fn hf hfn => by
      obtain rfl : f = 9 := Option.some.inj ((show Tryd.prog.funcNamed "haruspex/haruspexlaw37.LexBack" = some 9 by kernel_rfl).symm.trans hf) |>.symm
      obtain rfl : fn = Tryd.f9 := (Option.some.inj (Tryd.func9.symm.trans hfn)).symm
      exact ⟨by kernel_rfl, fun j t ht => by
        have hall : (Tryd.f9.params.toList.all fun u => !Tryd.prog.wantsStandIn u) = true := by kernel_rfl
        exact (show Tryd.prog.wantsStandIn t = false by simpa using List.all_eq_true.1 hall t (by simpa using Array.mem_of_getElem? ht))⟩)
    (by kernel_rfl)
#print axioms lexBack_card
end Go.Proofs.YtemlkodkohgmmaaDoor
