/- LexCuts: the row and the card. A text that is cut off behind a word gives the words up to it; a malformed word behind it is reported at its place; for all drafts, numbers and texts. Conditions: those of the card. -/
import Derived.Test.YtemlkodkohgmmaaDoorRows
import Derived.Test.YtemlkodkohgmmaaDoorCards
import Derived.Test.YtemlkodkohgmmaaDoorTie
import Derived.SevenTiedAt
import Derived.Test.YtemlkodkohgmmaaDoorQ3
/- The statement on valid words. -/
namespace Go.Proofs.YtemlkodkohgmmaaDoor
open Go Y
set_option maxRecDepth 100000
set_option maxHeartbeats 4000000

theorem ty_word {m : Nat} {xs : List PV} (h : TyT Tryd.prog (m + 2) 34 xs) : ∃ w : Wd, xs = w.cells := by
  have hp : partsOf Tryd.prog 34 = some [(3, 0), (9, 1), (3, 2), (3, 3)] := by kernel_rfl
  rw [TyT] at h
  simp only [hp] at h
  obtain ⟨x1, _, rfl, _, h1, x2, _, rfl, _, h2, x3, _, rfl, _, h3, x4, _, rfl, _, h4, rfl⟩ := h
  obtain ⟨a, rfl, _⟩ := ty_int h1
  obtain ⟨t, rfl⟩ := ty_str h2
  obtain ⟨b, rfl, _⟩ := ty_int h3
  obtain ⟨c, rfl, _⟩ := ty_int h4
  exact ⟨⟨a, t, b, c⟩, rfl⟩
theorem ty_u16 {m : Nat} {xs : List PV} (h : TyT Tryd.prog (m + 1) 77 xs) : ∃ b : UInt16, xs = [.int .u16 (b.toNat : Int)] := by
  have hp : partsOf Tryd.prog 77 = none := by simp [partsOf, Tryd.underlying77]
  simp only [TyT, hp, Tryd.underlying77] at h
  obtain ⟨n, rfl, hw⟩ := h
  have := bounds_u16 hw
  refine ⟨UInt16.ofNat n.toNat, ?_⟩
  have e : ((UInt16.ofNat n.toNat).toNat : Int) = n := by
    simp
    omega
  rw [e]
theorem ty_draft {m : Nat} {xs : List PV} (h : TyT Tryd.prog (m + 3) 79 xs) : ∃ d : Dr, xs = d.cells := by
  have hp : partsOf Tryd.prog 79 = some [(5, 0), (5, 1), (22, 2), (77, 3), (5, 4), (5, 5)] := by kernel_rfl
  rw [TyT] at h
  simp only [hp] at h
  obtain ⟨x1, _, rfl, _, h1, x2, _, rfl, _, h2, x3, _, rfl, _, h3, x4, _, rfl, _, h4, x5, _, rfl, _, h5, x6, _, rfl, _, h6, rfl⟩ := h
  obtain ⟨a, rfl⟩ := ty_u8 h1
  obtain ⟨b, rfl⟩ := ty_u8 h2
  obtain ⟨c, rfl⟩ := ty_bytes h3
  obtain ⟨d, rfl⟩ := ty_u16 h4
  obtain ⟨e, rfl⟩ := ty_u8 h5
  obtain ⟨f, rfl⟩ := ty_u8 h6
  exact ⟨⟨a, b, c, d, e, f⟩, rfl⟩
theorem lift_lists {α : Type} {f : α → List PV} {ys : List (List PV)} (h : ∀ y ∈ ys, ∃ a, y = f a) : ∃ zs : List α, ys = zs.map f := by
  induction ys with
  | nil => exact ⟨[], rfl⟩
  | cons y r ih =>
    obtain ⟨a, rfl⟩ := h y (by simp)
    obtain ⟨zs, rfl⟩ := ih fun z hz => h z (by simp [hz])
    exact ⟨a :: zs, rfl⟩
theorem ty_words {m : Nat} {xs : List PV} (h : TyT Tryd.prog (m + 3) 25 xs) : ∃ l : List Wd, xs = [.lsts 4 (l.map Wd.cells)] := by
  have hp : partsOf Tryd.prog 25 = none := by simp [partsOf, Tryd.underlying25]
  have hc : Tryd.prog.cellsOf 34 = 4 := by kernel_rfl
  rw [TyT] at h
  simp only [hp, Tryd.underlying25, hc] at h
  obtain ⟨ys, rfl, _, hy⟩ := h
  obtain ⟨l, rfl⟩ := lift_lists (f := Wd.cells) fun y hy' => ty_word (hy y hy')
  exact ⟨l, rfl⟩
theorem ty_drafts {m : Nat} {xs : List PV} (h : TyT Tryd.prog (m + 4) 32 xs) : ∃ l : List Dr, xs = [.lsts 6 (l.map Dr.cells)] := by
  have hp : partsOf Tryd.prog 32 = none := by simp [partsOf, Tryd.underlying32]
  have hc : Tryd.prog.cellsOf 79 = 6 := by kernel_rfl
  rw [TyT] at h
  simp only [hp, Tryd.underlying32, hc] at h
  obtain ⟨ys, rfl, _, hy⟩ := h
  obtain ⟨l, rfl⟩ := lift_lists (f := Dr.cells) fun y hy' => ty_draft (hy y hy')
  exact ⟨l, rfl⟩
theorem arg_word {x : PV} (h : ArgT Tryd.prog 5 34 x) : ∃ w : Wd, x = .agg w.cells := by
  have hp : partsOf Tryd.prog 34 = some [(3, 0), (9, 1), (3, 2), (3, 3)] := by kernel_rfl
  simp only [ArgT, hp] at h
  obtain ⟨xs, rfl, h⟩ := h
  obtain ⟨w, rfl⟩ := ty_word h
  exact ⟨w, rfl⟩

theorem texts_c (a : List (List UInt8)) (ha : a.length ≤ 100000) : Pure cx 22 [.lst (a.map .str), .lst (a.map .str)] (· = .ret [.bool true]) := by
  refine pure_of_vc Tryd.func22 rfl rfl rfl ?_
  refine And.intro (fun _ => ?_) (fun h1 => absurd rfl h1)
  refine ⟨Nat, fun k => [(0, .p (.lst (a.map .str))), (1, .p (.lst (a.map .str))), (5, .p (i64 k))], fun _ => ⟨0, []⟩, fun k => k ≤ a.length, fun k => a.length - k, ?_, ?_⟩
  · exact ⟨0, by omega, ent0 rfl ⟨rfl, rfl, rfl, trivial⟩ trivial rfl⟩
  · intro k hk
    refine And.intro (fun h2 => ?_) (fun h2 => ?_)
    · have h2 : (k : Int) < ((a.map PV.str).length : Nat) := h2
      rw [List.length_map] at h2
      have hka : k < a.length := by omega
      refine VDraw.seq rfl ?_
      refine ⟨_, ⟨by omega, .str a[k], by show (a.map PV.str)[k]? = _; rw [List.getElem?_map, List.getElem?_eq_getElem hka]; rfl, rfl⟩, ?_⟩
      refine ⟨_, ⟨by omega, .str a[k], by show (a.map PV.str)[k]? = _; rw [List.getElem?_map, List.getElem?_eq_getElem hka]; rfl, rfl⟩, ?_⟩
      refine And.intro (fun _ => ?_) (fun h1 => absurd rfl h1)
      refine ⟨(k : Int) + 1, wrap_i64 (by omega) (by omega), k + 1, hka, ent0 rfl ⟨rfl, rfl, rfl, trivial⟩ trivial rfl, ?_⟩
      show a.length - (k + 1) < a.length - k
      omega
    · exact end1 _ rfl rfl rfl

def cutN (w : Wd) : Wd := { w with text := w.text.take 20 }
theorem min_take {α : Type} (s : List α) (n : Nat) : s.take (if (n : Int) < (s.length : Nat) then (n : Int) else (s.length : Nat)).toNat = s.take n := by
  split
  · rfl
  · rename_i h
    rw [List.take_of_length_le (by omega), List.take_of_length_le (by omega)]
theorem min_ok (n m : Nat) : 0 ≤ (if (n : Int) < (m : Nat) then (n : Int) else (m : Nat)) ∧ (if (n : Int) < (m : Nat) then (n : Int) else (m : Nat)) ≤ m := by
  split <;> omega
theorem cut_c (w : Wd) : Pure cx 15 [.agg w.cells] (· = .ret [.agg (cutN w).cells]) := by
  refine pure_of_vc Tryd.func15 rfl rfl rfl ?_
  refine ⟨min_ok 20 w.text.length, ?_⟩
  refine end1 (.agg (cutN w).cells) rfl ?_ rfl
  show PV.agg (cutN w).cells = .agg [i64 w.kind, .str (w.text.take (if (20 : Int) < (w.text.length : Nat) then (20 : Int) else (w.text.length : Nat)).toNat), i64 w.line, i64 w.col]
  rw [show w.text.take (if (20 : Int) < (w.text.length : Nat) then (20 : Int) else (w.text.length : Nat)).toNat = w.text.take 20 from min_take w.text 20]
  rfl

theorem words_text : ∀ (l c : Nat) (ds : List Dr), ∀ w ∈ wordsN l c ds, w.text.length ≤ 20
  | _, _, [], w, h => by simp [wordsN] at h
  | l, c, d :: r, w, h => by
    simp only [wordsN, List.mem_cons] at h
    rcases h with rfl | h
    · have := text_len d (kindD d); simp only [wordD]; omega
    · exact words_text _ _ r w h
theorem words_len : ∀ (l c : Nat) (ds : List Dr), (wordsN l c ds).length = ds.length
  | _, _, [] => rfl
  | l, c, d :: r => by simp [wordsN, words_len _ _ r]

def wds (l : List Wd) : AObj := ⟨34, false, .pus (l.map Wd.cells)⟩

theorem lexChecks_c (w0 : Wd) (l : List Dr) (kind line col : Int) : Pure cx 7 [.agg w0.cells, .lsts 6 (l.map Dr.cells), i64 kind, i64 line, i64 col] (· = .ret [.bool true]) := by
  refine pure_of_vc Tryd.func7 rfl rfl rfl ?_
  refine (cut_c w0).eq rfl ?_
  refine ⟨by show 0 ≤ (if ((20 : Nat) : Int) < ((l.map Dr.cells).length : Nat) then ((20 : Nat) : Int) else ((l.map Dr.cells).length : Nat)) ∧ _; exact min_ok 20 _, ?_⟩
  have hW := words37_c (l.take 20)
  rw [List.take_take] at hW
  obtain ⟨ws, hws⟩ : ∃ ws, ws = wordsN 1 1 (l.take (min 200 20)) := ⟨_, rfl⟩
  have hwl : ws.length ≤ 20 := by rw [hws, words_len, List.length_take]; omega
  have hwt : ∀ w ∈ ws, w.text.length ≤ 20 := by rw [hws]; exact words_text _ _ _
  rw [← hws] at hW
  refine hW.eq (congrArg (fun z => [AV.p (.lsts 6 z)]) ?_) ?_
  · show (l.map Dr.cells).take (if ((20 : Nat) : Int) < ((l.map Dr.cells).length : Nat) then ((20 : Nat) : Int) else ((l.map Dr.cells).length : Nat)).toNat = _
    rw [min_take, List.map_take]
  clear hW
  refine ⟨Nat × List Wd, fun x => [(2, .p (i64 kind)), (3, .p (i64 line)), (4, .p (i64 col)), (11, .sl 0 4 0 x.2.length), (27, .p (.lsts 4 (ws.map Wd.cells))), (28, .p (i64 (ws.map Wd.cells).length)), (29, .p (i64 x.1))], fun x => ⟨1, [(0, wds x.2)]⟩, fun x => x.1 ≤ ws.length ∧ x.2.length = 1 + 4 * x.1 ∧ ∀ w ∈ x.2, w.text.length ≤ 20, fun x => ws.length - x.1, ?_, ?_⟩
  · refine ⟨(0, [cutN w0]), ⟨by simp, by simp, by simp [cutN]; omega⟩, ent_of [] [(0, 1)] [] rfl (by (repeat' first | exact trivial | exact rfl | exact ⟨rfl, rfl⟩ | exact .inl rfl | refine ⟨_, rfl, rfl, rfl, ?_⟩ | refine ⟨_, _, rfl, ?_, ?_⟩ | refine ⟨_, rfl, ?_⟩ | refine And.intro ?_ ?_)) (by (repeat' first | exact trivial | exact rfl | exact ⟨rfl, rfl⟩ | exact .inl rfl | refine ⟨_, rfl, rfl, rfl, ?_⟩ | refine ⟨_, _, rfl, ?_, ?_⟩ | refine ⟨_, rfl, ?_⟩ | refine And.intro ?_ ?_)) rfl⟩
  · rintro ⟨k, out⟩ ⟨g1, g2, g3⟩
    simp only [] at g1 g2 g3
    refine And.intro (fun h1 => ?_) (fun h1 => ?_)
    · have h1 : (k : Int) < ((ws.map Wd.cells).length : Nat) := h1
      rw [List.length_map] at h1
      have hk : k < ws.length := by omega
      refine ⟨_, ⟨by omega, ws[k].cells, wcell hk, rfl⟩, ?_⟩
      have hwk := hwt _ (List.getElem_mem hk)
      generalize ws[k] = w at hwk ⊢
      refine VDraw.altTo [(2, .p (i64 kind)), (3, .p (i64 line)), (4, .p (i64 col)), (11, .sl 0 4 0 out.length), (27, .p (.lsts 4 (ws.map Wd.cells))), (28, .p (i64 (ws.map Wd.cells).length)), (29, .p (i64 k)), (13, .ptr 1 0 0), (14, .ptr 2 0 0), (15, .ptr 3 0 0)] ⟨4, [(3, wdO w), (2, wdO w), (1, wdO w), (0, wds out)]⟩ rfl ?_ ?_
      · refine And.intro ?_ ?_
        · refine ⟨by (repeat' first | exact trivial | exact rfl | exact ⟨rfl, rfl⟩ | exact .inl rfl | refine ⟨_, rfl, rfl, rfl, ?_⟩ | refine ⟨_, _, rfl, ?_, ?_⟩ | refine ⟨_, rfl, ?_⟩ | refine And.intro ?_ ?_), ?_⟩
          refine ⟨by (repeat' first | exact trivial | exact rfl | exact ⟨rfl, rfl⟩ | exact .inl rfl | refine ⟨_, rfl, rfl, rfl, ?_⟩ | refine ⟨_, _, rfl, ?_, ?_⟩ | refine ⟨_, rfl, ?_⟩ | refine And.intro ?_ ?_), ?_⟩
          refine ⟨by (repeat' first | exact trivial | exact rfl | exact ⟨rfl, rfl⟩ | exact .inl rfl | refine ⟨_, rfl, rfl, rfl, ?_⟩ | refine ⟨_, _, rfl, ?_, ?_⟩ | refine ⟨_, rfl, ?_⟩ | refine And.intro ?_ ?_), ?_⟩
          exact ent_of [] [] [] rfl (by (repeat' first | exact trivial | exact rfl | exact ⟨rfl, rfl⟩ | exact .inl rfl | refine ⟨_, rfl, rfl, rfl, ?_⟩ | refine ⟨_, _, rfl, ?_, ?_⟩ | refine ⟨_, rfl, ?_⟩ | refine And.intro ?_ ?_)) (by (repeat' first | exact trivial | exact rfl | exact ⟨rfl, rfl⟩ | exact .inl rfl | refine ⟨_, rfl, rfl, rfl, ?_⟩ | refine ⟨_, _, rfl, ?_, ?_⟩ | refine ⟨_, rfl, ?_⟩ | refine And.intro ?_ ?_)) rfl
        · refine ⟨by (repeat' first | exact trivial | exact rfl | exact ⟨rfl, rfl⟩ | exact .inl rfl | refine ⟨_, rfl, rfl, rfl, ?_⟩ | refine ⟨_, _, rfl, ?_, ?_⟩ | refine ⟨_, rfl, ?_⟩ | refine And.intro ?_ ?_), ?_⟩
          refine ⟨by (repeat' first | exact trivial | exact rfl | exact ⟨rfl, rfl⟩ | exact .inl rfl | refine ⟨_, rfl, rfl, rfl, ?_⟩ | refine ⟨_, _, rfl, ?_, ?_⟩ | refine ⟨_, rfl, ?_⟩ | refine And.intro ?_ ?_), ?_⟩
          refine ⟨by (repeat' first | exact trivial | exact rfl | exact ⟨rfl, rfl⟩ | exact .inl rfl | refine ⟨_, rfl, rfl, rfl, ?_⟩ | refine ⟨_, _, rfl, ?_, ?_⟩ | refine ⟨_, rfl, ?_⟩ | refine And.intro ?_ ?_), ?_⟩
          exact ent_of [] [(2, 3), (3, 2)] [] rfl (by (repeat' first | exact trivial | exact rfl | exact ⟨rfl, rfl⟩ | exact .inl rfl | refine ⟨_, rfl, rfl, rfl, ?_⟩ | refine ⟨_, _, rfl, ?_, ?_⟩ | refine ⟨_, rfl, ?_⟩ | refine And.intro ?_ ?_)) (by (repeat' first | exact trivial | exact rfl | exact ⟨rfl, rfl⟩ | exact .inl rfl | refine ⟨_, rfl, rfl, rfl, ?_⟩ | refine ⟨_, _, rfl, ?_, ?_⟩ | refine ⟨_, rfl, ?_⟩ | refine And.intro ?_ ?_)) rfl
      · refine ⟨by show 0 + 3 ≤ 3; omega, [w.cells, (Wd.mk kind w.text w.line w.col).cells, (Wd.mk w.kind w.text line w.col).cells], rfl, ?_⟩
        refine ⟨by show 0 + out.length ≤ (out.map Wd.cells).length; simp, out.map Wd.cells, takeAll (by simp), ?_⟩
        refine ⟨by show (out.length + 3) * 40 ≤ 140737488355328; omega, (out ++ [w, Wd.mk kind w.text w.line w.col, Wd.mk w.kind w.text line w.col]).map Wd.cells, by simp, ?_⟩
        refine ⟨by show 0 + 1 ≤ 1; omega, [(Wd.mk w.kind w.text w.line col).cells], rfl, ?_⟩
        refine ⟨by show 0 + (out.length + 3) ≤ (List.map Wd.cells _).length; simp, (out ++ [w, Wd.mk kind w.text w.line w.col, Wd.mk w.kind w.text line w.col]).map Wd.cells, takeAll (by simp), ?_⟩
        refine ⟨by show (out.length + 3 + 1) * 40 ≤ 140737488355328; omega, (out ++ [w, Wd.mk kind w.text w.line w.col, Wd.mk w.kind w.text line w.col, Wd.mk w.kind w.text w.line col]).map Wd.cells, by simp, ?_⟩
        refine ⟨(k : Int) + 1, wrap_i64 (by omega) (by omega), (k + 1, out ++ [w, Wd.mk kind w.text w.line w.col, Wd.mk w.kind w.text line w.col, Wd.mk w.kind w.text w.line col]), ⟨hk, by simp; omega, ?_⟩, ent_of [] [(0, 7)] [] rfl ⟨rfl, rfl, rfl, ?_, rfl, rfl, rfl, trivial⟩ (by (repeat' first | exact trivial | exact rfl | exact ⟨rfl, rfl⟩ | exact .inl rfl | refine ⟨_, rfl, rfl, rfl, ?_⟩ | refine ⟨_, _, rfl, ?_, ?_⟩ | refine ⟨_, rfl, ?_⟩ | refine And.intro ?_ ?_)) rfl, by simp only []; omega⟩
        · intro x hx
          simp only [List.mem_append, List.mem_cons, List.not_mem_nil, or_false] at hx
          rcases hx with hx | rfl | rfl | rfl | rfl
          · exact g3 x hx
          all_goals exact hwk
        · exact congrArg (fun n => AV.sl _ 4 0 n) (by simp)
    · refine ⟨Nat, fun j => [(53, .p (.lsts 4 (out.map Wd.cells))), (54, .p (i64 out.length)), (55, .p (i64 j))], fun _ => ⟨0, []⟩, fun j => j ≤ out.length, fun j => out.length - j, ?_, ?_⟩
      · exact ⟨0, by omega, ent_of [0] [] [] rfl ⟨⟨_, rfl, by simp, takeAll (by simp)⟩, rfl, rfl, trivial⟩ trivial rfl⟩
      · intro j hj
        refine And.intro (fun h2 => ?_) (fun h2 => ?_)
        · have h2 : (j : Int) < (out.length : Nat) := h2
          have hjl : j < out.length := by omega
          refine ⟨_, ⟨by omega, out[j].cells, wcell hjl, rfl⟩, ?_⟩
          have hx := g3 _ (List.getElem_mem hjl)
          generalize out[j] = x at hx ⊢
          refine VDraw.seq rfl ?_
          refine (check_c x (by omega)).eq rfl ?_
          refine ⟨by (repeat' first | exact trivial | exact rfl | exact ⟨rfl, rfl⟩ | exact .inl rfl | refine ⟨_, rfl, rfl, rfl, ?_⟩ | refine ⟨_, _, rfl, ?_, ?_⟩ | refine ⟨_, rfl, ?_⟩ | refine And.intro ?_ ?_), ?_⟩
          refine (rCheck_c x (by omega)).eq rfl ?_
          refine And.intro (fun _ => ?_) (fun h => absurd rfl h)
          refine ⟨(j : Int) + 1, wrap_i64 (by omega) (by omega), j + 1, hjl, ent_of [] [] [] rfl ⟨rfl, rfl, rfl, trivial⟩ trivial rfl, ?_⟩
          show out.length - (j + 1) < out.length - j
          omega
        · refine keys_c.eq rfl ?_
          refine rKeys_c.eq rfl ?_
          refine (texts_c keysL (by decide)).eq rfl ?_
          refine marks_c.eq rfl ?_
          refine rMarks_c.eq rfl ?_
          refine (texts_c marksL (by decide)).eq rfl ?_
          refine works_c.eq rfl ?_
          exact end1 _ rfl rfl rfl
end Go.Proofs.YtemlkodkohgmmaaDoor

/- Plain laws: the words of drafts stand in a text; a malformed word behind them. -/
namespace Go.Proofs.YtemlkodkohgmmaaDoor
open Go Y
set_option maxRecDepth 100000
set_option maxHeartbeats 4000000

theorem ten_dig : ∀ m < 10, isDig (tenL.getD m 0) = true := by decide
theorem ten_head : ∀ m < 10, m ≠ 0 → (tenL.getD m 0).toNat ≠ 48 := by decide
theorem dig_props : ∀ (f n : Nat), n < 10 ^ f → digN (f + 1) n ≠ [] ∧ (∀ c ∈ digN (f + 1) n, isDig c = true) ∧ (digN (f + 1) n).length ≤ max f 1 ∧ (n = 0 → digN (f + 1) n = [48]) ∧ (n ≠ 0 → ((digN (f + 1) n).headD 0).toNat ≠ 48)
  | 0, n, h => by
    have : n = 0 := by simpa using h
    subst this
    decide
  | f + 1, n, h => by
    rw [digN]
    split
    · rename_i h1
      refine ⟨by simp, fun c hc => ?_, by simp, fun h0 => by subst h0; rfl, fun h0 => ten_head n h1 h0⟩
      simp at hc
      subst hc
      have := ten_dig n h1
      simpa using this
    · rename_i h1
      have hn : n / 10 < 10 ^ f := by rw [Nat.pow_succ] at h; omega
      obtain ⟨a1, a2, a3, a4, a5⟩ := dig_props f (n / 10) hn
      have hf : 1 ≤ f := by
        cases f with
        | zero => simp at hn; omega
        | succ f => omega
      refine ⟨by simp, fun c hc => ?_, ?_, fun h0 => by omega, fun _ => ?_⟩
      · rcases List.mem_append.1 hc with hc | hc
        · exact a2 c hc
        · simp at hc
          subst hc
          have := ten_dig (n % 10) (by omega)
          simpa using this
      · rw [List.length_append, List.length_singleton]; omega
      · have := a5 (by omega)
        cases e : digN (f + 1) (n / 10) with
        | nil => exact absurd e a1
        | cons x r => rw [e] at this; simpa using this

theorem getD_mem {α : Type} {l : List α} {n : Nat} {d : α} (h : n < l.length) : l.getD n d ∈ l := List.mem_of_getElem? (getD_get h)
theorem abc_aln : ∀ m < 8, isAln (abcL.getD m 0) = true := by decide
theorem key_x (r : List UInt8) : inL keysL (120 :: r) = false := by
  cases h : inL keysL (120 :: r) with
  | false => rfl
  | true =>
    have := inL_mem h
    simp [keysL] at this
theorem mem_inL {l : List (List UInt8)} {s : List UInt8} (h : s ∈ l) : inL l s = true := by
  induction l with
  | nil => simp at h
  | cons x l ih =>
    simp only [inL]
    rcases List.mem_cons.1 h with rfl | h
    · simp
    · simp [ih h]

theorem text_right (d : Dr) : rightN (kindD d) (textN d (kindD d)) = true := by
  have hk : kindD d = 1 ∨ kindD d = 2 ∨ kindD d = 3 ∨ kindD d = 4 := by unfold kindD; omega
  rcases hk with h | h | h | h <;> rw [h]
  · show nameN (nameT d.letters) = true
    have hs : spanN isAln (nameT d.letters) = (nameT d.letters).length := spanN_all.2 fun c hc => by
      rcases List.mem_cons.1 hc with rfl | hc
      · decide
      · obtain ⟨b, -, rfl⟩ := List.mem_map.1 hc
        exact abc_aln _ (Nat.mod_lt _ (by decide))
    have hl : (nameT d.letters).length ≤ 10 := by simp [nameT]; omega
    unfold nameN
    rw [hs, show inL keysL (nameT d.letters) = false from key_x _, decide_eq_true hl]
    simp [nameT, isLet]
  · exact mem_inL (getD_mem (Nat.mod_lt _ (by decide)))
  · show numN (digN 5 (d.n.toNat % 10000)) = true
    obtain ⟨a1, a2, a3, a4, a5⟩ := dig_props 4 (d.n.toNat % 10000) (Nat.mod_lt _ (by decide))
    have hs := (spanN_all (f := isDig)).2 a2
    unfold numN
    rw [decide_eq_true a1, decide_eq_true (show (digN 5 (d.n.toNat % 10000)).length ≤ 4 from a3), decide_eq_true hs]
    by_cases h0 : d.n.toNat % 10000 = 0
    · rw [a4 h0]; rfl
    · rw [decide_eq_true (a5 h0)]; simp
  · exact mem_inL (getD_mem (Nat.mod_lt _ (by decide)))

def BlS (s : List UInt8) : Prop := s = [] ∨ ∃ x r, s = x :: r ∧ isBl x
theorem BlS.fol {s : List UInt8} (h : BlS s) : Fol [] s := by
  rcases h with rfl | ⟨x, r, rfl, hx⟩
  · exact Fol.nil _
  · exact Fol.bl _ _ _ hx

theorem words_take : ∀ (l c k : Nat) (ds : List Dr), (wordsN l c ds).take k = wordsN l c (ds.take k)
  | _, _, 0, _ => by simp [wordsN]
  | _, _, _ + 1, [] => by simp [wordsN]
  | l, c, k + 1, d :: r => by simp [wordsN, words_take _ _ k r]

theorem words_lay {suf : List UInt8} (hsuf : BlS suf) : ∀ (ds : List Dr) (l c c0 : Nat), c0 ≤ c → 1 ≤ c → ∃ T, putN l c0 (wordsN l c ds) = some T ∧ Lay (l, c0) T (wordsN l c ds) suf ∧ T.length + c0 ≤ c + 16 * ds.length ∧ (c0 < c → BlS T) ∧ ∀ w ∈ wordsN l c ds, (l ≤ w.line ∧ w.line ≤ l + 2 * ds.length ∧ 1 ≤ w.col ∧ w.col ≤ c + 14 * ds.length)
  | [], l, c, c0, h, _ => ⟨[], rfl, Lay.nil _ _, by simp; omega, fun _ => .inl rfl, by simp [wordsN]⟩
  | d :: ds, l, c, c0, h, h1 => by
    have htl := text_len d (kindD d)
    have hr := text_right d
    have hwl := right_len hr
    obtain ⟨w, hw⟩ : ∃ w, w = wordD d l c := ⟨_, rfl⟩
    have e1 : w.line = lineD d l := by rw [hw]; rfl
    have e2 : w.col = colD d c := by rw [hw]; rfl
    have e3 : w.text = textN d (kindD d) := by rw [hw]; rfl
    have e4 : w.kind = kindD d := by rw [hw]; rfl
    have hL : l ≤ lineD d l ∧ lineD d l ≤ l + 2 := by unfold lineD; split <;> omega
    have hC : 1 ≤ colD d c ∧ colD d c ≤ c + 3 := by unfold colD; split <;> omega
    have hC2 : lineD d l = l → c ≤ colD d c := by
      unfold lineD colD
      split
      · rename_i hnw; unfold newL at hnw; omega
      · omega
    obtain ⟨T, t1, t2, t3, t4, t5⟩ := words_lay hsuf ds (lineD d l) (colD d c + (textN d (kindD d)).length + 1) (colD d c + (textN d (kindD d)).length) (by omega) (by omega)
    have hnb : ¬ (lineD d l < l ∨ lineD d l = l ∧ colD d c < c0) := by
      rintro (hb | ⟨hb, hb2⟩)
      · omega
      · have := hC2 hb; omega
    have hT : BlS (T ++ suf) := by
      rcases t4 (by omega) with rfl | ⟨x, r, rfl, hx⟩
      · simpa using hsuf
      · exact .inr ⟨x, r ++ suf, rfl, hx⟩
    obtain ⟨o1, o2⟩ := right_one hr
    have hne : textN d (kindD d) ≠ [] := by intro e; rw [e] at hwl; simp at hwl
    have hone : oneN (w.text ++ (T ++ suf)) = (w.kind, w.text) := by
      rw [e3, e4]
      exact one_fol hr (by rw [List.append_nil]; exact o1) hT.fol
    have hst : stopB (w.text ++ (T ++ suf)) = true := by
      rw [e3]
      exact stop_fol hne (by rw [List.append_nil]; exact o2) hT.fol
    have hgl := gap_len l c0 w
    rw [e1, e2] at hgl
    simp only [Int.toNat_natCast] at hgl
    refine ⟨gapN l c0 w ++ (w.text ++ T), ?_, ?_, ?_, ?_, ?_⟩
    · rw [wordsN, ← hw, putN, e1, e2, e3]
      simp only [Int.toNat_natCast]
      rw [if_neg hnb, t1]
      simp
    · rw [wordsN, ← hw]
      refine Lay.cons (skips_blank hst (gap_bl _ _ _)) hone (by rw [e3, e4]; exact hr) (advs_gap e1 e2 hC.1 hnb) e1 e2 (by rw [e3]; exact t2)
    · have hcc : lineD d l ≠ l → colD d c ≤ 4 := by
        unfold lineD colD
        split
        · omega
        · intro h; exact absurd rfl h
      have h1 : ¬ l < lineD d l → lineD d l = l := by omega
      simp only [List.length_append, List.length_cons]
      rw [hgl, e3]
      split
      · have := hcc (by omega); omega
      · omega
    · intro hlt
      right
      have hpos : 0 < (gapN l c0 w).length := by
        rw [hgl]
        split
        · omega
        · rename_i hn
          have := hC2 (by omega)
          omega
      cases e : gapN l c0 w with
      | nil => rw [e] at hpos; simp at hpos
      | cons x g => exact ⟨x, _, rfl, gap_bl l c0 w x (by rw [e]; simp)⟩
    · intro v hv
      rw [wordsN, ← hw] at hv
      simp only [List.length_cons]
      rcases List.mem_cons.1 hv with rfl | hv
      · rw [e1, e2]; omega
      · have hb := t5 v hv
        omega

theorem Lay.lastLine {p : Nat × Nat} {T : List UInt8} {ws : List Wd} {suf : List UInt8} (h : Lay p T ws suf) : ∀ w, ws.getLast? = some w → ((advs p T).1 : Int) = w.line := by
  induction h with
  | nil => intro w hw; simp at hw
  | @cons p g T w ws suf l c hsk h1 hr hp hl hc h ih =>
    intro v hv
    rw [advs_append, advs_append, hp, advs_text (right_noNl hr)]
    cases h with
    | nil => simp at hv; subst hv; simp [advs, hl]
    | cons => exact ih v (by simpa using hv)

/-- Words of drafts: Join gives a text, Read gives them back, also with something behind that begins with a blank. -/
theorem drafts_join (ds : List Dr) (hn : ds.length ≤ 200) : ∃ T, joinN (wordsN 1 1 ds) = (T, 0) ∧ T.length ≤ 16 * ds.length ∧ readT T = (wordsN 1 1 ds, 0, 0, 0) ∧ ∀ suf, BlS suf → Lay (1, 1) T (wordsN 1 1 ds) suf := by
  obtain ⟨T, t1, t2, t3, _, t5⟩ := words_lay (suf := []) (.inl rfl) ds 1 1 1 (by omega) (by omega)
  have hl := words_len 1 1 ds
  have hrd := readR_lay t2 (by omega)
  have hall : ¬ (wordsN 1 1 ds).all checkN = false := by
    rw [Bool.not_eq_false, List.all_eq_true]
    intro v hv
    have hb := t5 v hv
    have hr : rightN v.kind v.text = true := by
      clear t1 t2 t3 t5 hl hrd hb hn
      have : ∀ (ds : List Dr) (l c : Nat), v ∈ wordsN l c ds → rightN v.kind v.text = true := by
        intro ds
        induction ds with
        | nil => intro l c hv; simp [wordsN] at hv
        | cons d ds ih =>
          intro l c hv
          rcases List.mem_cons.1 hv with rfl | hv
          · exact text_right d
          · exact ih _ _ hv
      exact this ds 1 1 hv
    simp only [checkN, Bool.and_eq_true, decide_eq_true_eq]
    refine ⟨by omega, by omega, by omega, by omega, hr⟩
  refine ⟨T, ?_, by omega, ?_, fun suf hs => ?_⟩
  · rw [joinN, if_neg (by omega), if_neg hall, t1]
    simp only []
    rw [if_neg (by omega), hrd]
    simp
  · rw [readT, if_neg (by omega), hrd]
  · obtain ⟨T', u1, u2, _⟩ := words_lay hs ds 1 1 1 (by omega) (by omega)
    rw [t1] at u1
    injection u1 with u1
    subst u1
    exact u2

/-- A malformed word behind words. -/
theorem read_bad {T : List UInt8} {ws : List Wd} {w : Wd} {tl : List UInt8} (hL : Lay (1, 1) T ws (10 :: 32 :: 32 :: tl)) (hw : ws.getLast? = some w) (hn : ws.length ≤ 1500) (hlen : (T ++ 10 :: 32 :: 32 :: tl).length ≤ 8000)
    (hst : stopB tl = true) (hne : tl ≠ []) (hbad : rightN (oneN tl).1 (oneN tl).2 = false) : readT (T ++ 10 :: 32 :: 32 :: tl) = ([], w.line + 1, 3, 370) := by
  obtain ⟨s, hs⟩ : ∃ s, s = T ++ 10 :: 32 :: 32 :: tl := ⟨_, rfl⟩
  have hl := hL.len
  have hsl : s.length = T.length + 3 + tl.length := by rw [hs]; simp; omega
  have h1 := read_lay hL [] [] (s.length + 1 - ws.length) rfl (by simpa using hn)
  simp only [List.nil_append, List.length_nil] at h1
  rw [← hs] at h1 hlen ⊢
  obtain ⟨f, hf⟩ : ∃ f, s.length + 1 - ws.length = f + 1 := ⟨s.length - ws.length, by omega⟩
  have hd : s.drop T.length = [10, 32, 32] ++ tl := by rw [hs]; simp
  have hsk : skipN s.length (s.drop T.length) = .inl 3 := by
    rw [hd]
    exact skips_blank hst (g := [10, 32, 32]) (by intro c hc; simp at hc; unfold isBl; rcases hc with rfl | rfl <;> decide) _ (by simp; omega)
  have hd2 : s.drop (T.length + 3) = tl := by rw [← List.drop_drop, hd]; rfl
  have htl : 1 ≤ tl.length := by cases tl with
    | nil => exact absurd rfl hne
    | cons => simp
  have hat : at_ s (T.length + 3) = ((advs (1, 1) T).1 + 1, 3) := by
    have : s = (T ++ [10, 32, 32]) ++ tl := by rw [hs]; simp
    rw [this, show T.length + 3 = (T ++ [10, 32, 32]).length by simp, at_app, advs_append]
    rfl
  have hrd : readR s = .err ((advs (1, 1) T).1 + 1, 3) 370 := by
    rw [readR, show s.length + 1 = s.length + 1 - ws.length + ws.length by omega, h1, hf, readN, hsk]
    simp only []
    rw [readB, if_neg (by omega), hd2, hbad, hat]
  rw [readT, if_neg (by omega), hrd]
  simp only []
  rw [← hL.lastLine w hw]
  rfl
end Go.Proofs.YtemlkodkohgmmaaDoor

/- The statement on texts that are cut off. -/
namespace Go.Proofs.YtemlkodkohgmmaaDoor
open Go Y
set_option maxRecDepth 100000
set_option maxHeartbeats 4000000

def badL : List (List UInt8) := [[63], [49, 97], [48, 48], [49, 50, 51, 52, 53], [97, 98, 99, 100, 101, 102, 103, 104, 105, 106, 107], [47], [46], [42]]
theorem badL_len : ∀ s ∈ badL, s.length ≤ 11 := by decide
theorem bad_at (r : List UInt8) : ∀ s ∈ badL, stopB (s ++ 32 :: r) = true ∧ s ++ 32 :: r ≠ [] ∧ rightN (oneN (s ++ 32 :: r)).1 (oneN (s ++ 32 :: r)).2 = false := by
  intro s hs
  simp only [badL, List.mem_cons, List.not_mem_nil, or_false] at hs
  rcases hs with rfl | rfl | rfl | rfl | rfl | rfl | rfl | rfl <;> exact ⟨rfl, by simp, rfl⟩

theorem lexCuts_c (l : List Dr) (at0 which : UInt8) (behind : List UInt8) : Pure cx 6 [.lsts 6 (l.map Dr.cells), u8 at0, u8 which, .str behind] (· = .ret [.bool true]) := by
  refine pure_of_vc Tryd.func6 rfl rfl rfl ?_
  refine works_c.eq rfl ?_
  refine ⟨by show 0 ≤ (if ((30 : Nat) : Int) < ((l.map Dr.cells).length : Nat) then ((30 : Nat) : Int) else ((l.map Dr.cells).length : Nat)) ∧ _; exact min_ok 30 _, ?_⟩
  have hW := words37_c (l.take 30)
  rw [List.take_take] at hW
  obtain ⟨ds, hds⟩ : ∃ ds, ds = l.take (min 200 30) := ⟨_, rfl⟩
  have hdl : ds.length ≤ 30 := by rw [hds, List.length_take]; omega
  rw [← hds] at hW
  refine hW.eq (congrArg (fun z => [AV.p (.lsts 6 z)]) ?_) ?_
  · show (l.map Dr.cells).take (if ((30 : Nat) : Int) < ((l.map Dr.cells).length : Nat) then ((30 : Nat) : Int) else ((l.map Dr.cells).length : Nat)).toNat = _
    rw [min_take, List.map_take]
  clear hW
  obtain ⟨ws, hws⟩ : ∃ ws, ws = wordsN 1 1 ds := ⟨_, rfl⟩
  have hwl : ws.length = ds.length := by rw [hws, words_len]
  rw [← hws]
  obtain ⟨g, hg⟩ : ∃ g, g = ws.map Wd.cells := ⟨_, rfl⟩
  have hgl : g.length = ws.length := by rw [hg, List.length_map]
  rw [← hg]
  refine And.intro (fun _ => ?_) (fun h1 => ?_)
  · exact end1 _ rfl rfl rfl
  · have h1 : ¬ ((g.length : Nat) : Int) = 0 := h1
    have ha := at0.toNat_lt
    refine ⟨(at0.toNat : Int), wrap_i64 (by omega) (by omega), ?_⟩
    refine ⟨by omega, ?_⟩
    obtain ⟨K, hK⟩ : ∃ K, K = at0.toNat % g.length := ⟨_, rfl⟩
    have hKl : K < g.length := by have := Nat.mod_lt at0.toNat (show 0 < g.length by omega); omega
    have hKe : (at0.toNat : Int).tmod (g.length : Nat) = (K : Int) := by rw [hK]; rfl
    rw [hKe]
    refine ⟨(K : Int) + 1, wrap_i64 (by omega) (by omega), ?_⟩
    refine ⟨by show 0 ≤ (K : Int) + 1 ∧ (K : Int) + 1 ≤ (g.length : Nat); omega, ?_⟩
    obtain ⟨T, j1, j2, j3, j4⟩ := drafts_join (ds.take (K + 1)) (by rw [List.length_take]; omega)
    rw [← words_take, ← hws] at j1 j3 j4
    rw [List.length_take] at j2
    have hsm : ∀ w ∈ ws.take (K + 1), w.text.length ≤ 20 := fun w hw => by
      have := List.mem_of_mem_take hw
      rw [hws] at this
      exact words_text _ _ _ w this
    have hJ := join_c (ws.take (K + 1)) (fun w hw => by have := hsm w hw; omega)
    rw [joinV, j1] at hJ
    have hgt : g.take (K + 1) = (ws.take (K + 1)).map Wd.cells := by rw [hg, List.map_take]
    refine hJ.eq (congrArg (fun z => [AV.p (.lsts 4 z)]) hgt) ?_
    refine And.intro (fun _ => ?_) (fun h => absurd rfl h)
    refine ⟨(K : Int) + 1, wrap_i64 (by omega) (by omega), ?_⟩
    refine ⟨by show 0 ≤ (K : Int) + 1 ∧ (K : Int) + 1 ≤ (g.length : Nat); omega, ?_⟩
    have hG := gives_c T (ws.take (K + 1)) (by rw [List.length_take]; omega)
    rw [show givesN T (ws.take (K + 1)) = true by simp [givesN, j3]] at hG
    refine hG.eq (congrArg (fun z => [vS T, AV.p (.lsts 4 z)]) hgt) ?_
    have hb := which.toNat_lt
    have hr := tmod_range which 8 (by decide)
    refine ⟨by decide, ?_⟩
    have hj : ((which.toNat : Int).tmod 8).toNat < badL.length := by show _ < 8; omega
    refine ⟨_, ⟨hr, .str badL[((which.toNat : Int).tmod 8).toNat], ldInP1 rfl (by show (badL.map PV.str)[((which.toNat : Int).tmod 8).toNat * 1]? = _; rw [Nat.mul_one, List.getElem?_map, List.getElem?_eq_getElem hj]; rfl), rfl⟩, ?_⟩
    have hbl := badL_len _ (List.getElem_mem hj)
    have hba := fun r => bad_at r _ (List.getElem_mem hj)
    generalize badL[((which.toNat : Int).tmod 8).toNat] = u at hbl hba ⊢
    refine ⟨by show T.length + 3 ≤ _; omega, ?_⟩
    refine ⟨by show (T ++ [10, 32, 32]).length + u.length ≤ _; simp; omega, ?_⟩
    refine ⟨by show (T ++ [10, 32, 32] ++ u).length + 1 ≤ _; simp; omega, ?_⟩
    refine ⟨by show 0 ≤ (if ((40 : Nat) : Int) < ((behind.length : Nat) : Int) then ((40 : Nat) : Int) else ((behind.length : Nat) : Int)) ∧ _; exact min_ok 40 _, ?_⟩
    have hbt := min_take behind 40
    refine ⟨by show (T ++ [10, 32, 32] ++ u ++ [32]).length + (behind.take (if ((40 : Nat) : Int) < ((behind.length : Nat) : Int) then ((40 : Nat) : Int) else ((behind.length : Nat) : Int)).toNat).length ≤ _; rw [hbt]; simp; omega, ?_⟩
    have hKw : K < ws.length := by omega
    obtain ⟨w, hw⟩ : ∃ w, w = ws[K] := ⟨_, rfl⟩
    refine ⟨_, ⟨by omega, w.cells, by show g[K]? = _; rw [hg, wcell hKw, hw], rfl⟩, ?_⟩
    have hlast : (ws.take (K + 1)).getLast? = some w := by
      have e : ws.take (K + 1) = ws.take K ++ [ws[K]] := by rw [List.take_add_one, List.getElem?_eq_getElem hKw]; rfl
      rw [e, List.getLast?_concat, hw]
    have hmem : w ∈ wordsN 1 1 ds := by rw [← hws, hw]; exact List.getElem_mem hKw
    obtain ⟨_, _, _, _, _, hbd⟩ := words_lay (suf := []) (.inl rfl) ds 1 1 1 (by omega) (by omega)
    have hbw := hbd w hmem
    refine ⟨w.line + 1, wrap_i64 (by omega) (by omega), ?_⟩
    obtain ⟨q1, q2, q3⟩ := hba (behind.take 40)
    have hbh : (behind.take 40).length ≤ 40 := by rw [List.length_take]; omega
    have hrd := read_bad (j4 (10 :: 32 :: 32 :: (u ++ 32 :: behind.take 40)) (.inr ⟨10, _, rfl, .inr rfl⟩)) hlast (by rw [List.length_take]; omega) (by simp only [List.length_append, List.length_cons]; omega) q1 q2 q3
    have hR := refused_c (T ++ 10 :: 32 :: 32 :: (u ++ 32 :: behind.take 40)) (w.line + 1) 3 370
    rw [show refusedN (T ++ 10 :: 32 :: 32 :: (u ++ 32 :: behind.take 40)) (w.line + 1) 3 370 = true by simp [refusedN, hrd]] at hR
    refine hR.eq (congrArg (fun z => [vS z, AV.p (i64 (w.line + 1)), AV.p (i64 3), AV.p (i64 370)]) ?_) ?_
    · show T ++ [10, 32, 32] ++ u ++ [32] ++ behind.take (if ((40 : Nat) : Int) < ((behind.length : Nat) : Int) then ((40 : Nat) : Int) else ((behind.length : Nat) : Int)).toNat = _
      rw [hbt]
      simp
    · exact end1 _ rfl rfl rfl
end Go.Proofs.YtemlkodkohgmmaaDoor

/- The listed tables, as the rows of lex ask. -/
namespace Go.Proofs.YtemlkodkohgmmaaDoor
open Go Y
set_option maxRecDepth 100000

theorem own : ownKnob Tryd.prog.godebug = none := by kernel_rfl
abbrev laidL : List (String × DataW Unit) := [("haruspex/lex.keys", Rows.laid_haruspex_lex_keys), ("haruspex/lex.marks", Rows.laid_haruspex_lex_marks)]
theorem door_met (os : Os) (args : Array Value) : laidMetH Tryd.prog laidL ((World.doorLaid Tryd.prog 400 os).forCall (fun _ _ => 0) ⟨#[], args, []⟩).memory :=
  laidMetH_of_parts3 (fuel := 8) (laidMet_of_run' 8 (by kernel_rfl) (by kernel_rfl)) (by kernel_rfl) (by kernel_rfl)
theorem gt_ok : gtOK Tryd.prog 4 cx.gt laidL :=
  ⟨by kernel_rfl, ⟨84, by kernel_rfl, by kernel_rfl⟩, rfl, by kernel_rfl, ⟨85, by kernel_rfl, by kernel_rfl⟩, rfl, trivial⟩
theorem glob_ok {W : World} (h : laidMetH Tryd.prog laidL W) : ∀ g cs, gget cx.gt g = some cs → VP (fzOf W) (.fp cs) (.pointer (some ⟨g, 0, none⟩)) := by
  rw [MakeChecks.laidMetH_plain _ _ _ (by kernel_rfl)] at h
  obtain ⟨ps, h, _⟩ := h
  exact glob_of_laid gt_ok h

end Go.Proofs.YtemlkodkohgmmaaDoor

/- LexCuts: the row and the card. A text that is cut off behind a word gives the words up to it; a malformed word behind it is reported at its place; for all drafts, numbers and texts. Conditions: those of the card. -/
namespace Go.Proofs.YtemlkodkohgmmaaDoor
open Go Y
set_option maxRecDepth 100000

theorem lexCuts_pure : ∀ xs, ArgsT Tryd.prog 5 Tryd.f6.params.toList xs → Pure cx 6 xs (· = .ret [.bool true]) := by
  intro xs h
  rw [Tryd.params6] at h
  obtain ⟨x0, _, rfl, h0, x1, _, rfl, h1, x2, _, rfl, h2, x3, _, rfl, h3, rfl⟩ := h
  obtain ⟨v0, e0⟩ := ty_drafts (arg_plain (by simp [partsOf, Tryd.underlying32]) h0)
  injection e0 with e0
  subst e0
  obtain ⟨v1, e1⟩ := ty_u8 (arg_plain (by simp [partsOf, Tryd.underlying5]) h1)
  injection e1 with e1
  subst e1
  obtain ⟨v2, e2⟩ := ty_u8 (arg_plain (by simp [partsOf, Tryd.underlying5]) h2)
  injection e2 with e2
  subst e2
  obtain ⟨v3, e3⟩ := ty_str (arg_plain (by simp [partsOf, Tryd.underlying9]) h3)
  injection e3 with e3
  subst e3
  exact lexCuts_c v0 v1 v2 v3
theorem lexCuts_lifted (os : Os) (started : os.Started) (H : Type) (enc : TypeId × Value → H) :
    ReturnsInHanded {} Tryd.checked os 6 .any (fun w args => (Rows.lexCutsSpec.pre enc Tryd.prog Tryd.f6 [] false w args ∧ laidMetH Tryd.prog laidL w) ∧ sizedMet enc Tryd.prog Tryd.f6 (OpenSpec.ofChange Rows.lexCutsSpec) false w args)
      (Rows.lexCutsSpec.post enc Tryd.prog Tryd.f6 false true false false) := by
  refine returnsInHanded_of_change_and (C := Tryd.checked) (X := fun w _ => laidMetH Tryd.prog laidL w) (fun _ _ _ hh h => h.of_heap hh) own started (by kernel_rfl) Tryd.func6
    (ChangeSpec.witness_shaped (enc := enc) (C := Tryd.checked) (os := os) (X := fun w _ => laidMetH Tryd.prog laidL w) false (World.doorLaid Tryd.prog 400 os) #[.slice none 0 0, .int .u8 0, .int .u8 0, .string ⟨#[]⟩] 8 rfl (World.shaped_of_RefB (by kernel_rfl) (by kernel_rfl)) (by kernel_rfl) (by kernel_rfl) (by kernel_rfl) (door_met os _)) ?_
  intro W base args ds gs before hval hW _ _ hL _
  obtain ⟨p, q, hA, hV, _⟩ := id hW
  have hs : Tryd.f6.params.toList.all (supp Tryd.prog 5) = true := by kernel_rfl
  obtain ⟨_, _, _, hlen⟩ := args_of hs (fun j t v ht hv => hval j t v (by simpa using ht) (by simpa using hv)) hA
  refine (calls_of_pure (cx := cx) Tryd.func6 (by kernel_rfl) rfl hs lexCuts_pure hval hA (glob_ok hL)).mono fun e W' ⟨he, h1, h2, h3⟩ => ?_
  subst he
  exact ⟨_, rfl, post_of_kept (cx := cx) (m := 5) hs rfl (by kernel_rfl) Tryd.underlying4 (fun ds h => by
    rw [Tryd.params6] at h
    match ds, h with
    | [_, _, _, _], _ => rfl) hW hlen h1 h2 h3⟩

theorem lexCuts_holds : Rows.LexCutsSaid :=
  OpenClaim.holds_of_wide 6 Tryd.f6 rfl rfl rfl rfl rfl rfl rfl ⟨rfl, rfl, rfl, rfl, rfl⟩ rfl rfl rfl rfl rfl (by kernel_rfl) Tryd.func6 (by kernel_rfl)
    (of_decide_eq_true (by kernel_rfl)) (by unfold Func.isWrapper; first | (rw [if_pos (by decide +kernel)]; kernel_rfl) | (rw [if_neg (by decide +kernel)]; exact ⟨rfl, rfl⟩))
    (fun os started H enc _ => lexCuts_lifted os started H enc)

theorem lexCuts_card : Rows.LexCutsCardSaid :=
  Claim7.holds_tied_plain_at .later [] [.data, .data] true (true, "c656817046542e22bb9fa6a79d1bf532833238fdf87142bdfc12bf5bc8548784") true
    lexCuts_holds (fun _ h => by cases h) (by kernel_rfl) (fun _ h => by cases h) lexCuts_row_tie rfl ⟨rfl, rfl⟩ (by kernel_rfl) rfl
    (fun f fn hf hfn => by
      obtain rfl : f = 6 := Option.some.inj ((show Tryd.prog.funcNamed "haruspex/haruspexlaw37.LexCuts" = some 6 by kernel_rfl).symm.trans hf) |>.symm
      obtain rfl : fn = Tryd.f6 := (Option.some.inj (Tryd.func6.symm.trans hfn)).symm
      exact ⟨by kernel_rfl, fun j t ht => by
        have hall : (Tryd.f6.params.toList.all fun u => !Tryd.prog.wantsStandIn u) = true := by kernel_rfl
        exact (show Tryd.prog.wantsStandIn t = false by simpa using List.all_eq_true.1 hall t (by simpa using Array.mem_of_getElem? ht))⟩)
    (by kernel_rfl)
#print axioms lexCuts_card
end Go.Proofs.YtemlkodkohgmmaaDoor
