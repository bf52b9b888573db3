/- LexKnown: the row and the card. The examples, all keywords and marks, and the limits. Conditions: those of the card. -/
import Derived.Lib.Bytealg
import Derived.Laws.Externs
import Derived.Lib.Repeat
import Derived.Shelf.Strings.Repeat
import Derived.Test.YtemlkodkohgmmaaDoorProg
import Derived.Below
import Derived.Test.YtemlkodkohgmmaaDoorRows
import Derived.Test.YtemlkodkohgmmaaDoorCards
import Derived.Test.YtemlkodkohgmmaaDoorTie
import Derived.SevenTiedAt
import Derived.Test.YtemlkodkohgmmaaDoorQ3
/- The statement on valid words. -/
namespace Go.Proofs.YtemlkodkohgmmaaDoor
open Go Y
set_option maxRecDepth 100000
set_option maxHeartbeats 4000000

theorem ty_word {m : Nat} {xs : List PV} (h : TyT Tryd.prog (m + 2) 34 xs) : ∃ w : Wd, xs = w.cells := by
  have hp : partsOf Tryd.prog 34 = some [(3, 0), (9, 1), (3, 2), (3, 3)] := by kernel_rfl
  rw [TyT] at h
  simp only [hp] at h
  obtain ⟨x1, _, rfl, _, h1, x2, _, rfl, _, h2, x3, _, rfl, _, h3, x4, _, rfl, _, h4, rfl⟩ := h
  obtain ⟨a, rfl, _⟩ := ty_int h1
  obtain ⟨t, rfl⟩ := ty_str h2
  obtain ⟨b, rfl, _⟩ := ty_int h3
  obtain ⟨c, rfl, _⟩ := ty_int h4
  exact ⟨⟨a, t, b, c⟩, rfl⟩
theorem ty_u16 {m : Nat} {xs : List PV} (h : TyT Tryd.prog (m + 1) 77 xs) : ∃ b : UInt16, xs = [.int .u16 (b.toNat : Int)] := by
  have hp : partsOf Tryd.prog 77 = none := by simp [partsOf, Tryd.underlying77]
  simp only [TyT, hp, Tryd.underlying77] at h
  obtain ⟨n, rfl, hw⟩ := h
  have := bounds_u16 hw
  refine ⟨UInt16.ofNat n.toNat, ?_⟩
  have e : ((UInt16.ofNat n.toNat).toNat : Int) = n := by
    simp
    omega
  rw [e]
theorem ty_draft {m : Nat} {xs : List PV} (h : TyT Tryd.prog (m + 3) 79 xs) : ∃ d : Dr, xs = d.cells := by
  have hp : partsOf Tryd.prog 79 = some [(5, 0), (5, 1), (22, 2), (77, 3), (5, 4), (5, 5)] := by kernel_rfl
  rw [TyT] at h
  simp only [hp] at h
  obtain ⟨x1, _, rfl, _, h1, x2, _, rfl, _, h2, x3, _, rfl, _, h3, x4, _, rfl, _, h4, x5, _, rfl, _, h5, x6, _, rfl, _, h6, rfl⟩ := h
  obtain ⟨a, rfl⟩ := ty_u8 h1
  obtain ⟨b, rfl⟩ := ty_u8 h2
  obtain ⟨c, rfl⟩ := ty_bytes h3
  obtain ⟨d, rfl⟩ := ty_u16 h4
  obtain ⟨e, rfl⟩ := ty_u8 h5
  obtain ⟨f, rfl⟩ := ty_u8 h6
  exact ⟨⟨a, b, c, d, e, f⟩, rfl⟩
theorem lift_lists {α : Type} {f : α → List PV} {ys : List (List PV)} (h : ∀ y ∈ ys, ∃ a, y = f a) : ∃ zs : List α, ys = zs.map f := by
  induction ys with
  | nil => exact ⟨[], rfl⟩
  | cons y r ih =>
    obtain ⟨a, rfl⟩ := h y (by simp)
    obtain ⟨zs, rfl⟩ := ih fun z hz => h z (by simp [hz])
    exact ⟨a :: zs, rfl⟩
theorem ty_words {m : Nat} {xs : List PV} (h : TyT Tryd.prog (m + 3) 25 xs) : ∃ l : List Wd, xs = [.lsts 4 (l.map Wd.cells)] := by
  have hp : partsOf Tryd.prog 25 = none := by simp [partsOf, Tryd.underlying25]
  have hc : Tryd.prog.cellsOf 34 = 4 := by kernel_rfl
  rw [TyT] at h
  simp only [hp, Tryd.underlying25, hc] at h
  obtain ⟨ys, rfl, _, hy⟩ := h
  obtain ⟨l, rfl⟩ := lift_lists (f := Wd.cells) fun y hy' => ty_word (hy y hy')
  exact ⟨l, rfl⟩
theorem ty_drafts {m : Nat} {xs : List PV} (h : TyT Tryd.prog (m + 4) 32 xs) : ∃ l : List Dr, xs = [.lsts 6 (l.map Dr.cells)] := by
  have hp : partsOf Tryd.prog 32 = none := by simp [partsOf, Tryd.underlying32]
  have hc : Tryd.prog.cellsOf 79 = 6 := by kernel_rfl
  rw [TyT] at h
  simp only [hp, Tryd.underlying32, hc] at h
  obtain ⟨ys, rfl, _, hy⟩ := h
  obtain ⟨l, rfl⟩ := lift_lists (f := Dr.cells) fun y hy' => ty_draft (hy y hy')
  exact ⟨l, rfl⟩
theorem arg_word {x : PV} (h : ArgT Tryd.prog 5 34 x) : ∃ w : Wd, x = .agg w.cells := by
  have hp : partsOf Tryd.prog 34 = some [(3, 0), (9, 1), (3, 2), (3, 3)] := by kernel_rfl
  simp only [ArgT, hp] at h
  obtain ⟨xs, rfl, h⟩ := h
  obtain ⟨w, rfl⟩ := ty_word h
  exact ⟨w, rfl⟩

theorem texts_c (a : List (List UInt8)) (ha : a.length ≤ 100000) : Pure cx 22 [.lst (a.map .str), .lst (a.map .str)] (· = .ret [.bool true]) := by
  refine pure_of_vc Tryd.func22 rfl rfl rfl ?_
  refine And.intro (fun _ => ?_) (fun h1 => absurd rfl h1)
  refine ⟨Nat, fun k => [(0, .p (.lst (a.map .str))), (1, .p (.lst (a.map .str))), (5, .p (i64 k))], fun _ => ⟨0, []⟩, fun k => k ≤ a.length, fun k => a.length - k, ?_, ?_⟩
  · exact ⟨0, by omega, ent0 rfl ⟨rfl, rfl, rfl, trivial⟩ trivial rfl⟩
  · intro k hk
    refine And.intro (fun h2 => ?_) (fun h2 => ?_)
    · have h2 : (k : Int) < ((a.map PV.str).length : Nat) := h2
      rw [List.length_map] at h2
      have hka : k < a.length := by omega
      refine VDraw.seq rfl ?_
      refine ⟨_, ⟨by omega, .str a[k], by show (a.map PV.str)[k]? = _; rw [List.getElem?_map, List.getElem?_eq_getElem hka]; rfl, rfl⟩, ?_⟩
      refine ⟨_, ⟨by omega, .str a[k], by show (a.map PV.str)[k]? = _; rw [List.getElem?_map, List.getElem?_eq_getElem hka]; rfl, rfl⟩, ?_⟩
      refine And.intro (fun _ => ?_) (fun h1 => absurd rfl h1)
      refine ⟨(k : Int) + 1, wrap_i64 (by omega) (by omega), k + 1, hka, ent0 rfl ⟨rfl, rfl, rfl, trivial⟩ trivial rfl, ?_⟩
      show a.length - (k + 1) < a.length - k
      omega
    · exact end1 _ rfl rfl rfl

def cutN (w : Wd) : Wd := { w with text := w.text.take 20 }
theorem min_take {α : Type} (s : List α) (n : Nat) : s.take (if (n : Int) < (s.length : Nat) then (n : Int) else (s.length : Nat)).toNat = s.take n := by
  split
  · rfl
  · rename_i h
    rw [List.take_of_length_le (by omega), List.take_of_length_le (by omega)]
theorem min_ok (n m : Nat) : 0 ≤ (if (n : Int) < (m : Nat) then (n : Int) else (m : Nat)) ∧ (if (n : Int) < (m : Nat) then (n : Int) else (m : Nat)) ≤ m := by
  split <;> omega
theorem cut_c (w : Wd) : Pure cx 15 [.agg w.cells] (· = .ret [.agg (cutN w).cells]) := by
  refine pure_of_vc Tryd.func15 rfl rfl rfl ?_
  refine ⟨min_ok 20 w.text.length, ?_⟩
  refine end1 (.agg (cutN w).cells) rfl ?_ rfl
  show PV.agg (cutN w).cells = .agg [i64 w.kind, .str (w.text.take (if (20 : Int) < (w.text.length : Nat) then (20 : Int) else (w.text.length : Nat)).toNat), i64 w.line, i64 w.col]
  rw [show w.text.take (if (20 : Int) < (w.text.length : Nat) then (20 : Int) else (w.text.length : Nat)).toNat = w.text.take 20 from min_take w.text 20]
  rfl

theorem words_text : ∀ (l c : Nat) (ds : List Dr), ∀ w ∈ wordsN l c ds, w.text.length ≤ 20
  | _, _, [], w, h => by simp [wordsN] at h
  | l, c, d :: r, w, h => by
    simp only [wordsN, List.mem_cons] at h
    rcases h with rfl | h
    · have := text_len d (kindD d); simp only [wordD]; omega
    · exact words_text _ _ r w h
theorem words_len : ∀ (l c : Nat) (ds : List Dr), (wordsN l c ds).length = ds.length
  | _, _, [] => rfl
  | l, c, d :: r => by simp [wordsN, words_len _ _ r]

def wds (l : List Wd) : AObj := ⟨34, false, .pus (l.map Wd.cells)⟩

theorem lexChecks_c (w0 : Wd) (l : List Dr) (kind line col : Int) : Pure cx 7 [.agg w0.cells, .lsts 6 (l.map Dr.cells), i64 kind, i64 line, i64 col] (· = .ret [.bool true]) := by
  refine pure_of_vc Tryd.func7 rfl rfl rfl ?_
  refine (cut_c w0).eq rfl ?_
  refine ⟨by show 0 ≤ (if ((20 : Nat) : Int) < ((l.map Dr.cells).length : Nat) then ((20 : Nat) : Int) else ((l.map Dr.cells).length : Nat)) ∧ _; exact min_ok 20 _, ?_⟩
  have hW := words37_c (l.take 20)
  rw [List.take_take] at hW
  obtain ⟨ws, hws⟩ : ∃ ws, ws = wordsN 1 1 (l.take (min 200 20)) := ⟨_, rfl⟩
  have hwl : ws.length ≤ 20 := by rw [hws, words_len, List.length_take]; omega
  have hwt : ∀ w ∈ ws, w.text.length ≤ 20 := by rw [hws]; exact words_text _ _ _
  rw [← hws] at hW
  refine hW.eq (congrArg (fun z => [AV.p (.lsts 6 z)]) ?_) ?_
  · show (l.map Dr.cells).take (if ((20 : Nat) : Int) < ((l.map Dr.cells).length : Nat) then ((20 : Nat) : Int) else ((l.map Dr.cells).length : Nat)).toNat = _
    rw [min_take, List.map_take]
  clear hW
  refine ⟨Nat × List Wd, fun x => [(2, .p (i64 kind)), (3, .p (i64 line)), (4, .p (i64 col)), (11, .sl 0 4 0 x.2.length), (27, .p (.lsts 4 (ws.map Wd.cells))), (28, .p (i64 (ws.map Wd.cells).length)), (29, .p (i64 x.1))], fun x => ⟨1, [(0, wds x.2)]⟩, fun x => x.1 ≤ ws.length ∧ x.2.length = 1 + 4 * x.1 ∧ ∀ w ∈ x.2, w.text.length ≤ 20, fun x => ws.length - x.1, ?_, ?_⟩
  · refine ⟨(0, [cutN w0]), ⟨by simp, by simp, by simp [cutN]; omega⟩, ent_of [] [(0, 1)] [] rfl (by (repeat' first | exact trivial | exact rfl | exact ⟨rfl, rfl⟩ | exact .inl rfl | refine ⟨_, rfl, rfl, rfl, ?_⟩ | refine ⟨_, _, rfl, ?_, ?_⟩ | refine ⟨_, rfl, ?_⟩ | refine And.intro ?_ ?_)) (by (repeat' first | exact trivial | exact rfl | exact ⟨rfl, rfl⟩ | exact .inl rfl | refine ⟨_, rfl, rfl, rfl, ?_⟩ | refine ⟨_, _, rfl, ?_, ?_⟩ | refine ⟨_, rfl, ?_⟩ | refine And.intro ?_ ?_)) rfl⟩
  · rintro ⟨k, out⟩ ⟨g1, g2, g3⟩
    simp only [] at g1 g2 g3
    refine And.intro (fun h1 => ?_) (fun h1 => ?_)
    · have h1 : (k : Int) < ((ws.map Wd.cells).length : Nat) := h1
      rw [List.length_map] at h1
      have hk : k < ws.length := by omega
      refine ⟨_, ⟨by omega, ws[k].cells, wcell hk, rfl⟩, ?_⟩
      have hwk := hwt _ (List.getElem_mem hk)
      generalize ws[k] = w at hwk ⊢
      refine VDraw.altTo [(2, .p (i64 kind)), (3, .p (i64 line)), (4, .p (i64 col)), (11, .sl 0 4 0 out.length), (27, .p (.lsts 4 (ws.map Wd.cells))), (28, .p (i64 (ws.map Wd.cells).length)), (29, .p (i64 k)), (13, .ptr 1 0 0), (14, .ptr 2 0 0), (15, .ptr 3 0 0)] ⟨4, [(3, wdO w), (2, wdO w), (1, wdO w), (0, wds out)]⟩ rfl ?_ ?_
      · refine And.intro ?_ ?_
        · refine ⟨by (repeat' first | exact trivial | exact rfl | exact ⟨rfl, rfl⟩ | exact .inl rfl | refine ⟨_, rfl, rfl, rfl, ?_⟩ | refine ⟨_, _, rfl, ?_, ?_⟩ | refine ⟨_, rfl, ?_⟩ | refine And.intro ?_ ?_), ?_⟩
          refine ⟨by (repeat' first | exact trivial | exact rfl | exact ⟨rfl, rfl⟩ | exact .inl rfl | refine ⟨_, rfl, rfl, rfl, ?_⟩ | refine ⟨_, _, rfl, ?_, ?_⟩ | refine ⟨_, rfl, ?_⟩ | refine And.intro ?_ ?_), ?_⟩
          refine ⟨by (repeat' first | exact trivial | exact rfl | exact ⟨rfl, rfl⟩ | exact .inl rfl | refine ⟨_, rfl, rfl, rfl, ?_⟩ | refine ⟨_, _, rfl, ?_, ?_⟩ | refine ⟨_, rfl, ?_⟩ | refine And.intro ?_ ?_), ?_⟩
          exact ent_of [] [] [] rfl (by (repeat' first | exact trivial | exact rfl | exact ⟨rfl, rfl⟩ | exact .inl rfl | refine ⟨_, rfl, rfl, rfl, ?_⟩ | refine ⟨_, _, rfl, ?_, ?_⟩ | refine ⟨_, rfl, ?_⟩ | refine And.intro ?_ ?_)) (by (repeat' first | exact trivial | exact rfl | exact ⟨rfl, rfl⟩ | exact .inl rfl | refine ⟨_, rfl, rfl, rfl, ?_⟩ | refine ⟨_, _, rfl, ?_, ?_⟩ | refine ⟨_, rfl, ?_⟩ | refine And.intro ?_ ?_)) rfl
        · refine ⟨by (repeat' first | exact trivial | exact rfl | exact ⟨rfl, rfl⟩ | exact .inl rfl | refine ⟨_, rfl, rfl, rfl, ?_⟩ | refine ⟨_, _, rfl, ?_, ?_⟩ | refine ⟨_, rfl, ?_⟩ | refine And.intro ?_ ?_), ?_⟩
          refine ⟨by (repeat' first | exact trivial | exact rfl | exact ⟨rfl, rfl⟩ | exact .inl rfl | refine ⟨_, rfl, rfl, rfl, ?_⟩ | refine ⟨_, _, rfl, ?_, ?_⟩ | refine ⟨_, rfl, ?_⟩ | refine And.intro ?_ ?_), ?_⟩
          refine ⟨by (repeat' first | exact trivial | exact rfl | exact ⟨rfl, rfl⟩ | exact .inl rfl | refine ⟨_, rfl, rfl, rfl, ?_⟩ | refine ⟨_, _, rfl, ?_, ?_⟩ | refine ⟨_, rfl, ?_⟩ | refine And.intro ?_ ?_), ?_⟩
          exact ent_of [] [(2, 3), (3, 2)] [] rfl (by (repeat' first | exact trivial | exact rfl | exact ⟨rfl, rfl⟩ | exact .inl rfl | refine ⟨_, rfl, rfl, rfl, ?_⟩ | refine ⟨_, _, rfl, ?_, ?_⟩ | refine ⟨_, rfl, ?_⟩ | refine And.intro ?_ ?_)) (by (repeat' first | exact trivial | exact rfl | exact ⟨rfl, rfl⟩ | exact .inl rfl | refine ⟨_, rfl, rfl, rfl, ?_⟩ | refine ⟨_, _, rfl, ?_, ?_⟩ | refine ⟨_, rfl, ?_⟩ | refine And.intro ?_ ?_)) rfl
      · refine ⟨by show 0 + 3 ≤ 3; omega, [w.cells, (Wd.mk kind w.text w.line w.col).cells, (Wd.mk w.kind w.text line w.col).cells], rfl, ?_⟩
        refine ⟨by show 0 + out.length ≤ (out.map Wd.cells).length; simp, out.map Wd.cells, takeAll (by simp), ?_⟩
        refine ⟨by show (out.length + 3) * 40 ≤ 140737488355328; omega, (out ++ [w, Wd.mk kind w.text w.line w.col, Wd.mk w.kind w.text line w.col]).map Wd.cells, by simp, ?_⟩
        refine ⟨by show 0 + 1 ≤ 1; omega, [(Wd.mk w.kind w.text w.line col).cells], rfl, ?_⟩
        refine ⟨by show 0 + (out.length + 3) ≤ (List.map Wd.cells _).length; simp, (out ++ [w, Wd.mk kind w.text w.line w.col, Wd.mk w.kind w.text line w.col]).map Wd.cells, takeAll (by simp), ?_⟩
        refine ⟨by show (out.length + 3 + 1) * 40 ≤ 140737488355328; omega, (out ++ [w, Wd.mk kind w.text w.line w.col, Wd.mk w.kind w.text line w.col, Wd.mk w.kind w.text w.line col]).map Wd.cells, by simp, ?_⟩
        refine ⟨(k : Int) + 1, wrap_i64 (by omega) (by omega), (k + 1, out ++ [w, Wd.mk kind w.text w.line w.col, Wd.mk w.kind w.text line w.col, Wd.mk w.kind w.text w.line col]), ⟨hk, by simp; omega, ?_⟩, ent_of [] [(0, 7)] [] rfl ⟨rfl, rfl, rfl, ?_, rfl, rfl, rfl, trivial⟩ (by (repeat' first | exact trivial | exact rfl | exact ⟨rfl, rfl⟩ | exact .inl rfl | refine ⟨_, rfl, rfl, rfl, ?_⟩ | refine ⟨_, _, rfl, ?_, ?_⟩ | refine ⟨_, rfl, ?_⟩ | refine And.intro ?_ ?_)) rfl, by simp only []; omega⟩
        · intro x hx
          simp only [List.mem_append, List.mem_cons, List.not_mem_nil, or_false] at hx
          rcases hx with hx | rfl | rfl | rfl | rfl
          · exact g3 x hx
          all_goals exact hwk
        · exact congrArg (fun n => AV.sl _ 4 0 n) (by simp)
    · refine ⟨Nat, fun j => [(53, .p (.lsts 4 (out.map Wd.cells))), (54, .p (i64 out.length)), (55, .p (i64 j))], fun _ => ⟨0, []⟩, fun j => j ≤ out.length, fun j => out.length - j, ?_, ?_⟩
      · exact ⟨0, by omega, ent_of [0] [] [] rfl ⟨⟨_, rfl, by simp, takeAll (by simp)⟩, rfl, rfl, trivial⟩ trivial rfl⟩
      · intro j hj
        refine And.intro (fun h2 => ?_) (fun h2 => ?_)
        · have h2 : (j : Int) < (out.length : Nat) := h2
          have hjl : j < out.length := by omega
          refine ⟨_, ⟨by omega, out[j].cells, wcell hjl, rfl⟩, ?_⟩
          have hx := g3 _ (List.getElem_mem hjl)
          generalize out[j] = x at hx ⊢
          refine VDraw.seq rfl ?_
          refine (check_c x (by omega)).eq rfl ?_
          refine ⟨by (repeat' first | exact trivial | exact rfl | exact ⟨rfl, rfl⟩ | exact .inl rfl | refine ⟨_, rfl, rfl, rfl, ?_⟩ | refine ⟨_, _, rfl, ?_, ?_⟩ | refine ⟨_, rfl, ?_⟩ | refine And.intro ?_ ?_), ?_⟩
          refine (rCheck_c x (by omega)).eq rfl ?_
          refine And.intro (fun _ => ?_) (fun h => absurd rfl h)
          refine ⟨(j : Int) + 1, wrap_i64 (by omega) (by omega), j + 1, hjl, ent_of [] [] [] rfl ⟨rfl, rfl, rfl, trivial⟩ trivial rfl, ?_⟩
          show out.length - (j + 1) < out.length - j
          omega
        · refine keys_c.eq rfl ?_
          refine rKeys_c.eq rfl ?_
          refine (texts_c keysL (by decide)).eq rfl ?_
          refine marks_c.eq rfl ?_
          refine rMarks_c.eq rfl ?_
          refine (texts_c marksL (by decide)).eq rfl ?_
          refine works_c.eq rfl ?_
          exact end1 _ rfl rfl rfl
end Go.Proofs.YtemlkodkohgmmaaDoor

/- Plain laws: the words of drafts stand in a text; a malformed word behind them. -/
namespace Go.Proofs.YtemlkodkohgmmaaDoor
open Go Y
set_option maxRecDepth 100000
set_option maxHeartbeats 4000000

theorem ten_dig : ∀ m < 10, isDig (tenL.getD m 0) = true := by decide
theorem ten_head : ∀ m < 10, m ≠ 0 → (tenL.getD m 0).toNat ≠ 48 := by decide
theorem dig_props : ∀ (f n : Nat), n < 10 ^ f → digN (f + 1) n ≠ [] ∧ (∀ c ∈ digN (f + 1) n, isDig c = true) ∧ (digN (f + 1) n).length ≤ max f 1 ∧ (n = 0 → digN (f + 1) n = [48]) ∧ (n ≠ 0 → ((digN (f + 1) n).headD 0).toNat ≠ 48)
  | 0, n, h => by
    have : n = 0 := by simpa using h
    subst this
    decide
  | f + 1, n, h => by
    rw [digN]
    split
    · rename_i h1
      refine ⟨by simp, fun c hc => ?_, by simp, fun h0 => by subst h0; rfl, fun h0 => ten_head n h1 h0⟩
      simp at hc
      subst hc
      have := ten_dig n h1
      simpa using this
    · rename_i h1
      have hn : n / 10 < 10 ^ f := by rw [Nat.pow_succ] at h; omega
      obtain ⟨a1, a2, a3, a4, a5⟩ := dig_props f (n / 10) hn
      have hf : 1 ≤ f := by
        cases f with
        | zero => simp at hn; omega
        | succ f => omega
      refine ⟨by simp, fun c hc => ?_, ?_, fun h0 => by omega, fun _ => ?_⟩
      · rcases List.mem_append.1 hc with hc | hc
        · exact a2 c hc
        · simp at hc
          subst hc
          have := ten_dig (n % 10) (by omega)
          simpa using this
      · rw [List.length_append, List.length_singleton]; omega
      · have := a5 (by omega)
        cases e : digN (f + 1) (n / 10) with
        | nil => exact absurd e a1
        | cons x r => rw [e] at this; simpa using this

theorem getD_mem {α : Type} {l : List α} {n : Nat} {d : α} (h : n < l.length) : l.getD n d ∈ l := List.mem_of_getElem? (getD_get h)
theorem abc_aln : ∀ m < 8, isAln (abcL.getD m 0) = true := by decide
theorem key_x (r : List UInt8) : inL keysL (120 :: r) = false := by
  cases h : inL keysL (120 :: r) with
  | false => rfl
  | true =>
    have := inL_mem h
    simp [keysL] at this
theorem mem_inL {l : List (List UInt8)} {s : List UInt8} (h : s ∈ l) : inL l s = true := by
  induction l with
  | nil => simp at h
  | cons x l ih =>
    simp only [inL]
    rcases List.mem_cons.1 h with rfl | h
    · simp
    · simp [ih h]

theorem text_right (d : Dr) : rightN (kindD d) (textN d (kindD d)) = true := by
  have hk : kindD d = 1 ∨ kindD d = 2 ∨ kindD d = 3 ∨ kindD d = 4 := by unfold kindD; omega
  rcases hk with h | h | h | h <;> rw [h]
  · show nameN (nameT d.letters) = true
    have hs : spanN isAln (nameT d.letters) = (nameT d.letters).length := spanN_all.2 fun c hc => by
      rcases List.mem_cons.1 hc with rfl | hc
      · decide
      · obtain ⟨b, -, rfl⟩ := List.mem_map.1 hc
        exact abc_aln _ (Nat.mod_lt _ (by decide))
    have hl : (nameT d.letters).length ≤ 10 := by simp [nameT]; omega
    unfold nameN
    rw [hs, show inL keysL (nameT d.letters) = false from key_x _, decide_eq_true hl]
    simp [nameT, isLet]
  · exact mem_inL (getD_mem (Nat.mod_lt _ (by decide)))
  · show numN (digN 5 (d.n.toNat % 10000)) = true
    obtain ⟨a1, a2, a3, a4, a5⟩ := dig_props 4 (d.n.toNat % 10000) (Nat.mod_lt _ (by decide))
    have hs := (spanN_all (f := isDig)).2 a2
    unfold numN
    rw [decide_eq_true a1, decide_eq_true (show (digN 5 (d.n.toNat % 10000)).length ≤ 4 from a3), decide_eq_true hs]
    by_cases h0 : d.n.toNat % 10000 = 0
    · rw [a4 h0]; rfl
    · rw [decide_eq_true (a5 h0)]; simp
  · exact mem_inL (getD_mem (Nat.mod_lt _ (by decide)))

def BlS (s : List UInt8) : Prop := s = [] ∨ ∃ x r, s = x :: r ∧ isBl x
theorem BlS.fol {s : List UInt8} (h : BlS s) : Fol [] s := by
  rcases h with rfl | ⟨x, r, rfl, hx⟩
  · exact Fol.nil _
  · exact Fol.bl _ _ _ (.inl hx)

theorem words_take : ∀ (l c k : Nat) (ds : List Dr), (wordsN l c ds).take k = wordsN l c (ds.take k)
  | _, _, 0, _ => by simp [wordsN]
  | _, _, _ + 1, [] => by simp [wordsN]
  | l, c, k + 1, d :: r => by simp [wordsN, words_take _ _ k r]

theorem words_lay {suf : List UInt8} (hsuf : BlS suf) : ∀ (ds : List Dr) (l c c0 : Nat), c0 ≤ c → 1 ≤ c → ∃ T, putN l c0 (wordsN l c ds) = some T ∧ Lay (l, c0) T (wordsN l c ds) suf ∧ T.length + c0 ≤ c + 16 * ds.length ∧ (c0 < c → BlS T) ∧ ∀ w ∈ wordsN l c ds, (l ≤ w.line ∧ w.line ≤ l + 2 * ds.length ∧ 1 ≤ w.col ∧ w.col ≤ c + 14 * ds.length)
  | [], l, c, c0, h, _ => ⟨[], rfl, Lay.nil _ _, by simp; omega, fun _ => .inl rfl, by simp [wordsN]⟩
  | d :: ds, l, c, c0, h, h1 => by
    have htl := text_len d (kindD d)
    have hr := text_right d
    have hwl := right_len hr
    obtain ⟨w, hw⟩ : ∃ w, w = wordD d l c := ⟨_, rfl⟩
    have e1 : w.line = lineD d l := by rw [hw]; rfl
    have e2 : w.col = colD d c := by rw [hw]; rfl
    have e3 : w.text = textN d (kindD d) := by rw [hw]; rfl
    have e4 : w.kind = kindD d := by rw [hw]; rfl
    have hL : l ≤ lineD d l ∧ lineD d l ≤ l + 2 := by unfold lineD; split <;> omega
    have hC : 1 ≤ colD d c ∧ colD d c ≤ c + 3 := by unfold colD; split <;> omega
    have hC2 : lineD d l = l → c ≤ colD d c := by
      unfold lineD colD
      split
      · rename_i hnw; unfold newL at hnw; omega
      · omega
    obtain ⟨T, t1, t2, t3, t4, t5⟩ := words_lay hsuf ds (lineD d l) (colD d c + (textN d (kindD d)).length + 1) (colD d c + (textN d (kindD d)).length) (by omega) (by omega)
    have hnb : ¬ (lineD d l < l ∨ lineD d l = l ∧ colD d c < c0) := by
      rintro (hb | ⟨hb, hb2⟩)
      · omega
      · have := hC2 hb; omega
    have hT : BlS (T ++ suf) := by
      rcases t4 (by omega) with rfl | ⟨x, r, rfl, hx⟩
      · simpa using hsuf
      · exact .inr ⟨x, r ++ suf, rfl, hx⟩
    obtain ⟨o1, o2⟩ := right_one hr
    have hne : textN d (kindD d) ≠ [] := by intro e; rw [e] at hwl; simp at hwl
    have hone : oneN (w.text ++ (T ++ suf)) = (w.kind, w.text) := by
      rw [e3, e4]
      exact one_fol hr (by rw [List.append_nil]; exact o1) hT.fol
    have hst : stopB (w.text ++ (T ++ suf)) = true := by
      rw [e3]
      exact stop_fol hne (by rw [List.append_nil]; exact o2) hT.fol
    have hgl := gap_len l c0 w
    rw [e1, e2] at hgl
    simp only [Int.toNat_natCast] at hgl
    refine ⟨gapN l c0 w ++ (w.text ++ T), ?_, ?_, ?_, ?_, ?_⟩
    · rw [wordsN, ← hw, putN, e1, e2, e3]
      simp only [Int.toNat_natCast]
      rw [if_neg hnb, t1]
      simp
    · rw [wordsN, ← hw]
      refine Lay.cons (skips_blank hst (gap_bl _ _ _)) hone (by rw [e3, e4]; exact hr) (advs_gap e1 e2 hC.1 hnb) e1 e2 (by rw [e3]; exact t2)
    · have hcc : lineD d l ≠ l → colD d c ≤ 4 := by
        unfold lineD colD
        split
        · omega
        · intro h; exact absurd rfl h
      have h1 : ¬ l < lineD d l → lineD d l = l := by omega
      simp only [List.length_append, List.length_cons]
      rw [hgl, e3]
      split
      · have := hcc (by omega); omega
      · omega
    · intro hlt
      right
      have hpos : 0 < (gapN l c0 w).length := by
        rw [hgl]
        split
        · omega
        · rename_i hn
          have := hC2 (by omega)
          omega
      cases e : gapN l c0 w with
      | nil => rw [e] at hpos; simp at hpos
      | cons x g => exact ⟨x, _, rfl, gap_bl l c0 w x (by rw [e]; simp)⟩
    · intro v hv
      rw [wordsN, ← hw] at hv
      simp only [List.length_cons]
      rcases List.mem_cons.1 hv with rfl | hv
      · rw [e1, e2]; omega
      · have hb := t5 v hv
        omega

theorem Lay.lastLine {p : Nat × Nat} {T : List UInt8} {ws : List Wd} {suf : List UInt8} (h : Lay p T ws suf) : ∀ w, ws.getLast? = some w → ((advs p T).1 : Int) = w.line := by
  induction h with
  | nil => intro w hw; simp at hw
  | @cons p g T w ws suf l c hsk h1 hr hp hl hc h ih =>
    intro v hv
    rw [advs_append, advs_append, hp, advs_text (right_noNl hr)]
    cases h with
    | nil => simp at hv; subst hv; simp [advs, hl]
    | cons => exact ih v (by simpa using hv)

/-- Words of drafts: Join gives a text, Read gives them back, also with something behind that begins with a blank. -/
theorem drafts_join (ds : List Dr) (hn : ds.length ≤ 200) : ∃ T, joinN (wordsN 1 1 ds) = (T, 0) ∧ T.length ≤ 16 * ds.length ∧ readT T = (wordsN 1 1 ds, 0, 0, 0) ∧ ∀ suf, BlS suf → Lay (1, 1) T (wordsN 1 1 ds) suf := by
  obtain ⟨T, t1, t2, t3, _, t5⟩ := words_lay (suf := []) (.inl rfl) ds 1 1 1 (by omega) (by omega)
  have hl := words_len 1 1 ds
  have hrd := readR_lay t2 (by omega)
  have hall : ¬ (wordsN 1 1 ds).all checkN = false := by
    rw [Bool.not_eq_false, List.all_eq_true]
    intro v hv
    have hb := t5 v hv
    have hr : rightN v.kind v.text = true := by
      clear t1 t2 t3 t5 hl hrd hb hn
      have : ∀ (ds : List Dr) (l c : Nat), v ∈ wordsN l c ds → rightN v.kind v.text = true := by
        intro ds
        induction ds with
        | nil => intro l c hv; simp [wordsN] at hv
        | cons d ds ih =>
          intro l c hv
          rcases List.mem_cons.1 hv with rfl | hv
          · exact text_right d
          · exact ih _ _ hv
      exact this ds 1 1 hv
    simp only [checkN, Bool.and_eq_true, decide_eq_true_eq]
    refine ⟨by omega, by omega, by omega, by omega, hr⟩
  refine ⟨T, ?_, by omega, ?_, fun suf hs => ?_⟩
  · rw [joinN, if_neg (by omega), if_neg hall, t1]
    simp only []
    rw [if_neg (by omega), hrd]
    simp
  · rw [readT, if_neg (by omega), hrd]
  · obtain ⟨T', u1, u2, _⟩ := words_lay hs ds 1 1 1 (by omega) (by omega)
    rw [t1] at u1
    injection u1 with u1
    subst u1
    exact u2

/-- A malformed word behind words. -/
theorem read_bad {T : List UInt8} {ws : List Wd} {w : Wd} {tl : List UInt8} (hL : Lay (1, 1) T ws (10 :: 32 :: 32 :: tl)) (hw : ws.getLast? = some w) (hn : ws.length ≤ 1500) (hlen : (T ++ 10 :: 32 :: 32 :: tl).length ≤ 8000)
    (hst : stopB tl = true) (hne : tl ≠ []) (hbad : rightN (oneN tl).1 (oneN tl).2 = false) : readT (T ++ 10 :: 32 :: 32 :: tl) = ([], w.line + 1, 3, 370) := by
  obtain ⟨s, hs⟩ : ∃ s, s = T ++ 10 :: 32 :: 32 :: tl := ⟨_, rfl⟩
  have hl := hL.len
  have hsl : s.length = T.length + 3 + tl.length := by rw [hs]; simp; omega
  have h1 := read_lay hL [] [] (s.length + 1 - ws.length) rfl (by simpa using hn)
  simp only [List.nil_append, List.length_nil] at h1
  rw [← hs] at h1 hlen ⊢
  obtain ⟨f, hf⟩ : ∃ f, s.length + 1 - ws.length = f + 1 := ⟨s.length - ws.length, by omega⟩
  have hd : s.drop T.length = [10, 32, 32] ++ tl := by rw [hs]; simp
  have hsk : skipN s.length (s.drop T.length) = .inl 3 := by
    rw [hd]
    exact skips_blank hst (g := [10, 32, 32]) (by intro c hc; simp at hc; unfold isBl; rcases hc with rfl | rfl <;> decide) _ (by simp; omega)
  have hd2 : s.drop (T.length + 3) = tl := by rw [← List.drop_drop, hd]; rfl
  have htl : 1 ≤ tl.length := by cases tl with
    | nil => exact absurd rfl hne
    | cons => simp
  have hat : at_ s (T.length + 3) = ((advs (1, 1) T).1 + 1, 3) := by
    have : s = (T ++ [10, 32, 32]) ++ tl := by rw [hs]; simp
    rw [this, show T.length + 3 = (T ++ [10, 32, 32]).length by simp, at_app, advs_append]
    rfl
  have hrd : readR s = .err ((advs (1, 1) T).1 + 1, 3) 370 := by
    rw [readR, show s.length + 1 = s.length + 1 - ws.length + ws.length by omega, h1, hf, readN, hsk]
    simp only []
    rw [readB, if_neg (by omega), hd2, hbad, hat]
  rw [readT, if_neg (by omega), hrd]
  simp only []
  rw [← hL.lastLine w hw]
  rfl
end Go.Proofs.YtemlkodkohgmmaaDoor

/- Searching a byte in a string: strings.Index, strings.Count at one byte. -/
namespace Go.Proofs.YtemlkodkohgmmaaDoor
open Go Y
set_option maxRecDepth 100000
set_option maxHeartbeats 4000000

theorem byteBack (c : UInt8) : ((c.toNat : Int)).toNat.toUInt8 = c := by
  show (c.toNat).toUInt8 = c
  exact UInt8.ofNat_toNat

theorem pure_extern {g : FuncId} {args : List PV} {x : PV} (hx : Res [] 5 (.p x) x) (h : ∀ (Γ : Gm) (w : World) (args' : List Value), VRL Γ (args.map .p) args' → ∃ v', (callFunc g ⟨args'⟩).run cx.P w = .ok (.value v') w ∧ VP Γ.fz x v') : Pure cx g args (· = .ret [x]) := by
  intro Γ w args' hR hA
  obtain ⟨v', h1, h2⟩ := h Γ w args' hA
  refine .inr ⟨v', w, h1, .returned (.p x), ⟨0, []⟩, Γ, ?_, ⟨v', rfl, h2⟩, Later.refl hR _ (Nat.le_refl _)⟩
  exact ⟨.ret [x], ⟨rfl, _, rfl, hx⟩, rfl⟩

theorem indexByteString_c (s : List UInt8) (c : UInt8) : Pure cx 95 [.str s, u8 c] (· = .ret [i64 (Lib.indexByte s c)]) := by
  refine pure_extern rfl fun Γ w args' hA => ?_
  simp only [List.map, VRL, VR, VP] at hA
  obtain ⟨a, as', rfl, rfl, b, bs', rfl, rfl, rfl⟩ := hA
  refine ⟨_, ?_, rfl⟩
  show (callFunc 95 #[.string ⟨⟨s⟩⟩, .int .u8 c.toNat]).run Tryd.prog w = _
  rw [run_callFunc_extern Tryd.func95 (by kernel_rfl) (by kernel_rfl) (by kernel_rfl) (e := Extern.BytealgIndexByte.indexByte) (by kernel_rfl), Lib.run_indexByteString, byteBack]
  rfl
theorem countString_c (s : List UInt8) (c : UInt8) : Pure cx 88 [.str s, u8 c] (· = .ret [i64 (s.count c : Nat)]) := by
  refine pure_extern rfl fun Γ w args' hA => ?_
  simp only [List.map, VRL, VR, VP] at hA
  obtain ⟨a, as', rfl, rfl, b, bs', rfl, rfl, rfl⟩ := hA
  refine ⟨_, ?_, rfl⟩
  show (callFunc 88 #[.string ⟨⟨s⟩⟩, .int .u8 c.toNat]).run Tryd.prog w = _
  rw [run_callFunc_extern Tryd.func88 (by kernel_rfl) (by kernel_rfl) (by kernel_rfl) (e := Extern.BytealgCount.count) (by kernel_rfl), Lib.run_countString, byteBack]
  rfl

theorem indexByte_c (s : List UInt8) (c : UInt8) : Pure cx 91 [.str s, u8 c] (· = .ret [i64 (Lib.indexByte s c)]) := by
  refine pure_of_vc Tryd.func91 rfl rfl rfl ?_
  refine (indexByteString_c s c).eq rfl ?_
  exact end1 _ rfl rfl rfl
theorem index1_c (s : List UInt8) (c : UInt8) : Pure cx 89 [.str s, .str [c]] (· = .ret [i64 (Lib.indexByte s c)]) := by
  refine pure_of_vc Tryd.func89 rfl rfl rfl ?_
  refine And.intro (fun h => absurd (show (1 : Int) = 0 from h) (by decide)) (fun _ => ?_)
  refine And.intro (fun h => ?_) (fun _ => ?_)
  · have h : [c] = s := h
    subst h
    exact end1 _ rfl rfl (retI (by simp [Lib.indexByte]))
  · refine And.intro (fun _ => ?_) (fun h => absurd rfl h)
    refine ⟨_, ⟨by omega, c, rfl, rfl⟩, ?_⟩
    refine (indexByte_c s c).eq rfl ?_
    exact end1 _ rfl rfl rfl
theorem strIndex1_c (s : List UInt8) (c : UInt8) : Pure cx 77 [.str s, .str [c]] (· = .ret [i64 (Lib.indexByte s c)]) := by
  refine pure_of_vc Tryd.func77 rfl rfl rfl ?_
  refine (index1_c s c).eq rfl ?_
  exact end1 _ rfl rfl rfl
theorem strCount1_c (s : List UInt8) (c : UInt8) : Pure cx 76 [.str s, .str [c]] (· = .ret [i64 (s.count c : Nat)]) := by
  refine pure_of_vc Tryd.func76 rfl rfl rfl ?_
  refine And.intro (fun h => absurd (show (1 : Int) = 0 from h) (by decide)) (fun _ => ?_)
  refine And.intro (fun _ => ?_) (fun h => absurd rfl h)
  refine ⟨_, ⟨by omega, c, rfl, rfl⟩, ?_⟩
  refine (countString_c s c).eq rfl ?_
  exact end1 _ rfl rfl rfl

/-- How many octets come ahead of the first one that is so. -/
def ahead (c : UInt8) : List UInt8 → Nat
  | [] => 0
  | b :: r => if b = c then 0 else ahead c r + 1
theorem ahead_le (c : UInt8) (s : List UInt8) : ahead c s ≤ s.length := by
  induction s with
  | nil => simp [ahead]
  | cons b r ih => simp only [ahead]; split <;> simp <;> omega
theorem index_ahead {c : UInt8} {s : List UInt8} : (c ∈ s → Lib.indexByte s c = (ahead c s : Nat)) ∧ (c ∉ s → Lib.indexByte s c = -1) := by
  induction s with
  | nil => simp [Lib.indexByte]
  | cons b r ih =>
    simp only [Lib.indexByte, ahead, List.mem_cons]
    by_cases h : b = c
    · subst h; simp
    · have hb : (b == c) = false := by simpa using h
      have hc : ¬ c = b := fun e => h e.symm
      rw [hb, if_neg h]
      simp only [Bool.false_eq_true, if_false, hc, false_or]
      refine ⟨fun hm => ?_, fun hm => ?_⟩
      · rw [ih.1 hm, if_neg (by simp)]; rfl
      · rw [ih.2 hm]; rfl
theorem ahead_split {c : UInt8} {s : List UInt8} (h : c ∈ s) : s = s.take (ahead c s) ++ c :: s.drop (ahead c s + 1) ∧ c ∉ s.take (ahead c s) ∧ ahead c s < s.length := by
  induction s with
  | nil => simp at h
  | cons b r ih =>
    by_cases e : b = c
    · subst e; simp [ahead]
    · have hr : c ∈ r := by
        rcases List.mem_cons.1 h with h | h
        · exact absurd h.symm e
        · exact h
      obtain ⟨h1, h2, h3⟩ := ih hr
      have ea : ahead c (b :: r) = ahead c r + 1 := by simp [ahead, e]
      rw [ea]
      refine ⟨?_, ?_, by simp; omega⟩
      · simp only [List.take_succ_cons, List.drop_succ_cons, List.cons_append]
        exact congrArg _ h1
      · simp only [List.take_succ_cons, List.mem_cons, not_or]
        exact ⟨fun e' => e e'.symm, h2⟩

/-- Each octet c becomes a text. -/
def replN (c : UInt8) (new : List UInt8) (s : List UInt8) : List UInt8 := s.flatMap fun b => if b = c then new else [b]
theorem repl_not {c : UInt8} {new s : List UInt8} (h : c ∉ s) : replN c new s = s := by
  induction s with
  | nil => rfl
  | cons b r ih =>
    simp only [List.mem_cons, not_or] at h
    have := ih h.2
    unfold replN at this ⊢
    rw [List.flatMap_cons, this, if_neg fun e => h.1 e.symm]
    rfl
theorem repl_append (c : UInt8) (new a b : List UInt8) : replN c new (a ++ b) = replN c new a ++ replN c new b := by simp [replN]
theorem repl_ne {c : UInt8} {new s : List UInt8} (hs : s ≠ []) (hn : new ≠ []) : replN c new s ≠ [] := by
  cases s with
  | nil => exact absurd rfl hs
  | cons b r =>
    unfold replN
    rw [List.flatMap_cons]
    intro e
    have := (List.append_eq_nil_iff.1 e).1
    split at this
    · exact hn this
    · cases this
theorem repl_len (c : UInt8) (new s : List UInt8) : (replN c new s).length ≤ s.length * (new.length + 1) := by
  induction s with
  | nil => simp [replN]
  | cons b r ih =>
    unfold replN at ih ⊢
    rw [List.flatMap_cons, List.length_append, List.length_cons, Nat.succ_mul]
    split
    · omega
    · rw [List.length_singleton]; omega
end Go.Proofs.YtemlkodkohgmmaaDoor

/- Plain laws: comments in the place of blanks. -/
namespace Go.Proofs.YtemlkodkohgmmaaDoor
open Go Y
set_option maxRecDepth 100000
set_option maxHeartbeats 4000000

def comL : List (List UInt8) := [[40, 42, 32, 42, 41], [40, 42, 45, 42, 41], [40, 42, 42, 42, 41]]
def eolL : List UInt8 := [32, 45, 45, 32, 40, 42, 32, 101, 110, 100, 10]
def endL : List UInt8 := [32, 40, 42, 32, 40, 42, 32, 42, 41, 32, 45, 45, 32, 42, 41]

/-- Some runs of five blanks have become comments. -/
inductive Cv : List UInt8 → List UInt8 → Prop
  | nil : Cv [] []
  | same (c : UInt8) {a b : List UInt8} (h : Cv a b) : Cv (c :: a) (c :: b)
  | com {k a b : List UInt8} (hk : k ∈ comL) (h : Cv a b) : Cv (32 :: 32 :: 32 :: 32 :: 32 :: a) (k ++ b)

theorem com_len {k : List UInt8} (h : k ∈ comL) : k.length = 5 := (by decide : ∀ k ∈ comL, k.length = 5) k h
theorem Cv.refl : ∀ a : List UInt8, Cv a a
  | [] => .nil
  | c :: a => .same c (Cv.refl a)
theorem Cv.append {a b c d : List UInt8} (h : Cv a b) (k : Cv c d) : Cv (a ++ c) (b ++ d) := by
  induction h with
  | nil => exact k
  | same c _ ih => exact .same c ih
  | com hk _ ih => rw [List.append_assoc]; exact .com hk ih
theorem Cv.len {a b : List UInt8} (h : Cv a b) : b.length = a.length := by
  induction h with
  | nil => rfl
  | same c _ ih => simp [ih]
  | com hk _ ih => simp [ih, com_len hk]; omega

theorem adv32 (p : Nat × Nat) : adv p 32 = (p.1, p.2 + 1) := by simp [adv]
theorem Cv.advs {a b : List UInt8} (h : Cv a b) : ∀ p, advs p b = advs p a := by
  induction h with
  | nil => intro p; rfl
  | same c _ ih => intro p; rw [advs_cons, advs_cons, ih]
  | @com k a b hk _ ih =>
    intro p
    have hno : ∀ c ∈ k, c.toNat ≠ 10 := (by decide : ∀ k ∈ comL, ∀ c ∈ k, c.toNat ≠ 10) _ hk
    rw [advs_append, advs_text hno, com_len hk, ih]
    simp only [advs_cons, adv32]
theorem repl_advs (X : List UInt8) : ∀ p, advs p (replN 10 eolL X) = advs p X := by
  induction X with
  | nil => intro p; rfl
  | cons c X ih =>
    intro p
    have e : replN 10 eolL (c :: X) = (if c = 10 then eolL else [c]) ++ replN 10 eolL X := by unfold replN; rw [List.flatMap_cons]
    rw [e, advs_append, ih, advs_cons]
    congr 1
    split
    · rename_i h; subst h; rfl
    · rfl

/-- The gap ahead of a word. -/
theorem Cv.split {tx T : List UInt8} (hne : tx ≠ []) (h32 : ∀ c ∈ tx, c.toNat ≠ 32) : ∀ (n : Nat) (g B : List UInt8), g.length ≤ n → Cv (g ++ (tx ++ T)) B → ∃ g1 B', B = g1 ++ (tx ++ B') ∧ Cv g g1 ∧ Cv T B' := by
  have noS : ∀ (t X b : List UInt8), (∀ c ∈ t, c.toNat ≠ 32) → Cv (t ++ X) b → ∃ B', b = t ++ B' ∧ Cv X B' := by
    intro t
    induction t with
    | nil => intro X b _ h; exact ⟨b, rfl, h⟩
    | cons c t ih =>
      intro X b hc h
      generalize e : c :: t ++ X = Y at h
      cases h with
      | nil => simp at e
      | @same c' a b' h' =>
        simp only [List.cons_append, List.cons.injEq] at e
        obtain ⟨rfl, rfl⟩ := e
        obtain ⟨B', rfl, h2⟩ := ih X b' (fun x hx => hc x (by simp [hx])) h'
        exact ⟨B', rfl, h2⟩
      | com hk h' =>
        simp only [List.cons_append, List.cons.injEq] at e
        exact absurd (by rw [e.1]; rfl) (hc c (by simp))
  intro n
  induction n with
  | zero =>
    intro g B hg h
    have : g = [] := List.eq_nil_of_length_eq_zero (by omega)
    subst this
    obtain ⟨B', rfl, h2⟩ := noS tx T B h32 h
    exact ⟨[], B', rfl, .nil, h2⟩
  | succ n ih =>
    intro g B hg h
    cases g with
    | nil =>
      obtain ⟨B', rfl, h2⟩ := noS tx T B h32 h
      exact ⟨[], B', rfl, .nil, h2⟩
    | cons c g =>
      simp only [List.length_cons] at hg
      generalize e : c :: g ++ (tx ++ T) = Y at h
      cases h with
      | nil => simp at e
      | @same c' a b' h' =>
        simp only [List.cons_append, List.cons.injEq] at e
        obtain ⟨rfl, rfl⟩ := e
        obtain ⟨g1, B', rfl, h2, h3⟩ := ih g b' (by omega) h'
        exact ⟨c :: g1, B', rfl, .same c h2, h3⟩
      | @com k a b' hk h' =>
        obtain ⟨t, tx', rfl⟩ : ∃ t tx', tx = t :: tx' := by
          cases tx with
          | nil => exact absurd rfl hne
          | cons t tx' => exact ⟨t, tx', rfl⟩
        have ht := h32 t (by simp)
        simp only [List.cons_append, List.cons.injEq] at e
        obtain ⟨rfl, e⟩ := e
        match g, hg, e with
        | [], _, e => simp at e; exact absurd (by rw [e.1]; rfl) ht
        | [a1], _, e => simp at e; exact absurd (by rw [e.2.1]; rfl) ht
        | [a1, a2], _, e => simp at e; exact absurd (by rw [e.2.2.1]; rfl) ht
        | [a1, a2, a3], _, e => simp at e; exact absurd (by rw [e.2.2.2.1]; rfl) ht
        | a1 :: a2 :: a3 :: a4 :: g, hg, e =>
          simp only [List.cons_append, List.cons.injEq] at e
          obtain ⟨rfl, rfl, rfl, rfl, rfl⟩ := e
          simp only [List.length_cons] at hg
          obtain ⟨g1, B', rfl, h2, h3⟩ := ih g b' (by omega) h'
          exact ⟨k ++ g1, B', by rw [List.append_assoc], .com hk h2, h3⟩

theorem skips_one {c : UInt8} (hc : isBl c) {g r : List UInt8} (h : Skips g r) : Skips (c :: g) r := by
  intro f hf
  cases f with
  | zero => simp at hf
  | succ f =>
    have := h f (by simpa using hf)
    rw [List.cons_append, skipN]
    simp only [List.drop_succ_cons, List.drop_zero]
    rw [if_pos (show c.toNat = 32 ∨ c.toNat = 10 from hc), this]
    simp [shift]
theorem skips_com {k : List UInt8} (hk : k ∈ comL) {g r : List UInt8} (h : Skips g r) : Skips (k ++ g) r := by
  intro f hf
  have hl := com_len hk
  obtain ⟨f', rfl⟩ : ∃ f', f = f' + 5 := ⟨f - 5, by simp at hf; omega⟩
  have h1 := h (f' + 4) (by simp at hf ⊢; omega)
  simp only [comL, List.mem_cons, List.not_mem_nil, or_false] at hk
  rcases hk with rfl | rfl | rfl
  · show shift (2 + 3) (skipN (f' + 4) (g ++ r)) = _
    rw [h1]
    simp [shift]
  · show shift (2 + 3) (skipN (f' + 4) (g ++ r)) = _
    rw [h1]
    simp [shift]
  · show shift (2 + 3) (skipN (f' + 4) (g ++ r)) = _
    rw [h1]
    simp [shift]
theorem skips_eol {g r : List UInt8} (h : Skips g r) : Skips (eolL ++ g) r := by
  have h1 := skips_one (c := 10) (.inr rfl) h
  have h2 : Skips ([45, 45, 32, 40, 42, 32, 101, 110, 100] ++ 10 :: g) r := by
    intro f hf
    obtain ⟨f', rfl⟩ : ∃ f', f = f' + 1 := ⟨f - 1, by simp at hf; omega⟩
    have h3 := h1 f' (by simp at hf ⊢; omega)
    show shift 9 (skipN f' (10 :: g ++ r)) = _
    rw [h3]
    simp [shift]
  exact skips_one (c := 32) (.inl rfl) h2

theorem skips_cov {r : List UInt8} (hr : stopB r = true) {g g1 : List UInt8} (h : Cv g g1) : (∀ c ∈ g, isBl c) → Skips (replN 10 eolL g1) r := by
  induction h with
  | nil => intro _; exact fun f _ => skip_stop hr f
  | @same c a b h ih =>
    intro hb
    have e : replN 10 eolL (c :: b) = (if c = 10 then eolL else [c]) ++ replN 10 eolL b := by unfold replN; rw [List.flatMap_cons]
    have i := ih fun x hx => hb x (by simp [hx])
    rw [e]
    split
    · exact skips_eol i
    · exact skips_one (hb c (by simp)) i
  | @com k a b hk h ih =>
    intro hb
    have i := ih fun x hx => hb x (by simp [hx])
    rw [repl_append, repl_not ((by decide : ∀ k ∈ comL, (10 : UInt8) ∉ k) k hk)]
    exact skips_com hk i

def SepS (s : List UInt8) : Prop := s = [] ∨ ∃ x r, s = x :: r ∧ isSep x
theorem SepS.fol {s : List UInt8} (h : SepS s) : Fol [] s := by
  rcases h with rfl | ⟨x, r, rfl, hx⟩
  · exact Fol.nil _
  · exact Fol.bl _ _ _ hx
theorem SepS.append {s t : List UInt8} (h : SepS s) (k : SepS t) : SepS (s ++ t) := by
  rcases h with rfl | ⟨x, r, rfl, hx⟩
  · exact k
  · exact .inr ⟨x, r ++ t, rfl, hx⟩
theorem sep_cov {g g1 : List UInt8} (h : Cv g g1) (hb : ∀ c ∈ g, isBl c) : SepS (replN 10 eolL g1) := by
  cases h with
  | nil => exact .inl rfl
  | @same c a b h =>
    have e : replN 10 eolL (c :: b) = (if c = 10 then eolL else [c]) ++ replN 10 eolL b := by unfold replN; rw [List.flatMap_cons]
    rw [e]
    split
    · exact .inr ⟨32, _, rfl, .inl (.inl rfl)⟩
    · exact .inr ⟨c, _, rfl, .inl (hb c (by simp))⟩
  | @com k a b hk h =>
    rw [repl_append, repl_not ((by decide : ∀ k ∈ comL, (10 : UInt8) ∉ k) k hk)]
    simp only [comL, List.mem_cons, List.not_mem_nil, or_false] at hk
    rcases hk with rfl | rfl | rfl
    all_goals exact .inr ⟨40, _, rfl, .inr rfl⟩

theorem right_no32 {kd : Int} {tx : List UInt8} (h : rightN kd tx = true) : ∀ c ∈ tx, c.toNat ≠ 32 := by
  have aln : ∀ {t : List UInt8}, spanN isAln t = t.length → ∀ c ∈ t, c.toNat ≠ 32 := by
    intro t ha c hc
    have := spanN_all.1 ha c hc
    simp [isAln, isDig, isLet] at this
    omega
  unfold rightN at h
  split at h
  · simp [nameN] at h
    exact aln h.1.2
  · split at h
    · exact aln (key_aln tx (inL_mem h)).1
    · split at h
      · simp [numN] at h
        exact aln (spanN_all.2 fun c hc => by simp [isAln, spanN_all.1 h.1.2 c hc])
      · split at h
        · exact (by decide : ∀ t ∈ marksL, ∀ c ∈ t, c.toNat ≠ 32) tx (inL_mem h)
        · cases h

theorem words_cov {suf : List UInt8} (hsuf : SepS suf) : ∀ (ds : List Dr) (l c c0 : Nat) (T B : List UInt8), c0 ≤ c → 1 ≤ c → putN l c0 (wordsN l c ds) = some T → Cv T B → Lay (l, c0) (replN 10 eolL B) (wordsN l c ds) suf ∧ (c0 < c → SepS (replN 10 eolL B))
  | [], l, c, c0, T, B, _, _, hp, hc => by
    rw [wordsN, putN] at hp
    injection hp with hp
    subst hp
    cases hc
    exact ⟨Lay.nil _ _, fun _ => .inl rfl⟩
  | d :: ds, l, c, c0, T, B, h, h1, hp, hcv => by
    have hr := text_right d
    have hwl := right_len hr
    obtain ⟨w, hw⟩ : ∃ w, w = wordD d l c := ⟨_, rfl⟩
    have e1 : w.line = lineD d l := by rw [hw]; rfl
    have e2 : w.col = colD d c := by rw [hw]; rfl
    have e3 : w.text = textN d (kindD d) := by rw [hw]; rfl
    have e4 : w.kind = kindD d := by rw [hw]; rfl
    have hC : 1 ≤ colD d c := by unfold colD; split <;> omega
    have hC2 : lineD d l = l → c ≤ colD d c := by
      unfold lineD colD
      split
      · rename_i hnw; unfold newL at hnw; omega
      · omega
    rw [wordsN, ← hw] at hp ⊢
    obtain ⟨hnb, t', hp', rfl⟩ := put_cons hp
    rw [e1, e2] at hnb hp'
    rw [e3] at hp'
    simp only [Int.toNat_natCast] at hnb hp'
    have hne : textN d (kindD d) ≠ [] := by intro e; rw [e] at hwl; simp at hwl
    rw [List.append_assoc] at hcv
    obtain ⟨g1, B', rfl, hg, hB⟩ := Cv.split (tx := w.text) (by rw [e3]; exact hne) (by rw [e3]; exact right_no32 hr) _ _ _ (Nat.le_refl _) hcv
    obtain ⟨i1, i2⟩ := words_cov hsuf ds (lineD d l) (colD d c + (textN d (kindD d)).length + 1) (colD d c + (textN d (kindD d)).length) t' B' (by omega) (by omega) hp' hB
    have hT : SepS (replN 10 eolL B' ++ suf) := (i2 (by omega)).append hsuf
    have etx : replN 10 eolL w.text = w.text := repl_not fun hm => right_noNl hr 10 (by rw [← e3]; exact hm) rfl
    obtain ⟨o1, o2⟩ := right_one hr
    have hone : oneN (w.text ++ (replN 10 eolL B' ++ suf)) = (w.kind, w.text) := by
      rw [e3, e4]
      exact one_fol hr (by rw [List.append_nil]; exact o1) hT.fol
    have hst : stopB (w.text ++ (replN 10 eolL B' ++ suf)) = true := by
      rw [e3]
      exact stop_fol hne (by rw [List.append_nil]; exact o2) hT.fol
    rw [repl_append, repl_append, etx]
    refine ⟨Lay.cons (skips_cov hst hg (gap_bl _ _ _)) hone (by rw [e3, e4]; exact hr) ?_ e1 e2 (by rw [e3]; exact i1), fun hlt => ?_⟩
    · rw [repl_advs, hg.advs, advs_gap e1 e2 hC hnb]
    · have hpos : 0 < (gapN l c0 w).length := by
        have hgl := gap_len l c0 w
        rw [e1, e2] at hgl
        simp only [Int.toNat_natCast] at hgl
        rw [hgl]
        split
        · omega
        · have := hC2 (by omega)
          omega
      rcases sep_cov hg (gap_bl _ _ _) with h0 | ⟨x, r, hx, hs⟩
      · exfalso
        have hz : g1 = [] := by
          cases g1 with
          | nil => rfl
          | cons a b => exact absurd h0 (repl_ne (by simp) (by simp [eolL]))
        have := hg.len
        rw [hz] at this
        simp at this
        rw [← this] at hpos
        simp at hpos
      · rw [hx]
        exact .inr ⟨x, _, rfl, hs⟩

theorem end_skip (f : Nat) : skipN (f + 15) endL = .inl 15 := rfl

/-- THE LAW of LexBack. -/
theorem back_read (ds : List Dr) (hn : ds.length ≤ 200) {T B : List UInt8} (hp : putN 1 1 (wordsN 1 1 ds) = some T) (hB : Cv T B) (hlen : (replN 10 eolL B ++ endL).length ≤ 8000) : readT (replN 10 eolL B ++ endL) = (wordsN 1 1 ds, 0, 0, 0) := by
  obtain ⟨hL, _⟩ := words_cov (suf := endL) (.inr ⟨32, _, rfl, .inl (.inl rfl)⟩) ds 1 1 1 T B (by omega) (by omega) hp hB
  have hwl := words_len 1 1 ds
  obtain ⟨ws, hws⟩ : ∃ ws, ws = wordsN 1 1 ds := ⟨_, rfl⟩
  obtain ⟨U, hU⟩ : ∃ U, U = replN 10 eolL B := ⟨_, rfl⟩
  rw [← hws] at hL hwl ⊢
  rw [← hU] at hL hlen ⊢
  obtain ⟨s, hs⟩ : ∃ s, s = U ++ endL := ⟨_, rfl⟩
  have hl := hL.len
  have hsl : s.length = U.length + 15 := by rw [hs]; simp [endL]
  have h1 := read_lay hL [] [] (s.length + 1 - ws.length) rfl (by simp; omega)
  simp only [List.nil_append, List.length_nil] at h1
  rw [← hs] at h1 hlen ⊢
  obtain ⟨f, hf⟩ : ∃ f, s.length + 1 - ws.length = f + 1 := ⟨s.length - ws.length, by omega⟩
  have hd : s.drop U.length = endL := by rw [hs]; simp
  have hsk : skipN s.length (s.drop U.length) = .inl 15 := by
    rw [hd, hsl]
    exact end_skip _
  have hrd : readR s = .ok ws := by
    rw [readR, show s.length + 1 = s.length + 1 - ws.length + ws.length by omega, h1, hf, readN, hsk]
    simp only []
    rw [readB, if_pos (by omega)]
  rw [readT, if_neg (by omega), hrd]
end Go.Proofs.YtemlkodkohgmmaaDoor

/- Plain facts: long texts. -/
namespace Go.Proofs.YtemlkodkohgmmaaDoor
open Go Y
set_option maxRecDepth 100000
set_option maxHeartbeats 4000000

/-- Reading a text in which words stand, and behind them something. -/
theorem readR_suf {T suf : List UInt8} {ws : List Wd} (h : Lay (1, 1) T ws suf) (hn : ws.length ≤ 1500) : ∃ f, readR (T ++ suf) = readN (f + 1) (T ++ suf) T.length ws := by
  have hl := h.len
  have h1 := read_lay h [] [] ((T ++ suf).length - ws.length + 1) rfl (by simpa using hn)
  simp only [List.nil_append, List.length_nil] at h1
  refine ⟨(T ++ suf).length - ws.length, ?_⟩
  rw [readR, ← h1]
  congr 1
  rw [List.length_append]
  omega
theorem readR_sufOk {T suf : List UInt8} {ws : List Wd} (h : Lay (1, 1) T ws suf) (hn : ws.length ≤ 1500) (hs : skipN (T ++ suf).length suf = .inl suf.length) : readR (T ++ suf) = .ok ws := by
  obtain ⟨f, e⟩ := readR_suf h hn
  rw [e, readN, List.drop_left, hs]
  simp only []
  rw [readB, if_pos (by rw [List.length_append]; omega)]
theorem readR_sufOpen {T suf : List UInt8} {ws : List Wd} {n : Nat} (h : Lay (1, 1) T ws suf) (hn : ws.length ≤ 1500) (hs : skipN (T ++ suf).length suf = .inr n) : readR (T ++ suf) = .err (advs (1, 1) (T ++ suf.take n)) 370 := by
  obtain ⟨f, e⟩ := readR_suf h hn
  rw [e, readN, List.drop_left, hs]
  simp only []
  rw [at_, List.take_append, List.take_of_length_le (by omega), show T.length + n - T.length = n by omega]
theorem readR_sufWord {T g tl : List UInt8} {ws : List Wd} (h : Lay (1, 1) T ws (g ++ tl)) (hn : ws.length ≤ 1500) (hs : Skips g tl) (hne : tl ≠ []) :
    (rightN (oneN tl).1 (oneN tl).2 = false → readR (T ++ (g ++ tl)) = .err (advs (1, 1) (T ++ g)) 370) ∧ (rightN (oneN tl).1 (oneN tl).2 = true → ws.length = 1500 → readR (T ++ (g ++ tl)) = .err (advs (1, 1) (T ++ g)) 3) := by
  obtain ⟨f, e⟩ := readR_suf h hn
  have hp : 0 < tl.length := by cases tl with
    | nil => exact absurd rfl hne
    | cons => simp
  have hd : (T ++ (g ++ tl)).drop (T.length + g.length) = tl := by rw [← List.drop_drop, List.drop_left, List.drop_left]
  have ha : at_ (T ++ (g ++ tl)) (T.length + g.length) = advs (1, 1) (T ++ g) := by rw [← List.append_assoc, ← List.length_append, at_app]
  have key : readR (T ++ (g ++ tl)) = readB (readN f (T ++ (g ++ tl))) (T ++ (g ++ tl)) (T.length + g.length) ws := by
    rw [e, readN, List.drop_left, hs _ (by simp)]
  refine ⟨fun hr => ?_, fun hr hw => ?_⟩
  · rw [key, readB, if_neg (by simp; omega), hd, hr, ha]
  · rw [key, readB, if_neg (by simp; omega), hd, hr, ha]
    simp only []
    rw [if_pos hw]

theorem lay_one {suf : List UInt8} (hs : SepS suf) {w : Wd} {p : Nat × Nat} (hr : rightN w.kind w.text = true) (h1 : w.line = p.1) (h2 : w.col = p.2) : Lay p w.text [w] suf := by
  obtain ⟨o1, o2⟩ := right_one hr
  have hl := right_len hr
  have hne : w.text ≠ [] := by intro e; rw [e] at hl; simp at hl
  have := Lay.cons (p := p) (g := []) (T := []) (w := w) (ws := []) (suf := suf) (l := p.1) (c := p.2) (fun f _ => skip_stop (stop_fol hne (by rw [List.append_nil]; exact o2) hs.fol) f) (one_fol hr (by rw [List.append_nil]; exact o1) hs.fol) hr rfl h1 h2 (Lay.nil _ _)
  simpa using this

/-! ### Lines that hold an a -/
def wl : Nat → Nat → List Wd
  | _, 0 => []
  | l, m + 1 => ⟨1, [97], ((l + 1 : Nat) : Int), 1⟩ :: wl (l + 1) m
theorem wl_len : ∀ l m, (wl l m).length = m
  | _, 0 => rfl
  | l, m + 1 => by simp [wl, wl_len (l + 1) m]
theorem lines_lay {suf : List UInt8} (hs : BlS suf) : ∀ (m l c : Nat), Lay (l, c) (Lib.repeatL [10, 97] m) (wl l m) suf
  | 0, l, c => Lay.nil _ _
  | m + 1, l, c => by
    have hT : BlS (Lib.repeatL [10, 97] m ++ suf) := by
      cases m with
      | zero => exact hs
      | succ m => exact .inr ⟨10, _, rfl, .inr rfl⟩
    have hst : stopB ([97] ++ (Lib.repeatL [10, 97] m ++ suf)) = true := stop_fol (by simp) (by decide) hT.fol
    have hone : oneN ([97] ++ (Lib.repeatL [10, 97] m ++ suf)) = (1, [97]) := one_fol (by decide) (by decide) hT.fol
    exact Lay.cons (g := [10]) (w := ⟨1, [97], ((l + 1 : Nat) : Int), 1⟩) (l := l + 1) (c := 1) (skips_blank hst (by intro c hc; simp at hc; subst hc; exact .inr rfl)) hone (show rightN 1 [97] = true by decide) rfl rfl rfl (lines_lay hs m (l + 1) _)
theorem lines_text : ∀ n, Lib.repeatL [97, 10] (n + 1) = [97] ++ Lib.repeatL [10, 97] n ++ [10]
  | 0 => rfl
  | n + 1 => by
    rw [Lib.repeatL, lines_text n]
    simp [Lib.repeatL]
theorem lines_all {suf : List UInt8} (hs : BlS suf) (n : Nat) : Lay (1, 1) ([97] ++ Lib.repeatL [10, 97] n) (⟨1, [97], 1, 1⟩ :: wl 1 n) suf := by
  have hT : BlS (Lib.repeatL [10, 97] n ++ suf) := by
    cases n with
    | zero => exact hs
    | succ m => exact .inr ⟨10, _, rfl, .inr rfl⟩
  have hst : stopB ([97] ++ (Lib.repeatL [10, 97] n ++ suf)) = true := stop_fol (by simp) (by decide) hT.fol
  have hone : oneN ([97] ++ (Lib.repeatL [10, 97] n ++ suf)) = (1, [97]) := one_fol (by decide) (by decide) hT.fol
  exact Lay.cons (g := []) (w := ⟨1, [97], 1, 1⟩) (l := 1) (c := 1) (fun f _ => skip_stop hst f) hone (by decide) rfl rfl rfl (lines_lay hs n 1 2)
theorem lines_advs : ∀ (n l c : Nat), (advs (l, c) (Lib.repeatL [10, 97] n)).1 = l + n
  | 0, l, c => rfl
  | n + 1, l, c => by
    rw [Lib.repeatL, advs_append]
    show (advs (l + 1, 2) _).1 = _
    rw [lines_advs n]
    omega
theorem rep_len (s : List UInt8) (n : Nat) : (Lib.repeatL s n).length = n * s.length := Lib.repeatL_length s n

theorem known1 {n : Nat} (hn : n + 1 = 1500) : ∃ ws, readT (Lib.repeatL [97, 10] (n + 1)) = (ws, 0, 0, 0) ∧ ws.length = 1500 := by
  refine ⟨⟨1, [97], 1, 1⟩ :: wl 1 n, ?_, by rw [List.length_cons, wl_len]; exact hn⟩
  have e := lines_text n
  have hL := lines_all (suf := [10]) (.inr ⟨10, [], rfl, .inr rfl⟩) n
  have hr := readR_sufOk hL (by rw [List.length_cons, wl_len]; omega) (by
    obtain ⟨f, hf⟩ : ∃ f, ([97] ++ Lib.repeatL [10, 97] n ++ [10]).length = f + 1 := ⟨_, by rw [List.length_append]; rfl⟩
    rw [hf]
    cases f <;> rfl)
  rw [← e] at hr
  rw [readT, if_neg (by rw [rep_len]; simp; omega), hr]
theorem known2 {n : Nat} (hn : n + 1 = 1500) (b : UInt8) (c : Int) (h : c = if b = 98 then 3 else 370) (hb : b = 98 ∨ b = 63) : readT (Lib.repeatL [97, 10] (n + 1) ++ [32, b]) = ([], 1501, 2, c) := by
  have e := lines_text n
  have hst : stopB [b] = true := by rcases hb with rfl | rfl <;> decide
  have hL := lines_all (suf := [10, 32] ++ [b]) (.inr ⟨10, _, rfl, .inr rfl⟩) n
  have hw := readR_sufWord hL (by rw [List.length_cons, wl_len]; omega) (skips_blank hst (by intro c hc; simp at hc; rcases hc with rfl | rfl <;> unfold isBl <;> decide)) (by simp)
  have hT : Lib.repeatL [97, 10] (n + 1) ++ [32, b] = [97] ++ Lib.repeatL [10, 97] n ++ ([10, 32] ++ [b]) := by rw [e]; simp
  have ha : advs (1, 1) ([97] ++ Lib.repeatL [10, 97] n ++ [10, 32]) = (1501, 2) := by
    rw [advs_append, advs_append]
    show advs (advs (1, 2) (Lib.repeatL [10, 97] n)) [10, 32] = _
    have h1 := lines_advs n 1 2
    generalize advs (1, 2) (Lib.repeatL [10, 97] n) = p at h1 ⊢
    obtain ⟨a, b'⟩ := p
    simp only [] at h1
    have : a = 1500 := by omega
    subst this
    rfl
  rw [ha] at hw
  have hlen : ¬ 8000 < (Lib.repeatL [97, 10] (n + 1) ++ [32, b]).length := by rw [List.length_append, rep_len]; simp; omega
  rw [readT, if_neg hlen, hT]
  rcases hb with rfl | rfl
  · rw [hw.2 (by decide) (by rw [List.length_cons, wl_len]; omega), h]; rfl
  · rw [hw.1 (by decide), h]; rfl
theorem known4 {n : Nat} (hn : n = 8001) : readT (Lib.repeatL [32] n) = ([], 0, 0, 3) := by rw [readT, if_pos (by rw [rep_len]; simp; omega)]
theorem rep_bl (n : Nat) : Lib.repeatL [32] n = List.replicate n 32 := by
  have := Lib.repeatL_replicate 32 1 n
  rwa [Nat.mul_one] at this
theorem known5 {n : Nat} (hn : n = 8000) : readT (Lib.repeatL [32] n) = ([], 0, 0, 0) := by
  have hl : (Lib.repeatL [32] n).length = n := by rw [rep_len]; simp
  have hs : Skips (Lib.repeatL [32] n) [] := skips_blank rfl (by rw [rep_bl]; intro c hc; rw [List.mem_replicate] at hc; rw [hc.2]; exact .inl rfl)
  have hr := readR_sufOk (Lay.nil (1, 1) (Lib.repeatL [32] n)) (by simp) (by
    have := hs (([] : List UInt8) ++ Lib.repeatL [32] n).length (by simp)
    rwa [List.append_nil] at this)
  rw [List.nil_append] at hr
  rw [readT, if_neg (by omega), hr]

/-! ### Deep comments -/
theorem close_open (r : List UInt8) : ∀ (m f d : Nat), closeN (f + m) d (Lib.repeatL [40, 42] m ++ r) = (closeN f (d + m) r).map (· + 2 * m)
  | 0, f, d => by simp [Lib.repeatL]
  | m + 1, f, d => by
    have h := close_open r m f (d + 1)
    have e : Lib.repeatL [40, 42] (m + 1) ++ r = 40 :: 42 :: (Lib.repeatL [40, 42] m ++ r) := by simp [Lib.repeatL]
    rw [e, show f + (m + 1) = (f + m) + 1 by omega, closeN]
    rw [if_pos (show List.isPrefixOf [40, 42] (40 :: 42 :: (Lib.repeatL [40, 42] m ++ r)) = true by simp [List.isPrefixOf])]
    simp only [List.drop_succ_cons, List.drop_zero]
    rw [h, Option.map_map, show d + 1 + m = d + (m + 1) by omega]
    congr 1
theorem close_close : ∀ (m f d : Nat), m < d → closeN (f + m) d (Lib.repeatL [42, 41] m) = none
  | 0, f, d, _ => by cases f <;> rfl
  | m + 1, f, d, hd => by
    have h := close_close m f (d - 1) (by omega)
    have e : Lib.repeatL [42, 41] (m + 1) = 42 :: 41 :: Lib.repeatL [42, 41] m := rfl
    rw [e, show f + (m + 1) = (f + m) + 1 by omega, closeN]
    rw [if_neg (by simp [List.isPrefixOf]), if_pos (by simp [List.isPrefixOf]), if_neg (by omega)]
    simp only [List.drop_succ_cons, List.drop_zero]
    rw [h]
    rfl
theorem close_all : ∀ (m f : Nat), closeN (f + m + 1) (m + 1) (Lib.repeatL [42, 41] (m + 1)) = some (2 * (m + 1))
  | 0, f => by
    have e : Lib.repeatL [42, 41] 1 = [42, 41] := rfl
    rw [e, closeN, if_neg (by simp [List.isPrefixOf]), if_pos (by simp [List.isPrefixOf]), if_pos rfl]
  | m + 1, f => by
    have h := close_all m f
    have e : Lib.repeatL [42, 41] (m + 1 + 1) = 42 :: 41 :: Lib.repeatL [42, 41] (m + 1) := rfl
    rw [e, show f + (m + 1) + 1 = (f + m + 1) + 1 by omega, closeN]
    rw [if_neg (by simp [List.isPrefixOf]), if_pos (by simp [List.isPrefixOf]), if_neg (by omega)]
    simp only [List.drop_succ_cons, List.drop_zero]
    rw [show m + 1 + 1 - 1 = m + 1 by omega, h, Option.map_some]
    congr 1
theorem skip_com {f : Nat} {r : List UInt8} : skipN (f + 1) (40 :: 42 :: r) = (match closeN f 1 r with
    | none => .inr 0
    | some n => shift (2 + n) (skipN f (r.drop n))) := by
  rw [skipN, if_neg (by decide), if_neg (by simp [List.isPrefixOf]), if_pos (show List.isPrefixOf [40, 42] (40 :: 42 :: r) = true by simp [List.isPrefixOf])]
  simp only [List.drop_succ_cons, List.drop_zero]
  cases closeN f 1 r with
  | none => rfl
  | some n => simp only []; rw [Nat.add_comm 2 n]; rfl
def deep (k m : Nat) : List UInt8 := Lib.repeatL [40, 42] (k + 1) ++ Lib.repeatL [42, 41] m
theorem deep_cons (k m : Nat) : deep k m = 40 :: 42 :: (Lib.repeatL [40, 42] k ++ Lib.repeatL [42, 41] m) := by
  unfold deep
  rw [Lib.repeatL]
  simp
theorem deep_len (k m : Nat) : (deep k m).length = 2 + 2 * k + 2 * m := by
  unfold deep
  rw [List.length_append, rep_len, rep_len]
  simp
  omega
theorem deep_sep (k m : Nat) : SepS (deep k m) := by rw [deep_cons]; exact .inr ⟨40, _, rfl, .inr rfl⟩
theorem known6 {k : Nat} (hk : k = 999) : readT ([97] ++ deep k k) = ([], 1, 2, 370) := by
  have hL := lay_one (deep_sep k k) (w := ⟨1, [97], 1, 1⟩) (p := (1, 1)) (by decide) rfl rfl
  have hl := deep_len k k
  have hr := readR_sufOpen (n := 0) hL (by simp) (by
    obtain ⟨f, hf⟩ : ∃ f, ([97] ++ deep k k).length = (f + k + k) + 1 := ⟨([97] ++ deep k k).length - (2 * k + 1), by rw [List.length_append, hl]; simp; omega⟩
    show skipN ([97] ++ deep k k).length (deep k k) = _
    rw [hf, deep_cons, skip_com, close_open, close_close _ _ _ (by omega)]
    rfl)
  rw [readT, if_neg (by rw [List.length_append, hl]; simp; omega)]
  exact congrArg (fun z => match z with | RdR.ok ws => (ws, (0 : Int), (0 : Int), (0 : Int)) | .err p c => ([], p.1, p.2, c)) hr
theorem known7 {k : Nat} (hk : k = 999) : readT ([97] ++ deep k (k + 1)) = ([⟨1, [97], 1, 1⟩], 0, 0, 0) := by
  have hL := lay_one (deep_sep k (k + 1)) (w := ⟨1, [97], 1, 1⟩) (p := (1, 1)) (by decide) rfl rfl
  have hl := deep_len k (k + 1)
  have hr := readR_sufOk hL (by simp) (by
    obtain ⟨f, hf⟩ : ∃ f, ([97] ++ deep k (k + 1)).length = ((f + k + 1) + k) + 1 := ⟨([97] ++ deep k (k + 1)).length - (2 * k + 2), by rw [List.length_append, hl]; simp; omega⟩
    show skipN ([97] ++ deep k (k + 1)).length (deep k (k + 1)) = .inl (deep k (k + 1)).length
    rw [hl, hf, deep_cons, skip_com, close_open, Nat.add_comm 1 k, close_all k f]
    simp only [Option.map_some]
    rw [List.drop_eq_nil_of_le (by rw [List.length_append, rep_len, rep_len]; simp; omega)]
    have : skipN (f + k + 1 + k) ([] : List UInt8) = .inl 0 := by cases f + k + 1 + k <;> rfl
    rw [this]
    simp only [shift]
    congr 1
    omega)
  rw [readT, if_neg (by rw [List.length_append, hl]; simp; omega)]
  exact congrArg (fun z => match z with | RdR.ok ws => (ws, (0 : Int), (0 : Int), (0 : Int)) | .err p c => ([], p.1, p.2, c)) hr

theorem known8 {n : Nat} (hn : n = 7998) : joinN [⟨1, [97], 1, ((n + 1 : Nat) : Int)⟩] = (Lib.repeatL [32] n ++ [97], 0) := by
  obtain ⟨w, hw⟩ : ∃ w : Wd, w = ⟨1, [97], 1, ((n + 1 : Nat) : Int)⟩ := ⟨_, rfl⟩
  have e1 : w.line = ((1 : Nat) : Int) := by rw [hw]; rfl
  have e2 : w.col = ((n + 1 : Nat) : Int) := by rw [hw]
  have e3 : w.text = [97] := by rw [hw]
  have e4 : w.kind = 1 := by rw [hw]
  have hg : gapN 1 1 w = Lib.repeatL [32] n := by
    rw [rep_bl, gapN, e1, e2]
    simp
  have hp : putN 1 1 [w] = some (Lib.repeatL [32] n ++ [97]) := by
    rw [putN, if_neg (by rw [e1, e2]; simp), hg, e3, putN, Option.map_some, List.append_nil]
  have hL : Lay (1, 1) (gapN 1 1 w ++ (w.text ++ [])) [w] [] := by
    refine Lay.cons (l := 1) (c := n + 1) (skips_blank ?_ (gap_bl _ _ _)) ?_ (by rw [e3, e4]; decide) (advs_gap e1 e2 (by omega) (by omega)) e1 e2 (Lay.nil _ _)
    · rw [e3]; decide
    · rw [e3, e4]; decide
  rw [hg, e3, List.append_nil] at hL
  have hr := readR_lay hL (by simp)
  have hc : checkN w = true := by
    simp only [checkN, Bool.and_eq_true, decide_eq_true_eq]
    rw [e1, e2, e3, e4]
    exact ⟨by omega, by omega, by omega, by omega, by decide⟩
  rw [← hw, joinN, if_neg (by simp), if_neg (by simp [hc]), hp]
  simp only []
  rw [if_neg (by rw [List.length_append, rep_len]; simp; omega), hr]
  simp
theorem known9 {n : Nat} (hn : n = 1501) : (joinN (List.replicate n ⟨0, [], 0, 0⟩)).2 = 3 := by rw [joinN, if_pos (by rw [List.length_replicate]; omega)]
theorem known10 {n : Nat} (hn : n = 7998) : (joinN [⟨1, [97], 1, ((n + 1 : Nat) : Int)⟩, ⟨1, [98], 2, 1⟩]).2 = 3 := by
  obtain ⟨w, hw⟩ : ∃ w : Wd, w = ⟨1, [97], 1, ((n + 1 : Nat) : Int)⟩ := ⟨_, rfl⟩
  obtain ⟨v, hv⟩ : ∃ v : Wd, v = ⟨1, [98], 2, 1⟩ := ⟨_, rfl⟩
  have e1 : w.line = ((1 : Nat) : Int) := by rw [hw]; rfl
  have e2 : w.col = ((n + 1 : Nat) : Int) := by rw [hw]
  have e3 : w.text = [97] := by rw [hw]
  have e4 : w.kind = 1 := by rw [hw]
  have v1 : v.line = ((2 : Nat) : Int) := by rw [hv]; rfl
  have v2 : v.col = ((1 : Nat) : Int) := by rw [hv]; rfl
  have v3 : v.text = [98] := by rw [hv]
  have hp : putN 1 1 [w, v] = some (gapN 1 1 w ++ w.text ++ (gapN 1 (n + 2) v ++ v.text ++ [])) := by
    rw [putN, if_neg (by rw [e1, e2]; simp), putN, if_neg (by rw [e1, v1, e2, v2]; simp), putN, Option.map_some, Option.map_some, e1, e2, e3]
    rfl
  have hl : (gapN 1 1 w ++ w.text ++ (gapN 1 (n + 2) v ++ v.text ++ [])).length = 8001 := by
    simp only [List.length_append, gap_len]
    rw [e1, e2, e3, v1, v2, v3]
    simp
    omega
  have hc : checkN w = true := by
    simp only [checkN, Bool.and_eq_true, decide_eq_true_eq]
    rw [e1, e2, e3, e4]
    exact ⟨by omega, by omega, by omega, by omega, by decide⟩
  have hc2 : checkN v = true := by rw [hv]; decide
  rw [← hw, ← hv, joinN, if_neg (by simp), if_neg (by simp [hc, hc2]), hp]
  simp only []
  rw [if_pos (by omega)]
end Go.Proofs.YtemlkodkohgmmaaDoor

/- Contracts of the kit's shelf, laid at this program by the kit's lay-shelf.mjs and lay-plain.mjs. -/
namespace Go.Proofs
open Go.Shelf
def Tryd.lays105_ren : Go.Shelf.Ren := ⟨fun | 105 => 29 | 212 => 45 | 99 => 46 | 165 => 47 | 166 => 48 | 170 => 49 | 169 => 50 | 263 => 71 | 264 => 72 | 206 => 73 | 240 => 74 | 241 => 75 | 276 => 85 | 277 => 86 | n => n, fun | 9 => 9 | 3 => 3 | 4 => 4 | 20 => 20 | 0 => 0 | 46 => 86 | 109 => 87 | 5 => 5 | 72 => 92 | 76 => 96 | 51 => 111 | 146 => 112 | 53 => 114 | 148 => 115 | 70 => 90 | 37 => 22 | 75 => 95 | 127 => 117 | 164 => 122 | 80 => 99 | n => n, fun | n => n⟩
theorem Tryd.lays105 : Go.Proofs.Lays.n105 Tryd.prog Tryd.lays105_ren := {
  mixed := by kernel_rfl
  f99 := Tryd.func46.trans (congrArg some (by kernel_rfl))
  f105 := Tryd.func29.trans (congrArg some (by kernel_rfl))
  f165 := Tryd.func47.trans (congrArg some (by kernel_rfl))
  f166 := Tryd.func48.trans (congrArg some (by kernel_rfl))
  f169 := Tryd.func50.trans (congrArg some (by kernel_rfl))
  f170 := Tryd.func49.trans (congrArg some (by kernel_rfl))
  f206 := Tryd.func73.trans (congrArg some (by kernel_rfl))
  f212 := Tryd.func45.trans (congrArg some (by kernel_rfl))
  f240 := Tryd.func74.trans (congrArg some (by kernel_rfl))
  f241 := Tryd.func75.trans (congrArg some (by kernel_rfl))
  f263 := Tryd.func71.trans (congrArg some (by kernel_rfl))
  f264 := Tryd.func72.trans (congrArg some (by kernel_rfl))
  f276 := Tryd.func85.trans (congrArg some (by kernel_rfl))
  f277 := Tryd.func86.trans (congrArg some (by kernel_rfl))
  t0 := Tryd.underlying0
  a0 := Tryd.isAgg0
  z0 := Tryd.sizeOf0
  v0 := Tryd.zeroValue0
  t3 := Tryd.underlying3
  a3 := Tryd.isAgg3
  z3 := Tryd.sizeOf3
  v3 := Tryd.zeroValue3
  t4 := Tryd.underlying4
  a4 := Tryd.isAgg4
  z4 := Tryd.sizeOf4
  v4 := Tryd.zeroValue4
  t5 := Tryd.underlying5
  a5 := Tryd.isAgg5
  z5 := Tryd.sizeOf5
  v5 := Tryd.zeroValue5
  t9 := Tryd.underlying9
  a9 := Tryd.isAgg9
  z9 := Tryd.sizeOf9
  v9 := Tryd.zeroValue9
  t20 := Tryd.underlying20
  a20 := Tryd.isAgg20
  z20 := Tryd.sizeOf20
  v20 := Tryd.zeroValue20
  t37 := Tryd.underlying22
  a37 := Tryd.isAgg22
  z37 := Tryd.sizeOf22
  v37 := Tryd.zeroValue22
  t46 := Tryd.underlying86
  a46 := Tryd.isAgg86
  z46 := Tryd.sizeOf86
  v46 := Tryd.zeroValue86
  t51 := Tryd.underlying111
  a51 := Tryd.isAgg111
  z51 := Tryd.sizeOf111
  v51 := Tryd.zeroValue111
  t53 := Tryd.underlying114
  a53 := Tryd.isAgg114
  z53 := Tryd.sizeOf114
  v53 := Tryd.zeroValue114
  t70 := Tryd.underlying90
  a70 := Tryd.isAgg90
  z70 := Tryd.sizeOf90
  v70 := Tryd.zeroValue90
  t72 := Tryd.underlying92
  a72 := Tryd.isAgg92
  z72 := Tryd.sizeOf92
  v72 := Tryd.zeroValue92
  t75 := Tryd.underlying95
  a75 := Tryd.isAgg95
  z75 := Tryd.sizeOf95
  v75 := Tryd.zeroValue95
  t76 := Tryd.underlying96
  a76 := Tryd.isAgg96
  z76 := Tryd.sizeOf96
  v76 := Tryd.zeroValue96
  t109 := Tryd.underlying87
  a109 := Tryd.isAgg87
  z109 := Tryd.sizeOf87
  v109 := Tryd.zeroValue87
  t127 := Tryd.underlying117
  a127 := Tryd.isAgg117
  z127 := Tryd.sizeOf117
  v127 := Tryd.zeroValue117
  t146 := Tryd.underlying112
  a146 := Tryd.isAgg112
  z146 := Tryd.sizeOf112
  v146 := Tryd.zeroValue112
  t148 := Tryd.underlying115
  a148 := Tryd.isAgg115
  z148 := Tryd.sizeOf115
  v148 := Tryd.zeroValue115
  t164 := Tryd.underlying122
  a164 := Tryd.isAgg122
  z164 := Tryd.sizeOf122
  v164 := Tryd.zeroValue122 }
theorem Tryd.Builder_Extra_105 : Builder.Extra Tryd.prog Tryd.lays105_ren := {
  sizeBuilder := by kernel_rfl
  liesBuilder := by kernel_rfl
  t5 := Tryd.underlying5
  a5 := Tryd.isAgg5
  z5 := Tryd.sizeOf5
  v5 := Tryd.zeroValue5
  infoByte := by kernel_rfl
  cellsByte := by kernel_rfl
  sizeByte := by kernel_rfl
  neB5 := by decide }
open Go.RowKit Go.Lib in
theorem Tryd.strings_Repeat (s : ByteArray) (c : Nat) (w : World) (hc : c ≤ 9223372036854775807) (hlen : s.size * c ≤ 140737488355328) :
    Calls Tryd.prog 29 #[.string s, .int .i64 c] w fun e w' => e = .returned (.string ⟨(Lib.repeatL s.data.toList c).toArray⟩) ∧ Below w.heap.size w w' := Any.strings_Repeat Tryd.lays105 Tryd.Builder_Extra_105 s c w hc hlen
end Go.Proofs

/- Contracts of the kit's shelf as contracts on data: strings.Repeat. -/
namespace Go.Proofs.YtemlkodkohgmmaaDoor
open Go Y RowKit
set_option maxRecDepth 100000
set_option maxHeartbeats 4000000

theorem later_below {Γ : Gm} {w w' : World} (hR : R cx Γ ⟨0, []⟩ w) (hb : Below w.heap.size w w') : Later cx 0 Γ ⟨0, []⟩ w Γ ⟨0, []⟩ w' := by
  have hfz : ∀ b arr, Γ.fz b = some arr → ∃ t z, w'.heap[b]? = some (.cells ⟨arr⟩ t z) := by
    intro b arr h
    obtain ⟨t, z, e⟩ := hR.fzok b arr h
    have hlt : b < w.heap.size := by
      rcases Nat.lt_or_ge b w.heap.size with h1 | h1
      · exact h1
      · rw [Array.getElem?_eq_none h1] at e; cases e
    exact ⟨t, z, by rw [hb.block b hlt]; exact e⟩
  refine ⟨⟨hR.glob, hR.fresh, hfz, fun n o hn => by simp [lget] at hn, fun n o q hn => by simp [lget] at hn, fun n o m p q q' hn => by simp [lget] at hn⟩, Ext.refl _ _, Nat.le_refl _, ⟨hb.os, hb.tape, hb.output, hb.size, fun k hk _ => hb.block k hk, fun k hk => .inr hk, Fzn.le_refl _, fun k a h => .inl h⟩⟩

/-- A contract that leaves what lay there. -/
theorem pure_below {g : FuncId} {fn : Func} {c : Code} {args : List PV} {x : PV} (hf : cx.P.funcs[g]? = some fn) (hname : (fn.name == "runtime.NumGoroutine") = false) (hbd : fn.body = some c) (hx : Res [] 5 (.p x) x)
    (h : ∀ (Γ : Gm) (w : World) (args' : List Value), VRL Γ (args.map .p) args' → ∃ v', VP Γ.fz x v' ∧ Calls cx.P g ⟨args'⟩ w fun e w' => e = .returned v' ∧ Below w.heap.size w w') : Pure cx g args (· = .ret [x]) := by
  intro Γ w args' hR hA
  obtain ⟨v', h1, h2⟩ := h Γ w args' hA
  refine .inl ⟨run_enter hf hname hbd _ _, h2.mono fun e w' ⟨he, hw⟩ => ?_⟩
  subst he
  exact ⟨.returned (.p x), ⟨0, []⟩, Γ, ⟨.ret [x], ⟨rfl, _, rfl, hx⟩, rfl⟩, ⟨v', rfl, h1⟩, later_below hR hw⟩

theorem repeat_c (s : List UInt8) (n : Nat) (hn : n ≤ 100000) (hs : s.length ≤ 100000) : Pure cx 29 [.str s, i64 n] (· = .ret [.str (Lib.repeatL s n)]) := by
  refine pure_below Tryd.func29 rfl rfl rfl fun Γ w args' hA => ?_
  simp only [List.map, VRL, VR, VP] at hA
  obtain ⟨a, as', rfl, rfl, b, bs', rfl, rfl, rfl⟩ := hA
  have hm : s.length * n ≤ 100000 * 100000 := Nat.mul_le_mul hs hn
  exact ⟨_, rfl, Tryd.strings_Repeat ⟨⟨s⟩⟩ n w (by omega) (by show s.length * n ≤ _; omega)⟩
end Go.Proofs.YtemlkodkohgmmaaDoor

/- The statement on what is known. -/
namespace Go.Proofs.YtemlkodkohgmmaaDoor
open Go Y
set_option maxRecDepth 100000
set_option maxHeartbeats 4000000

theorem at_c (l c : Int) : Pure cx 28 [i64 l, i64 c] (· = .ret [i64 (checkV ⟨3, [48], l, c⟩)]) := by
  refine pure_of_vc Tryd.func28 rfl rfl rfl ?_
  refine (lawWord_c 3 [48] l c).eq rfl ?_
  refine (check_c ⟨3, [48], l, c⟩ (by show [48].length ≤ 100000; decide)).eq rfl ?_
  exact end1 _ rfl rfl rfl

theorem keys_known : ∀ k ∈ keysL, k.length ≤ 10 ∧ givesN k [⟨2, k, 1, 1⟩] = true ∧ givesN (k ++ [120]) [⟨1, k ++ [120], 1, 1⟩] = true ∧ givesN ([88] ++ k) [⟨1, [88] ++ k, 1, 1⟩] = true ∧ checkV ⟨1, k, 1, 1⟩ = 370 := by decide
theorem marks_known : ∀ m ∈ marksL, m.length ≤ 2 ∧ givesN m [⟨4, m, 1, 1⟩] = true ∧ givesN ([97] ++ m ++ [97]) [⟨1, [97], 1, 1⟩, ⟨4, m, 1, 2⟩, ⟨1, [97], 1, 2 + (m.length : Int)⟩] = true := by decide

theorem lexKnown_c : Pure cx 8 [] (· = .ret [.bool true]) := by
  have e0 : checkV ⟨3, [48], 1, 1⟩ = 0 := by decide
  have e1 : checkV ⟨3, [48], 8000, 8000⟩ = 0 := by decide
  have e2 : checkV ⟨3, [48], 0, 1⟩ = 370 := by decide
  have e3 : checkV ⟨3, [48], 1, 0⟩ = 370 := by decide
  have e4 : checkV ⟨3, [48], 8001, 1⟩ = 370 := by decide
  have e5 : checkV ⟨3, [48], 1, 8001⟩ = 370 := by decide
  have e6 : checkV ⟨0, [], 0, 0⟩ = 370 := by decide
  have e7 : checkV ⟨5, [97], 1, 1⟩ = 370 := by decide
  have e8 : checkV ⟨1, [97, 98, 99, 100, 101, 102, 103, 104, 105, 106], 1, 1⟩ = 0 := by decide
  have e9 : checkV ⟨3, [57, 57, 57, 57], 1, 1⟩ = 0 := by decide
  have e10 : givesN [97, 45, 45, 98, 40, 42, 10, 99] [⟨1, [97], 1, 1⟩, ⟨1, [99], 2, 1⟩] = true := by decide
  have e11 : givesN [40, 42, 45, 45, 42, 41, 97] [⟨1, [97], 1, 7⟩] = true := by decide
  have e12 : givesN [97, 40, 42, 10, 10, 42, 41, 98] [⟨1, [97], 1, 1⟩, ⟨1, [98], 3, 3⟩] = true := by decide
  have e13 : refusedN [9] 1 1 370 = true := by decide
  have e14 : givesN [49, 32, 50] [⟨3, [49], 1, 1⟩, ⟨3, [50], 1, 3⟩] = true := by decide
  have e15 : (joinN [⟨0, [], 0, 0⟩]).2 = 370 := by decide
  have e16 : (joinN [⟨1, [97], 1, 7999⟩, ⟨1, [98], 2, 1⟩]).2 = 3 := by exact known10 (n := 7998) rfl
  have e17 : (joinN [⟨1, [97], 1, 7999⟩, ⟨1, [98], 1, 1⟩]).2 = 371 := by decide
  have e18 : (joinN [⟨1, [97], 1, 7999⟩, ⟨1, [98], 2, 1⟩, ⟨1, [99], 1, 1⟩]).2 = 371 := by decide
  have e19 : (joinN [⟨1, [97], 1, 1⟩, ⟨3, [49], 1, 2⟩]).2 = 371 := by decide
  have e20 : joinsN [97, 40] [⟨1, [97], 1, 1⟩, ⟨4, [40], 1, 2⟩] = true := by decide
  have e21 : (joinN [⟨4, [60], 1, 1⟩, ⟨4, [61], 1, 2⟩]).2 = 371 := by decide
  have e22 : joinsN [97, 49] [⟨1, [97, 49], 1, 1⟩] = true := by decide
  obtain ⟨A, hA⟩ : ∃ S, S = Lib.repeatL [97, 10] 1500 := ⟨_, rfl⟩
  have lA : A.length = 3000 := by rw [hA, rep_len]; rfl
  obtain ⟨B, hB⟩ : ∃ S, S = Lib.repeatL [32] 8001 := ⟨_, rfl⟩
  have lB : B.length = 8001 := by rw [hB, rep_len]; rfl
  obtain ⟨C, hC⟩ : ∃ S, S = Lib.repeatL [32] 8000 := ⟨_, rfl⟩
  have lC : C.length = 8000 := by rw [hC, rep_len]; rfl
  obtain ⟨D, hD⟩ : ∃ S, S = Lib.repeatL [40, 42] 1000 := ⟨_, rfl⟩
  have lD : D.length = 2000 := by rw [hD, rep_len]; rfl
  obtain ⟨E, hE⟩ : ∃ S, S = Lib.repeatL [42, 41] 999 := ⟨_, rfl⟩
  have lE : E.length = 1998 := by rw [hE, rep_len]; rfl
  obtain ⟨F, hF⟩ : ∃ S, S = Lib.repeatL [42, 41] 1000 := ⟨_, rfl⟩
  have lF : F.length = 2000 := by rw [hF, rep_len]; rfl
  obtain ⟨G, hG⟩ : ∃ S, S = Lib.repeatL [32] 7998 := ⟨_, rfl⟩
  have lG : G.length = 7998 := by rw [hG, rep_len]; rfl
  obtain ⟨ws, k1, w1⟩ : ∃ ws, readT A = (ws, 0, 0, 0) ∧ ws.length = 1500 := by rw [hA]; exact known1 (n := 1499) rfl
  have k2 : readT (A ++ [32, 98]) = ([], 1501, 2, 3) := by rw [hA]; exact known2 (n := 1499) rfl 98 3 rfl (.inl rfl)
  have k3 : readT (A ++ [32, 63]) = ([], 1501, 2, 370) := by rw [hA]; exact known2 (n := 1499) rfl 63 370 rfl (.inr rfl)
  have k4 : readT B = ([], 0, 0, 3) := by rw [hB]; exact known4 rfl
  have k5 : readT C = ([], 0, 0, 0) := by rw [hC]; exact known5 rfl
  have k6 : readT ([97] ++ D ++ E) = ([], 1, 2, 370) := by rw [hD, hE, List.append_assoc]; exact known6 (k := 999) rfl
  have k7 : readT ([97] ++ D ++ F) = ([⟨1, [97], 1, 1⟩], 0, 0, 0) := by rw [hD, hF, List.append_assoc]; exact known7 (k := 999) rfl
  have k8 : joinN [⟨1, [97], 1, 7999⟩] = (G ++ [97], 0) := by rw [hG]; exact known8 (n := 7998) rfl
  refine pure_of_vc Tryd.func8 rfl rfl rfl ?_
  refine works_c.eq rfl ?_
  refine keys_c.eq rfl ?_
  refine marks_c.eq rfl ?_
  refine And.intro (fun _ => ?_) (fun h => absurd (show ((keysL.map PV.str).length : Int) = 14 from rfl) h)
  refine And.intro (fun _ => ?_) (fun h => absurd (show ((marksL.map PV.str).length : Int) = 16 from rfl) h)
  refine ⟨Nat, fun j => [(2, .p (.lst (marksL.map .str))), (29, .p (.lst (keysL.map .str))), (30, .p (i64 14)), (31, .p (i64 j))], fun _ => ⟨0, []⟩, fun j => j ≤ 14, fun j => 14 - j, ?_, ?_⟩
  · exact ⟨0, by omega, ent0 rfl ⟨rfl, rfl, rfl, rfl, trivial⟩ trivial rfl⟩
  intro j hj
  refine And.intro (fun h1 => ?_) (fun h1 => ?_)
  · have h1 : (j : Int) < 14 := h1
    have hjl : j < keysL.length := by show j < 14; omega
    refine ⟨_, ⟨by omega, .str keysL[j], by show (keysL.map PV.str)[j]? = _; rw [List.getElem?_map, List.getElem?_eq_getElem hjl]; rfl, rfl⟩, ?_⟩
    have hk := keys_known _ (List.getElem_mem hjl)
    generalize keysL[j] = k at hk ⊢
    obtain ⟨k0, k1, k2, k3, k4⟩ := hk
    refine (lawWord_c 2 k 1 1).eq rfl ?_
    have g := gives_c k [⟨2, k, 1, 1⟩] (by show 1 ≤ 100000; omega)
    rw [k1] at g
    refine g.lends [0] rfl ⟨_, _, rfl, rfl, _, _, rfl, ⟨_, rfl, by show 0 + 1 ≤ 1; omega, rfl⟩, rfl⟩ ?_
    clear g
    refine ⟨by show k.length + 1 ≤ _; omega, ?_⟩
    refine ⟨by show k.length + 1 ≤ _; omega, ?_⟩
    refine (lawWord_c 1 (k ++ [120]) 1 1).eq rfl ?_
    have g := gives_c (k ++ [120]) [⟨1, k ++ [120], 1, 1⟩] (by show 1 ≤ 100000; omega)
    rw [k2] at g
    refine g.lends [1] rfl ⟨_, _, rfl, rfl, _, _, rfl, ⟨_, rfl, by show 0 + 1 ≤ 1; omega, rfl⟩, rfl⟩ ?_
    clear g
    refine ⟨by show 1 + k.length ≤ _; omega, ?_⟩
    refine ⟨by show 1 + k.length ≤ _; omega, ?_⟩
    refine (lawWord_c 1 ([88] ++ k) 1 1).eq rfl ?_
    have g := gives_c ([88] ++ k) [⟨1, [88] ++ k, 1, 1⟩] (by show 1 ≤ 100000; omega)
    rw [k3] at g
    refine g.lends [2] rfl ⟨_, _, rfl, rfl, _, _, rfl, ⟨_, rfl, by show 0 + 1 ≤ 1; omega, rfl⟩, rfl⟩ ?_
    clear g
    refine (lawWord_c 1 k 1 1).eq rfl ?_
    have g := check_c ⟨1, k, 1, 1⟩ (by show k.length ≤ 100000; omega)
    rw [k4] at g
    refine g.eq rfl ?_
    refine And.intro (fun _ => ?_) (fun h => absurd rfl h)
    refine ⟨(j : Int) + 1, wrap_i64 (by omega) (by omega), j + 1, by omega, ent0 rfl ⟨rfl, rfl, rfl, rfl, trivial⟩ trivial rfl, ?_⟩
    show 14 - (j + 1) < 14 - j
    omega
  clear h1 hj
  refine ⟨Nat, fun j => [(68, .p (.lst (marksL.map .str))), (69, .p (i64 16)), (70, .p (i64 j))], fun _ => ⟨0, []⟩, fun j => j ≤ 16, fun j => 16 - j, ?_, ?_⟩
  · exact ⟨0, by omega, ent0 rfl ⟨rfl, rfl, rfl, trivial⟩ trivial rfl⟩
  intro j hj
  refine And.intro (fun h1 => ?_) (fun h1 => ?_)
  · have h1 : (j : Int) < 16 := h1
    have hjl : j < marksL.length := by show j < 16; omega
    refine ⟨_, ⟨by omega, .str marksL[j], by show (marksL.map PV.str)[j]? = _; rw [List.getElem?_map, List.getElem?_eq_getElem hjl]; rfl, rfl⟩, ?_⟩
    have hk := marks_known _ (List.getElem_mem hjl)
    generalize marksL[j] = k at hk ⊢
    obtain ⟨k0, k1, k2⟩ := hk
    refine (lawWord_c 4 k 1 1).eq rfl ?_
    have g := gives_c k [⟨4, k, 1, 1⟩] (by show 1 ≤ 100000; omega)
    rw [k1] at g
    refine g.lends [0] rfl ⟨_, _, rfl, rfl, _, _, rfl, ⟨_, rfl, by show 0 + 1 ≤ 1; omega, rfl⟩, rfl⟩ ?_
    clear g
    refine ⟨by show 1 + k.length ≤ _; omega, ?_⟩
    refine ⟨by show ([97] ++ k).length + 1 ≤ _; rw [List.length_append]; show 1 + k.length + 1 ≤ _; omega, ?_⟩
    refine (lawWord_c 1 [97] 1 1).eq rfl ?_
    refine (lawWord_c 4 k 1 2).eq rfl ?_
    refine ⟨2 + (k.length : Int), wrap_i64 (by omega) (by omega), ?_⟩
    refine (lawWord_c 1 [97] 1 (2 + (k.length : Int))).eq rfl ?_
    have g := gives_c ([97] ++ k ++ [97]) [⟨1, [97], 1, 1⟩, ⟨4, k, 1, 2⟩, ⟨1, [97], 1, 2 + (k.length : Int)⟩] (by show 3 ≤ 100000; omega)
    rw [k2] at g
    refine g.lends [1] rfl ⟨_, _, rfl, rfl, _, _, rfl, ⟨_, rfl, by show 0 + 3 ≤ 3; omega, rfl⟩, rfl⟩ ?_
    clear g
    refine ⟨(j : Int) + 1, wrap_i64 (by omega) (by omega), j + 1, by omega, ent0 rfl ⟨rfl, rfl, rfl, trivial⟩ trivial rfl, ?_⟩
    show 16 - (j + 1) < 16 - j
    omega
  clear h1 hj
  have g := at_c 1 1
  rw [e0] at g
  refine g.eq rfl ?_
  refine And.intro (fun h => ?_) (fun h => absurd rfl h)
  clear g h
  have g := at_c 8000 8000
  rw [e1] at g
  refine g.eq rfl ?_
  refine And.intro (fun h => ?_) (fun h => absurd rfl h)
  clear g h
  have g := at_c 0 1
  rw [e2] at g
  refine g.eq rfl ?_
  refine And.intro (fun h => ?_) (fun h => absurd rfl h)
  clear g h
  have g := at_c 1 0
  rw [e3] at g
  refine g.eq rfl ?_
  refine And.intro (fun h => ?_) (fun h => absurd rfl h)
  clear g h
  have g := at_c 8001 1
  rw [e4] at g
  refine g.eq rfl ?_
  refine And.intro (fun h => ?_) (fun h => absurd rfl h)
  clear g h
  have g := at_c 1 8001
  rw [e5] at g
  refine g.eq rfl ?_
  refine And.intro (fun h => ?_) (fun h => absurd rfl h)
  clear g h
  have g := check_c ⟨0, [], 0, 0⟩ (by decide)
  rw [e6] at g
  refine g.eq rfl ?_
  refine And.intro (fun h => ?_) (fun h => absurd rfl h)
  clear g h
  refine (lawWord_c 5 [97] 1 1).eq rfl ?_
  have g := check_c ⟨5, [97], 1, 1⟩ (by decide)
  rw [e7] at g
  refine g.eq rfl ?_
  refine And.intro (fun h => ?_) (fun h => absurd rfl h)
  clear g h
  refine (lawWord_c 1 [97, 98, 99, 100, 101, 102, 103, 104, 105, 106] 1 1).eq rfl ?_
  have g := check_c ⟨1, [97, 98, 99, 100, 101, 102, 103, 104, 105, 106], 1, 1⟩ (by decide)
  rw [e8] at g
  refine g.eq rfl ?_
  refine And.intro (fun h => ?_) (fun h => absurd rfl h)
  clear g h
  refine (lawWord_c 3 [57, 57, 57, 57] 1 1).eq rfl ?_
  have g := check_c ⟨3, [57, 57, 57, 57], 1, 1⟩ (by decide)
  rw [e9] at g
  refine g.eq rfl ?_
  refine And.intro (fun h => ?_) (fun h => absurd rfl h)
  clear g h
  have r := repeat_c [97, 10] 1500 (by decide) (by decide)
  rw [← hA] at r
  refine r.eq rfl ?_
  clear r
  have g := readW_c A
  rw [k1] at g
  refine g.eq rfl ?_
  clear g
  refine ⟨by decide, ?_⟩
  refine (lawWord_c 1 [97] 1 7999).eq rfl ?_
  refine (lawWord_c 1 [98] 2 1).eq rfl ?_
  refine And.intro (fun h => ?_) (fun h => absurd rfl h)
  clear h
  refine And.intro (fun h => ?_) (fun h => absurd (show ((ws.map Wd.cells).length : Int) = 1500 by rw [List.length_map, w1]; rfl) h)
  clear h
  have r := repeat_c [97, 10] 1500 (by decide) (by decide)
  rw [← hA] at r
  refine r.eq rfl ?_
  clear r
  refine ⟨by show A.length + 2 ≤ _; omega, ?_⟩
  have g := refused_c (A ++ [32, 98]) 1501 2 3
  rw [show refusedN (A ++ [32, 98]) 1501 2 3 = true by rw [refusedN, k2]; exact decide_eq_true rfl] at g
  refine g.eq rfl ?_
  clear g
  have r := repeat_c [97, 10] 1500 (by decide) (by decide)
  rw [← hA] at r
  refine r.eq rfl ?_
  clear r
  refine ⟨by show A.length + 2 ≤ _; omega, ?_⟩
  have g := refused_c (A ++ [32, 63]) 1501 2 370
  rw [show refusedN (A ++ [32, 63]) 1501 2 370 = true by rw [refusedN, k3]; exact decide_eq_true rfl] at g
  refine g.eq rfl ?_
  clear g
  have r := repeat_c [32] 8001 (by decide) (by decide)
  rw [← hB] at r
  refine r.eq rfl ?_
  clear r
  have g := refused_c B 0 0 3
  rw [show refusedN B 0 0 3 = true by rw [refusedN, k4]; exact decide_eq_true rfl] at g
  refine g.eq rfl ?_
  clear g
  have r := repeat_c [32] 8000 (by decide) (by decide)
  rw [← hC] at r
  refine r.eq rfl ?_
  clear r
  have g := gives_c C [] (by decide)
  rw [show givesN C [] = true by rw [givesN, k5]; exact decide_eq_true rfl] at g
  refine g.lends [] rfl ⟨_, _, rfl, rfl, _, _, rfl, .inr (.inr ⟨4, rfl⟩), rfl⟩ ?_
  clear g
  have r := repeat_c [40, 42] 1000 (by decide) (by decide)
  rw [← hD] at r
  refine r.eq rfl ?_
  clear r
  refine ⟨by show 1 + D.length ≤ _; omega, ?_⟩
  have r := repeat_c [42, 41] 999 (by decide) (by decide)
  rw [← hE] at r
  refine r.eq rfl ?_
  clear r
  refine ⟨by show ([97] ++ D).length + E.length ≤ _; rw [List.length_append]; show 1 + D.length + E.length ≤ _; omega, ?_⟩
  have g := refused_c ([97] ++ D ++ E) 1 2 370
  rw [show refusedN ([97] ++ D ++ E) 1 2 370 = true by rw [refusedN, k6]; exact decide_eq_true rfl] at g
  refine g.eq rfl ?_
  clear g
  have r := repeat_c [40, 42] 1000 (by decide) (by decide)
  rw [← hD] at r
  refine r.eq rfl ?_
  clear r
  refine ⟨by show 1 + D.length ≤ _; omega, ?_⟩
  have r := repeat_c [42, 41] 1000 (by decide) (by decide)
  rw [← hF] at r
  refine r.eq rfl ?_
  clear r
  refine ⟨by show ([97] ++ D).length + F.length ≤ _; rw [List.length_append]; show 1 + D.length + F.length ≤ _; omega, ?_⟩
  refine (lawWord_c 1 [97] 1 1).eq rfl ?_
  have g := gives_c ([97] ++ D ++ F) [⟨1, [97], 1, 1⟩] (by decide)
  rw [show givesN ([97] ++ D ++ F) [⟨1, [97], 1, 1⟩] = true by rw [givesN, k7]; exact decide_eq_true rfl] at g
  refine g.lends [2] rfl ⟨_, _, rfl, rfl, _, _, rfl, ⟨_, rfl, by decide, rfl⟩, rfl⟩ ?_
  clear g
  refine (lawWord_c 1 [97] 1 1).eq rfl ?_
  refine (lawWord_c 1 [99] 2 1).eq rfl ?_
  have g := gives_c [97, 45, 45, 98, 40, 42, 10, 99] [⟨1, [97], 1, 1⟩, ⟨1, [99], 2, 1⟩] (by decide)
  rw [e10] at g
  refine g.lends [3] rfl ⟨_, _, rfl, rfl, _, _, rfl, ⟨_, rfl, by decide, rfl⟩, rfl⟩ ?_
  clear g
  refine (lawWord_c 1 [97] 1 7).eq rfl ?_
  have g := gives_c [40, 42, 45, 45, 42, 41, 97] [⟨1, [97], 1, 7⟩] (by decide)
  rw [e11] at g
  refine g.lends [4] rfl ⟨_, _, rfl, rfl, _, _, rfl, ⟨_, rfl, by decide, rfl⟩, rfl⟩ ?_
  clear g
  refine (lawWord_c 1 [97] 1 1).eq rfl ?_
  refine (lawWord_c 1 [98] 3 3).eq rfl ?_
  have g := gives_c [97, 40, 42, 10, 10, 42, 41, 98] [⟨1, [97], 1, 1⟩, ⟨1, [98], 3, 3⟩] (by decide)
  rw [e12] at g
  refine g.lends [5] rfl ⟨_, _, rfl, rfl, _, _, rfl, ⟨_, rfl, by decide, rfl⟩, rfl⟩ ?_
  clear g
  have g := refused_c [9] 1 1 370
  rw [e13] at g
  refine g.eq rfl ?_
  clear g
  refine (lawWord_c 3 [49] 1 1).eq rfl ?_
  refine (lawWord_c 3 [50] 1 3).eq rfl ?_
  have g := gives_c [49, 32, 50] [⟨3, [49], 1, 1⟩, ⟨3, [50], 1, 3⟩] (by decide)
  rw [e14] at g
  refine g.lends [6] rfl ⟨_, _, rfl, rfl, _, _, rfl, ⟨_, rfl, by decide, rfl⟩, rfl⟩ ?_
  clear g
  refine VDraw.seq rfl ?_
  have g := apart_c (List.replicate 1501 ⟨0, [], 0, 0⟩) (fun w hw => by rw [List.mem_replicate] at hw; rw [hw.2]; decide)
  rw [known9 (n := 1501) rfl] at g
  refine g.lends [0] rfl ⟨_, _, rfl, ⟨_, rfl, by show 0 + 1501 ≤ (List.replicate 1501 [i64 0, PV.str [], i64 0, i64 0]).length; rw [List.length_replicate]; omega, by show _ = ((List.replicate 1501 [i64 0, PV.str [], i64 0, i64 0]).drop 0).take 1501; rw [List.map_replicate, List.drop_zero, List.take_of_length_le (Nat.le_of_eq List.length_replicate)]⟩, rfl⟩ ?_
  refine And.intro (fun h => ?_) (fun h => absurd rfl h)
  clear g h
  refine ⟨by show (0 : Int) ≤ 1 ∧ (1 : Int) ≤ 1501; decide, ?_⟩
  have g := apart_c [⟨0, [], 0, 0⟩] (by decide)
  rw [e15] at g
  refine g.lends [0] rfl ⟨_, _, rfl, ⟨_, rfl, by show 0 + 0 + 1 ≤ (List.replicate 1501 [i64 0, PV.str [], i64 0, i64 0]).length; rw [List.length_replicate]; decide, rfl⟩, rfl⟩ ?_
  refine And.intro (fun h => ?_) (fun h => absurd rfl h)
  clear g h
  have r := repeat_c [32] 7998 (by decide) (by decide)
  rw [← hG] at r
  refine r.eq rfl ?_
  clear r
  refine ⟨by show G.length + 1 ≤ _; omega, ?_⟩
  refine (lawWord_c 1 [97] 1 7999).eq rfl ?_
  have g := joins_c (G ++ [97]) [⟨1, [97], 1, 7999⟩] (by decide)
  rw [show joinsN (G ++ [97]) [⟨1, [97], 1, 7999⟩] = true by rw [joinsN, k8]; exact decide_eq_true rfl] at g
  refine g.lends [7] rfl ⟨_, _, rfl, rfl, _, _, rfl, ⟨_, rfl, by decide, rfl⟩, rfl⟩ ?_
  clear g
  have g := apart_c [⟨1, [97], 1, 7999⟩, ⟨1, [98], 2, 1⟩] (by decide)
  rw [e16] at g
  refine g.lends [1] rfl ⟨_, _, rfl, ⟨_, rfl, by decide, rfl⟩, rfl⟩ ?_
  refine And.intro (fun h => ?_) (fun h => absurd (show (3 : Int) = 3 from rfl) h)
  clear g h
  refine ⟨by decide, ?_⟩
  refine ⟨_, ⟨_, _, rfl, rfl, rfl⟩, ?_⟩
  refine (lawWord_c 1 [98] 1 1).eq rfl ?_
  refine ⟨⟨⟨_, _, rfl, rfl, rfl⟩, trivial⟩, ?_⟩
  have g := apart_c [⟨1, [97], 1, 7999⟩, ⟨1, [98], 1, 1⟩] (by decide)
  rw [e17] at g
  refine g.lends [8] rfl ⟨_, _, rfl, ⟨_, rfl, by decide, rfl⟩, rfl⟩ ?_
  refine And.intro (fun h => ?_) (fun h => absurd (show (371 : Int) = 371 from rfl) h)
  clear g h
  refine ⟨by decide, ?_⟩
  refine ⟨_, ⟨_, _, rfl, rfl, rfl⟩, ?_⟩
  refine ⟨by decide, ?_⟩
  refine ⟨_, ⟨_, _, rfl, rfl, rfl⟩, ?_⟩
  refine (lawWord_c 1 [99] 1 1).eq rfl ?_
  refine ⟨⟨⟨_, _, rfl, rfl, rfl⟩, ⟨_, _, rfl, rfl, rfl⟩, trivial⟩, ?_⟩
  have g := apart_c [⟨1, [97], 1, 7999⟩, ⟨1, [98], 2, 1⟩, ⟨1, [99], 1, 1⟩] (by decide)
  rw [e18] at g
  refine g.lends [9] rfl ⟨_, _, rfl, ⟨_, rfl, by decide, rfl⟩, rfl⟩ ?_
  refine And.intro (fun h => ?_) (fun h => absurd (show (371 : Int) = 371 from rfl) h)
  clear g h
  refine (lawWord_c 1 [97] 1 1).eq rfl ?_
  refine (lawWord_c 3 [49] 1 2).eq rfl ?_
  have g := apart_c [⟨1, [97], 1, 1⟩, ⟨3, [49], 1, 2⟩] (by decide)
  rw [e19] at g
  refine g.lends [10] rfl ⟨_, _, rfl, ⟨_, rfl, by decide, rfl⟩, rfl⟩ ?_
  refine And.intro (fun h => ?_) (fun h => absurd (show (371 : Int) = 371 from rfl) h)
  clear g h
  refine (lawWord_c 1 [97] 1 1).eq rfl ?_
  refine (lawWord_c 4 [40] 1 2).eq rfl ?_
  have g := joins_c [97, 40] [⟨1, [97], 1, 1⟩, ⟨4, [40], 1, 2⟩] (by decide)
  rw [e20] at g
  refine g.lends [11] rfl ⟨_, _, rfl, rfl, _, _, rfl, ⟨_, rfl, by decide, rfl⟩, rfl⟩ ?_
  clear g
  refine (lawWord_c 4 [60] 1 1).eq rfl ?_
  refine (lawWord_c 4 [61] 1 2).eq rfl ?_
  have g := apart_c [⟨4, [60], 1, 1⟩, ⟨4, [61], 1, 2⟩] (by decide)
  rw [e21] at g
  refine g.lends [12] rfl ⟨_, _, rfl, ⟨_, rfl, by decide, rfl⟩, rfl⟩ ?_
  refine And.intro (fun h => ?_) (fun h => absurd (show (371 : Int) = 371 from rfl) h)
  clear g h
  refine (lawWord_c 1 [97, 49] 1 1).eq rfl ?_
  have g := joins_c [97, 49] [⟨1, [97, 49], 1, 1⟩] (by decide)
  rw [e22] at g
  refine g.lends [13] rfl ⟨_, _, rfl, rfl, _, _, rfl, ⟨_, rfl, by decide, rfl⟩, rfl⟩ ?_
  clear g
  exact end1 _ rfl rfl rfl
end Go.Proofs.YtemlkodkohgmmaaDoor

/- The listed tables, as the rows of lex ask. -/
namespace Go.Proofs.YtemlkodkohgmmaaDoor
open Go Y
set_option maxRecDepth 100000

theorem own : ownKnob Tryd.prog.godebug = none := by kernel_rfl
abbrev laidL : List (String × DataW Unit) := [("haruspex/lex.keys", Rows.laid_haruspex_lex_keys), ("haruspex/lex.marks", Rows.laid_haruspex_lex_marks)]
theorem door_met (os : Os) (args : Array Value) : laidMetH Tryd.prog laidL ((World.doorLaid Tryd.prog 400 os).forCall (fun _ _ => 0) ⟨#[], args, []⟩).memory :=
  laidMetH_of_parts3 (fuel := 8) (laidMet_of_run' 8 (by kernel_rfl) (by kernel_rfl)) (by kernel_rfl) (by kernel_rfl)
theorem gt_ok : gtOK Tryd.prog 4 cx.gt laidL :=
  ⟨by kernel_rfl, ⟨84, by kernel_rfl, by kernel_rfl⟩, rfl, by kernel_rfl, ⟨85, by kernel_rfl, by kernel_rfl⟩, rfl, trivial⟩
theorem glob_ok {W : World} (h : laidMetH Tryd.prog laidL W) : ∀ g cs, gget cx.gt g = some cs → VP (fzOf W) (.fp cs) (.pointer (some ⟨g, 0, none⟩)) := by
  rw [MakeChecks.laidMetH_plain _ _ _ (by kernel_rfl)] at h
  obtain ⟨ps, h, _⟩ := h
  exact glob_of_laid gt_ok h

end Go.Proofs.YtemlkodkohgmmaaDoor

/- LexKnown: the row and the card. The examples, all keywords and marks, and the limits. Conditions: those of the card. -/
namespace Go.Proofs.YtemlkodkohgmmaaDoor
open Go Y
set_option maxRecDepth 100000

theorem lexKnown_pure : ∀ xs, ArgsT Tryd.prog 5 Tryd.f8.params.toList xs → Pure cx 8 xs (· = .ret [.bool true]) := by
  intro xs h
  rw [Tryd.params8] at h
  obtain rfl := h
  exact lexKnown_c 
theorem lexKnown_lifted (os : Os) (started : os.Started) (H : Type) (enc : TypeId × Value → H) :
    ReturnsInHanded {} Tryd.checked os 8 .any (fun w args => (Rows.lexKnownSpec.pre enc Tryd.prog Tryd.f8 [] false w args ∧ laidMetH Tryd.prog laidL w) ∧ sizedMet enc Tryd.prog Tryd.f8 (OpenSpec.ofChange Rows.lexKnownSpec) false w args)
      (Rows.lexKnownSpec.post enc Tryd.prog Tryd.f8 false true false false) := by
  refine returnsInHanded_of_change_and (C := Tryd.checked) (X := fun w _ => laidMetH Tryd.prog laidL w) (fun _ _ _ hh h => h.of_heap hh) own started (by kernel_rfl) Tryd.func8
    (ChangeSpec.witness_shaped (enc := enc) (C := Tryd.checked) (os := os) (X := fun w _ => laidMetH Tryd.prog laidL w) false (World.doorLaid Tryd.prog 400 os) #[] 8 rfl (World.shaped_of_RefB (by kernel_rfl) (by kernel_rfl)) (by kernel_rfl) (by kernel_rfl) (by kernel_rfl) (door_met os _)) ?_
  intro W base args ds gs before hval hW _ _ hL _
  obtain ⟨p, q, hA, hV, _⟩ := id hW
  have hs : Tryd.f8.params.toList.all (supp Tryd.prog 5) = true := by kernel_rfl
  obtain ⟨_, _, _, hlen⟩ := args_of (base := base) hs (fun j t v ht _ => by simp at ht) hA
  refine (calls_of_pure (cx := cx) Tryd.func8 (by kernel_rfl) rfl hs lexKnown_pure hval hA (glob_ok hL)).mono fun e W' ⟨he, h1, h2, h3⟩ => ?_
  subst he
  exact ⟨_, rfl, post_of_kept (cx := cx) (m := 5) hs rfl (by kernel_rfl) Tryd.underlying4 (fun ds h => by
    rw [Tryd.params8] at h
    match ds, h with
    | [], _ => rfl) hW hlen h1 h2 h3⟩

theorem lexKnown_holds : Rows.LexKnownSaid :=
  OpenClaim.holds_of_wide 8 Tryd.f8 rfl rfl rfl rfl rfl rfl rfl ⟨rfl, rfl, rfl, rfl, rfl⟩ rfl rfl rfl rfl rfl (by kernel_rfl) Tryd.func8 (by kernel_rfl)
    (of_decide_eq_true (by kernel_rfl)) (by unfold Func.isWrapper; first | (rw [if_pos (by decide +kernel)]; kernel_rfl) | (rw [if_neg (by decide +kernel)]; exact ⟨rfl, rfl⟩))
    (fun os started H enc _ => lexKnown_lifted os started H enc)

theorem lexKnown_card : Rows.LexKnownCardSaid :=
  Claim7.holds_tied_plain_at .later [] [.data, .data] true (true, "c656817046542e22bb9fa6a79d1bf532833238fdf87142bdfc12bf5bc8548784") true
    lexKnown_holds (fun _ h => by cases h) (by kernel_rfl) (fun _ h => by cases h) lexKnown_row_tie rfl ⟨rfl, rfl⟩ (by kernel_rfl) rfl
    (fun f fn hf hfn => by
      obtain rfl : f = 8 := Option.some.inj ((show Tryd.prog.funcNamed "haruspex/haruspexlaw37.LexKnown" = some 8 by kernel_rfl).symm.trans hf) |>.symm
      obtain rfl : fn = Tryd.f8 := (Option.some.inj (Tryd.func8.symm.trans hfn)).symm
      exact ⟨by kernel_rfl, fun j t ht => by
        have hall : (Tryd.f8.params.toList.all fun u => !Tryd.prog.wantsStandIn u) = true := by kernel_rfl
        exact (show Tryd.prog.wantsStandIn t = false by simpa using List.all_eq_true.1 hall t (by simpa using Array.mem_of_getElem? ht))⟩)
    (by kernel_rfl)
#print axioms lexKnown_card
end Go.Proofs.YtemlkodkohgmmaaDoor
