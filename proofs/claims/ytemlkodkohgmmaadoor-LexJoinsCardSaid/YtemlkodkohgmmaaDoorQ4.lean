/- LexJoins: the row and the card. Join returns what the reference's does, for drafted, changed and arbitrary words. Conditions: those of the card. -/
import Derived.Test.YtemlkodkohgmmaaDoorRows
import Derived.Test.YtemlkodkohgmmaaDoorCards
import Derived.Test.YtemlkodkohgmmaaDoorTie
import Derived.SevenTiedAt
import Derived.Test.YtemlkodkohgmmaaDoorQ3
/- The statement on joining. -/
namespace Go.Proofs.YtemlkodkohgmmaaDoor
open Go Y
set_option maxRecDepth 100000
set_option maxHeartbeats 4000000

abbrev lw (ws : List Wd) : PV := .lsts 4 (ws.map Wd.cells)
def lls (LL : List (List Wd)) : AObj := ⟨25, false, .pu (LL.map lw)⟩
def Sm (ws : List Wd) : Prop := ∀ w ∈ ws, w.text.length ≤ 20

theorem Sm.take {ws : List Wd} (h : Sm ws) (n : Nat) : Sm (ws.take n) := fun w hw => h w (List.mem_of_mem_take hw)
theorem Sm.drop {ws : List Wd} (h : Sm ws) (n : Nat) : Sm (ws.drop n) := fun w hw => h w (List.mem_of_mem_drop hw)
theorem Sm.append {a b : List Wd} (h : Sm a) (k : Sm b) : Sm (a ++ b) := fun w hw => (List.mem_append.1 hw).elim (h w) (k w)
theorem Sm.one {w : Wd} (h : w.text.length ≤ 20) : Sm [w] := fun x hx => by simp at hx; subst hx; exact h
theorem Sm.set {ws : List Wd} (h : Sm ws) (n : Nat) {w : Wd} (hw : w.text.length ≤ 20) : Sm (ws.set n w) := fun x hx => by
  rcases List.mem_or_eq_of_mem_set hx with hx | rfl
  · exact h x hx
  · exact hw



def minE (n K : Nat) : Int := if ((n : Nat) : Int) < (K : Int) + 1 then ((n : Nat) : Int) else (K : Int) + 1
theorem lenA' {α : Type} (g : List α) (K : Nat) : (g.take K ++ g.drop (minE g.length K).toNat).length = 0 + (g.take K).length + (g.drop (minE g.length K).toNat).length := by simp
theorem lenA {α : Type} (g : List α) (K : Nat) : (g.take K ++ g.drop (minE g.length K).toNat).length = 0 + (0 + (g.take K).length + (g.drop (minE g.length K).toNat).length) := by simp
theorem lenB' {α : Type} (g : List α) (K : Nat) (x : α) : ((g.take K ++ [x]) ++ g.drop K).length = 0 + (g.take K).length + 1 + (g.drop K).length := by rw [List.length_append, List.length_append, Nat.zero_add]; rfl
theorem lenB {α : Type} (g : List α) (K : Nat) (x : α) : ((g.take K ++ [x]) ++ g.drop K).length = 0 + (0 + (g.take K).length + 1 + (g.drop K).length) := by rw [lenB', Nat.zero_add (0 + _ + _ + _)]
theorem minE_ok (n K : Nat) : 0 ≤ minE n K ∧ minE n K ≤ n := by unfold minE; split <;> omega



theorem lexJoins_c (l : List Dr) (w0 : Wd) (at0 : UInt8) (line col : Int) (odd : List Wd) : Pure cx 4 [.lsts 6 (l.map Dr.cells), .agg w0.cells, u8 at0, i64 line, i64 col, .lsts 4 (odd.map Wd.cells)] (· = .ret [.bool true]) := by
  refine pure_of_vc Tryd.func4 rfl rfl rfl ?_
  refine ⟨by show 0 ≤ (if ((40 : Nat) : Int) < ((l.map Dr.cells).length : Nat) then ((40 : Nat) : Int) else ((l.map Dr.cells).length : Nat)) ∧ _; exact min_ok 40 _, ?_⟩
  have hW := words37_c (l.take 40)
  rw [List.take_take] at hW
  obtain ⟨ws, hws⟩ : ∃ ws, ws = wordsN 1 1 (l.take (min 200 40)) := ⟨_, rfl⟩
  have hwl : ws.length ≤ 40 := by rw [hws, words_len, List.length_take]; omega
  have hwt : Sm ws := by rw [hws]; exact words_text _ _ _
  rw [← hws] at hW
  refine hW.eq (congrArg (fun z => [AV.p (.lsts 6 z)]) ?_) ?_
  · show (l.map Dr.cells).take (if ((40 : Nat) : Int) < ((l.map Dr.cells).length : Nat) then ((40 : Nat) : Int) else ((l.map Dr.cells).length : Nat)).toNat = _
    rw [min_take, List.map_take]
  clear hW
  obtain ⟨g, hg⟩ : ∃ g, g = ws.map Wd.cells := ⟨_, rfl⟩
  have hgl : g.length = ws.length := by rw [hg, List.length_map]
  rw [← hg]
  have ha := at0.toNat_lt
  refine ⟨(at0.toNat : Int), wrap_i64 (by omega) (by omega), ?_⟩
  refine ⟨(g.length : Int) + 1, wrap_i64 (by omega) (by omega), ?_⟩
  refine ⟨by omega, ?_⟩
  obtain ⟨K, hK⟩ : ∃ K, K = at0.toNat % (g.length + 1) := ⟨_, rfl⟩
  have hKl : K ≤ g.length := by have := Nat.mod_lt at0.toNat (show 0 < g.length + 1 by omega); omega
  have hKe : i64 K = i64 ((at0.toNat : Int).tmod ((g.length : Int) + 1)) := by rw [hK]; rfl
  refine ⟨Nat × List Wd, fun x => [(3, .p (i64 line)), (4, .p (i64 col)), (5, .p (.lsts 4 (odd.map Wd.cells))), (7, .ptr 0 0 0), (13, .p (.lsts 4 g)), (14, .p (i64 K)), (15, .sl 1 4 0 x.2.length), (16, .p (i64 x.1))], fun x => ⟨2, [(1, wds x.2), (0, wdO w0)]⟩, fun x => x.1 ≤ 6 ∧ x.2.length = x.1 ∧ Sm x.2, fun x => 6 - x.1, ?_, ?_⟩
  · exact ⟨(0, []), ⟨by simp, by simp, by simp [Sm]⟩, ent_of [] [] [(1, 4)] rfl ⟨rfl, rfl, rfl, ⟨rfl, rfl⟩, rfl, hKe, by (repeat' first | exact trivial | exact rfl | exact ⟨rfl, rfl⟩ | exact .inl rfl | refine ⟨_, rfl, rfl, rfl, ?_⟩ | refine ⟨_, _, rfl, ?_, ?_⟩ | refine ⟨_, rfl, ?_⟩ | refine And.intro ?_ ?_), rfl, trivial⟩ (by (repeat' first | exact trivial | exact rfl | exact ⟨rfl, rfl⟩ | exact .inl rfl | refine ⟨_, rfl, rfl, rfl, ?_⟩ | refine ⟨_, _, rfl, ?_, ?_⟩ | refine ⟨_, rfl, ?_⟩ | refine And.intro ?_ ?_)) rfl⟩
  · rintro ⟨k, raw⟩ ⟨g1, g2, g3⟩
    simp only [] at g1 g2 g3
    refine And.intro (fun h1 => ?_) (fun h1 => ?_)
    · have h1 : (k : Int) < ((odd.map Wd.cells).length : Nat) := h1
      rw [List.length_map] at h1
      have hk : k < odd.length := by omega
      refine And.intro (fun h2 => ?_) (fun h2 => ?_)
      · have h2 : (k : Int) < 6 := h2
        refine ⟨_, ⟨by omega, odd[k].cells, wcell hk, rfl⟩, ?_⟩
        generalize odd[k] = w
        refine (cut_c w).eq rfl ?_
        refine ⟨by show 0 + 1 ≤ 1; omega, [(cutN w).cells], rfl, ?_⟩
        refine ⟨by show 0 + raw.length ≤ (raw.map Wd.cells).length; simp, raw.map Wd.cells, takeAll (by simp), ?_⟩
        refine ⟨by show (raw.length + 1) * 40 ≤ 140737488355328; omega, (raw ++ [cutN w]).map Wd.cells, by simp, ?_⟩
        refine ⟨(k : Int) + 1, wrap_i64 (by omega) (by omega), (k + 1, raw ++ [cutN w]), ⟨by simp only []; omega, by simp; omega, g3.append (Sm.one (by simp [cutN]; omega))⟩, ent_of [] [(1, 3)] [] rfl ⟨rfl, rfl, rfl, ⟨rfl, rfl⟩, rfl, rfl, ?_, rfl, trivial⟩ (by (repeat' first | exact trivial | exact rfl | exact ⟨rfl, rfl⟩ | exact .inl rfl | refine ⟨_, rfl, rfl, rfl, ?_⟩ | refine ⟨_, _, rfl, ?_, ?_⟩ | refine ⟨_, rfl, ?_⟩ | refine And.intro ?_ ?_)) rfl, by simp only []; omega⟩
        exact congrArg (fun n => AV.sl _ 4 0 n) (by simp)
      · have hm := minE_ok g.length K
        have hT1 : (g.take K).length = K := by rw [List.length_take]; omega
        have hT2 : (g.drop K).length ≤ 40 := by rw [List.length_drop]; omega
        have hT3 : (g.drop (minE g.length K).toNat).length ≤ 40 := by rw [List.length_drop]; omega
        obtain ⟨A, hA⟩ : ∃ A, A = ws.take K ++ ws.drop (minE g.length K).toNat := ⟨_, rfl⟩
        obtain ⟨B, hB⟩ : ∃ B, B = (ws.take K ++ [cutN w0]) ++ ws.drop K := ⟨_, rfl⟩
        have eA : A.map Wd.cells = g.take K ++ g.drop (minE g.length K).toNat := by rw [hA, hg]; simp [List.map_take, List.map_drop]
        have eB : B.map Wd.cells = (g.take K ++ [(cutN w0).cells]) ++ g.drop K := by rw [hB, hg]; simp [List.map_take, List.map_drop]
        have sA : Sm A := by rw [hA]; exact (hwt.take _).append (hwt.drop _)
        have sB : Sm B := by rw [hB]; exact ((hwt.take _).append (Sm.one (by simp [cutN]; omega))).append (hwt.drop _)
        refine VDraw.altTo [(3, .p (i64 line)), (4, .p (i64 col)), (13, .p (.lsts 4 g)), (14, .p (i64 K)), (17, .sl 0 1 0 4)] ⟨1, [(0, lls [ws, raw, A, B])]⟩ rfl ?_ ?_
        · refine ⟨by show 0 ≤ (K : Int) ∧ (K : Int) ≤ (g.length : Nat); omega, ?_⟩
          refine ⟨(K : Int) + 1, wrap_i64 (by omega) (by omega), ?_⟩
          refine ⟨hm, ?_⟩
          refine ⟨by show 0 ≤ (K : Int) ∧ (K : Int) ≤ (g.length : Nat); omega, ?_⟩
          refine ⟨by show 0 ≤ (K : Int) ∧ (K : Int) ≤ (g.length : Nat); omega, ?_⟩
          refine And.intro ?_ ?_
          · refine ⟨by (repeat' first | exact trivial | exact rfl | exact ⟨rfl, rfl⟩ | exact .inl rfl | refine ⟨_, rfl, rfl, rfl, ?_⟩ | refine ⟨_, _, rfl, ?_, ?_⟩ | refine ⟨_, rfl, ?_⟩ | refine And.intro ?_ ?_), ?_⟩
            refine And.intro ?_ ?_
            · refine ⟨by show 0 + 0 ≤ 0; omega, [], rfl, by show (0 + (g.take K).length) * 40 ≤ 140737488355328; omega, g.take K, rfl, ?_⟩
              refine ⟨by (repeat' first | exact trivial | exact rfl | exact ⟨rfl, rfl⟩ | exact .inl rfl | refine ⟨_, rfl, rfl, rfl, ?_⟩ | refine ⟨_, _, rfl, ?_, ?_⟩ | refine ⟨_, rfl, ?_⟩ | refine And.intro ?_ ?_), ?_⟩
              refine And.intro ?_ ?_
              · refine ⟨by show 0 + (0 + (g.take K).length) ≤ (g.take K).length; simp, g.take K, takeAll (n := (0 + (g.take K).length)) (by simp), by show ((0 + (g.take K).length) + (g.drop (minE g.length K).toNat).length) * 40 ≤ 140737488355328; omega, g.take K ++ g.drop (minE g.length K).toNat, rfl, ?_⟩
                refine ⟨by (repeat' first | exact trivial | exact rfl | exact ⟨rfl, rfl⟩ | exact .inl rfl | refine ⟨_, rfl, rfl, rfl, ?_⟩ | refine ⟨_, _, rfl, ?_, ?_⟩ | refine ⟨_, rfl, ?_⟩ | refine And.intro ?_ ?_), ?_⟩
                refine ⟨by (repeat' first | exact trivial | exact rfl | exact ⟨rfl, rfl⟩ | exact .inl rfl | refine ⟨_, rfl, rfl, rfl, ?_⟩ | refine ⟨_, _, rfl, ?_, ?_⟩ | refine ⟨_, rfl, ?_⟩ | refine And.intro ?_ ?_), ?_⟩
                refine ⟨by show 0 + 0 ≤ 0; omega, [], rfl, by show (0 + (g.take K).length) * 40 ≤ 140737488355328; omega, g.take K, rfl, ?_⟩
                refine ⟨by (repeat' first | exact trivial | exact rfl | exact ⟨rfl, rfl⟩ | exact .inl rfl | refine ⟨_, rfl, rfl, rfl, ?_⟩ | refine ⟨_, _, rfl, ?_, ?_⟩ | refine ⟨_, rfl, ?_⟩ | refine And.intro ?_ ?_), ?_⟩
                refine (cut_c w0).eq rfl ?_
                refine ⟨by show 0 + 1 ≤ 1; omega, [(cutN w0).cells], rfl, ?_⟩
                refine ⟨by show 0 + (0 + (g.take K).length) ≤ (g.take K).length; simp, g.take K, takeAll (n := (0 + (g.take K).length)) (by simp), by show ((0 + (g.take K).length) + 1) * 40 ≤ 140737488355328; omega, g.take K ++ [(cutN w0).cells], rfl, ?_⟩
                refine ⟨by show 0 + (0 + (g.take K).length + 1) ≤ (g.take K ++ [(cutN w0).cells]).length; simp, g.take K ++ [(cutN w0).cells], takeAll (n := (0 + (g.take K).length + 1)) (by simp), by show ((0 + (g.take K).length + 1) + (g.drop K).length) * 40 ≤ 140737488355328; omega, (g.take K ++ [(cutN w0).cells]) ++ g.drop K, rfl, ?_⟩
                exact ent_of [1, 4, 9] [(0, 10)] [] rfl ⟨rfl, rfl, rfl, rfl, rfl, trivial⟩ ⟨⟨_, rfl, rfl, rfl, _, _, rfl, congrArg (PV.lsts 4) hg.symm, _, _, rfl, ⟨_, rfl, by simp, takeAll (by simp)⟩, _, _, rfl, ⟨_, rfl, Nat.le_of_eq (lenA g K).symm, by rw [eA]; exact takeAll (lenA' g K)⟩, _, _, rfl, ⟨_, rfl, Nat.le_of_eq (lenB g K _).symm, by rw [eB]; exact takeAll (lenB' g K _)⟩, rfl⟩, trivial⟩ rfl
              · refine ⟨by (repeat' first | exact trivial | exact rfl | exact ⟨rfl, rfl⟩ | exact .inl rfl | refine ⟨_, rfl, rfl, rfl, ?_⟩ | refine ⟨_, _, rfl, ?_, ?_⟩ | refine ⟨_, rfl, ?_⟩ | refine And.intro ?_ ?_), ?_⟩
                refine ⟨by show 0 + (0 + (g.take K).length) ≤ (g.take K).length; simp, g.take K, takeAll (n := (0 + (g.take K).length)) (by simp), by show ((0 + (g.take K).length) + (g.drop (minE g.length K).toNat).length) * 40 ≤ 140737488355328; omega, g.take K ++ g.drop (minE g.length K).toNat, rfl, ?_⟩
                refine ⟨by (repeat' first | exact trivial | exact rfl | exact ⟨rfl, rfl⟩ | exact .inl rfl | refine ⟨_, rfl, rfl, rfl, ?_⟩ | refine ⟨_, _, rfl, ?_, ?_⟩ | refine ⟨_, rfl, ?_⟩ | refine And.intro ?_ ?_), ?_⟩
                refine ⟨by show 0 + 0 ≤ 0; omega, [], rfl, by show (0 + (g.take K).length) * 40 ≤ 140737488355328; omega, g.take K, rfl, ?_⟩
                refine ⟨by (repeat' first | exact trivial | exact rfl | exact ⟨rfl, rfl⟩ | exact .inl rfl | refine ⟨_, rfl, rfl, rfl, ?_⟩ | refine ⟨_, _, rfl, ?_, ?_⟩ | refine ⟨_, rfl, ?_⟩ | refine And.intro ?_ ?_), ?_⟩
                refine (cut_c w0).eq rfl ?_
                refine ⟨by show 0 + 1 ≤ 1; omega, [(cutN w0).cells], rfl, ?_⟩
                refine ⟨by show 0 + (0 + (g.take K).length) ≤ (g.take K).length; simp, g.take K, takeAll (n := (0 + (g.take K).length)) (by simp), by show ((0 + (g.take K).length) + 1) * 40 ≤ 140737488355328; omega, g.take K ++ [(cutN w0).cells], rfl, ?_⟩
                refine ⟨by show 0 + (0 + (g.take K).length + 1) ≤ (g.take K ++ [(cutN w0).cells]).length; simp, g.take K ++ [(cutN w0).cells], takeAll (n := (0 + (g.take K).length + 1)) (by simp), by show ((0 + (g.take K).length + 1) + (g.drop K).length) * 40 ≤ 140737488355328; omega, (g.take K ++ [(cutN w0).cells]) ++ g.drop K, rfl, ?_⟩
                exact ent_of [1, 5, 9] [(0, 10)] [] rfl ⟨rfl, rfl, rfl, rfl, rfl, trivial⟩ ⟨⟨_, rfl, rfl, rfl, _, _, rfl, congrArg (PV.lsts 4) hg.symm, _, _, rfl, ⟨_, rfl, by simp, takeAll (by simp)⟩, _, _, rfl, ⟨_, rfl, Nat.le_of_eq (lenA g K).symm, by rw [eA]; exact takeAll (lenA' g K)⟩, _, _, rfl, ⟨_, rfl, Nat.le_of_eq (lenB g K _).symm, by rw [eB]; exact takeAll (lenB' g K _)⟩, rfl⟩, trivial⟩ rfl
            · refine ⟨by (repeat' first | exact trivial | exact rfl | exact ⟨rfl, rfl⟩ | exact .inl rfl | refine ⟨_, rfl, rfl, rfl, ?_⟩ | refine ⟨_, _, rfl, ?_, ?_⟩ | refine ⟨_, rfl, ?_⟩ | refine And.intro ?_ ?_), ?_⟩
              refine ⟨by show 0 + 0 ≤ 0; omega, [], rfl, by show (0 + (g.take K).length) * 40 ≤ 140737488355328; omega, g.take K, rfl, ?_⟩
              refine ⟨by (repeat' first | exact trivial | exact rfl | exact ⟨rfl, rfl⟩ | exact .inl rfl | refine ⟨_, rfl, rfl, rfl, ?_⟩ | refine ⟨_, _, rfl, ?_, ?_⟩ | refine ⟨_, rfl, ?_⟩ | refine And.intro ?_ ?_), ?_⟩
              refine ⟨by show 0 + (0 + (g.take K).length) ≤ (g.take K).length; simp, g.take K, takeAll (n := (0 + (g.take K).length)) (by simp), by show ((0 + (g.take K).length) + (g.drop (minE g.length K).toNat).length) * 40 ≤ 140737488355328; omega, g.take K ++ g.drop (minE g.length K).toNat, rfl, ?_⟩
              refine ⟨by (repeat' first | exact trivial | exact rfl | exact ⟨rfl, rfl⟩ | exact .inl rfl | refine ⟨_, rfl, rfl, rfl, ?_⟩ | refine ⟨_, _, rfl, ?_, ?_⟩ | refine ⟨_, rfl, ?_⟩ | refine And.intro ?_ ?_), ?_⟩
              refine ⟨by show 0 + 0 ≤ 0; omega, [], rfl, by show (0 + (g.take K).length) * 40 ≤ 140737488355328; omega, g.take K, rfl, ?_⟩
              refine ⟨by (repeat' first | exact trivial | exact rfl | exact ⟨rfl, rfl⟩ | exact .inl rfl | refine ⟨_, rfl, rfl, rfl, ?_⟩ | refine ⟨_, _, rfl, ?_, ?_⟩ | refine ⟨_, rfl, ?_⟩ | refine And.intro ?_ ?_), ?_⟩
              refine (cut_c w0).eq rfl ?_
              refine ⟨by show 0 + 1 ≤ 1; omega, [(cutN w0).cells], rfl, ?_⟩
              refine ⟨by show 0 + (0 + (g.take K).length) ≤ (g.take K).length; simp, g.take K, takeAll (n := (0 + (g.take K).length)) (by simp), by show ((0 + (g.take K).length) + 1) * 40 ≤ 140737488355328; omega, g.take K ++ [(cutN w0).cells], rfl, ?_⟩
              refine ⟨by show 0 + (0 + (g.take K).length + 1) ≤ (g.take K ++ [(cutN w0).cells]).length; simp, g.take K ++ [(cutN w0).cells], takeAll (n := (0 + (g.take K).length + 1)) (by simp), by show ((0 + (g.take K).length + 1) + (g.drop K).length) * 40 ≤ 140737488355328; omega, (g.take K ++ [(cutN w0).cells]) ++ g.drop K, rfl, ?_⟩
              exact ent_of [1, 5, 9] [(0, 10)] [] rfl ⟨rfl, rfl, rfl, rfl, rfl, trivial⟩ ⟨⟨_, rfl, rfl, rfl, _, _, rfl, congrArg (PV.lsts 4) hg.symm, _, _, rfl, ⟨_, rfl, by simp, takeAll (by simp)⟩, _, _, rfl, ⟨_, rfl, Nat.le_of_eq (lenA g K).symm, by rw [eA]; exact takeAll (lenA' g K)⟩, _, _, rfl, ⟨_, rfl, Nat.le_of_eq (lenB g K _).symm, by rw [eB]; exact takeAll (lenB' g K _)⟩, rfl⟩, trivial⟩ rfl
          · refine ⟨by (repeat' first | exact trivial | exact rfl | exact ⟨rfl, rfl⟩ | exact .inl rfl | refine ⟨_, rfl, rfl, rfl, ?_⟩ | refine ⟨_, _, rfl, ?_, ?_⟩ | refine ⟨_, rfl, ?_⟩ | refine And.intro ?_ ?_), ?_⟩
            refine ⟨by (repeat' first | exact trivial | exact rfl | exact ⟨rfl, rfl⟩ | exact .inl rfl | refine ⟨_, rfl, rfl, rfl, ?_⟩ | refine ⟨_, _, rfl, ?_, ?_⟩ | refine ⟨_, rfl, ?_⟩ | refine And.intro ?_ ?_), ?_⟩
            refine ⟨by show 0 + 0 ≤ 0; omega, [], rfl, by show (0 + (g.take K).length) * 40 ≤ 140737488355328; omega, g.take K, rfl, ?_⟩
            refine ⟨by (repeat' first | exact trivial | exact rfl | exact ⟨rfl, rfl⟩ | exact .inl rfl | refine ⟨_, rfl, rfl, rfl, ?_⟩ | refine ⟨_, _, rfl, ?_, ?_⟩ | refine ⟨_, rfl, ?_⟩ | refine And.intro ?_ ?_), ?_⟩
            refine ⟨by show 0 + (0 + (g.take K).length) ≤ (g.take K).length; simp, g.take K, takeAll (n := (0 + (g.take K).length)) (by simp), by show ((0 + (g.take K).length) + (g.drop (minE g.length K).toNat).length) * 40 ≤ 140737488355328; omega, g.take K ++ g.drop (minE g.length K).toNat, rfl, ?_⟩
            refine ⟨by (repeat' first | exact trivial | exact rfl | exact ⟨rfl, rfl⟩ | exact .inl rfl | refine ⟨_, rfl, rfl, rfl, ?_⟩ | refine ⟨_, _, rfl, ?_, ?_⟩ | refine ⟨_, rfl, ?_⟩ | refine And.intro ?_ ?_), ?_⟩
            refine ⟨by show 0 + 0 ≤ 0; omega, [], rfl, by show (0 + (g.take K).length) * 40 ≤ 140737488355328; omega, g.take K, rfl, ?_⟩
            refine ⟨by (repeat' first | exact trivial | exact rfl | exact ⟨rfl, rfl⟩ | exact .inl rfl | refine ⟨_, rfl, rfl, rfl, ?_⟩ | refine ⟨_, _, rfl, ?_, ?_⟩ | refine ⟨_, rfl, ?_⟩ | refine And.intro ?_ ?_), ?_⟩
            refine (cut_c w0).eq rfl ?_
            refine ⟨by show 0 + 1 ≤ 1; omega, [(cutN w0).cells], rfl, ?_⟩
            refine ⟨by show 0 + (0 + (g.take K).length) ≤ (g.take K).length; simp, g.take K, takeAll (n := (0 + (g.take K).length)) (by simp), by show ((0 + (g.take K).length) + 1) * 40 ≤ 140737488355328; omega, g.take K ++ [(cutN w0).cells], rfl, ?_⟩
            refine ⟨by show 0 + (0 + (g.take K).length + 1) ≤ (g.take K ++ [(cutN w0).cells]).length; simp, g.take K ++ [(cutN w0).cells], takeAll (n := (0 + (g.take K).length + 1)) (by simp), by show ((0 + (g.take K).length + 1) + (g.drop K).length) * 40 ≤ 140737488355328; omega, (g.take K ++ [(cutN w0).cells]) ++ g.drop K, rfl, ?_⟩
            exact ent_of [1, 5, 9] [(0, 10)] [] rfl ⟨rfl, rfl, rfl, rfl, rfl, trivial⟩ ⟨⟨_, rfl, rfl, rfl, _, _, rfl, congrArg (PV.lsts 4) hg.symm, _, _, rfl, ⟨_, rfl, by simp, takeAll (by simp)⟩, _, _, rfl, ⟨_, rfl, Nat.le_of_eq (lenA g K).symm, by rw [eA]; exact takeAll (lenA' g K)⟩, _, _, rfl, ⟨_, rfl, Nat.le_of_eq (lenB g K _).symm, by rw [eB]; exact takeAll (lenB' g K _)⟩, rfl⟩, trivial⟩ rfl
        · refine And.intro (fun h8 => ?_) (fun h8 => ?_)
          · have h8 : (K : Int) < (g.length : Nat) := h8
            have hKw : K < ws.length := by omega
            have hKt := hwt _ (List.getElem_mem hKw)
            obtain ⟨wK, hwK⟩ : ∃ w, w = ws[K] := ⟨_, rfl⟩
            have hgK : g[0 + K]? = some wK.cells := by rw [Nat.zero_add, hg, wcell hKw, hwK]
            rw [← hwK] at hKt
            have eM : ∀ w : Wd, (ws.set K w).map Wd.cells = g.set (0 + K) w.cells := by intro w; rw [Nat.zero_add, hg, List.map_set]
            have eR : (ws ++ [wK]).map Wd.cells = g ++ [wK.cells] := by rw [hg]; simp
            refine ⟨by show 0 + 0 ≤ 0; omega, [], rfl, by show (0 + g.length) * 40 ≤ 140737488355328; omega, g, rfl, ?_⟩
            refine ⟨by show 0 + 0 ≤ 0; omega, [], rfl, by show (0 + g.length) * 40 ≤ 140737488355328; omega, g, rfl, ?_⟩
            refine ⟨by show 0 ≤ (K : Int) ∧ (K : Int) < ((0 + g.length : Nat) : Int); omega, ?_⟩
            refine ⟨wK.cells, hgK, by show 2 + 1 ≤ 4; omega, ?_⟩
            refine ⟨by show 0 ≤ (K : Int) ∧ (K : Int) < ((0 + g.length : Nat) : Int); omega, ?_⟩
            refine ⟨wK.cells, hgK, by show 3 + 1 ≤ 4; omega, ?_⟩
            refine VDraw.altTo [(13, .p (.lsts 4 g)), (14, .p (i64 K)), (17, .sl 0 1 0 7)] ⟨1, [(0, lls [ws, raw, A, B, ws.set K ⟨wK.kind, wK.text, line, wK.col⟩, ws.set K ⟨wK.kind, wK.text, wK.line, col⟩, ws ++ [wK]])]⟩ rfl ?_ ?_
            · refine ⟨_, ⟨by omega, wK.cells, by show g[K]? = _; rw [← hgK, Nat.zero_add], rfl⟩, ?_⟩
              refine And.intro ?_ ?_
              · refine ⟨by (repeat' first | exact trivial | exact rfl | exact ⟨rfl, rfl⟩ | exact .inl rfl | refine ⟨_, rfl, rfl, rfl, ?_⟩ | refine ⟨_, _, rfl, ?_, ?_⟩ | refine ⟨_, rfl, ?_⟩ | refine And.intro ?_ ?_), ?_⟩
                refine And.intro ?_ ?_
                · refine ⟨by show 0 + 0 ≤ 0; omega, [], rfl, by show (0 + g.length) * 40 ≤ 140737488355328; omega, g, rfl, ?_⟩
                  refine ⟨by (repeat' first | exact trivial | exact rfl | exact ⟨rfl, rfl⟩ | exact .inl rfl | refine ⟨_, rfl, rfl, rfl, ?_⟩ | refine ⟨_, _, rfl, ?_, ?_⟩ | refine ⟨_, rfl, ?_⟩ | refine And.intro ?_ ?_), ?_⟩
                  refine ⟨by show 0 + 1 ≤ 1; omega, [wK.cells], rfl, ?_⟩
                  refine ⟨by show 0 + (0 + g.length) ≤ (g).length; simp, g, takeAll (n := (0 + g.length)) (by simp), by show ((0 + g.length) + 1) * 40 ≤ 140737488355328; omega, g ++ [wK.cells], rfl, ?_⟩
                  refine .inl ⟨[2, 4, 8], [lw (ws.set K ⟨wK.kind, wK.text, line, wK.col⟩), lw (ws.set K ⟨wK.kind, wK.text, wK.line, col⟩), lw (ws ++ [wK])], rfl, ⟨_, _, rfl, ⟨_, rfl, by simp, by rw [eM]; exact takeAll (by simp)⟩, _, _, rfl, ⟨_, rfl, by simp, by rw [eM]; exact takeAll (by simp)⟩, _, _, rfl, ⟨_, rfl, by simp, by rw [eR]; exact takeAll (by simp)⟩, rfl⟩, ?_⟩
                  refine ⟨by show 0 + 4 ≤ 4; omega, _, rfl, by decide, ([ws, raw, A, B, ws.set K ⟨wK.kind, wK.text, line, wK.col⟩, ws.set K ⟨wK.kind, wK.text, wK.line, col⟩, ws ++ [wK]] : List (List Wd)).map lw, rfl, ?_⟩
                  exact ent_of [] [(0, 10)] [] rfl ⟨rfl, rfl, rfl, trivial⟩ ⟨⟨_, rfl, rfl, rfl, rfl⟩, trivial⟩ rfl
                · refine ⟨by show 0 + 0 ≤ 0; omega, [], rfl, by show (0 + g.length) * 40 ≤ 140737488355328; omega, g, rfl, ?_⟩
                  refine ⟨by (repeat' first | exact trivial | exact rfl | exact ⟨rfl, rfl⟩ | exact .inl rfl | refine ⟨_, rfl, rfl, rfl, ?_⟩ | refine ⟨_, _, rfl, ?_, ?_⟩ | refine ⟨_, rfl, ?_⟩ | refine And.intro ?_ ?_), ?_⟩
                  refine ⟨by show 0 + 1 ≤ 1; omega, [wK.cells], rfl, ?_⟩
                  refine ⟨by show 0 + (0 + g.length) ≤ (g).length; simp, g, takeAll (n := (0 + g.length)) (by simp), by show ((0 + g.length) + 1) * 40 ≤ 140737488355328; omega, g ++ [wK.cells], rfl, ?_⟩
                  refine .inl ⟨[2, 4, 8], [lw (ws.set K ⟨wK.kind, wK.text, line, wK.col⟩), lw (ws.set K ⟨wK.kind, wK.text, wK.line, col⟩), lw (ws ++ [wK])], rfl, ⟨_, _, rfl, ⟨_, rfl, by simp, by rw [eM]; exact takeAll (by simp)⟩, _, _, rfl, ⟨_, rfl, by simp, by rw [eM]; exact takeAll (by simp)⟩, _, _, rfl, ⟨_, rfl, by simp, by rw [eR]; exact takeAll (by simp)⟩, rfl⟩, ?_⟩
                  refine ⟨by show 0 + 4 ≤ 4; omega, _, rfl, by decide, ([ws, raw, A, B, ws.set K ⟨wK.kind, wK.text, line, wK.col⟩, ws.set K ⟨wK.kind, wK.text, wK.line, col⟩, ws ++ [wK]] : List (List Wd)).map lw, rfl, ?_⟩
                  exact ent_of [] [(0, 10)] [] rfl ⟨rfl, rfl, rfl, trivial⟩ ⟨⟨_, rfl, rfl, rfl, rfl⟩, trivial⟩ rfl
              · refine ⟨by (repeat' first | exact trivial | exact rfl | exact ⟨rfl, rfl⟩ | exact .inl rfl | refine ⟨_, rfl, rfl, rfl, ?_⟩ | refine ⟨_, _, rfl, ?_, ?_⟩ | refine ⟨_, rfl, ?_⟩ | refine And.intro ?_ ?_), ?_⟩
                refine ⟨by show 0 + 0 ≤ 0; omega, [], rfl, by show (0 + g.length) * 40 ≤ 140737488355328; omega, g, rfl, ?_⟩
                refine ⟨by (repeat' first | exact trivial | exact rfl | exact ⟨rfl, rfl⟩ | exact .inl rfl | refine ⟨_, rfl, rfl, rfl, ?_⟩ | refine ⟨_, _, rfl, ?_, ?_⟩ | refine ⟨_, rfl, ?_⟩ | refine And.intro ?_ ?_), ?_⟩
                refine ⟨by show 0 + 1 ≤ 1; omega, [wK.cells], rfl, ?_⟩
                refine ⟨by show 0 + (0 + g.length) ≤ (g).length; simp, g, takeAll (n := (0 + g.length)) (by simp), by show ((0 + g.length) + 1) * 40 ≤ 140737488355328; omega, g ++ [wK.cells], rfl, ?_⟩
                refine .inl ⟨[2, 4, 8], [lw (ws.set K ⟨wK.kind, wK.text, line, wK.col⟩), lw (ws.set K ⟨wK.kind, wK.text, wK.line, col⟩), lw (ws ++ [wK])], rfl, ⟨_, _, rfl, ⟨_, rfl, by simp, by rw [eM]; exact takeAll (by simp)⟩, _, _, rfl, ⟨_, rfl, by simp, by rw [eM]; exact takeAll (by simp)⟩, _, _, rfl, ⟨_, rfl, by simp, by rw [eR]; exact takeAll (by simp)⟩, rfl⟩, ?_⟩
                refine ⟨by show 0 + 4 ≤ 4; omega, _, rfl, by decide, ([ws, raw, A, B, ws.set K ⟨wK.kind, wK.text, line, wK.col⟩, ws.set K ⟨wK.kind, wK.text, wK.line, col⟩, ws ++ [wK]] : List (List Wd)).map lw, rfl, ?_⟩
                exact ent_of [] [(0, 10)] [] rfl ⟨rfl, rfl, rfl, trivial⟩ ⟨⟨_, rfl, rfl, rfl, rfl⟩, trivial⟩ rfl
            · refine ⟨by show 0 + 0 ≤ 0; omega, [], rfl, by show (0 + g.length) * 40 ≤ 140737488355328; omega, g, rfl, ?_⟩
              refine ⟨by show 0 ≤ (K : Int) ∧ (K : Int) < ((0 + g.length : Nat) : Int); omega, ?_⟩
              refine ⟨_, ⟨wK.cells, i64 wK.col, hgK, rfl, rfl⟩, ?_⟩
              obtain ⟨cm, hcm⟩ : ∃ cm, cm = IntKind.i64.wrap (wK.col - 1) := ⟨_, rfl⟩
              refine ⟨cm, hcm, ?_⟩
              refine ⟨by show 0 ≤ (K : Int) ∧ (K : Int) < ((0 + g.length : Nat) : Int); omega, ?_⟩
              refine ⟨wK.cells, hgK, by show 3 + 1 ≤ 4; omega, ?_⟩
              refine .inl ⟨[2], [lw (ws.set K ⟨wK.kind, wK.text, wK.line, cm⟩)], rfl, ⟨_, _, rfl, ⟨_, rfl, by simp, by rw [eM]; exact takeAll (by simp)⟩, rfl⟩, ?_⟩
              refine ⟨by show 0 + 7 ≤ 7; omega, _, rfl, by decide, ([ws, raw, A, B, ws.set K ⟨wK.kind, wK.text, line, wK.col⟩, ws.set K ⟨wK.kind, wK.text, wK.line, col⟩, ws ++ [wK], ws.set K ⟨wK.kind, wK.text, wK.line, cm⟩] : List (List Wd)).map lw, rfl, ?_⟩
              have hLL : ∀ x ∈ ([ws, raw, A, B, ws.set K ⟨wK.kind, wK.text, line, wK.col⟩, ws.set K ⟨wK.kind, wK.text, wK.line, col⟩, ws ++ [wK], ws.set K ⟨wK.kind, wK.text, wK.line, cm⟩] : List (List Wd)), Sm x := by
                intro x hx
                simp only [List.mem_cons, List.not_mem_nil, or_false] at hx
                rcases hx with rfl | rfl | rfl | rfl | rfl | rfl | rfl | rfl
                · exact hwt
                · exact g3
                · exact sA
                · exact sB
                · exact hwt.set _ hKt
                · exact hwt.set _ hKt
                · exact hwt.append (Sm.one hKt)
                · exact hwt.set _ hKt
              refine ⟨Nat, fun j => [(135, .p (.lst (([ws, raw, A, B, ws.set K ⟨wK.kind, wK.text, line, wK.col⟩, ws.set K ⟨wK.kind, wK.text, wK.line, col⟩, ws ++ [wK], ws.set K ⟨wK.kind, wK.text, wK.line, cm⟩] : List (List Wd)).map lw))), (136, .p (i64 8)), (137, .p (i64 j))], fun _ => ⟨0, []⟩, fun j => j ≤ 8, fun j => 8 - j, ?_, ?_⟩
              · exact ⟨0, by omega, ent_of [4] [] [] rfl ⟨⟨_, rfl, Nat.le_refl _, rfl⟩, rfl, rfl, trivial⟩ trivial rfl⟩
              · intro j hj
                refine And.intro (fun h2 => ?_) (fun h2 => ?_)
                · have h2 : (j : Int) < (8 : Nat) := h2
                  have hjl : j < ([ws, raw, A, B, ws.set K ⟨wK.kind, wK.text, line, wK.col⟩, ws.set K ⟨wK.kind, wK.text, wK.line, col⟩, ws ++ [wK], ws.set K ⟨wK.kind, wK.text, wK.line, cm⟩] : List (List Wd)).length := by show j < 8; omega
                  refine ⟨_, ⟨by omega, lw ([ws, raw, A, B, ws.set K ⟨wK.kind, wK.text, line, wK.col⟩, ws.set K ⟨wK.kind, wK.text, wK.line, col⟩, ws ++ [wK], ws.set K ⟨wK.kind, wK.text, wK.line, cm⟩] : List (List Wd))[j], by show (([ws, raw, A, B, ws.set K ⟨wK.kind, wK.text, line, wK.col⟩, ws.set K ⟨wK.kind, wK.text, wK.line, col⟩, ws ++ [wK], ws.set K ⟨wK.kind, wK.text, wK.line, cm⟩] : List (List Wd)).map lw)[j]? = _; rw [List.getElem?_map, List.getElem?_eq_getElem hjl]; rfl, rfl⟩, ?_⟩
                  have hx := hLL _ (List.getElem_mem hjl)
                  generalize ([ws, raw, A, B, ws.set K ⟨wK.kind, wK.text, line, wK.col⟩, ws.set K ⟨wK.kind, wK.text, wK.line, col⟩, ws ++ [wK], ws.set K ⟨wK.kind, wK.text, wK.line, cm⟩] : List (List Wd))[j] = x at hx ⊢
                  have ht : ∀ w ∈ x, w.text.length ≤ 100000 := fun w hw => by have := hx w hw; omega
                  refine (join_c x ht).eq rfl ?_
                  refine (rJoin_c x ht).eq rfl ?_
                  refine And.intro (fun _ => ?_) (fun h => absurd rfl h)
                  refine And.intro (fun _ => ?_) (fun h => absurd rfl h)
                  refine ⟨(j : Int) + 1, wrap_i64 (by omega) (by omega), j + 1, by omega, ent_of [] [] [] rfl ⟨rfl, rfl, rfl, trivial⟩ trivial rfl, ?_⟩
                  show 8 - (j + 1) < 8 - j
                  omega
                · refine works_c.eq rfl ?_
                  exact end1 _ rfl rfl rfl
          · have hLL : ∀ x ∈ ([ws, raw, A, B] : List (List Wd)), Sm x := by
              intro x hx
              simp only [List.mem_cons, List.not_mem_nil, or_false] at hx
              rcases hx with rfl | rfl | rfl | rfl
              · exact hwt
              · exact g3
              · exact sA
              · exact sB
            refine ⟨Nat, fun j => [(135, .p (.lst (([ws, raw, A, B] : List (List Wd)).map lw))), (136, .p (i64 4)), (137, .p (i64 j))], fun _ => ⟨0, []⟩, fun j => j ≤ 4, fun j => 4 - j, ?_, ?_⟩
            · exact ⟨0, by omega, ent_of [0] [] [] rfl ⟨⟨_, rfl, Nat.le_refl _, rfl⟩, rfl, rfl, trivial⟩ trivial rfl⟩
            · intro j hj
              refine And.intro (fun h2 => ?_) (fun h2 => ?_)
              · have h2 : (j : Int) < (4 : Nat) := h2
                have hjl : j < ([ws, raw, A, B] : List (List Wd)).length := by show j < 4; omega
                refine ⟨_, ⟨by omega, lw ([ws, raw, A, B] : List (List Wd))[j], by show (([ws, raw, A, B] : List (List Wd)).map lw)[j]? = _; rw [List.getElem?_map, List.getElem?_eq_getElem hjl]; rfl, rfl⟩, ?_⟩
                have hx := hLL _ (List.getElem_mem hjl)
                generalize ([ws, raw, A, B] : List (List Wd))[j] = x at hx ⊢
                have ht : ∀ w ∈ x, w.text.length ≤ 100000 := fun w hw => by have := hx w hw; omega
                refine (join_c x ht).eq rfl ?_
                refine (rJoin_c x ht).eq rfl ?_
                refine And.intro (fun _ => ?_) (fun h => absurd rfl h)
                refine And.intro (fun _ => ?_) (fun h => absurd rfl h)
                refine ⟨(j : Int) + 1, wrap_i64 (by omega) (by omega), j + 1, by omega, ent_of [] [] [] rfl ⟨rfl, rfl, rfl, trivial⟩ trivial rfl, ?_⟩
                show 4 - (j + 1) < 4 - j
                omega
              · refine works_c.eq rfl ?_
                exact end1 _ rfl rfl rfl
    · have hm := minE_ok g.length K
      have hT1 : (g.take K).length = K := by rw [List.length_take]; omega
      have hT2 : (g.drop K).length ≤ 40 := by rw [List.length_drop]; omega
      have hT3 : (g.drop (minE g.length K).toNat).length ≤ 40 := by rw [List.length_drop]; omega
      obtain ⟨A, hA⟩ : ∃ A, A = ws.take K ++ ws.drop (minE g.length K).toNat := ⟨_, rfl⟩
      obtain ⟨B, hB⟩ : ∃ B, B = (ws.take K ++ [cutN w0]) ++ ws.drop K := ⟨_, rfl⟩
      have eA : A.map Wd.cells = g.take K ++ g.drop (minE g.length K).toNat := by rw [hA, hg]; simp [List.map_take, List.map_drop]
      have eB : B.map Wd.cells = (g.take K ++ [(cutN w0).cells]) ++ g.drop K := by rw [hB, hg]; simp [List.map_take, List.map_drop]
      have sA : Sm A := by rw [hA]; exact (hwt.take _).append (hwt.drop _)
      have sB : Sm B := by rw [hB]; exact ((hwt.take _).append (Sm.one (by simp [cutN]; omega))).append (hwt.drop _)
      refine VDraw.altTo [(3, .p (i64 line)), (4, .p (i64 col)), (13, .p (.lsts 4 g)), (14, .p (i64 K)), (17, .sl 0 1 0 4)] ⟨1, [(0, lls [ws, raw, A, B])]⟩ rfl ?_ ?_
      · refine ⟨by show 0 ≤ (K : Int) ∧ (K : Int) ≤ (g.length : Nat); omega, ?_⟩
        refine ⟨(K : Int) + 1, wrap_i64 (by omega) (by omega), ?_⟩
        refine ⟨hm, ?_⟩
        refine ⟨by show 0 ≤ (K : Int) ∧ (K : Int) ≤ (g.length : Nat); omega, ?_⟩
        refine ⟨by show 0 ≤ (K : Int) ∧ (K : Int) ≤ (g.length : Nat); omega, ?_⟩
        refine And.intro ?_ ?_
        · refine ⟨by (repeat' first | exact trivial | exact rfl | exact ⟨rfl, rfl⟩ | exact .inl rfl | refine ⟨_, rfl, rfl, rfl, ?_⟩ | refine ⟨_, _, rfl, ?_, ?_⟩ | refine ⟨_, rfl, ?_⟩ | refine And.intro ?_ ?_), ?_⟩
          refine And.intro ?_ ?_
          · refine ⟨by show 0 + 0 ≤ 0; omega, [], rfl, by show (0 + (g.take K).length) * 40 ≤ 140737488355328; omega, g.take K, rfl, ?_⟩
            refine ⟨by (repeat' first | exact trivial | exact rfl | exact ⟨rfl, rfl⟩ | exact .inl rfl | refine ⟨_, rfl, rfl, rfl, ?_⟩ | refine ⟨_, _, rfl, ?_, ?_⟩ | refine ⟨_, rfl, ?_⟩ | refine And.intro ?_ ?_), ?_⟩
            refine And.intro ?_ ?_
            · refine ⟨by show 0 + (0 + (g.take K).length) ≤ (g.take K).length; simp, g.take K, takeAll (n := (0 + (g.take K).length)) (by simp), by show ((0 + (g.take K).length) + (g.drop (minE g.length K).toNat).length) * 40 ≤ 140737488355328; omega, g.take K ++ g.drop (minE g.length K).toNat, rfl, ?_⟩
              refine ⟨by (repeat' first | exact trivial | exact rfl | exact ⟨rfl, rfl⟩ | exact .inl rfl | refine ⟨_, rfl, rfl, rfl, ?_⟩ | refine ⟨_, _, rfl, ?_, ?_⟩ | refine ⟨_, rfl, ?_⟩ | refine And.intro ?_ ?_), ?_⟩
              refine ⟨by (repeat' first | exact trivial | exact rfl | exact ⟨rfl, rfl⟩ | exact .inl rfl | refine ⟨_, rfl, rfl, rfl, ?_⟩ | refine ⟨_, _, rfl, ?_, ?_⟩ | refine ⟨_, rfl, ?_⟩ | refine And.intro ?_ ?_), ?_⟩
              refine ⟨by show 0 + 0 ≤ 0; omega, [], rfl, by show (0 + (g.take K).length) * 40 ≤ 140737488355328; omega, g.take K, rfl, ?_⟩
              refine ⟨by (repeat' first | exact trivial | exact rfl | exact ⟨rfl, rfl⟩ | exact .inl rfl | refine ⟨_, rfl, rfl, rfl, ?_⟩ | refine ⟨_, _, rfl, ?_, ?_⟩ | refine ⟨_, rfl, ?_⟩ | refine And.intro ?_ ?_), ?_⟩
              refine (cut_c w0).eq rfl ?_
              refine ⟨by show 0 + 1 ≤ 1; omega, [(cutN w0).cells], rfl, ?_⟩
              refine ⟨by show 0 + (0 + (g.take K).length) ≤ (g.take K).length; simp, g.take K, takeAll (n := (0 + (g.take K).length)) (by simp), by show ((0 + (g.take K).length) + 1) * 40 ≤ 140737488355328; omega, g.take K ++ [(cutN w0).cells], rfl, ?_⟩
              refine ⟨by show 0 + (0 + (g.take K).length + 1) ≤ (g.take K ++ [(cutN w0).cells]).length; simp, g.take K ++ [(cutN w0).cells], takeAll (n := (0 + (g.take K).length + 1)) (by simp), by show ((0 + (g.take K).length + 1) + (g.drop K).length) * 40 ≤ 140737488355328; omega, (g.take K ++ [(cutN w0).cells]) ++ g.drop K, rfl, ?_⟩
              exact ent_of [1, 4, 9] [(0, 10)] [] rfl ⟨rfl, rfl, rfl, rfl, rfl, trivial⟩ ⟨⟨_, rfl, rfl, rfl, _, _, rfl, congrArg (PV.lsts 4) hg.symm, _, _, rfl, ⟨_, rfl, by simp, takeAll (by simp)⟩, _, _, rfl, ⟨_, rfl, Nat.le_of_eq (lenA g K).symm, by rw [eA]; exact takeAll (lenA' g K)⟩, _, _, rfl, ⟨_, rfl, Nat.le_of_eq (lenB g K _).symm, by rw [eB]; exact takeAll (lenB' g K _)⟩, rfl⟩, trivial⟩ rfl
            · refine ⟨by (repeat' first | exact trivial | exact rfl | exact ⟨rfl, rfl⟩ | exact .inl rfl | refine ⟨_, rfl, rfl, rfl, ?_⟩ | refine ⟨_, _, rfl, ?_, ?_⟩ | refine ⟨_, rfl, ?_⟩ | refine And.intro ?_ ?_), ?_⟩
              refine ⟨by show 0 + (0 + (g.take K).length) ≤ (g.take K).length; simp, g.take K, takeAll (n := (0 + (g.take K).length)) (by simp), by show ((0 + (g.take K).length) + (g.drop (minE g.length K).toNat).length) * 40 ≤ 140737488355328; omega, g.take K ++ g.drop (minE g.length K).toNat, rfl, ?_⟩
              refine ⟨by (repeat' first | exact trivial | exact rfl | exact ⟨rfl, rfl⟩ | exact .inl rfl | refine ⟨_, rfl, rfl, rfl, ?_⟩ | refine ⟨_, _, rfl, ?_, ?_⟩ | refine ⟨_, rfl, ?_⟩ | refine And.intro ?_ ?_), ?_⟩
              refine ⟨by show 0 + 0 ≤ 0; omega, [], rfl, by show (0 + (g.take K).length) * 40 ≤ 140737488355328; omega, g.take K, rfl, ?_⟩
              refine ⟨by (repeat' first | exact trivial | exact rfl | exact ⟨rfl, rfl⟩ | exact .inl rfl | refine ⟨_, rfl, rfl, rfl, ?_⟩ | refine ⟨_, _, rfl, ?_, ?_⟩ | refine ⟨_, rfl, ?_⟩ | refine And.intro ?_ ?_), ?_⟩
              refine (cut_c w0).eq rfl ?_
              refine ⟨by show 0 + 1 ≤ 1; omega, [(cutN w0).cells], rfl, ?_⟩
              refine ⟨by show 0 + (0 + (g.take K).length) ≤ (g.take K).length; simp, g.take K, takeAll (n := (0 + (g.take K).length)) (by simp), by show ((0 + (g.take K).length) + 1) * 40 ≤ 140737488355328; omega, g.take K ++ [(cutN w0).cells], rfl, ?_⟩
              refine ⟨by show 0 + (0 + (g.take K).length + 1) ≤ (g.take K ++ [(cutN w0).cells]).length; simp, g.take K ++ [(cutN w0).cells], takeAll (n := (0 + (g.take K).length + 1)) (by simp), by show ((0 + (g.take K).length + 1) + (g.drop K).length) * 40 ≤ 140737488355328; omega, (g.take K ++ [(cutN w0).cells]) ++ g.drop K, rfl, ?_⟩
              exact ent_of [1, 5, 9] [(0, 10)] [] rfl ⟨rfl, rfl, rfl, rfl, rfl, trivial⟩ ⟨⟨_, rfl, rfl, rfl, _, _, rfl, congrArg (PV.lsts 4) hg.symm, _, _, rfl, ⟨_, rfl, by simp, takeAll (by simp)⟩, _, _, rfl, ⟨_, rfl, Nat.le_of_eq (lenA g K).symm, by rw [eA]; exact takeAll (lenA' g K)⟩, _, _, rfl, ⟨_, rfl, Nat.le_of_eq (lenB g K _).symm, by rw [eB]; exact takeAll (lenB' g K _)⟩, rfl⟩, trivial⟩ rfl
          · refine ⟨by (repeat' first | exact trivial | exact rfl | exact ⟨rfl, rfl⟩ | exact .inl rfl | refine ⟨_, rfl, rfl, rfl, ?_⟩ | refine ⟨_, _, rfl, ?_, ?_⟩ | refine ⟨_, rfl, ?_⟩ | refine And.intro ?_ ?_), ?_⟩
            refine ⟨by show 0 + 0 ≤ 0; omega, [], rfl, by show (0 + (g.take K).length) * 40 ≤ 140737488355328; omega, g.take K, rfl, ?_⟩
            refine ⟨by (repeat' first | exact trivial | exact rfl | exact ⟨rfl, rfl⟩ | exact .inl rfl | refine ⟨_, rfl, rfl, rfl, ?_⟩ | refine ⟨_, _, rfl, ?_, ?_⟩ | refine ⟨_, rfl, ?_⟩ | refine And.intro ?_ ?_), ?_⟩
            refine ⟨by show 0 + (0 + (g.take K).length) ≤ (g.take K).length; simp, g.take K, takeAll (n := (0 + (g.take K).length)) (by simp), by show ((0 + (g.take K).length) + (g.drop (minE g.length K).toNat).length) * 40 ≤ 140737488355328; omega, g.take K ++ g.drop (minE g.length K).toNat, rfl, ?_⟩
            refine ⟨by (repeat' first | exact trivial | exact rfl | exact ⟨rfl, rfl⟩ | exact .inl rfl | refine ⟨_, rfl, rfl, rfl, ?_⟩ | refine ⟨_, _, rfl, ?_, ?_⟩ | refine ⟨_, rfl, ?_⟩ | refine And.intro ?_ ?_), ?_⟩
            refine ⟨by show 0 + 0 ≤ 0; omega, [], rfl, by show (0 + (g.take K).length) * 40 ≤ 140737488355328; omega, g.take K, rfl, ?_⟩
            refine ⟨by (repeat' first | exact trivial | exact rfl | exact ⟨rfl, rfl⟩ | exact .inl rfl | refine ⟨_, rfl, rfl, rfl, ?_⟩ | refine ⟨_, _, rfl, ?_, ?_⟩ | refine ⟨_, rfl, ?_⟩ | refine And.intro ?_ ?_), ?_⟩
            refine (cut_c w0).eq rfl ?_
            refine ⟨by show 0 + 1 ≤ 1; omega, [(cutN w0).cells], rfl, ?_⟩
            refine ⟨by show 0 + (0 + (g.take K).length) ≤ (g.take K).length; simp, g.take K, takeAll (n := (0 + (g.take K).length)) (by simp), by show ((0 + (g.take K).length) + 1) * 40 ≤ 140737488355328; omega, g.take K ++ [(cutN w0).cells], rfl, ?_⟩
            refine ⟨by show 0 + (0 + (g.take K).length + 1) ≤ (g.take K ++ [(cutN w0).cells]).length; simp, g.take K ++ [(cutN w0).cells], takeAll (n := (0 + (g.take K).length + 1)) (by simp), by show ((0 + (g.take K).length + 1) + (g.drop K).length) * 40 ≤ 140737488355328; omega, (g.take K ++ [(cutN w0).cells]) ++ g.drop K, rfl, ?_⟩
            exact ent_of [1, 5, 9] [(0, 10)] [] rfl ⟨rfl, rfl, rfl, rfl, rfl, trivial⟩ ⟨⟨_, rfl, rfl, rfl, _, _, rfl, congrArg (PV.lsts 4) hg.symm, _, _, rfl, ⟨_, rfl, by simp, takeAll (by simp)⟩, _, _, rfl, ⟨_, rfl, Nat.le_of_eq (lenA g K).symm, by rw [eA]; exact takeAll (lenA' g K)⟩, _, _, rfl, ⟨_, rfl, Nat.le_of_eq (lenB g K _).symm, by rw [eB]; exact takeAll (lenB' g K _)⟩, rfl⟩, trivial⟩ rfl
        · refine ⟨by (repeat' first | exact trivial | exact rfl | exact ⟨rfl, rfl⟩ | exact .inl rfl | refine ⟨_, rfl, rfl, rfl, ?_⟩ | refine ⟨_, _, rfl, ?_, ?_⟩ | refine ⟨_, rfl, ?_⟩ | refine And.intro ?_ ?_), ?_⟩
          refine ⟨by (repeat' first | exact trivial | exact rfl | exact ⟨rfl, rfl⟩ | exact .inl rfl | refine ⟨_, rfl, rfl, rfl, ?_⟩ | refine ⟨_, _, rfl, ?_, ?_⟩ | refine ⟨_, rfl, ?_⟩ | refine And.intro ?_ ?_), ?_⟩
          refine ⟨by show 0 + 0 ≤ 0; omega, [], rfl, by show (0 + (g.take K).length) * 40 ≤ 140737488355328; omega, g.take K, rfl, ?_⟩
          refine ⟨by (repeat' first | exact trivial | exact rfl | exact ⟨rfl, rfl⟩ | exact .inl rfl | refine ⟨_, rfl, rfl, rfl, ?_⟩ | refine ⟨_, _, rfl, ?_, ?_⟩ | refine ⟨_, rfl, ?_⟩ | refine And.intro ?_ ?_), ?_⟩
          refine ⟨by show 0 + (0 + (g.take K).length) ≤ (g.take K).length; simp, g.take K, takeAll (n := (0 + (g.take K).length)) (by simp), by show ((0 + (g.take K).length) + (g.drop (minE g.length K).toNat).length) * 40 ≤ 140737488355328; omega, g.take K ++ g.drop (minE g.length K).toNat, rfl, ?_⟩
          refine ⟨by (repeat' first | exact trivial | exact rfl | exact ⟨rfl, rfl⟩ | exact .inl rfl | refine ⟨_, rfl, rfl, rfl, ?_⟩ | refine ⟨_, _, rfl, ?_, ?_⟩ | refine ⟨_, rfl, ?_⟩ | refine And.intro ?_ ?_), ?_⟩
          refine ⟨by show 0 + 0 ≤ 0; omega, [], rfl, by show (0 + (g.take K).length) * 40 ≤ 140737488355328; omega, g.take K, rfl, ?_⟩
          refine ⟨by (repeat' first | exact trivial | exact rfl | exact ⟨rfl, rfl⟩ | exact .inl rfl | refine ⟨_, rfl, rfl, rfl, ?_⟩ | refine ⟨_, _, rfl, ?_, ?_⟩ | refine ⟨_, rfl, ?_⟩ | refine And.intro ?_ ?_), ?_⟩
          refine (cut_c w0).eq rfl ?_
          refine ⟨by show 0 + 1 ≤ 1; omega, [(cutN w0).cells], rfl, ?_⟩
          refine ⟨by show 0 + (0 + (g.take K).length) ≤ (g.take K).length; simp, g.take K, takeAll (n := (0 + (g.take K).length)) (by simp), by show ((0 + (g.take K).length) + 1) * 40 ≤ 140737488355328; omega, g.take K ++ [(cutN w0).cells], rfl, ?_⟩
          refine ⟨by show 0 + (0 + (g.take K).length + 1) ≤ (g.take K ++ [(cutN w0).cells]).length; simp, g.take K ++ [(cutN w0).cells], takeAll (n := (0 + (g.take K).length + 1)) (by simp), by show ((0 + (g.take K).length + 1) + (g.drop K).length) * 40 ≤ 140737488355328; omega, (g.take K ++ [(cutN w0).cells]) ++ g.drop K, rfl, ?_⟩
          exact ent_of [1, 5, 9] [(0, 10)] [] rfl ⟨rfl, rfl, rfl, rfl, rfl, trivial⟩ ⟨⟨_, rfl, rfl, rfl, _, _, rfl, congrArg (PV.lsts 4) hg.symm, _, _, rfl, ⟨_, rfl, by simp, takeAll (by simp)⟩, _, _, rfl, ⟨_, rfl, Nat.le_of_eq (lenA g K).symm, by rw [eA]; exact takeAll (lenA' g K)⟩, _, _, rfl, ⟨_, rfl, Nat.le_of_eq (lenB g K _).symm, by rw [eB]; exact takeAll (lenB' g K _)⟩, rfl⟩, trivial⟩ rfl
      · refine And.intro (fun h8 => ?_) (fun h8 => ?_)
        · have h8 : (K : Int) < (g.length : Nat) := h8
          have hKw : K < ws.length := by omega
          have hKt := hwt _ (List.getElem_mem hKw)
          obtain ⟨wK, hwK⟩ : ∃ w, w = ws[K] := ⟨_, rfl⟩
          have hgK : g[0 + K]? = some wK.cells := by rw [Nat.zero_add, hg, wcell hKw, hwK]
          rw [← hwK] at hKt
          have eM : ∀ w : Wd, (ws.set K w).map Wd.cells = g.set (0 + K) w.cells := by intro w; rw [Nat.zero_add, hg, List.map_set]
          have eR : (ws ++ [wK]).map Wd.cells = g ++ [wK.cells] := by rw [hg]; simp
          refine ⟨by show 0 + 0 ≤ 0; omega, [], rfl, by show (0 + g.length) * 40 ≤ 140737488355328; omega, g, rfl, ?_⟩
          refine ⟨by show 0 + 0 ≤ 0; omega, [], rfl, by show (0 + g.length) * 40 ≤ 140737488355328; omega, g, rfl, ?_⟩
          refine ⟨by show 0 ≤ (K : Int) ∧ (K : Int) < ((0 + g.length : Nat) : Int); omega, ?_⟩
          refine ⟨wK.cells, hgK, by show 2 + 1 ≤ 4; omega, ?_⟩
          refine ⟨by show 0 ≤ (K : Int) ∧ (K : Int) < ((0 + g.length : Nat) : Int); omega, ?_⟩
          refine ⟨wK.cells, hgK, by show 3 + 1 ≤ 4; omega, ?_⟩
          refine VDraw.altTo [(13, .p (.lsts 4 g)), (14, .p (i64 K)), (17, .sl 0 1 0 7)] ⟨1, [(0, lls [ws, raw, A, B, ws.set K ⟨wK.kind, wK.text, line, wK.col⟩, ws.set K ⟨wK.kind, wK.text, wK.line, col⟩, ws ++ [wK]])]⟩ rfl ?_ ?_
          · refine ⟨_, ⟨by omega, wK.cells, by show g[K]? = _; rw [← hgK, Nat.zero_add], rfl⟩, ?_⟩
            refine And.intro ?_ ?_
            · refine ⟨by (repeat' first | exact trivial | exact rfl | exact ⟨rfl, rfl⟩ | exact .inl rfl | refine ⟨_, rfl, rfl, rfl, ?_⟩ | refine ⟨_, _, rfl, ?_, ?_⟩ | refine ⟨_, rfl, ?_⟩ | refine And.intro ?_ ?_), ?_⟩
              refine And.intro ?_ ?_
              · refine ⟨by show 0 + 0 ≤ 0; omega, [], rfl, by show (0 + g.length) * 40 ≤ 140737488355328; omega, g, rfl, ?_⟩
                refine ⟨by (repeat' first | exact trivial | exact rfl | exact ⟨rfl, rfl⟩ | exact .inl rfl | refine ⟨_, rfl, rfl, rfl, ?_⟩ | refine ⟨_, _, rfl, ?_, ?_⟩ | refine ⟨_, rfl, ?_⟩ | refine And.intro ?_ ?_), ?_⟩
                refine ⟨by show 0 + 1 ≤ 1; omega, [wK.cells], rfl, ?_⟩
                refine ⟨by show 0 + (0 + g.length) ≤ (g).length; simp, g, takeAll (n := (0 + g.length)) (by simp), by show ((0 + g.length) + 1) * 40 ≤ 140737488355328; omega, g ++ [wK.cells], rfl, ?_⟩
                refine .inl ⟨[2, 4, 8], [lw (ws.set K ⟨wK.kind, wK.text, line, wK.col⟩), lw (ws.set K ⟨wK.kind, wK.text, wK.line, col⟩), lw (ws ++ [wK])], rfl, ⟨_, _, rfl, ⟨_, rfl, by simp, by rw [eM]; exact takeAll (by simp)⟩, _, _, rfl, ⟨_, rfl, by simp, by rw [eM]; exact takeAll (by simp)⟩, _, _, rfl, ⟨_, rfl, by simp, by rw [eR]; exact takeAll (by simp)⟩, rfl⟩, ?_⟩
                refine ⟨by show 0 + 4 ≤ 4; omega, _, rfl, by decide, ([ws, raw, A, B, ws.set K ⟨wK.kind, wK.text, line, wK.col⟩, ws.set K ⟨wK.kind, wK.text, wK.line, col⟩, ws ++ [wK]] : List (List Wd)).map lw, rfl, ?_⟩
                exact ent_of [] [(0, 10)] [] rfl ⟨rfl, rfl, rfl, trivial⟩ ⟨⟨_, rfl, rfl, rfl, rfl⟩, trivial⟩ rfl
              · refine ⟨by show 0 + 0 ≤ 0; omega, [], rfl, by show (0 + g.length) * 40 ≤ 140737488355328; omega, g, rfl, ?_⟩
                refine ⟨by (repeat' first | exact trivial | exact rfl | exact ⟨rfl, rfl⟩ | exact .inl rfl | refine ⟨_, rfl, rfl, rfl, ?_⟩ | refine ⟨_, _, rfl, ?_, ?_⟩ | refine ⟨_, rfl, ?_⟩ | refine And.intro ?_ ?_), ?_⟩
                refine ⟨by show 0 + 1 ≤ 1; omega, [wK.cells], rfl, ?_⟩
                refine ⟨by show 0 + (0 + g.length) ≤ (g).length; simp, g, takeAll (n := (0 + g.length)) (by simp), by show ((0 + g.length) + 1) * 40 ≤ 140737488355328; omega, g ++ [wK.cells], rfl, ?_⟩
                refine .inl ⟨[2, 4, 8], [lw (ws.set K ⟨wK.kind, wK.text, line, wK.col⟩), lw (ws.set K ⟨wK.kind, wK.text, wK.line, col⟩), lw (ws ++ [wK])], rfl, ⟨_, _, rfl, ⟨_, rfl, by simp, by rw [eM]; exact takeAll (by simp)⟩, _, _, rfl, ⟨_, rfl, by simp, by rw [eM]; exact takeAll (by simp)⟩, _, _, rfl, ⟨_, rfl, by simp, by rw [eR]; exact takeAll (by simp)⟩, rfl⟩, ?_⟩
                refine ⟨by show 0 + 4 ≤ 4; omega, _, rfl, by decide, ([ws, raw, A, B, ws.set K ⟨wK.kind, wK.text, line, wK.col⟩, ws.set K ⟨wK.kind, wK.text, wK.line, col⟩, ws ++ [wK]] : List (List Wd)).map lw, rfl, ?_⟩
                exact ent_of [] [(0, 10)] [] rfl ⟨rfl, rfl, rfl, trivial⟩ ⟨⟨_, rfl, rfl, rfl, rfl⟩, trivial⟩ rfl
            · refine ⟨by (repeat' first | exact trivial | exact rfl | exact ⟨rfl, rfl⟩ | exact .inl rfl | refine ⟨_, rfl, rfl, rfl, ?_⟩ | refine ⟨_, _, rfl, ?_, ?_⟩ | refine ⟨_, rfl, ?_⟩ | refine And.intro ?_ ?_), ?_⟩
              refine ⟨by show 0 + 0 ≤ 0; omega, [], rfl, by show (0 + g.length) * 40 ≤ 140737488355328; omega, g, rfl, ?_⟩
              refine ⟨by (repeat' first | exact trivial | exact rfl | exact ⟨rfl, rfl⟩ | exact .inl rfl | refine ⟨_, rfl, rfl, rfl, ?_⟩ | refine ⟨_, _, rfl, ?_, ?_⟩ | refine ⟨_, rfl, ?_⟩ | refine And.intro ?_ ?_), ?_⟩
              refine ⟨by show 0 + 1 ≤ 1; omega, [wK.cells], rfl, ?_⟩
              refine ⟨by show 0 + (0 + g.length) ≤ (g).length; simp, g, takeAll (n := (0 + g.length)) (by simp), by show ((0 + g.length) + 1) * 40 ≤ 140737488355328; omega, g ++ [wK.cells], rfl, ?_⟩
              refine .inl ⟨[2, 4, 8], [lw (ws.set K ⟨wK.kind, wK.text, line, wK.col⟩), lw (ws.set K ⟨wK.kind, wK.text, wK.line, col⟩), lw (ws ++ [wK])], rfl, ⟨_, _, rfl, ⟨_, rfl, by simp, by rw [eM]; exact takeAll (by simp)⟩, _, _, rfl, ⟨_, rfl, by simp, by rw [eM]; exact takeAll (by simp)⟩, _, _, rfl, ⟨_, rfl, by simp, by rw [eR]; exact takeAll (by simp)⟩, rfl⟩, ?_⟩
              refine ⟨by show 0 + 4 ≤ 4; omega, _, rfl, by decide, ([ws, raw, A, B, ws.set K ⟨wK.kind, wK.text, line, wK.col⟩, ws.set K ⟨wK.kind, wK.text, wK.line, col⟩, ws ++ [wK]] : List (List Wd)).map lw, rfl, ?_⟩
              exact ent_of [] [(0, 10)] [] rfl ⟨rfl, rfl, rfl, trivial⟩ ⟨⟨_, rfl, rfl, rfl, rfl⟩, trivial⟩ rfl
          · refine ⟨by show 0 + 0 ≤ 0; omega, [], rfl, by show (0 + g.length) * 40 ≤ 140737488355328; omega, g, rfl, ?_⟩
            refine ⟨by show 0 ≤ (K : Int) ∧ (K : Int) < ((0 + g.length : Nat) : Int); omega, ?_⟩
            refine ⟨_, ⟨wK.cells, i64 wK.col, hgK, rfl, rfl⟩, ?_⟩
            obtain ⟨cm, hcm⟩ : ∃ cm, cm = IntKind.i64.wrap (wK.col - 1) := ⟨_, rfl⟩
            refine ⟨cm, hcm, ?_⟩
            refine ⟨by show 0 ≤ (K : Int) ∧ (K : Int) < ((0 + g.length : Nat) : Int); omega, ?_⟩
            refine ⟨wK.cells, hgK, by show 3 + 1 ≤ 4; omega, ?_⟩
            refine .inl ⟨[2], [lw (ws.set K ⟨wK.kind, wK.text, wK.line, cm⟩)], rfl, ⟨_, _, rfl, ⟨_, rfl, by simp, by rw [eM]; exact takeAll (by simp)⟩, rfl⟩, ?_⟩
            refine ⟨by show 0 + 7 ≤ 7; omega, _, rfl, by decide, ([ws, raw, A, B, ws.set K ⟨wK.kind, wK.text, line, wK.col⟩, ws.set K ⟨wK.kind, wK.text, wK.line, col⟩, ws ++ [wK], ws.set K ⟨wK.kind, wK.text, wK.line, cm⟩] : List (List Wd)).map lw, rfl, ?_⟩
            have hLL : ∀ x ∈ ([ws, raw, A, B, ws.set K ⟨wK.kind, wK.text, line, wK.col⟩, ws.set K ⟨wK.kind, wK.text, wK.line, col⟩, ws ++ [wK], ws.set K ⟨wK.kind, wK.text, wK.line, cm⟩] : List (List Wd)), Sm x := by
              intro x hx
              simp only [List.mem_cons, List.not_mem_nil, or_false] at hx
              rcases hx with rfl | rfl | rfl | rfl | rfl | rfl | rfl | rfl
              · exact hwt
              · exact g3
              · exact sA
              · exact sB
              · exact hwt.set _ hKt
              · exact hwt.set _ hKt
              · exact hwt.append (Sm.one hKt)
              · exact hwt.set _ hKt
            refine ⟨Nat, fun j => [(135, .p (.lst (([ws, raw, A, B, ws.set K ⟨wK.kind, wK.text, line, wK.col⟩, ws.set K ⟨wK.kind, wK.text, wK.line, col⟩, ws ++ [wK], ws.set K ⟨wK.kind, wK.text, wK.line, cm⟩] : List (List Wd)).map lw))), (136, .p (i64 8)), (137, .p (i64 j))], fun _ => ⟨0, []⟩, fun j => j ≤ 8, fun j => 8 - j, ?_, ?_⟩
            · exact ⟨0, by omega, ent_of [4] [] [] rfl ⟨⟨_, rfl, Nat.le_refl _, rfl⟩, rfl, rfl, trivial⟩ trivial rfl⟩
            · intro j hj
              refine And.intro (fun h2 => ?_) (fun h2 => ?_)
              · have h2 : (j : Int) < (8 : Nat) := h2
                have hjl : j < ([ws, raw, A, B, ws.set K ⟨wK.kind, wK.text, line, wK.col⟩, ws.set K ⟨wK.kind, wK.text, wK.line, col⟩, ws ++ [wK], ws.set K ⟨wK.kind, wK.text, wK.line, cm⟩] : List (List Wd)).length := by show j < 8; omega
                refine ⟨_, ⟨by omega, lw ([ws, raw, A, B, ws.set K ⟨wK.kind, wK.text, line, wK.col⟩, ws.set K ⟨wK.kind, wK.text, wK.line, col⟩, ws ++ [wK], ws.set K ⟨wK.kind, wK.text, wK.line, cm⟩] : List (List Wd))[j], by show (([ws, raw, A, B, ws.set K ⟨wK.kind, wK.text, line, wK.col⟩, ws.set K ⟨wK.kind, wK.text, wK.line, col⟩, ws ++ [wK], ws.set K ⟨wK.kind, wK.text, wK.line, cm⟩] : List (List Wd)).map lw)[j]? = _; rw [List.getElem?_map, List.getElem?_eq_getElem hjl]; rfl, rfl⟩, ?_⟩
                have hx := hLL _ (List.getElem_mem hjl)
                generalize ([ws, raw, A, B, ws.set K ⟨wK.kind, wK.text, line, wK.col⟩, ws.set K ⟨wK.kind, wK.text, wK.line, col⟩, ws ++ [wK], ws.set K ⟨wK.kind, wK.text, wK.line, cm⟩] : List (List Wd))[j] = x at hx ⊢
                have ht : ∀ w ∈ x, w.text.length ≤ 100000 := fun w hw => by have := hx w hw; omega
                refine (join_c x ht).eq rfl ?_
                refine (rJoin_c x ht).eq rfl ?_
                refine And.intro (fun _ => ?_) (fun h => absurd rfl h)
                refine And.intro (fun _ => ?_) (fun h => absurd rfl h)
                refine ⟨(j : Int) + 1, wrap_i64 (by omega) (by omega), j + 1, by omega, ent_of [] [] [] rfl ⟨rfl, rfl, rfl, trivial⟩ trivial rfl, ?_⟩
                show 8 - (j + 1) < 8 - j
                omega
              · refine works_c.eq rfl ?_
                exact end1 _ rfl rfl rfl
        · have hLL : ∀ x ∈ ([ws, raw, A, B] : List (List Wd)), Sm x := by
            intro x hx
            simp only [List.mem_cons, List.not_mem_nil, or_false] at hx
            rcases hx with rfl | rfl | rfl | rfl
            · exact hwt
            · exact g3
            · exact sA
            · exact sB
          refine ⟨Nat, fun j => [(135, .p (.lst (([ws, raw, A, B] : List (List Wd)).map lw))), (136, .p (i64 4)), (137, .p (i64 j))], fun _ => ⟨0, []⟩, fun j => j ≤ 4, fun j => 4 - j, ?_, ?_⟩
          · exact ⟨0, by omega, ent_of [0] [] [] rfl ⟨⟨_, rfl, Nat.le_refl _, rfl⟩, rfl, rfl, trivial⟩ trivial rfl⟩
          · intro j hj
            refine And.intro (fun h2 => ?_) (fun h2 => ?_)
            · have h2 : (j : Int) < (4 : Nat) := h2
              have hjl : j < ([ws, raw, A, B] : List (List Wd)).length := by show j < 4; omega
              refine ⟨_, ⟨by omega, lw ([ws, raw, A, B] : List (List Wd))[j], by show (([ws, raw, A, B] : List (List Wd)).map lw)[j]? = _; rw [List.getElem?_map, List.getElem?_eq_getElem hjl]; rfl, rfl⟩, ?_⟩
              have hx := hLL _ (List.getElem_mem hjl)
              generalize ([ws, raw, A, B] : List (List Wd))[j] = x at hx ⊢
              have ht : ∀ w ∈ x, w.text.length ≤ 100000 := fun w hw => by have := hx w hw; omega
              refine (join_c x ht).eq rfl ?_
              refine (rJoin_c x ht).eq rfl ?_
              refine And.intro (fun _ => ?_) (fun h => absurd rfl h)
              refine And.intro (fun _ => ?_) (fun h => absurd rfl h)
              refine ⟨(j : Int) + 1, wrap_i64 (by omega) (by omega), j + 1, by omega, ent_of [] [] [] rfl ⟨rfl, rfl, rfl, trivial⟩ trivial rfl, ?_⟩
              show 4 - (j + 1) < 4 - j
              omega
            · refine works_c.eq rfl ?_
              exact end1 _ rfl rfl rfl
end Go.Proofs.YtemlkodkohgmmaaDoor

/- The listed tables, as the rows of lex ask. -/
namespace Go.Proofs.YtemlkodkohgmmaaDoor
open Go Y
set_option maxRecDepth 100000

theorem own : ownKnob Tryd.prog.godebug = none := by kernel_rfl
abbrev laidL : List (String × DataW Unit) := [("haruspex/lex.keys", Rows.laid_haruspex_lex_keys), ("haruspex/lex.marks", Rows.laid_haruspex_lex_marks)]
theorem door_met (os : Os) (args : Array Value) : laidMetH Tryd.prog laidL ((World.doorLaid Tryd.prog 400 os).forCall (fun _ _ => 0) ⟨#[], args, []⟩).memory :=
  laidMetH_of_parts3 (fuel := 8) (laidMet_of_run' 8 (by kernel_rfl) (by kernel_rfl)) (by kernel_rfl) (by kernel_rfl)
theorem gt_ok : gtOK Tryd.prog 4 cx.gt laidL :=
  ⟨by kernel_rfl, ⟨84, by kernel_rfl, by kernel_rfl⟩, rfl, by kernel_rfl, ⟨85, by kernel_rfl, by kernel_rfl⟩, rfl, trivial⟩
theorem glob_ok {W : World} (h : laidMetH Tryd.prog laidL W) : ∀ g cs, gget cx.gt g = some cs → VP (fzOf W) (.fp cs) (.pointer (some ⟨g, 0, none⟩)) := by
  rw [MakeChecks.laidMetH_plain _ _ _ (by kernel_rfl)] at h
  obtain ⟨ps, h, _⟩ := h
  exact glob_of_laid gt_ok h

end Go.Proofs.YtemlkodkohgmmaaDoor

/- LexJoins: the row and the card. Join returns what the reference's does, for drafted, changed and arbitrary words. Conditions: those of the card. -/
namespace Go.Proofs.YtemlkodkohgmmaaDoor
open Go Y
set_option maxRecDepth 100000

theorem lexJoins_pure : ∀ xs, ArgsT Tryd.prog 5 Tryd.f4.params.toList xs → Pure cx 4 xs (· = .ret [.bool true]) := by
  intro xs h
  rw [Tryd.params4] at h
  obtain ⟨x0, _, rfl, h0, x1, _, rfl, h1, x2, _, rfl, h2, x3, _, rfl, h3, x4, _, rfl, h4, x5, _, rfl, h5, rfl⟩ := h
  obtain ⟨v0, e0⟩ := ty_drafts (arg_plain (by simp [partsOf, Tryd.underlying32]) h0)
  injection e0 with e0
  subst e0
  obtain ⟨v1, rfl⟩ := arg_word h1
  obtain ⟨v2, e2⟩ := ty_u8 (arg_plain (by simp [partsOf, Tryd.underlying5]) h2)
  injection e2 with e2
  subst e2
  obtain ⟨v3, e3, _⟩ := ty_int (arg_plain (by simp [partsOf, Tryd.underlying3]) h3)
  injection e3 with e3
  subst e3
  obtain ⟨v4, e4, _⟩ := ty_int (arg_plain (by simp [partsOf, Tryd.underlying3]) h4)
  injection e4 with e4
  subst e4
  obtain ⟨v5, e5⟩ := ty_words (arg_plain (by simp [partsOf, Tryd.underlying25]) h5)
  injection e5 with e5
  subst e5
  exact lexJoins_c v0 v1 v2 v3 v4 v5
theorem lexJoins_lifted (os : Os) (started : os.Started) (H : Type) (enc : TypeId × Value → H) :
    ReturnsInHanded {} Tryd.checked os 4 .any (fun w args => (Rows.lexJoinsSpec.pre enc Tryd.prog Tryd.f4 [] false w args ∧ laidMetH Tryd.prog laidL w) ∧ sizedMet enc Tryd.prog Tryd.f4 (OpenSpec.ofChange Rows.lexJoinsSpec) false w args)
      (Rows.lexJoinsSpec.post enc Tryd.prog Tryd.f4 false true false false) := by
  refine returnsInHanded_of_change_and (C := Tryd.checked) (X := fun w _ => laidMetH Tryd.prog laidL w) (fun _ _ _ hh h => h.of_heap hh) own started (by kernel_rfl) Tryd.func4
    (ChangeSpec.witness_shaped (enc := enc) (C := Tryd.checked) (os := os) (X := fun w _ => laidMetH Tryd.prog laidL w) false (World.doorLaid Tryd.prog 400 os) #[.slice none 0 0, .agg #[.int .i64 0, .string ⟨#[]⟩, .int .i64 0, .int .i64 0], .int .u8 0, .int .i64 0, .int .i64 0, .slice none 0 0] 8 rfl (World.shaped_of_RefB (by kernel_rfl) (by kernel_rfl)) (by kernel_rfl) (by kernel_rfl) (by kernel_rfl) (door_met os _)) ?_
  intro W base args ds gs before hval hW _ _ hL _
  obtain ⟨p, q, hA, hV, _⟩ := id hW
  have hs : Tryd.f4.params.toList.all (supp Tryd.prog 5) = true := by kernel_rfl
  obtain ⟨_, _, _, hlen⟩ := args_of hs (fun j t v ht hv => hval j t v (by simpa using ht) (by simpa using hv)) hA
  refine (calls_of_pure (cx := cx) Tryd.func4 (by kernel_rfl) rfl hs lexJoins_pure hval hA (glob_ok hL)).mono fun e W' ⟨he, h1, h2, h3⟩ => ?_
  subst he
  exact ⟨_, rfl, post_of_kept (cx := cx) (m := 5) hs rfl (by kernel_rfl) Tryd.underlying4 (fun ds h => by
    rw [Tryd.params4] at h
    match ds, h with
    | [_, _, _, _, _, _], _ => rfl) hW hlen h1 h2 h3⟩

theorem lexJoins_holds : Rows.LexJoinsSaid :=
  OpenClaim.holds_of_wide 4 Tryd.f4 rfl rfl rfl rfl rfl rfl rfl ⟨rfl, rfl, rfl, rfl, rfl⟩ rfl rfl rfl rfl rfl (by kernel_rfl) Tryd.func4 (by kernel_rfl)
    (of_decide_eq_true (by kernel_rfl)) (by unfold Func.isWrapper; first | (rw [if_pos (by decide +kernel)]; kernel_rfl) | (rw [if_neg (by decide +kernel)]; exact ⟨rfl, rfl⟩))
    (fun os started H enc _ => lexJoins_lifted os started H enc)

theorem lexJoins_card : Rows.LexJoinsCardSaid :=
  Claim7.holds_tied_plain_at .later [] [.data, .data] true (true, "c656817046542e22bb9fa6a79d1bf532833238fdf87142bdfc12bf5bc8548784") true
    lexJoins_holds (fun _ h => by cases h) (by kernel_rfl) (fun _ h => by cases h) lexJoins_row_tie rfl ⟨rfl, rfl⟩ (by kernel_rfl) rfl
    (fun f fn hf hfn => by
      obtain rfl : f = 4 := Option.some.inj ((show Tryd.prog.funcNamed "haruspex/haruspexlaw37.LexJoins" = some 4 by kernel_rfl).symm.trans hf) |>.symm
      obtain rfl : fn = Tryd.f4 := (Option.some.inj (Tryd.func4.symm.trans hfn)).symm
      exact ⟨by kernel_rfl, fun j t ht => by
        have hall : (Tryd.f4.params.toList.all fun u => !Tryd.prog.wantsStandIn u) = true := by kernel_rfl
        exact (show Tryd.prog.wantsStandIn t = false by simpa using List.all_eq_true.1 hall t (by simpa using Array.mem_of_getElem? ht))⟩)
    (by kernel_rfl)
#print axioms lexJoins_card
end Go.Proofs.YtemlkodkohgmmaaDoor
