/- Join. -/
import Derived.Test.YtemlkodkohgmmaaDoorLp
namespace Go.Proofs.YtemlkodkohgmmaaDoor
open Go Y
set_option maxRecDepth 100000
set_option maxHeartbeats 4000000

theorem readN_ok : ∀ (f : Nat) (s : List UInt8) (k : Nat) (acc ws : List Wd), acc.length ≤ 1500 → readN f s k acc = .ok ws → ws.length ≤ 1500
  | 0, s, k, acc, ws, ha, h => by simp only [readN, RdR.ok.injEq] at h; subst h; exact ha
  | f + 1, s, k, acc, ws, ha, h => by
    rw [readN] at h
    split at h
    · cases h
    · rw [readB] at h
      split at h
      · injection h with h; subst h; exact ha
      · split at h
        · cases h
        · split at h
          · cases h
          · exact readN_ok f s _ _ ws (by simp; omega) h
theorem readN_err : ∀ (f : Nat) (s : List UInt8) (k : Nat) (acc : List Wd) (p : Nat × Nat) (c : Int), readN f s k acc = .err p c → c = 370 ∨ c = 3
  | 0, s, k, acc, p, c, h => by simp [readN] at h
  | f + 1, s, k, acc, p, c, h => by
    rw [readN] at h
    split at h
    · injection h with h1 h2; exact .inl h2.symm
    · rw [readB] at h
      split at h
      · cases h
      · split at h
        · injection h with h1 h2; exact .inl h2.symm
        · split at h
          · injection h with h1 h2; exact .inr h2.symm
          · exact readN_err f s _ _ p c h
theorem readR_ok {s : List UInt8} {ws : List Wd} (h : readR s = .ok ws) : ws.length ≤ 1500 := readN_ok _ _ _ _ _ (by simp) h
theorem readR_err {s : List UInt8} {p : Nat × Nat} {c : Int} (h : readR s = .err p c) : c = 370 ∨ c = 3 := readN_err _ _ _ _ _ _ h
theorem rdC (r : RdR) : (∃ ws, r = .ok ws) ∨ ∃ p c, r = .err p c := by
  cases r with
  | ok ws => exact .inl ⟨ws, rfl⟩
  | err p c => exact .inr ⟨p, c, rfl⟩
theorem optC {α : Type} (o : Option α) : o = none ∨ ∃ x, o = some x := by cases o <;> simp

/-- What Join returns. -/
def joinN (l : List Wd) : List UInt8 × Int :=
  if 1500 < l.length then ([], 3)
  else if l.all checkN = false then ([], 370)
  else match putN 1 1 l with
    | none => ([], 371)
    | some t => if 8000 < t.length then ([], 3)
      else match readR t with
        | .ok ws => if ws = l then (t, 0) else ([], 371)
        | .err _ _ => ([], 371)
def joinV (l : List Wd) : List PV := [.str (joinN l).1, i64 (joinN l).2]
theorem joinV_of {l : List Wd} {t : List UInt8} {c : Int} (h : joinN l = (t, c)) : PEnd.ret [.str t, i64 c] = .ret (joinV l) := by rw [joinV, h]

theorem all_take {l : List Wd} {k : Nat} (h : ∀ w ∈ l.take k, checkN w = true) (hk : l.length ≤ k) : ∀ w ∈ l, checkN w = true := by
  rw [List.take_of_length_le hk] at h; exact h
theorem all_step {l : List Wd} {k : Nat} (h : ∀ w ∈ l.take k, checkN w = true) (hk : k < l.length) (hw : checkN l[k] = true) : ∀ w ∈ l.take (k + 1), checkN w = true := by
  intro w hm
  rw [List.take_add_one, List.getElem?_eq_getElem hk] at hm
  rcases List.mem_append.1 hm with hm | hm
  · exact h w hm
  · simp at hm; subst hm; exact hw

/-- Behind the text. -/

theorem join_c (l : List Wd) (ht : ∀ w ∈ l, w.text.length ≤ 100000) : Pure cx 16 [.lsts 4 (l.map Wd.cells)] (· = .ret (joinV l)) := by
  refine pure_of_vc Tryd.func16 rfl rfl rfl ?_
  refine And.intro (fun h1 => ?_) (fun h1 => ?_)
  · have h1 : (1500 : Int) < ((l.map Wd.cells).length : Nat) := h1
    rw [List.length_map] at h1
    exact end2 _ _ rfl rfl rfl (joinV_of (by rw [joinN, if_pos (by omega)]))
  · have h1 : ¬ (1500 : Int) < ((l.map Wd.cells).length : Nat) := h1
    rw [List.length_map] at h1
    refine ⟨Nat, fun k => [(0, .p (.lsts 4 (l.map Wd.cells))), (16, .p (.lsts 4 (l.map Wd.cells))), (17, .p (i64 (l.map Wd.cells).length)), (18, .p (i64 k))], fun _ => ⟨0, []⟩, fun k => k ≤ l.length ∧ ∀ w ∈ l.take k, checkN w = true, fun k => l.length - k, ?_, ?_⟩
    · exact ⟨0, ⟨by omega, by simp⟩, ent0 rfl ⟨rfl, rfl, rfl, rfl, trivial⟩ trivial rfl⟩
    · rintro k ⟨hk0, hall⟩
      refine And.intro (fun h2 => ?_) (fun h2 => ?_)
      · have h2 : (k : Int) < ((l.map Wd.cells).length : Nat) := h2
        rw [List.length_map] at h2
        have hk : k < l.length := by omega
        refine ⟨_, ⟨by omega, l[k].cells, wcell hk, rfl⟩, ?_⟩
        refine (check_c l[k] (ht _ (List.getElem_mem hk))).eq rfl ?_
        refine And.intro (fun h3 => ?_) (fun h3 => ?_)
        · have h3 : checkV l[k] = 0 := h3
          have hw : checkN l[k] = true := by
            rw [checkV] at h3; split at h3
            · assumption
            · cases h3
          refine ⟨(k : Int) + 1, wrap_i64 (by omega) (by omega), k + 1, ⟨hk, all_step hall hk hw⟩, ent_of [] [] [] rfl ⟨rfl, rfl, rfl, rfl, trivial⟩ trivial rfl, ?_⟩
          show l.length - (k + 1) < l.length - k
          omega
        · have h3 : ¬ checkV l[k] = 0 := h3
          have hw : checkN l[k] = false := by
            cases e : checkN l[k] with
            | false => rfl
            | true => rw [checkV, e] at h3; exact absurd rfl h3
          exact end2 _ _ rfl rfl rfl (joinV_of (by rw [joinN, if_neg (by omega), if_pos]; rw [List.all_eq_false]; exact ⟨_, List.getElem_mem hk, by rw [hw]; simp⟩))
      · have h2 : ¬ (k : Int) < ((l.map Wd.cells).length : Nat) := h2
        rw [List.length_map] at h2
        have hall := all_take hall (by omega)
        have hall' : ¬ l.all checkN = false := by rw [Bool.not_eq_false, List.all_eq_true]; exact hall
        have hM := measure_c l (by omega) hall
        refine Or.elim (optC (putN 1 1 l)) (fun hput => ?_) (fun hn => Exists.elim hn fun T hput => ?_)
        · rw [measV, hput] at hM
          refine hM.eq rfl ?_
          exact end2 _ _ rfl rfl rfl (joinV_of (by rw [joinN, if_neg (by omega), if_neg hall', hput]))
        · rw [measV, hput] at hM
          refine hM.eq rfl ?_
          refine And.intro (fun h4 => ?_) (fun h4 => ?_)
          · have h4 : (8000 : Int) < T.length := h4
            exact end2 _ _ rfl rfl rfl (joinV_of (by rw [joinN, if_neg (by omega), if_neg hall', hput]; simp only []; rw [if_pos (by omega)]))
          · have h4 : ¬ (8000 : Int) < T.length := h4
            refine (spread_c l (by omega) hall T hput (by omega)).eq rfl ?_
            refine Or.elim (rdC (readR T)) (fun hn => Exists.elim hn fun ws hrd => ?_) (fun hn => Exists.elim hn fun p hn => Exists.elim hn fun c hrd => ?_)
            · have hR := read_c T
              rw [show readV T = [.lsts 4 (ws.map Wd.cells), i64 0, i64 0, i64 0] by rw [readV, if_neg (by omega), hrd]] at hR
              refine hR.eq rfl ?_
              refine And.intro (fun h5 => ?_) (fun h5 => absurd (show (0 : Int) = 0 from rfl) h5)
              have hE := equal_c ws l (by have := readR_ok hrd; omega) (by omega)
              by_cases he : ws = l
              · rw [decide_eq_true he] at hE
                refine hE.eq rfl ?_
                exact end2 _ _ rfl rfl rfl (joinV_of (by rw [joinN, if_neg (by omega), if_neg hall', hput]; simp only []; rw [if_neg (by omega), hrd]; simp only []; rw [if_pos he]))
              · rw [decide_eq_false he] at hE
                refine hE.eq rfl ?_
                exact end2 _ _ rfl rfl rfl (joinV_of (by rw [joinN, if_neg (by omega), if_neg hall', hput]; simp only []; rw [if_neg (by omega), hrd]; simp only []; rw [if_neg he]))
            · have hR := read_c T
              rw [show readV T = [.lsts 4 [], i64 p.1, i64 p.2, i64 c] by rw [readV, if_neg (by omega), hrd]] at hR
              refine hR.eq rfl ?_
              have hc0 := readR_err hrd
              refine And.intro (fun h5 => ?_) (fun h5 => ?_)
              · have h5 : c = 0 := h5
                omega
              · exact end2 _ _ rfl rfl rfl (joinV_of (by rw [joinN, if_neg (by omega), if_neg hall', hput]; simp only []; rw [if_neg (by omega), hrd]))
end Go.Proofs.YtemlkodkohgmmaaDoor
