/- Part 4 of the proof: Ve Vf Vg Vh Vi Vj Vk Vl Bb Vm Vn Vo Vp Vq Vr Vs Vt Vu Wa Wb Sf Wc Wd We Wf Wg Wh Wi Wj Wk Wl Wn -/
import Derived.Lib.Bytealg
import Derived.Laws.Externs
import Derived.Lib.FieldsP
import Derived.Shelf.Strings.Builder1
import Derived.Shelf.Strings.Builder2
import Derived.Shelf.Strings.Trim
import Derived.Shelf.Small.Utf8
import Derived.Shelf.Small.Strs
import Derived.Shelf.Strings.BuilderF
import Derived.Shelf.Strconv.Itoa0
import Derived.Shelf.Strings.Search1
import Derived.Shelf.Strings.Search2
import Derived.Shelf.Strings.Search3
import Derived.Shelf.Strings.Cut
import Derived.Shelf.Strings.Count
import Derived.Shelf.LaysM
import Derived.Shelf.Strings.Shaped
import Derived.Shelf.Strings.Prefix
import Derived.Shelf.Strings.Split
import Derived.Shelf.Strings.Replace
import Derived.Shelf.Strings.SplitShaped
import Derived.Shelf.Strings.Runes
import Derived.Shelf.Strings.AsciiSet
import Derived.Shelf.Unicode.DecodeSlow
import Derived.Shelf.Unicode.DecodeAny
import Derived.Shelf.Strings.FieldsFuncAny
import Derived.Shelf.Strings.FieldsFuncGrows
import Derived.Shelf.Strings.SlTrimAscii
import Derived.Test.YtphmmoloegjocaaGreatDoorProg
import Derived.Below
import Derived.Test.YtphmmoloegjocaaGreatDoorQ3
/- The reference's ReadLines. -/
namespace Go.Proofs.YtphmmoloegjocaaGreatDoor
open Go Y
set_option maxRecDepth 100000
set_option maxHeartbeats 40000000

theorem end3 {Q : PEnd → Prop} {v1 v2 v3 : AV} {H' : Hp} (x1 x2 x3 : PV) (hm : marksOK H'.l (fsOf H'.l) = true) (h1 : Res (marks H'.l (fsOf H'.l)) 5 v1 x1) (h2 : Res (marks H'.l (fsOf H'.l)) 5 v2 x2) (h3 : Res (marks H'.l (fsOf H'.l)) 5 v3 x3) (hq : Q (.ret [x1, x2, x3])) : EndP Q (.returned (.tup [v1, v2, v3])) H' :=
  ⟨.ret [x1, x2, x3], ⟨hm, _, rfl, _, _, rfl, h1, _, _, rfl, h2, _, _, rfl, h3, rfl⟩, hq⟩

/-- Is a line passed over? -/
def passW (w : List (List UInt8)) : Bool := decide (w = []) || decide ((w.getD 0 []).getD 0 0 = 59)
def runL : Bool → Ns → Nat → List (List UInt8) → Sum Nat (Bool × Ns)
  | first, n, _, [] => .inr (first, n)
  | first, n, i, l :: r => if passW (wordsN l) = true then runL first n (i + 1) r else match stepN first n (wordsN l) with
    | none => .inl (i + 1)
    | some n' => runL false n' (i + 1) r
abbrev znV : PV := .agg [i64 0, .nils]
def ns0 : Ns := ⟨0, [], none⟩
noncomputable def readLV (t : List UInt8) : List PV :=
  if 40000 < t.length then [znV, i64 0, i64 3] else match runL true ns0 0 (linesN t) with
  | .inl k => [znV, i64 (k : Nat), i64 5]
  | .inr (true, _) => [znV, i64 0, i64 5]
  | .inr (false, n) => if validP n.net then [n.net.pv, i64 0, i64 0] else [znV, i64 0, i64 50]

structure OkNs (n : Ns) (i : Nat) : Prop where
  no : n.last = none → n.init = []
  len : n.len ≤ i
  par : ∀ x ∈ n.init ++ n.last.toList, x.parents.length ≤ 100000 ∧ x.rows.length ≤ i ∧ ∀ r ∈ x.rows, r.length ≤ 100000
theorem ns_len (n : Ns) : (n.init ++ n.last.toList).length = n.len := by
  obtain ⟨g, i, l⟩ := n
  cases l <;> simp [Ns.len]
theorem OkNs.mono {n : Ns} {i j : Nat} (h : OkNs n i) (hij : i ≤ j) : OkNs n j :=
  ⟨h.no, by have := h.len; omega, fun x hx => ⟨(h.par x hx).1, by have := (h.par x hx).2.1; omega, (h.par x hx).2.2⟩⟩
theorem OkNs.big {n : Ns} {i : Nat} (h : OkNs n i) (hi : i ≤ 100000) : BigN n.net :=
  ⟨by have := h.len; show (n.init ++ n.last.toList).length ≤ _; rw [ns_len]; omega, fun x hx => by have := (h.par x hx).1; omega, fun x hx => by have := (h.par x hx).2.1; omega, fun x hx r hr => by have := (h.par x hx).2.2 r hr; omega⟩
theorem OkNs.last {n : Ns} {i : Nat} (h : OkNs n i) : (lastR n.last).length ≤ i := by
  cases e : n.last with
  | none => simp [lastR]
  | some x => exact (h.par x (by rw [e]; simp)).2.1
theorem step_ok {first : Bool} {n n' : Ns} {w : List (List UInt8)} {i : Nat} (h : OkNs n i) (hw : w.length ≤ 100000) (hs : stepN first n w = some n') : OkNs n' (i + 1) := by
  have hm := h.mono (Nat.le_succ i)
  have push : ∀ (c : Int) (ps : List Int), ps.length ≤ 100000 → OkNs ⟨n.g, n.init ++ n.last.toList, some ⟨c, ps, []⟩⟩ (i + 1) := fun c ps hps => by
    refine ⟨fun h => by simp at h, ?_, fun x hx => ?_⟩
    · show (n.init ++ n.last.toList).length + 1 ≤ i + 1
      rw [ns_len]; have := h.len; omega
    · rcases List.mem_append.1 hx with hx | hx
      · exact hm.par x hx
      · simp only [Option.toList, List.mem_singleton] at hx
        subst hx
        exact ⟨hps, by simp, by simp⟩
  rw [stepN] at hs
  split at hs
  · split at hs
    · cases hs; exact ⟨hm.no, hm.len, hm.par⟩
    · cases hs
  · split at hs
    · split at hs
      · split at hs
        · cases hs; exact push _ _ (by simp)
        · split at hs
          · cases hs; exact push _ _ (by rw [List.length_map, List.length_drop]; omega)
          · cases hs
      · cases hs
    · split at hs
      · split at hs
        · cases hs
        · rename_i x hx
          split at hs
          · cases hs
            refine ⟨fun h => by simp at h, ?_, fun y hy => ?_⟩
            · have := h.len
              rw [Ns.len, hx] at this
              show n.init.length + 1 ≤ i + 1
              simp only [] at this; omega
            · rcases List.mem_append.1 hy with hy | hy
              · exact hm.par y (List.mem_append.2 (.inl hy))
              · simp only [Option.toList, List.mem_singleton] at hy
                subst hy
                obtain ⟨h1, h2, h3⟩ := h.par x (by rw [hx]; simp)
                refine ⟨h1, by simp only [snoc_len]; omega, fun r hr => ?_⟩
                rcases List.mem_append.1 hr with hr | hr
                · exact h3 r hr
                · simp only [List.mem_singleton] at hr
                  subst hr
                  rw [List.length_map, List.length_drop]; omega
          · cases hs
      · cases hs

theorem resLL_app {f : AV → PV → Prop} : ∀ {a c : List (List AV)} {b d : List (List PV)}, ResLL f a b → ResLL f c d → ResLL f (a ++ c) (b ++ d)
  | [], c, b, d, h, k => by simp only [ResLL] at h; subst h; exact k
  | v :: a, c, b, d, h, k => by
    simp only [ResLL] at h
    obtain ⟨z, zs, rfl, h1, h2⟩ := h
    exact ⟨z, zs ++ d, rfl, h1, resLL_app h2 k⟩
theorem resLL_nd {L : List (Nat × AObj)} {d : Nat} : ∀ l : List Nd, ResLL (Res L (d + 1)) (mapsP (l.map Nd.cells)) (l.map Nd.cells)
  | [] => rfl
  | _ :: xss => ⟨_, _, rfl, ⟨_, _, rfl, rfl, _, _, rfl, rfl, _, _, rfl, rfl, rfl⟩, resLL_nd xss⟩
theorem rows_done {L : List (Nat × AObj)} {d : Nat} (n : Ns) (r : Nat) (h : lget L r = some { rO (lastR n.last) with fr := true }) : ResLL (Res L (d + 1)) (((n.rows r).drop 0).take n.len) ((n.init ++ n.last.toList).map Nd.cells) := by
  rw [List.drop_zero, List.take_of_length_le (by rw [rows_len']; omega), List.map_append, Ns.rows]
  refine resLL_app (resLL_nd _) ?_
  obtain ⟨g, i, l⟩ := n
  cases l with
  | none => rfl
  | some x =>
    refine ⟨_, _, rfl, ⟨_, _, rfl, rfl, _, _, rfl, rfl, _, _, rfl, ?_, rfl⟩, rfl⟩
    show Res L (d + 1) (.sl r 1 0 x.rows.length) (.lst (x.rows.map ints))
    simp only [Res]
    rw [h]
    exact ⟨_, rfl, by show 0 + x.rows.length ≤ (x.rows.map ints).length; simp, takeAll (by simp)⟩
theorem words_ok (l : List UInt8) (hl : l.length ≤ 50000) : (wordsN l).length ≤ 100000 ∧ ∀ v ∈ wordsN l, v.length ≤ 100000 ∧ v ≠ [] := by
  have := words_count l []
  simp only [if_true] at this
  refine ⟨by rw [wordsN]; omega, fun v hv => ?_⟩
  obtain ⟨h1, h2⟩ := words_mem hv
  simp only [List.length_nil] at h1
  exact ⟨by omega, h2⟩

end Go.Proofs.YtphmmoloegjocaaGreatDoor

/- Reading nested texts: words, what is read (plain). -/
namespace Go.Proofs.YtphmmoloegjocaaGreatDoor
open Go Y
set_option maxRecDepth 100000
set_option maxHeartbeats 40000000

/-- The place behind the octets from p on that satisfy f. -/
def scanF (f : UInt8 → Bool) (s : List UInt8) (p : Nat) : Nat := p + ((s.drop p).takeWhile f).length
theorem scan_step {f : UInt8 → Bool} {s : List UInt8} {p : Nat} (h : p < s.length) (hf : f (s.getD p 0) = true) : scanF f s (p + 1) = scanF f s p := by
  rw [scanF, scanF, drop_cons 0 h, List.takeWhile_cons, if_pos hf]
  simp only [List.length_cons]; omega
theorem scan_stop {f : UInt8 → Bool} {s : List UInt8} {p : Nat} (h : p < s.length) (hf : f (s.getD p 0) = false) : scanF f s p = p := by
  rw [scanF, drop_cons 0 h, List.takeWhile_cons, if_neg (by rw [hf]; decide)]; rfl
theorem scan_end {f : UInt8 → Bool} {s : List UInt8} {p : Nat} (h : s.length ≤ p) : scanF f s p = p := by
  rw [scanF, List.drop_eq_nil_of_le h]; rfl
theorem tw_len (f : UInt8 → Bool) : ∀ l : List UInt8, (l.takeWhile f).length ≤ l.length
  | [] => by simp
  | a :: l => by
    rw [List.takeWhile_cons]
    split
    · have := tw_len f l
      simp only [List.length_cons]; omega
    · simp
theorem scan_le {f : UInt8 → Bool} {s : List UInt8} {p : Nat} (h : p ≤ s.length) : p ≤ scanF f s p ∧ scanF f s p ≤ s.length := by
  have := tw_len f (s.drop p)
  rw [List.length_drop] at this
  rw [scanF]; omega
theorem tw_tail (f : UInt8 → Bool) : ∀ l : List UInt8, ((l.drop (l.takeWhile f).length).takeWhile f) = []
  | [] => rfl
  | a :: l => by
    rw [List.takeWhile_cons]
    split
    · rw [List.length_cons, List.drop_succ_cons]; exact tw_tail f l
    · rename_i h
      show (a :: l).takeWhile f = []
      rw [List.takeWhile_cons, if_neg h]
theorem scan_scan {f : UInt8 → Bool} {s : List UInt8} {p : Nat} : scanF f s (scanF f s p) = scanF f s p := by
  have h : (s.drop (scanF f s p)).takeWhile f = [] := by
    rw [scanF, ← List.drop_drop]; exact tw_tail f _
  rw [scanF, h]; rfl
/-- Behind the first octet of a run the run's end is the same. -/
def isBl (b : UInt8) : Bool := b.toNat == 32 || b.toNat == 10
def isWd (b : UInt8) : Bool := !(b.toNat == 32) && !(b.toNat == 10) && !(b.toNat == 40) && !(b.toNat == 41)
/-- The place of the next word; the place behind it; the word. -/
def nx (s : List UInt8) (p : Nat) : Nat := scanF isBl s p
def te (s : List UInt8) (p : Nat) : Nat := if scanF isWd s (nx s p) = nx s p ∧ nx s p < s.length then nx s p + 1 else scanF isWd s (nx s p)
def tok (s : List UInt8) (p : Nat) : List UInt8 := (s.drop (nx s p)).take (te s p - nx s p)
theorem nx_nx (s : List UInt8) (p : Nat) : nx s (nx s p) = nx s p := scan_scan
theorem te_nx (s : List UInt8) (p : Nat) : te s (nx s p) = te s p := by rw [te, nx_nx]; rfl
theorem tok_nx (s : List UInt8) (p : Nat) : tok s (nx s p) = tok s p := by rw [tok, te_nx, nx_nx]; rfl
theorem nx_le {s : List UInt8} {p : Nat} (h : p ≤ s.length) : p ≤ nx s p ∧ nx s p ≤ s.length := scan_le h
theorem te_le {s : List UInt8} {p : Nat} (h : p ≤ s.length) : nx s p ≤ te s p ∧ te s p ≤ s.length := by
  have h1 := scan_le (f := isWd) (nx_le h).2
  rw [te]
  split <;> omega
theorem tok_len {s : List UInt8} {p : Nat} (h : p ≤ s.length) : (tok s p).length = te s p - nx s p := by
  have := te_le h
  rw [tok, List.length_take, List.length_drop]; omega
theorem te_lt {s : List UInt8} {p : Nat} (h : p ≤ s.length) (h0 : tok s p ≠ []) : p < te s p := by
  have h1 := List.length_pos_iff.2 h0
  rw [tok_len h] at h1
  have := nx_le h
  omega

abbrev kOpen : List UInt8 := [40]
abbrev kClose : List UInt8 := [41]
/-- A reading: where it cannot go on, or what was read and the place behind it. -/
abbrev Rd (α : Type) := Sum Nat (α × Nat)
def mustP (s w : List UInt8) (p : Nat) : Rd Unit := if tok s p = w then .inr ((), te s p) else .inl (nx s p)
def numP (s : List UInt8) (p : Nat) : Rd Int := if numB (tok s p) = true then .inr (valN (tok s p), te s p) else .inl (nx s p)
def Rd.then {α β : Type} (r : Rd α) (k : α → Nat → Rd β) : Rd β := match r with
  | .inl e => .inl e
  | .inr (a, p) => k a p
/-- Numbers, to the parenthesis that closes them. -/
def numsP (s : List UInt8) : Nat → List Int → Nat → Rd (List Int)
  | 0, _, p => .inl p
  | f + 1, acc, p => if tok s p = kClose then .inr (acc, nx s p) else (numP s p).then fun v q => numsP s f (acc ++ [v]) q
def lstP (s : List UInt8) (F : Nat) (p : Nat) : Rd (List Int) := (mustP s kOpen p).then fun _ q => (numsP s F [] q).then fun l q => (mustP s kClose q).then fun _ q => .inr (l, q)
def rowRd (s : List UInt8) (F : Nat) (p : Nat) : Rd (List Int) := (mustP s kOpen p).then fun _ q => (numP s q).then fun v q => (numsP s F [v] q).then fun l q => (mustP s kClose q).then fun _ q => .inr (l, q)
def rowsP (s : List UInt8) (F : Nat) : Nat → List (List Int) → Nat → Rd (List (List Int))
  | 0, _, p => .inl p
  | f + 1, acc, p => if tok s p = kClose then .inr (acc, nx s p) else (rowRd s F p).then fun r q => rowsP s F f (acc ++ [r]) q
def nodeRd (s : List UInt8) (F : Nat) (p : Nat) : Rd Nd := (mustP s kOpen p).then fun _ q => (mustP s kNode q).then fun _ q => (numP s q).then fun c q => (lstP s F q).then fun ps q =>
  (rowsP s F F [] q).then fun rs q => (mustP s kClose q).then fun _ q => .inr (⟨c, ps, rs⟩, q)
def nodesP (s : List UInt8) (F : Nat) : Nat → List Nd → Nat → Rd (List Nd)
  | 0, _, p => .inl p
  | f + 1, acc, p => if tok s p = kClose then .inr (acc, nx s p) else (nodeRd s F p).then fun x q => nodesP s F f (acc ++ [x]) q
def netP (s : List UInt8) (F : Nat) : Rd Nt := (mustP s kOpen 0).then fun _ q => (mustP s kNet q).then fun _ q => (numP s q).then fun g q => (nodesP s F F [] q).then fun l q =>
  (mustP s kClose q).then fun _ q => if tok s q = [] then .inr (⟨g, l⟩, q) else .inl (nx s q)
noncomputable def readNV (s : List UInt8) : List PV :=
  if 40000 < s.length then [znV, i64 0, i64 3] else match netP s (s.length + 1) with
  | .inl e => [znV, i64 (e : Nat), i64 5]
  | .inr (n, _) => if validP n then [n.pv, i64 0, i64 0] else [znV, i64 0, i64 50]
theorem must_nx (s w : List UInt8) (p : Nat) : mustP s w (nx s p) = mustP s w p := by rw [mustP, tok_nx, te_nx, nx_nx]; rfl
theorem tok_is {s : List UInt8} {p q k m : Nat} (hnp : nx s p = q) (hk : scanF isWd s q = k) (hm : m = if k = q ∧ q < s.length then q + 1 else k) : tok s p = (s.drop q).take (m - q) := by
  rw [tok, te, hnp, hk, ← hm]
end Go.Proofs.YtphmmoloegjocaaGreatDoor

/- The reference's reader: must, number. -/
namespace Go.Proofs.YtphmmoloegjocaaGreatDoor
open Go Y
set_option maxRecDepth 100000
set_option maxHeartbeats 40000000

/-- How a reader (at p, b: it cannot go on) does a reading. -/
def Out {α : Type} (b : Bool) (p : Nat) (r : Rd α) (a : α) (q : Nat) (b' : Bool) : Prop := if b = true then b' = true ∧ q = p else r = if b' = true then .inl q else .inr (a, q)
theorem Out.then {α β : Type} {b b1 b2 : Bool} {p q q2 : Nat} {r : Rd α} {k : α → Nat → Rd β} {a : α} {c : β} (h : Out b p r a q b1) (h2 : Out b1 q (k a q) c q2 b2) : Out b p (r.then k) c q2 b2 := by
  cases b
  · have h : r = if b1 = true then .inl q else .inr (a, q) := h
    show r.then k = _
    cases b1
    · rw [if_neg (by decide)] at h
      subst h
      exact h2
    · rw [if_pos rfl] at h
      subst h
      obtain ⟨rfl, rfl⟩ : b2 = true ∧ q2 = q := h2
      rfl
  · obtain ⟨rfl, rfl⟩ : b1 = true ∧ q = p := h
    exact h2
theorem Out.bad {α : Type} {p : Nat} {r : Rd α} {a : α} : Out true p r a p true := ⟨rfl, rfl⟩

end Go.Proofs.YtphmmoloegjocaaGreatDoor

/- The reference's reader: list. -/
namespace Go.Proofs.YtphmmoloegjocaaGreatDoor
open Go Y
set_option maxRecDepth 100000
set_option maxHeartbeats 40000000

/-- A loop's invariant: R is what the loop comes to, go what it comes to from here. -/
def LInv {α : Type} (b1 : Bool) (q1 : Nat) (R : Rd α) (go : Nat → Rd α) (n p : Nat) (b : Bool) : Prop := if b1 = true then b = true ∧ p = q1 else if b = true then R = .inl p else ∃ f, n - p < f ∧ R = go f
theorem LInv.init {α : Type} {go : Nat → Rd α} {n F q1 : Nat} {b1 : Bool} (hF : n - q1 < F) : LInv b1 q1 (go F) go n q1 b1 := by
  cases b1
  · exact ⟨F, hF, rfl⟩
  · exact ⟨rfl, rfl⟩
theorem LInv.bad {α : Type} {R : Rd α} {go : Nat → Rd α} {n q1 p : Nat} {b1 : Bool} {a : α} (h : LInv b1 q1 R go n p true) : Out b1 q1 R a p true := by
  cases b1
  · exact h
  · exact h
theorem LInv.step {α β : Type} {R : Rd α} {go : Nat → Rd α} {go' : β → Nat → Nat → Rd α} {n q1 p p0 q : Nat} {b1 b' : Bool} {r : Rd β} {v : β} (h : LInv b1 q1 R go n p false) (hgo : ∀ f, go (f + 1) = r.then fun v q => go' v q f) (ho : Out false p0 r v q b') (hlt : b' = false → p < q) (hq : q ≤ n) : LInv b1 q1 R (go' v q) n q b' := by
  cases b1
  · obtain ⟨f, hf, rfl⟩ : ∃ f, n - p < f ∧ R = go f := h
    obtain ⟨f, rfl⟩ : ∃ g, f = g + 1 := ⟨f - 1, by omega⟩
    have ho : r = if b' = true then .inl q else .inr (v, q) := ho
    have hg := hgo f
    cases b'
    · rw [ho, if_neg (by decide)] at hg
      exact ⟨f, by have := hlt rfl; omega, hg⟩
    · rw [ho, if_pos rfl] at hg
      exact hg
  · exact absurd h.1 (by decide)

end Go.Proofs.YtphmmoloegjocaaGreatDoor

/- The reference's reader: node. -/
namespace Go.Proofs.YtphmmoloegjocaaGreatDoor
open Go Y
set_option maxRecDepth 100000
set_option maxHeartbeats 40000000

theorem Out.fl {α : Type} {p q : Nat} {r : Rd α} {a : α} {b : Bool} (h : Out b p r a q false) : b = false := by
  cases b
  · rfl
  · exact absurd h.1 (by decide)
theorem LInv.fl {α : Type} {R : Rd α} {go : Nat → Rd α} {n q1 p : Nat} {b1 : Bool} (h : LInv b1 q1 R go n p false) : b1 = false := by
  cases b1
  · rfl
  · exact absurd h.1 (by decide)
def ndqO (c : Int) (ps : List Int) (n : Nat) : AObj := ⟨TNode, false, .bx [.p (i64 c), .p (ints ps), .sl 3 1 0 n]⟩
structure OkX (x : Nd) (n : Nat) : Prop where
  par : x.parents.length ≤ n
  rows : x.rows.length ≤ n
  row : ∀ r ∈ x.rows, r.length ≤ n

theorem Out.ret {α : Type} (b : Bool) (q : Nat) (a : α) : Out b q (.inr (a, q)) a q b := by
  cases b
  · rfl
  · exact ⟨rfl, rfl⟩
end Go.Proofs.YtphmmoloegjocaaGreatDoor

/- The reference's ReadNested. -/
namespace Go.Proofs.YtphmmoloegjocaaGreatDoor
open Go Y
set_option maxRecDepth 100000
set_option maxHeartbeats 40000000

def nsO (l : List Nd) : AObj := ⟨TNode, false, .pus (l.map Nd.cells)⟩
theorem big_of {g : Int} {l : List Nd} {n : Nat} (hn : n ≤ 1000000) (h : l.length ≤ n) (hx : ∀ x ∈ l, OkX x n) : BigN ⟨g, l⟩ :=
  ⟨by show l.length ≤ _; omega, fun x h => by have := (hx x h).par; omega, fun x h => by have := (hx x h).rows; omega, fun x h r hr => by have := (hx x h).row r hr; omega⟩

end Go.Proofs.YtphmmoloegjocaaGreatDoor

/- The reference's Turn. -/
namespace Go.Proofs.YtphmmoloegjocaaGreatDoor
open Go Y
set_option maxRecDepth 100000
set_option maxHeartbeats 40000000

/-- What a reading comes to: the place and the error, or the network. -/
noncomputable def readLR (t : List UInt8) : Sum (Nat × Int) Nt :=
  if 40000 < t.length then .inl (0, 3) else match runL true ns0 0 (linesN t) with
  | .inl k => .inl (k, 5)
  | .inr (true, _) => .inl (0, 5)
  | .inr (false, n) => if validP n.net then .inr n.net else .inl (0, 50)
noncomputable def readNR (s : List UInt8) : Sum (Nat × Int) Nt :=
  if 40000 < s.length then .inl (0, 3) else match netP s (s.length + 1) with
  | .inl e => .inl (e, 5)
  | .inr (n, _) => if validP n then .inr n else .inl (0, 50)
def resV : Sum (Nat × Int) Nt → List PV
  | .inl (p, e) => [znV, i64 (p : Nat), i64 e]
  | .inr n => [n.pv, i64 0, i64 0]
theorem readL_res (t : List UInt8) : readLV t = resV (readLR t) := by
  rw [readLV, readLR]
  split
  · rfl
  · generalize runL true ns0 0 (linesN t) = x
    rcases x with k | ⟨_ | _, n⟩
    · rfl
    · simp only []
      split <;> rfl
    · rfl
theorem readN_res (t : List UInt8) : readNV t = resV (readNR t) := by
  rw [readNV, readNR]
  split
  · rfl
  · generalize netP t (t.length + 1) = x
    rcases x with k | ⟨n, q⟩
    · rfl
    · simp only []
      split <;> rfl
theorem readL_ok {t : List UInt8} {n : Nt} (h : readLR t = .inr n) : validP n := by
  rw [readLR] at h
  split at h
  · cases h
  · split at h
    · cases h
    · cases h
    · split at h
      · cases h; assumption
      · cases h
theorem readN_ok {t : List UInt8} {n : Nt} (h : readNR t = .inr n) : validP n := by
  rw [readNR] at h
  split at h
  · cases h
  · split at h
    · cases h
    · split at h
      · cases h; assumption
      · cases h
theorem readL_err {t : List UInt8} {p : Nat} {e : Int} (h : readLR t = .inl (p, e)) : e = 3 ∨ e = 5 ∨ e = 50 := by
  rw [readLR] at h
  split at h
  · cases h; simp
  · split at h
    · cases h; simp
    · cases h; simp
    · split at h
      · cases h
      · cases h; simp
theorem readN_err {t : List UInt8} {p : Nat} {e : Int} (h : readNR t = .inl (p, e)) : e = 3 ∨ e = 5 ∨ e = 50 := by
  rw [readNR] at h
  split at h
  · cases h; simp
  · split at h
    · cases h; simp
    · split at h
      · cases h
      · cases h; simp
noncomputable def turnV (s : List UInt8) : List PV :=
  if s.length ≤ 40000 ∧ tok s 0 = kOpen then match readNR s with
    | .inl (_, e) => [.str [], i64 e]
    | .inr n => [.str (byLines n), i64 0]
  else match readLR s with
    | .inl (_, e) => [.str [], i64 e]
    | .inr n => [.str (nested n), i64 0]

end Go.Proofs.YtphmmoloegjocaaGreatDoor

/- The program's readers: fail, number. -/
namespace Go.Proofs.YtphmmoloegjocaaGreatDoor
open Go Y
set_option maxRecDepth 100000
set_option maxHeartbeats 40000000

def Self (n0 : Nat) (v : AV) : Prop := ∀ (ρ : Nat → Nat) (ni : List (Nat × Nat)) (L : List (Nat × AObj)), (∀ n, n < n0 → ρ n = n) → (∀ n, n < n0 → niGet ni n = none) → See ρ ni L v v
theorem self_nil (n : Nat) : Self n (.p .nils) := fun _ _ _ _ _ => .inl rfl
theorem self_sl {n k m : Nat} (h : k < n) : Self n (.sl k 3 0 m) := fun ρ ni _ h1 h2 => by
  show match niGet ni k with
    | some s' => s' = 3 ∧ 0 = 0 ∧ m = 0 ∧ AV.sl k 3 0 m = .p .nils
    | none => AV.sl k 3 0 m = .sl (ρ k) 3 0 m
  rw [h2 k h]
  simp only []
  rw [h1 k h]
/-- A reader: its grain, its nodes, its place, what else it has. -/
def cmO (T : TypeId) (g : Int) (v : AV) (p : Nat) (rest : List PV) : AObj := ⟨T, false, .bx (.p (i64 g) :: v :: .p (i64 p) :: rest.map .p)⟩
abbrev cmH (T : TypeId) (g : Int) (v : AV) (p : Nat) (rest : List PV) : Hp := ⟨2, [(0, cmO T g v p rest)]⟩
abbrev placeX (p : Nat) : AE := .panicked [⟨.p (.iface 133 (i64 p)), false⟩]

theorem fail_h (T : TypeId) (g : Int) (v : AV) (p : Nat) (rest : List PV) : HoldsG cx 145 [.ptr 0 0 0] (cmH T g v p rest) fun e H' => e = placeX p ∧ H' = cmH T g v p rest := by
  refine holds_of_vc Tryz.func145 rfl rfl rfl ?_
  exact ⟨rfl, rfl⟩

theorem num_no {w : List UInt8} {k : Nat} (h : k < w.length) (hd : isDg (w.getD k 0) = false) : numB w = false := by
  have : w.all isDg = false := by
    rw [Bool.eq_false_iff]
    intro ha
    have := List.all_eq_true.1 ha _ (getD_memL 0 h)
    rw [hd] at this; cases this
  rw [numB, this]; rfl
theorem min4 {w : List UInt8} {k : Nat} (hk : 4 ≤ k) : w.take (min k 4) = w.take 4 := by rw [Nat.min_eq_right hk]

/-- What a number's reading ends with. -/
def numQ (T : TypeId) (g : Int) (v : AV) (p : Nat) (rest : List PV) (w : List UInt8) (e : AE) (H' : Hp) : Prop :=
  H' = cmH T g v p rest ∧ if numB w = true then e = .returned (.p (i64 (valN w))) else e = placeX p
theorem num_h' (T : TypeId) (g : Int) (v : AV) (p : Nat) (rest : List PV) (hv : Self 2 v) (w : List UInt8) (hw : w.length ≤ 100000) : HoldsG cx 152 [.ptr 0 0 0, .p (.str w)] (cmH T g v p rest) (numQ T g v p rest w) := by
  refine holdsN_of_vc Tryz.func152 rfl rfl rfl ?_
  have fix : ∀ ps N1 N n, n < 2 → rmap 2 ps N1 N n = n := fun ps N1 N n h => rmap_fix h
  refine ⟨Nat, fun k => [(0, .ptr 0 0 0), (1, .p (.str w)), (5, .p (i64 (valN (w.take (min k 4))))), (8, .p (i64 w.length)), (9, .p (i64 k))], fun _ => cmH T g v p rest, fun k => k ≤ w.length ∧ ∀ b ∈ w.take k, isDg b = true, fun k => w.length - k, ?_, ?_⟩
  · exact ⟨0, ⟨by omega, by simp⟩, ent_of [] [] [] rfl (by (repeat' first | exact trivial | exact rfl | exact ⟨rfl, rfl⟩ | exact .inl rfl | refine ⟨_, rfl, rfl, rfl, ?_⟩ | refine ⟨_, _, rfl, ?_, ?_⟩ | refine ⟨_, rfl, ?_⟩ | refine And.intro ?_ ?_)) ⟨⟨_, rfl, rfl, rfl, _, rfl, _, _, rfl, rfl, _, _, rfl, hv _ _ _ (fix _ _ _) (fun _ _ => rfl), _, _, rfl, rfl, seeL_p rest⟩, trivial⟩ rfl⟩
  rintro k ⟨k1, k2⟩
  have hmem : ∀ b ∈ w.take (min k 4), isDg b = true := fun b hb => k2 b (List.take_subset_take_left w (Nat.min_le_left k 4) hb)
  have hv4 : 0 ≤ valN (w.take (min k 4)) ∧ valN (w.take (min k 4)) < 10000 := by
    have h1 := val_take hmem (min k 4) (by rw [List.length_take]; omega)
    rw [List.take_take, Nat.min_self] at h1
    have h2 := ten_pow (min k 4) (by omega)
    omega
  (first | refine brLt (fun h1 => ?_) (fun h1 => ?_) | refine brLe (fun h1 => ?_) (fun h1 => ?_) | refine brEq (fun h1 => ?_) (fun h1 => ?_))
  · have h1 : (k : Int) < (w.length : Nat) := h1
    have hk : k < w.length := by omega
    obtain ⟨b, hb⟩ : ∃ b, b = w.getD k 0 := ⟨_, rfl⟩
    refine ⟨_, ⟨by omega, b, by rw [hb]; exact scan_at hk, rfl⟩, ?_⟩
    (first | refine brLt (fun h2 => ?_) (fun h2 => ?_) | refine brLe (fun h2 => ?_) (fun h2 => ?_) | refine brEq (fun h2 => ?_) (fun h2 => ?_))
    · have h2 : (b.toNat : Int) < 48 := h2
      refine (fail_h T g v p rest).holds.mono fun e H' hq => ?_
      obtain ⟨rfl, rfl⟩ := hq
      exact ⟨[], [], [], placeX p, cmH T g v p rest, rfl, ⟨_, rfl, _, _, rfl, rfl, rfl⟩, ⟨⟨_, rfl, rfl, rfl, _, rfl, _, _, rfl, rfl, _, _, rfl, hv _ _ _ (fix _ _ _) (fun _ _ => rfl), _, _, rfl, rfl, seeL_p rest⟩, trivial⟩, rfl, by rw [show numB w = false from (num_no hk (by rw [← hb, isDg, decide_eq_false (by omega)]))]; exact rfl⟩
    have h2 : ¬ (b.toNat : Int) < 48 := h2
    refine ⟨_, ⟨by omega, b, by rw [hb]; exact scan_at hk, rfl⟩, ?_⟩
    (first | refine brLt (fun h3 => ?_) (fun h3 => ?_) | refine brLe (fun h3 => ?_) (fun h3 => ?_) | refine brEq (fun h3 => ?_) (fun h3 => ?_))
    · have h3 : (57 : Int) < (b.toNat : Int) := h3
      refine (fail_h T g v p rest).holds.mono fun e H' hq => ?_
      obtain ⟨rfl, rfl⟩ := hq
      exact ⟨[], [], [], placeX p, cmH T g v p rest, rfl, ⟨_, rfl, _, _, rfl, rfl, rfl⟩, ⟨⟨_, rfl, rfl, rfl, _, rfl, _, _, rfl, rfl, _, _, rfl, hv _ _ _ (fix _ _ _) (fun _ _ => rfl), _, _, rfl, rfl, seeL_p rest⟩, trivial⟩, rfl, by rw [show numB w = false from (num_no hk (by rw [← hb, isDg, decide_eq_false (by omega)]))]; exact rfl⟩
    have h3 : ¬ (57 : Int) < (b.toNat : Int) := h3
    have hdg : isDg b = true := by rw [isDg, decide_eq_true ⟨by omega, by omega⟩]
    have hnx : ∀ c ∈ w.take (k + 1), isDg c = true := mem_take 0 hk k2 (by rw [← hb]; exact hdg)
    (first | refine brLt (fun h4 => ?_) (fun h4 => ?_) | refine brLe (fun h4 => ?_) (fun h4 => ?_) | refine brEq (fun h4 => ?_) (fun h4 => ?_))
    · have h4 : (k : Int) < 4 := h4
      have e1 : min k 4 = k := by omega
      have e2 : min (k + 1) 4 = k + 1 := by omega
      have hval : valN (w.take (min (k + 1) 4)) = 10 * valN (w.take (min k 4)) + ((b.toNat : Int) - 48) := by rw [e1, e2, take_succ_getD 0 hk, ← hb, val_snoc]
      refine ⟨10 * valN (w.take (min k 4)), wrap_i64 (by omega) (by omega), ?_⟩
      refine ⟨_, ⟨by omega, b, by rw [hb]; exact scan_at hk, rfl⟩, ?_⟩
      refine ⟨(b.toNat : Int) - 48, wrap8 (by omega) (by omega), ?_⟩
      refine ⟨(b.toNat : Int) - 48, wrap_i64 (by omega) (by omega), ?_⟩
      refine ⟨10 * valN (w.take (min k 4)) + ((b.toNat : Int) - 48), wrap_i64 (by omega) (by omega), ?_⟩
      refine ⟨_, wrap_i64 (by omega) (by omega), ?_⟩
      exact ⟨k + 1, ⟨by omega, hnx⟩, ent_of [] [] [] rfl ⟨⟨rfl, rfl⟩, rfl, congrArg i64 hval, rfl, rfl, trivial⟩ ⟨⟨_, rfl, rfl, rfl, _, rfl, _, _, rfl, rfl, _, _, rfl, hv _ _ _ (fix _ _ _) (fun _ _ => rfl), _, _, rfl, rfl, seeL_p rest⟩, trivial⟩ rfl, by show w.length - (k + 1) < w.length - k; omega⟩
    · have h4 : ¬ (k : Int) < 4 := h4
      refine ⟨_, wrap_i64 (by omega) (by omega), ?_⟩
      exact ⟨k + 1, ⟨by omega, hnx⟩, ent_of [] [] [] rfl ⟨⟨rfl, rfl⟩, rfl, congrArg (fun l => i64 (valN l)) (by rw [min4 (by omega), min4 (by omega)]), rfl, rfl, trivial⟩ ⟨⟨_, rfl, rfl, rfl, _, rfl, _, _, rfl, rfl, _, _, rfl, hv _ _ _ (fix _ _ _) (fun _ _ => rfl), _, _, rfl, rfl, seeL_p rest⟩, trivial⟩ rfl, by show w.length - (k + 1) < w.length - k; omega⟩
  · have h1 : ¬ (k : Int) < (w.length : Nat) := h1
    have hkl : k = w.length := by omega
    rw [take_all (show w.length ≤ k by omega)] at k2
    have ha : w.all isDg = true := List.all_eq_true.2 k2
    (first | refine brLt (fun h2 => ?_) (fun h2 => ?_) | refine brLe (fun h2 => ?_) (fun h2 => ?_) | refine brEq (fun h2 => ?_) (fun h2 => ?_))
    · have h2 : w = [] := h2
      refine (fail_h T g v p rest).holds.mono fun e H' hq => ?_
      obtain ⟨rfl, rfl⟩ := hq
      exact ⟨[], [], [], placeX p, cmH T g v p rest, rfl, ⟨_, rfl, _, _, rfl, rfl, rfl⟩, ⟨⟨_, rfl, rfl, rfl, _, rfl, _, _, rfl, rfl, _, _, rfl, hv _ _ _ (fix _ _ _) (fun _ _ => rfl), _, _, rfl, rfl, seeL_p rest⟩, trivial⟩, rfl, by rw [show numB w = false from (by rw [h2]; rfl)]; exact rfl⟩
    have h2 : ¬ w = [] := h2
    have hpos := List.length_pos_iff.2 h2
    (first | refine brLt (fun h3 => ?_) (fun h3 => ?_) | refine brLe (fun h3 => ?_) (fun h3 => ?_) | refine brEq (fun h3 => ?_) (fun h3 => ?_))
    · have h3 : (4 : Int) < (w.length : Nat) := h3
      refine (fail_h T g v p rest).holds.mono fun e H' hq => ?_
      obtain ⟨rfl, rfl⟩ := hq
      exact ⟨[], [], [], placeX p, cmH T g v p rest, rfl, ⟨_, rfl, _, _, rfl, rfl, rfl⟩, ⟨⟨_, rfl, rfl, rfl, _, rfl, _, _, rfl, rfl, _, _, rfl, hv _ _ _ (fix _ _ _) (fun _ _ => rfl), _, _, rfl, rfl, seeL_p rest⟩, trivial⟩, rfl, by rw [show numB w = false from (by rw [numB, ha, decide_eq_false (show ¬ w.length ≤ 4 by omega), decide_eq_false (show ¬ w = [48] from fun e => by rw [e] at h3; simp at h3)]; simp)]; exact rfl⟩
    have h3 : ¬ (4 : Int) < (w.length : Nat) := h3
    have hmk : min k 4 = w.length := by omega
    refine ⟨_, ⟨by omega, w.getD 0 0, scan_at hpos, rfl⟩, ?_⟩
    (first | refine brLt (fun h4 => ?_) (fun h4 => ?_) | refine brLe (fun h4 => ?_) (fun h4 => ?_) | refine brEq (fun h4 => ?_) (fun h4 => ?_))
    · have h4 : ((w.getD 0 0).toNat : Int) = 48 := h4
      have h5 : w.getD 0 0 = 48 := UInt8.toNat_inj.1 (by rw [show (48 : UInt8).toNat = 48 from rfl]; omega)
      (first | refine brLt (fun h6 => ?_) (fun h6 => ?_) | refine brLe (fun h6 => ?_) (fun h6 => ?_) | refine brEq (fun h6 => ?_) (fun h6 => ?_))
      · have h6 : w = [48] := h6
        have hn : numB w = true := (by rw [h6]; decide)
        refine ⟨[], [], [], .returned (.p (i64 (valN w))), cmH T g v p rest, rfl, ⟨_, rfl, congrArg (fun l => i64 (valN l)) (show w = w.take (min k 4) by rw [hmk, take_all (Nat.le_refl _)])⟩, ⟨⟨_, rfl, rfl, rfl, _, rfl, _, _, rfl, rfl, _, _, rfl, hv _ _ _ (fix _ _ _) (fun _ _ => rfl), _, _, rfl, rfl, seeL_p rest⟩, trivial⟩, rfl, ?_⟩
        rw [if_pos hn]
      · have h6 : ¬ w = [48] := h6
        refine (fail_h T g v p rest).holds.mono fun e H' hq => ?_
        obtain ⟨rfl, rfl⟩ := hq
        exact ⟨[], [], [], placeX p, cmH T g v p rest, rfl, ⟨_, rfl, _, _, rfl, rfl, rfl⟩, ⟨⟨_, rfl, rfl, rfl, _, rfl, _, _, rfl, rfl, _, _, rfl, hv _ _ _ (fix _ _ _) (fun _ _ => rfl), _, _, rfl, rfl, seeL_p rest⟩, trivial⟩, rfl, by rw [show numB w = false from (by rw [numB, ha, decide_eq_false h6, decide_eq_false (show ¬ w.getD 0 0 ≠ 48 from fun h => h h5)]; simp)]; exact rfl⟩
    · have h4 : ¬ ((w.getD 0 0).toNat : Int) = 48 := h4
      have h5 : w.getD 0 0 ≠ 48 := fun e => h4 (by rw [e]; rfl)
      have hn : numB w = true := (by rw [numB, ha, decide_eq_true (show w ≠ [] from h2), decide_eq_true h5, decide_eq_true (show w.length ≤ 4 by omega)]; simp)
      refine ⟨[], [], [], .returned (.p (i64 (valN w))), cmH T g v p rest, rfl, ⟨_, rfl, congrArg (fun l => i64 (valN l)) (show w = w.take (min k 4) by rw [hmk, take_all (Nat.le_refl _)])⟩, ⟨⟨_, rfl, rfl, rfl, _, rfl, _, _, rfl, rfl, _, _, rfl, hv _ _ _ (fix _ _ _) (fun _ _ => rfl), _, _, rfl, rfl, seeL_p rest⟩, trivial⟩, rfl, ?_⟩
      rw [if_pos hn]
end Go.Proofs.YtphmmoloegjocaaGreatDoor

/- Searching a byte in a string: strings.Index, strings.Count at one byte. -/
namespace Go.Proofs.YtphmmoloegjocaaGreatDoor
open Go Y
set_option maxRecDepth 100000
set_option maxHeartbeats 4000000

theorem byteBack (c : UInt8) : ((c.toNat : Int)).toNat.toUInt8 = c := by
  show (c.toNat).toUInt8 = c
  exact UInt8.ofNat_toNat

theorem pure_extern {g : FuncId} {args : List PV} {x : PV} (hx : Res [] 5 (.p x) x) (h : ∀ (Γ : Gm) (w : World) (args' : List Value), VRL Γ (args.map .p) args' → ∃ v', (callFunc g ⟨args'⟩).run cx.P w = .ok (.value v') w ∧ VP Γ.fz x v') : Pure cx g args (· = .ret [x]) := by
  intro Γ w args' hR hA
  obtain ⟨v', h1, h2⟩ := h Γ w args' hA
  refine .inr ⟨v', w, h1, .returned (.p x), ⟨0, []⟩, Γ, ?_, ⟨v', rfl, h2⟩, Later.refl hR _ (Nat.le_refl _)⟩
  exact ⟨.ret [x], ⟨rfl, _, rfl, hx⟩, rfl⟩

theorem indexByteString_c (s : List UInt8) (c : UInt8) : Pure cx 123 [.str s, u8 c] (· = .ret [i64 (Lib.indexByte s c)]) := by
  refine pure_extern rfl fun Γ w args' hA => ?_
  simp only [List.map, VRL, VR, VP] at hA
  obtain ⟨a, as', rfl, rfl, b, bs', rfl, rfl, rfl⟩ := hA
  refine ⟨_, ?_, rfl⟩
  show (callFunc 123 #[.string ⟨⟨s⟩⟩, .int .u8 c.toNat]).run Tryz.prog w = _
  rw [run_callFunc_extern Tryz.func123 (by kernel_rfl) (by kernel_rfl) (by kernel_rfl) (e := Extern.BytealgIndexByte.indexByte) (by kernel_rfl), Lib.run_indexByteString, byteBack]
  rfl
theorem indexByte_c (s : List UInt8) (c : UInt8) : Pure cx 111 [.str s, u8 c] (· = .ret [i64 (Lib.indexByte s c)]) := by
  refine pure_of_vc Tryz.func111 rfl rfl rfl ?_
  refine (indexByteString_c s c).eq rfl ?_
  exact end1 _ rfl rfl rfl
theorem index1_c (s : List UInt8) (c : UInt8) : Pure cx 100 [.str s, .str [c]] (· = .ret [i64 (Lib.indexByte s c)]) := by
  refine pure_of_vc Tryz.func100 rfl rfl rfl ?_
  refine And.intro (fun h => absurd (show (1 : Int) = 0 from h) (by decide)) (fun _ => ?_)
  refine And.intro (fun h => ?_) (fun _ => ?_)
  · have h : [c] = s := h
    subst h
    exact end1 _ rfl rfl (retI (by simp [Lib.indexByte]))
  · refine And.intro (fun _ => ?_) (fun h => absurd rfl h)
    refine ⟨_, ⟨by omega, c, rfl, rfl⟩, ?_⟩
    refine (indexByte_c s c).eq rfl ?_
    exact end1 _ rfl rfl rfl
/-- How many octets come ahead of the first one that is so. -/
def ahead (c : UInt8) : List UInt8 → Nat
  | [] => 0
  | b :: r => if b = c then 0 else ahead c r + 1
theorem index_ahead {c : UInt8} {s : List UInt8} : (c ∈ s → Lib.indexByte s c = (ahead c s : Nat)) ∧ (c ∉ s → Lib.indexByte s c = -1) := by
  induction s with
  | nil => simp [Lib.indexByte]
  | cons b r ih =>
    simp only [Lib.indexByte, ahead, List.mem_cons]
    by_cases h : b = c
    · subst h; simp
    · have hb : (b == c) = false := by simpa using h
      have hc : ¬ c = b := fun e => h e.symm
      rw [hb, if_neg h]
      simp only [Bool.false_eq_true, if_false, hc, false_or]
      refine ⟨fun hm => ?_, fun hm => ?_⟩
      · rw [ih.1 hm, if_neg (by simp)]; rfl
      · rw [ih.2 hm]; rfl
theorem ahead_split {c : UInt8} {s : List UInt8} (h : c ∈ s) : s = s.take (ahead c s) ++ c :: s.drop (ahead c s + 1) ∧ c ∉ s.take (ahead c s) ∧ ahead c s < s.length := by
  induction s with
  | nil => simp at h
  | cons b r ih =>
    by_cases e : b = c
    · subst e; simp [ahead]
    · have hr : c ∈ r := by
        rcases List.mem_cons.1 h with h | h
        · exact absurd h.symm e
        · exact h
      obtain ⟨h1, h2, h3⟩ := ih hr
      have ea : ahead c (b :: r) = ahead c r + 1 := by simp [ahead, e]
      rw [ea]
      refine ⟨?_, ?_, by simp; omega⟩
      · simp only [List.take_succ_cons, List.drop_succ_cons, List.cons_append]
        exact congrArg _ h1
      · simp only [List.take_succ_cons, List.mem_cons, not_or]
        exact ⟨fun e' => e e'.symm, h2⟩

/-- Each octet c becomes a text. -/
def replN (c : UInt8) (new : List UInt8) (s : List UInt8) : List UInt8 := s.flatMap fun b => if b = c then new else [b]
theorem repl_not {c : UInt8} {new s : List UInt8} (h : c ∉ s) : replN c new s = s := by
  induction s with
  | nil => rfl
  | cons b r ih =>
    simp only [List.mem_cons, not_or] at h
    have := ih h.2
    unfold replN at this ⊢
    rw [List.flatMap_cons, this, if_neg fun e => h.1 e.symm]
    rfl
theorem repl_append (c : UInt8) (new a b : List UInt8) : replN c new (a ++ b) = replN c new a ++ replN c new b := by simp [replN]
theorem repl_len (c : UInt8) (new s : List UInt8) : (replN c new s).length ≤ s.length * (new.length + 1) := by
  induction s with
  | nil => simp [replN]
  | cons b r ih =>
    unfold replN at ih ⊢
    rw [List.flatMap_cons, List.length_append, List.length_cons, Nat.succ_mul]
    split
    · omega
    · rw [List.length_singleton]; omega
end Go.Proofs.YtphmmoloegjocaaGreatDoor

/- strings.ContainsRune at the octets that end a word. -/
namespace Go.Proofs.YtphmmoloegjocaaGreatDoor
open Go Y
set_option maxRecDepth 100000
set_option maxHeartbeats 40000000

theorem wrap_i32 {n : Int} (h0 : -2147483648 ≤ n) (h1 : n ≤ 2147483647) : n = IntKind.i32.wrap n := by
  simp [IntKind.wrap, IntKind.bits, IntKind.signed]
  omega
abbrev i32 (n : Int) : PV := .int .i32 n
abbrev kDel : List UInt8 := [32, 10, 40, 41]
theorem runeL_two {n : Nat} (h0 : 128 ≤ n) (h1 : n ≤ 255) : ∃ c0 c1 : UInt8, runeL (n : Int) = [c0, c1] ∧ 128 ≤ c1.toNat := by
  have hv : Utf8.valid (n : Int) = true := by simp [Utf8.valid]; omega
  refine ⟨UInt8.ofNat (0xC0 + n / 64), UInt8.ofNat (0x80 + n % 64), ?_, ?_⟩
  · rw [runeL, Utf8.encode]
    simp only [hv, if_true, Int.toNat_natCast]
    rw [if_neg (by omega), if_pos (by omega)]
  · rw [UInt8.toNat_ofNat']
    omega
theorem indexByte_in {l : List UInt8} {c : UInt8} : (0 ≤ Lib.indexByte l c) ↔ c ∈ l := by
  induction l with
  | nil => simp [Lib.indexByte]
  | cons b l ih =>
    have hg := Lib.indexByte_ge l c
    rw [Lib.indexByte]
    by_cases h : b = c
    · subst h; simp
    · have hb : (b == c) = false := by simpa using h
      rw [hb]
      simp only [Bool.false_eq_true, if_false, List.mem_cons]
      by_cases h2 : Lib.indexByte l c = -1
      · have : (Lib.indexByte l c == -1) = true := by simpa using h2
        rw [this]
        simp only [if_true]
        constructor
        · intro h; omega
        · rintro (h3 | h3)
          · exact absurd h3.symm h
          · have := ih.2 h3; omega
      · have h3 : (Lib.indexByte l c == -1) = false := by simpa using h2
        rw [h3]
        simp only [Bool.false_eq_true, if_false]
        constructor
        · intro _; exact .inr (ih.1 (by omega))
        · intro _; omega
theorem isWd_mem (b : UInt8) : isWd b = true ↔ ¬ b ∈ kDel := by
  have e : ∀ m : Nat, m < 256 → ((b.toNat == m) = true ↔ b = UInt8.ofNat m) := fun m hm => by
    rw [beq_iff_eq]
    constructor
    · intro h; rw [← h]; exact UInt8.ofNat_toNat.symm
    · intro h; rw [h, UInt8.toNat_ofNat']; omega
  simp only [isWd, Bool.and_eq_true, Bool.not_eq_true', ← Bool.not_eq_true, List.mem_cons, List.not_mem_nil, or_false, not_or, e 32 (by omega), e 10 (by omega), e 40 (by omega), e 41 (by omega)]
  exact ⟨fun ⟨⟨⟨h1, h2⟩, h3⟩, h4⟩ => ⟨h1, h2, h3, h4⟩, fun ⟨h1, h2, h3, h4⟩ => ⟨⟨⟨h1, h2⟩, h3⟩, h4⟩⟩

theorem strIndexByte_c (s : List UInt8) (c : UInt8) : Pure cx 127 [.str s, u8 c] (· = .ret [i64 (Lib.indexByte s c)]) := by
  refine pure_of_vc Tryz.func127 rfl rfl rfl ?_
  refine (indexByte_c s c).eq rfl ?_
  exact end1 _ rfl rfl rfl
theorem validRune_c (n : Nat) (h : n < 55296) : Pure cx 128 [i32 n] (· = .ret [.bool true]) := by
  refine pure_of_vc Tryz.func128 rfl rfl rfl ?_
  (first | refine brLt (fun h1 => ?_) (fun h1 => ?_) | refine brLe (fun h1 => ?_) (fun h1 => ?_) | refine brEq (fun h1 => ?_) (fun h1 => ?_))
  · have h1 : (0 : Int) ≤ (n : Nat) := h1
    (first | refine brLt (fun h2 => ?_) (fun h2 => ?_) | refine brLe (fun h2 => ?_) (fun h2 => ?_) | refine brEq (fun h2 => ?_) (fun h2 => ?_))
    · exact end1 _ rfl rfl rfl
    · have h2 : ¬ (n : Int) < 55296 := h2
      omega
  · have h1 : ¬ (0 : Int) ≤ (n : Nat) := h1
    omega
theorem indexRune_c (b : UInt8) : Pure cx 121 [.str kDel, i32 b.toNat] (· = .ret [i64 (Lib.indexByte kDel b)]) := by
  refine pure_of_vc Tryz.func121 rfl rfl rfl ?_
  have hb := b.toNat_lt
  (first | refine brLt (fun h1 => ?_) (fun h1 => ?_) | refine brLe (fun h1 => ?_) (fun h1 => ?_) | refine brEq (fun h1 => ?_) (fun h1 => ?_))
  rotate_left
  · have h1 : ¬ (0 : Int) ≤ (b.toNat : Nat) := h1
    omega
  (first | refine brLt (fun h2 => ?_) (fun h2 => ?_) | refine brLe (fun h2 => ?_) (fun h2 => ?_) | refine brEq (fun h2 => ?_) (fun h2 => ?_))
  · have h2 : (b.toNat : Int) < 128 := h2
    refine ⟨(b.toNat : Int), wrap8 (by omega) (by omega), ?_⟩
    refine (strIndexByte_c kDel b).eq rfl ?_
    exact end1 _ rfl rfl rfl
  have h2 : ¬ (b.toNat : Int) < 128 := h2
  have hno : Lib.indexByte kDel b = -1 := by
    have hg := Lib.indexByte_ge kDel b
    have : ¬ b ∈ kDel := fun hm => by
      simp only [List.mem_cons, List.not_mem_nil, or_false] at hm
      rcases hm with rfl | rfl | rfl | rfl <;> exact absurd h2 (by decide)
    have := mt indexByte_in.1 this
    omega
  (first | refine brLt (fun h3 => ?_) (fun h3 => ?_) | refine brLe (fun h3 => ?_) (fun h3 => ?_) | refine brEq (fun h3 => ?_) (fun h3 => ?_))
  · have h3 : (b.toNat : Int) = 65533 := h3
    omega
  have h3 : ¬ (b.toNat : Int) = 65533 := h3
  refine (validRune_c b.toNat (by omega)).eq rfl ?_
  obtain ⟨c0, c1, hr, hc⟩ := runeL_two (n := b.toNat) (by omega) (by omega)
  have hlen : (runeL (b.toNat : Int)).length = 2 := by rw [hr]; rfl
  refine ⟨1, by show _ = IntKind.i64.wrap (((runeL (b.toNat : Int)).length : Nat) - 1); rw [hlen]; exact wrap_i64 (by omega) (by omega), ?_⟩
  refine ⟨Unit, fun _ => [(0, .p (.str kDel)), (1, .p (i32 b.toNat)), (7, .p (.str [c0, c1])), (8, .p (i64 1)), (9, .p (i64 1)), (10, .p (i64 0))], fun _ => ⟨0, []⟩, fun _ => True, fun _ => 0, ?_, ?_⟩
  · exact ⟨(), trivial, ent0 rfl ⟨rfl, rfl, congrArg PV.str hr.symm, rfl, rfl, rfl, trivial⟩ trivial rfl⟩
  rintro ⟨⟩ -
  (first | refine brLt (fun h4 => ?_) (fun h4 => ?_) | refine brLe (fun h4 => ?_) (fun h4 => ?_) | refine brEq (fun h4 => ?_) (fun h4 => ?_))
  rotate_left
  · have h4 : ¬ (1 : Int) < (4 : Nat) := h4
    omega
  refine VDraw.seq rfl ?_
  refine ⟨_, ⟨by decide, 10, rfl, rfl⟩, ?_⟩
  refine ⟨_, ⟨by decide, c1, rfl, rfl⟩, ?_⟩
  (first | refine brLt (fun h5 => ?_) (fun h5 => ?_) | refine brLe (fun h5 => ?_) (fun h5 => ?_) | refine brEq (fun h5 => ?_) (fun h5 => ?_))
  · have h5 : (10 : Int) = (c1.toNat : Nat) := h5
    omega
  have hI : Lib.indexByte [40, 41] c1 = -1 := by
    have hg := Lib.indexByte_ge [40, 41] c1
    have : ¬ c1 ∈ ([40, 41] : List UInt8) := fun hm => by
      simp only [List.mem_cons, List.not_mem_nil, or_false] at hm
      rcases hm with rfl | rfl <;> exact absurd hc (by decide)
    have := mt indexByte_in.1 this
    omega
  have hX := strIndexByte_c [40, 41] c1
  rw [hI] at hX
  refine VDraw.seq rfl ?_
  refine ⟨2, wrap_i64 (by omega) (by omega), ?_⟩
  refine ⟨by show (0 : Int) ≤ 2 ∧ (2 : Int) ≤ ((4 : Nat) : Int); omega, ?_⟩
  refine ⟨_, ⟨by decide, c1, rfl, rfl⟩, ?_⟩
  refine hX.eq rfl ?_
  (first | refine brLt (fun h6 => ?_) (fun h6 => ?_) | refine brLe (fun h6 => ?_) (fun h6 => ?_) | refine brEq (fun h6 => ?_) (fun h6 => ?_))
  rotate_left
  · have h6 : ¬ (-1 : Int) < 0 := h6
    omega
  exact end1 _ rfl rfl (retI hno.symm)
theorem contains_c (b : UInt8) : Pure cx 109 [.str kDel, i32 b.toNat] (· = .ret [.bool (!isWd b)]) := by
  refine pure_of_vc Tryz.func109 rfl rfl rfl ?_
  refine (indexRune_c b).eq rfl ?_
  (first | refine brLt (fun h1 => ?_) (fun h1 => ?_) | refine brLe (fun h1 => ?_) (fun h1 => ?_) | refine brEq (fun h1 => ?_) (fun h1 => ?_))
  · have h1 : (0 : Int) ≤ Lib.indexByte kDel b := h1
    exact end1 _ rfl rfl (retB (by have := indexByte_in.1 h1; rw [Bool.eq_false_iff.2 (fun h => (isWd_mem b).1 h this)]; rfl))
  · have h1 : ¬ (0 : Int) ≤ Lib.indexByte kDel b := h1
    exact end1 _ rfl rfl (retB (by have := mt indexByte_in.2 h1; rw [(isWd_mem b).2 this]; rfl))
end Go.Proofs.YtphmmoloegjocaaGreatDoor

/- The program's nested reader: next. -/
namespace Go.Proofs.YtphmmoloegjocaaGreatDoor
open Go Y
set_option maxRecDepth 100000
set_option maxHeartbeats 40000000

abbrev TNs : TypeId := 102
abbrev nrO (g : Int) (v : AV) (p : Nat) (s t : List UInt8) : AObj := cmO TNs g v p [.str s, .str t]
abbrev nrH (g : Int) (v : AV) (p : Nat) (s t : List UInt8) : Hp := cmH TNs g v p [.str s, .str t]

theorem next_h (g : Int) (v : AV) (p : Nat) (s tk : List UInt8) (x : Nat) (hv : Self 2 v) (hx : x = p + tk.length) (hs : s.length ≤ 100000) (hp : x ≤ s.length) : HoldsG cx 148 [.ptr 0 0 0] (nrH g v p s tk) fun e H' => e = .returned und ∧ H' = nrH g v (nx s x) s (tok s x) := by
  refine holdsN_of_vc Tryz.func148 rfl rfl rfl ?_
  have fix : ∀ ps N1 N n, n < 2 → rmap 2 ps N1 N n = n := fun ps N1 N n h => rmap_fix h
  refine VDraw.seq rfl ?_
  refine ⟨(x : Int), by show _ = IntKind.i64.wrap ((p : Int) + ((tk.length : Nat) : Int)); rw [show (p : Int) + ((tk.length : Nat) : Int) = (x : Int) by omega]; exact wrap_i64 (by omega) (by omega), ?_⟩
  refine ⟨Nat, fun _ => [(0, .ptr 0 0 0)], fun q => nrH g v q s tk, fun q => x ≤ q ∧ q ≤ s.length ∧ nx s q = nx s x, fun q => s.length - q, ?_, ?_⟩
  · exact ⟨x, ⟨Nat.le_refl _, hp, rfl⟩, ent_of [] [] [] rfl (by (repeat' first | exact trivial | exact rfl | exact ⟨rfl, rfl⟩ | exact .inl rfl | refine ⟨_, rfl, rfl, rfl, ?_⟩ | refine ⟨_, _, rfl, ?_, ?_⟩ | refine ⟨_, rfl, ?_⟩ | refine And.intro ?_ ?_)) ⟨⟨_, rfl, rfl, rfl, _, rfl, _, _, rfl, rfl, _, _, rfl, hv _ _ _ (fix _ _ _) (fun _ _ => rfl), _, _, rfl, rfl, _, _, rfl, rfl, _, _, rfl, rfl, rfl⟩, trivial⟩ rfl⟩
  rintro q ⟨q1, q2, q3⟩
  refine VDraw.seq rfl ?_
  (first | refine brLt (fun h1 => ?_) (fun h1 => ?_) | refine brLe (fun h1 => ?_) (fun h1 => ?_) | refine brEq (fun h1 => ?_) (fun h1 => ?_))
  · have h1 : (q : Int) < (s.length : Nat) := h1
    have hq : q < s.length := by omega
    obtain ⟨c, hc⟩ : ∃ c, c = s.getD q 0 := ⟨_, rfl⟩
    refine ⟨_, ⟨by omega, c, by rw [hc]; exact scan_at hq, rfl⟩, ?_⟩
    (first | refine brLt (fun h2 => ?_) (fun h2 => ?_) | refine brLe (fun h2 => ?_) (fun h2 => ?_) | refine brEq (fun h2 => ?_) (fun h2 => ?_))
    · have h2 : (c.toNat : Int) = 32 := h2
      have hb : isBl (s.getD q 0) = true := by rw [← hc, isBl, show c.toNat = 32 by omega]; rfl
      have hn : nx s (q + 1) = nx s q := scan_step hq hb
      refine ⟨_, wrap_i64 (by omega) (by omega), ?_⟩
      exact ⟨q + 1, ⟨by omega, by omega, by rw [hn]; exact q3⟩, ent_of [] [] [] rfl (by (repeat' first | exact trivial | exact rfl | exact ⟨rfl, rfl⟩ | exact .inl rfl | refine ⟨_, rfl, rfl, rfl, ?_⟩ | refine ⟨_, _, rfl, ?_, ?_⟩ | refine ⟨_, rfl, ?_⟩ | refine And.intro ?_ ?_)) ⟨⟨_, rfl, rfl, rfl, _, rfl, _, _, rfl, rfl, _, _, rfl, hv _ _ _ (fix _ _ _) (fun _ _ => rfl), _, _, rfl, rfl, _, _, rfl, rfl, _, _, rfl, rfl, rfl⟩, trivial⟩ rfl, by show s.length - (q + 1) < s.length - q; omega⟩
    · have h2 : ¬ (c.toNat : Int) = 32 := h2
      refine ⟨_, ⟨by omega, c, by rw [hc]; exact scan_at hq, rfl⟩, ?_⟩
      (first | refine brLt (fun h3 => ?_) (fun h3 => ?_) | refine brLe (fun h3 => ?_) (fun h3 => ?_) | refine brEq (fun h3 => ?_) (fun h3 => ?_))
      · have h3 : (c.toNat : Int) = 10 := h3
        have hb : isBl (s.getD q 0) = true := by rw [← hc, isBl, show c.toNat = 10 by omega]; rfl
        have hn : nx s (q + 1) = nx s q := scan_step hq hb
        refine ⟨_, wrap_i64 (by omega) (by omega), ?_⟩
        exact ⟨q + 1, ⟨by omega, by omega, by rw [hn]; exact q3⟩, ent_of [] [] [] rfl (by (repeat' first | exact trivial | exact rfl | exact ⟨rfl, rfl⟩ | exact .inl rfl | refine ⟨_, rfl, rfl, rfl, ?_⟩ | refine ⟨_, _, rfl, ?_, ?_⟩ | refine ⟨_, rfl, ?_⟩ | refine And.intro ?_ ?_)) ⟨⟨_, rfl, rfl, rfl, _, rfl, _, _, rfl, rfl, _, _, rfl, hv _ _ _ (fix _ _ _) (fun _ _ => rfl), _, _, rfl, rfl, _, _, rfl, rfl, _, _, rfl, rfl, rfl⟩, trivial⟩ rfl, by show s.length - (q + 1) < s.length - q; omega⟩
      · have h3 : ¬ (c.toNat : Int) = 10 := h3
        have hn : nx s q = q := scan_stop hq (by rw [← hc, isBl, beq_false_of_ne (by omega), beq_false_of_ne (by omega)]; rfl)
        refine ⟨Nat, fun k => [(0, .ptr 0 0 0), (2, .p (i64 k))], fun _ => nrH g v q s tk, fun k => q ≤ k ∧ k ≤ s.length ∧ scanF isWd s k = scanF isWd s q, fun k => s.length - k, ?_, ?_⟩
        · exact ⟨q, ⟨Nat.le_refl _, q2, rfl⟩, ent_of [] [] [] rfl (by (repeat' first | exact trivial | exact rfl | exact ⟨rfl, rfl⟩ | exact .inl rfl | refine ⟨_, rfl, rfl, rfl, ?_⟩ | refine ⟨_, _, rfl, ?_, ?_⟩ | refine ⟨_, rfl, ?_⟩ | refine And.intro ?_ ?_)) ⟨⟨_, rfl, rfl, rfl, _, rfl, _, _, rfl, rfl, _, _, rfl, hv _ _ _ (fix _ _ _) (fun _ _ => rfl), _, _, rfl, rfl, _, _, rfl, rfl, _, _, rfl, rfl, rfl⟩, trivial⟩ rfl⟩
        rintro k ⟨k1, k2, k3⟩
        have hnp : nx s x = q := q3 ▸ hn
        (first | refine brLt (fun j1 => ?_) (fun j1 => ?_) | refine brLe (fun j1 => ?_) (fun j1 => ?_) | refine brEq (fun j1 => ?_) (fun j1 => ?_))
        · have j1 : (k : Int) < (s.length : Nat) := j1
          have hk : k < s.length := by omega
          obtain ⟨d, hd⟩ : ∃ d, d = s.getD k 0 := ⟨_, rfl⟩
          refine ⟨_, ⟨by omega, d, by rw [hd]; exact scan_at hk, rfl⟩, ?_⟩
          have hdl := d.toNat_lt
          refine ⟨(d.toNat : Int), wrap_i32 (by omega) (by omega), ?_⟩
          have hC := contains_c d
          by_cases hw : isWd d = true
          · rw [hw] at hC
            refine hC.eq rfl ?_
            have hst : scanF isWd s (k + 1) = scanF isWd s k := scan_step hk (by rw [← hd]; exact hw)
            refine ⟨_, wrap_i64 (by omega) (by omega), ?_⟩
            exact ⟨k + 1, ⟨by omega, by omega, by rw [hst]; exact k3⟩, ent_of [] [] [] rfl (by (repeat' first | exact trivial | exact rfl | exact ⟨rfl, rfl⟩ | exact .inl rfl | refine ⟨_, rfl, rfl, rfl, ?_⟩ | refine ⟨_, _, rfl, ?_, ?_⟩ | refine ⟨_, rfl, ?_⟩ | refine And.intro ?_ ?_)) ⟨⟨_, rfl, rfl, rfl, _, rfl, _, _, rfl, rfl, _, _, rfl, hv _ _ _ (fix _ _ _) (fun _ _ => rfl), _, _, rfl, rfl, _, _, rfl, rfl, _, _, rfl, rfl, rfl⟩, trivial⟩ rfl, by show s.length - (k + 1) < s.length - k; omega⟩
          · have hw := Bool.eq_false_iff.2 hw
            rw [hw] at hC
            refine hC.eq rfl ?_
            have he : scanF isWd s k = k := scan_stop hk (by rw [← hd]; exact hw)
            (first | refine brLt (fun t1 => ?_) (fun t1 => ?_) | refine brLe (fun t1 => ?_) (fun t1 => ?_) | refine brEq (fun t1 => ?_) (fun t1 => ?_))
            · have t1 : (k : Int) = (q : Nat) := t1
              (first | refine brLt (fun t2 => ?_) (fun t2 => ?_) | refine brLe (fun t2 => ?_) (fun t2 => ?_) | refine brEq (fun t2 => ?_) (fun t2 => ?_))
              · have t2 : (k : Int) < (s.length : Nat) := t2
                refine ⟨_, wrap_i64 (by omega) (by omega), ?_⟩
                refine VDraw.seq rfl ?_
                refine ⟨by show (0 : Int) ≤ (q : Nat) ∧ (q : Int) ≤ ((k : Int) + 1) ∧ ((k : Int) + 1) ≤ ((s.length : Nat) : Int); omega, ?_⟩
                refine ⟨[], [], [], .returned und, nrH g v (nx s x) s (tok s x), rfl, by (repeat' first | exact trivial | exact rfl | exact ⟨rfl, rfl⟩ | exact .inl rfl | refine ⟨_, rfl, rfl, rfl, ?_⟩ | refine ⟨_, _, rfl, ?_, ?_⟩ | refine ⟨_, rfl, ?_⟩ | refine And.intro ?_ ?_), ⟨⟨_, rfl, rfl, rfl, _, rfl, _, _, rfl, rfl, _, _, rfl, hv _ _ _ (fix _ _ _) (fun _ _ => rfl), _, _, rfl, congrArg (fun n : Nat => i64 n) hnp, _, _, rfl, rfl, _, _, rfl, ?_, rfl⟩, trivial⟩, rfl, rfl⟩
                show PV.str (tok s x) = PV.str ((s.drop ((q : Nat) : Int).toNat).take (((k : Int) + 1).toNat - ((q : Nat) : Int).toNat))
                rw [tok_is hnp (k3 ▸ he) rfl]
                refine congrArg (fun m => PV.str ((s.drop q).take m)) ?_
                split <;> omega
              · have t2 : ¬ (k : Int) < (s.length : Nat) := t2
                refine VDraw.seq rfl ?_
                refine ⟨by show (0 : Int) ≤ (q : Nat) ∧ (q : Int) ≤ ((k : Nat) : Int) ∧ ((k : Nat) : Int) ≤ ((s.length : Nat) : Int); omega, ?_⟩
                refine ⟨[], [], [], .returned und, nrH g v (nx s x) s (tok s x), rfl, by (repeat' first | exact trivial | exact rfl | exact ⟨rfl, rfl⟩ | exact .inl rfl | refine ⟨_, rfl, rfl, rfl, ?_⟩ | refine ⟨_, _, rfl, ?_, ?_⟩ | refine ⟨_, rfl, ?_⟩ | refine And.intro ?_ ?_), ⟨⟨_, rfl, rfl, rfl, _, rfl, _, _, rfl, rfl, _, _, rfl, hv _ _ _ (fix _ _ _) (fun _ _ => rfl), _, _, rfl, congrArg (fun n : Nat => i64 n) hnp, _, _, rfl, rfl, _, _, rfl, ?_, rfl⟩, trivial⟩, rfl, rfl⟩
                show PV.str (tok s x) = PV.str ((s.drop ((q : Nat) : Int).toNat).take (((k : Nat) : Int).toNat - ((q : Nat) : Int).toNat))
                rw [tok_is hnp (k3 ▸ he) rfl]
                refine congrArg (fun m => PV.str ((s.drop q).take m)) ?_
                split <;> omega
            · have t1 : ¬ (k : Int) = (q : Nat) := t1
              refine VDraw.seq rfl ?_
              refine ⟨by show (0 : Int) ≤ (q : Nat) ∧ (q : Int) ≤ ((k : Nat) : Int) ∧ ((k : Nat) : Int) ≤ ((s.length : Nat) : Int); omega, ?_⟩
              refine ⟨[], [], [], .returned und, nrH g v (nx s x) s (tok s x), rfl, by (repeat' first | exact trivial | exact rfl | exact ⟨rfl, rfl⟩ | exact .inl rfl | refine ⟨_, rfl, rfl, rfl, ?_⟩ | refine ⟨_, _, rfl, ?_, ?_⟩ | refine ⟨_, rfl, ?_⟩ | refine And.intro ?_ ?_), ⟨⟨_, rfl, rfl, rfl, _, rfl, _, _, rfl, rfl, _, _, rfl, hv _ _ _ (fix _ _ _) (fun _ _ => rfl), _, _, rfl, congrArg (fun n : Nat => i64 n) hnp, _, _, rfl, rfl, _, _, rfl, ?_, rfl⟩, trivial⟩, rfl, rfl⟩
              show PV.str (tok s x) = PV.str ((s.drop ((q : Nat) : Int).toNat).take (((k : Nat) : Int).toNat - ((q : Nat) : Int).toNat))
              rw [tok_is hnp (k3 ▸ he) rfl]
              refine congrArg (fun m => PV.str ((s.drop q).take m)) ?_
              split <;> omega
        · have j1 : ¬ (k : Int) < (s.length : Nat) := j1
          have he : scanF isWd s k = k := scan_end (by omega)
          (first | refine brLt (fun t1 => ?_) (fun t1 => ?_) | refine brLe (fun t1 => ?_) (fun t1 => ?_) | refine brEq (fun t1 => ?_) (fun t1 => ?_))
          · have t1 : (k : Int) = (q : Nat) := t1
            (first | refine brLt (fun t2 => ?_) (fun t2 => ?_) | refine brLe (fun t2 => ?_) (fun t2 => ?_) | refine brEq (fun t2 => ?_) (fun t2 => ?_))
            · have t2 : (k : Int) < (s.length : Nat) := t2
              refine ⟨_, wrap_i64 (by omega) (by omega), ?_⟩
              refine VDraw.seq rfl ?_
              refine ⟨by show (0 : Int) ≤ (q : Nat) ∧ (q : Int) ≤ ((k : Int) + 1) ∧ ((k : Int) + 1) ≤ ((s.length : Nat) : Int); omega, ?_⟩
              refine ⟨[], [], [], .returned und, nrH g v (nx s x) s (tok s x), rfl, by (repeat' first | exact trivial | exact rfl | exact ⟨rfl, rfl⟩ | exact .inl rfl | refine ⟨_, rfl, rfl, rfl, ?_⟩ | refine ⟨_, _, rfl, ?_, ?_⟩ | refine ⟨_, rfl, ?_⟩ | refine And.intro ?_ ?_), ⟨⟨_, rfl, rfl, rfl, _, rfl, _, _, rfl, rfl, _, _, rfl, hv _ _ _ (fix _ _ _) (fun _ _ => rfl), _, _, rfl, congrArg (fun n : Nat => i64 n) hnp, _, _, rfl, rfl, _, _, rfl, ?_, rfl⟩, trivial⟩, rfl, rfl⟩
              show PV.str (tok s x) = PV.str ((s.drop ((q : Nat) : Int).toNat).take (((k : Int) + 1).toNat - ((q : Nat) : Int).toNat))
              rw [tok_is hnp (k3 ▸ he) rfl]
              refine congrArg (fun m => PV.str ((s.drop q).take m)) ?_
              split <;> omega
            · have t2 : ¬ (k : Int) < (s.length : Nat) := t2
              refine VDraw.seq rfl ?_
              refine ⟨by show (0 : Int) ≤ (q : Nat) ∧ (q : Int) ≤ ((k : Nat) : Int) ∧ ((k : Nat) : Int) ≤ ((s.length : Nat) : Int); omega, ?_⟩
              refine ⟨[], [], [], .returned und, nrH g v (nx s x) s (tok s x), rfl, by (repeat' first | exact trivial | exact rfl | exact ⟨rfl, rfl⟩ | exact .inl rfl | refine ⟨_, rfl, rfl, rfl, ?_⟩ | refine ⟨_, _, rfl, ?_, ?_⟩ | refine ⟨_, rfl, ?_⟩ | refine And.intro ?_ ?_), ⟨⟨_, rfl, rfl, rfl, _, rfl, _, _, rfl, rfl, _, _, rfl, hv _ _ _ (fix _ _ _) (fun _ _ => rfl), _, _, rfl, congrArg (fun n : Nat => i64 n) hnp, _, _, rfl, rfl, _, _, rfl, ?_, rfl⟩, trivial⟩, rfl, rfl⟩
              show PV.str (tok s x) = PV.str ((s.drop ((q : Nat) : Int).toNat).take (((k : Nat) : Int).toNat - ((q : Nat) : Int).toNat))
              rw [tok_is hnp (k3 ▸ he) rfl]
              refine congrArg (fun m => PV.str ((s.drop q).take m)) ?_
              split <;> omega
          · have t1 : ¬ (k : Int) = (q : Nat) := t1
            refine VDraw.seq rfl ?_
            refine ⟨by show (0 : Int) ≤ (q : Nat) ∧ (q : Int) ≤ ((k : Nat) : Int) ∧ ((k : Nat) : Int) ≤ ((s.length : Nat) : Int); omega, ?_⟩
            refine ⟨[], [], [], .returned und, nrH g v (nx s x) s (tok s x), rfl, by (repeat' first | exact trivial | exact rfl | exact ⟨rfl, rfl⟩ | exact .inl rfl | refine ⟨_, rfl, rfl, rfl, ?_⟩ | refine ⟨_, _, rfl, ?_, ?_⟩ | refine ⟨_, rfl, ?_⟩ | refine And.intro ?_ ?_), ⟨⟨_, rfl, rfl, rfl, _, rfl, _, _, rfl, rfl, _, _, rfl, hv _ _ _ (fix _ _ _) (fun _ _ => rfl), _, _, rfl, congrArg (fun n : Nat => i64 n) hnp, _, _, rfl, rfl, _, _, rfl, ?_, rfl⟩, trivial⟩, rfl, rfl⟩
            show PV.str (tok s x) = PV.str ((s.drop ((q : Nat) : Int).toNat).take (((k : Nat) : Int).toNat - ((q : Nat) : Int).toNat))
            rw [tok_is hnp (k3 ▸ he) rfl]
            refine congrArg (fun m => PV.str ((s.drop q).take m)) ?_
            split <;> omega
  · have h1 : ¬ (q : Int) < (s.length : Nat) := h1
    have hn : nx s q = q := scan_end (by omega)
    refine ⟨Nat, fun k => [(0, .ptr 0 0 0), (2, .p (i64 k))], fun _ => nrH g v q s tk, fun k => q ≤ k ∧ k ≤ s.length ∧ scanF isWd s k = scanF isWd s q, fun k => s.length - k, ?_, ?_⟩
    · exact ⟨q, ⟨Nat.le_refl _, q2, rfl⟩, ent_of [] [] [] rfl (by (repeat' first | exact trivial | exact rfl | exact ⟨rfl, rfl⟩ | exact .inl rfl | refine ⟨_, rfl, rfl, rfl, ?_⟩ | refine ⟨_, _, rfl, ?_, ?_⟩ | refine ⟨_, rfl, ?_⟩ | refine And.intro ?_ ?_)) ⟨⟨_, rfl, rfl, rfl, _, rfl, _, _, rfl, rfl, _, _, rfl, hv _ _ _ (fix _ _ _) (fun _ _ => rfl), _, _, rfl, rfl, _, _, rfl, rfl, _, _, rfl, rfl, rfl⟩, trivial⟩ rfl⟩
    rintro k ⟨k1, k2, k3⟩
    have hnp : nx s x = q := q3 ▸ hn
    (first | refine brLt (fun j1 => ?_) (fun j1 => ?_) | refine brLe (fun j1 => ?_) (fun j1 => ?_) | refine brEq (fun j1 => ?_) (fun j1 => ?_))
    · have j1 : (k : Int) < (s.length : Nat) := j1
      have hk : k < s.length := by omega
      obtain ⟨d, hd⟩ : ∃ d, d = s.getD k 0 := ⟨_, rfl⟩
      refine ⟨_, ⟨by omega, d, by rw [hd]; exact scan_at hk, rfl⟩, ?_⟩
      have hdl := d.toNat_lt
      refine ⟨(d.toNat : Int), wrap_i32 (by omega) (by omega), ?_⟩
      have hC := contains_c d
      by_cases hw : isWd d = true
      · rw [hw] at hC
        refine hC.eq rfl ?_
        have hst : scanF isWd s (k + 1) = scanF isWd s k := scan_step hk (by rw [← hd]; exact hw)
        refine ⟨_, wrap_i64 (by omega) (by omega), ?_⟩
        exact ⟨k + 1, ⟨by omega, by omega, by rw [hst]; exact k3⟩, ent_of [] [] [] rfl (by (repeat' first | exact trivial | exact rfl | exact ⟨rfl, rfl⟩ | exact .inl rfl | refine ⟨_, rfl, rfl, rfl, ?_⟩ | refine ⟨_, _, rfl, ?_, ?_⟩ | refine ⟨_, rfl, ?_⟩ | refine And.intro ?_ ?_)) ⟨⟨_, rfl, rfl, rfl, _, rfl, _, _, rfl, rfl, _, _, rfl, hv _ _ _ (fix _ _ _) (fun _ _ => rfl), _, _, rfl, rfl, _, _, rfl, rfl, _, _, rfl, rfl, rfl⟩, trivial⟩ rfl, by show s.length - (k + 1) < s.length - k; omega⟩
      · have hw := Bool.eq_false_iff.2 hw
        rw [hw] at hC
        refine hC.eq rfl ?_
        have he : scanF isWd s k = k := scan_stop hk (by rw [← hd]; exact hw)
        (first | refine brLt (fun t1 => ?_) (fun t1 => ?_) | refine brLe (fun t1 => ?_) (fun t1 => ?_) | refine brEq (fun t1 => ?_) (fun t1 => ?_))
        · have t1 : (k : Int) = (q : Nat) := t1
          (first | refine brLt (fun t2 => ?_) (fun t2 => ?_) | refine brLe (fun t2 => ?_) (fun t2 => ?_) | refine brEq (fun t2 => ?_) (fun t2 => ?_))
          · have t2 : (k : Int) < (s.length : Nat) := t2
            refine ⟨_, wrap_i64 (by omega) (by omega), ?_⟩
            refine VDraw.seq rfl ?_
            refine ⟨by show (0 : Int) ≤ (q : Nat) ∧ (q : Int) ≤ ((k : Int) + 1) ∧ ((k : Int) + 1) ≤ ((s.length : Nat) : Int); omega, ?_⟩
            refine ⟨[], [], [], .returned und, nrH g v (nx s x) s (tok s x), rfl, by (repeat' first | exact trivial | exact rfl | exact ⟨rfl, rfl⟩ | exact .inl rfl | refine ⟨_, rfl, rfl, rfl, ?_⟩ | refine ⟨_, _, rfl, ?_, ?_⟩ | refine ⟨_, rfl, ?_⟩ | refine And.intro ?_ ?_), ⟨⟨_, rfl, rfl, rfl, _, rfl, _, _, rfl, rfl, _, _, rfl, hv _ _ _ (fix _ _ _) (fun _ _ => rfl), _, _, rfl, congrArg (fun n : Nat => i64 n) hnp, _, _, rfl, rfl, _, _, rfl, ?_, rfl⟩, trivial⟩, rfl, rfl⟩
            show PV.str (tok s x) = PV.str ((s.drop ((q : Nat) : Int).toNat).take (((k : Int) + 1).toNat - ((q : Nat) : Int).toNat))
            rw [tok_is hnp (k3 ▸ he) rfl]
            refine congrArg (fun m => PV.str ((s.drop q).take m)) ?_
            split <;> omega
          · have t2 : ¬ (k : Int) < (s.length : Nat) := t2
            refine VDraw.seq rfl ?_
            refine ⟨by show (0 : Int) ≤ (q : Nat) ∧ (q : Int) ≤ ((k : Nat) : Int) ∧ ((k : Nat) : Int) ≤ ((s.length : Nat) : Int); omega, ?_⟩
            refine ⟨[], [], [], .returned und, nrH g v (nx s x) s (tok s x), rfl, by (repeat' first | exact trivial | exact rfl | exact ⟨rfl, rfl⟩ | exact .inl rfl | refine ⟨_, rfl, rfl, rfl, ?_⟩ | refine ⟨_, _, rfl, ?_, ?_⟩ | refine ⟨_, rfl, ?_⟩ | refine And.intro ?_ ?_), ⟨⟨_, rfl, rfl, rfl, _, rfl, _, _, rfl, rfl, _, _, rfl, hv _ _ _ (fix _ _ _) (fun _ _ => rfl), _, _, rfl, congrArg (fun n : Nat => i64 n) hnp, _, _, rfl, rfl, _, _, rfl, ?_, rfl⟩, trivial⟩, rfl, rfl⟩
            show PV.str (tok s x) = PV.str ((s.drop ((q : Nat) : Int).toNat).take (((k : Nat) : Int).toNat - ((q : Nat) : Int).toNat))
            rw [tok_is hnp (k3 ▸ he) rfl]
            refine congrArg (fun m => PV.str ((s.drop q).take m)) ?_
            split <;> omega
        · have t1 : ¬ (k : Int) = (q : Nat) := t1
          refine VDraw.seq rfl ?_
          refine ⟨by show (0 : Int) ≤ (q : Nat) ∧ (q : Int) ≤ ((k : Nat) : Int) ∧ ((k : Nat) : Int) ≤ ((s.length : Nat) : Int); omega, ?_⟩
          refine ⟨[], [], [], .returned und, nrH g v (nx s x) s (tok s x), rfl, by (repeat' first | exact trivial | exact rfl | exact ⟨rfl, rfl⟩ | exact .inl rfl | refine ⟨_, rfl, rfl, rfl, ?_⟩ | refine ⟨_, _, rfl, ?_, ?_⟩ | refine ⟨_, rfl, ?_⟩ | refine And.intro ?_ ?_), ⟨⟨_, rfl, rfl, rfl, _, rfl, _, _, rfl, rfl, _, _, rfl, hv _ _ _ (fix _ _ _) (fun _ _ => rfl), _, _, rfl, congrArg (fun n : Nat => i64 n) hnp, _, _, rfl, rfl, _, _, rfl, ?_, rfl⟩, trivial⟩, rfl, rfl⟩
          show PV.str (tok s x) = PV.str ((s.drop ((q : Nat) : Int).toNat).take (((k : Nat) : Int).toNat - ((q : Nat) : Int).toNat))
          rw [tok_is hnp (k3 ▸ he) rfl]
          refine congrArg (fun m => PV.str ((s.drop q).take m)) ?_
          split <;> omega
    · have j1 : ¬ (k : Int) < (s.length : Nat) := j1
      have he : scanF isWd s k = k := scan_end (by omega)
      (first | refine brLt (fun t1 => ?_) (fun t1 => ?_) | refine brLe (fun t1 => ?_) (fun t1 => ?_) | refine brEq (fun t1 => ?_) (fun t1 => ?_))
      · have t1 : (k : Int) = (q : Nat) := t1
        (first | refine brLt (fun t2 => ?_) (fun t2 => ?_) | refine brLe (fun t2 => ?_) (fun t2 => ?_) | refine brEq (fun t2 => ?_) (fun t2 => ?_))
        · have t2 : (k : Int) < (s.length : Nat) := t2
          refine ⟨_, wrap_i64 (by omega) (by omega), ?_⟩
          refine VDraw.seq rfl ?_
          refine ⟨by show (0 : Int) ≤ (q : Nat) ∧ (q : Int) ≤ ((k : Int) + 1) ∧ ((k : Int) + 1) ≤ ((s.length : Nat) : Int); omega, ?_⟩
          refine ⟨[], [], [], .returned und, nrH g v (nx s x) s (tok s x), rfl, by (repeat' first | exact trivial | exact rfl | exact ⟨rfl, rfl⟩ | exact .inl rfl | refine ⟨_, rfl, rfl, rfl, ?_⟩ | refine ⟨_, _, rfl, ?_, ?_⟩ | refine ⟨_, rfl, ?_⟩ | refine And.intro ?_ ?_), ⟨⟨_, rfl, rfl, rfl, _, rfl, _, _, rfl, rfl, _, _, rfl, hv _ _ _ (fix _ _ _) (fun _ _ => rfl), _, _, rfl, congrArg (fun n : Nat => i64 n) hnp, _, _, rfl, rfl, _, _, rfl, ?_, rfl⟩, trivial⟩, rfl, rfl⟩
          show PV.str (tok s x) = PV.str ((s.drop ((q : Nat) : Int).toNat).take (((k : Int) + 1).toNat - ((q : Nat) : Int).toNat))
          rw [tok_is hnp (k3 ▸ he) rfl]
          refine congrArg (fun m => PV.str ((s.drop q).take m)) ?_
          split <;> omega
        · have t2 : ¬ (k : Int) < (s.length : Nat) := t2
          refine VDraw.seq rfl ?_
          refine ⟨by show (0 : Int) ≤ (q : Nat) ∧ (q : Int) ≤ ((k : Nat) : Int) ∧ ((k : Nat) : Int) ≤ ((s.length : Nat) : Int); omega, ?_⟩
          refine ⟨[], [], [], .returned und, nrH g v (nx s x) s (tok s x), rfl, by (repeat' first | exact trivial | exact rfl | exact ⟨rfl, rfl⟩ | exact .inl rfl | refine ⟨_, rfl, rfl, rfl, ?_⟩ | refine ⟨_, _, rfl, ?_, ?_⟩ | refine ⟨_, rfl, ?_⟩ | refine And.intro ?_ ?_), ⟨⟨_, rfl, rfl, rfl, _, rfl, _, _, rfl, rfl, _, _, rfl, hv _ _ _ (fix _ _ _) (fun _ _ => rfl), _, _, rfl, congrArg (fun n : Nat => i64 n) hnp, _, _, rfl, rfl, _, _, rfl, ?_, rfl⟩, trivial⟩, rfl, rfl⟩
          show PV.str (tok s x) = PV.str ((s.drop ((q : Nat) : Int).toNat).take (((k : Nat) : Int).toNat - ((q : Nat) : Int).toNat))
          rw [tok_is hnp (k3 ▸ he) rfl]
          refine congrArg (fun m => PV.str ((s.drop q).take m)) ?_
          split <;> omega
      · have t1 : ¬ (k : Int) = (q : Nat) := t1
        refine VDraw.seq rfl ?_
        refine ⟨by show (0 : Int) ≤ (q : Nat) ∧ (q : Int) ≤ ((k : Nat) : Int) ∧ ((k : Nat) : Int) ≤ ((s.length : Nat) : Int); omega, ?_⟩
        refine ⟨[], [], [], .returned und, nrH g v (nx s x) s (tok s x), rfl, by (repeat' first | exact trivial | exact rfl | exact ⟨rfl, rfl⟩ | exact .inl rfl | refine ⟨_, rfl, rfl, rfl, ?_⟩ | refine ⟨_, _, rfl, ?_, ?_⟩ | refine ⟨_, rfl, ?_⟩ | refine And.intro ?_ ?_), ⟨⟨_, rfl, rfl, rfl, _, rfl, _, _, rfl, rfl, _, _, rfl, hv _ _ _ (fix _ _ _) (fun _ _ => rfl), _, _, rfl, congrArg (fun n : Nat => i64 n) hnp, _, _, rfl, rfl, _, _, rfl, ?_, rfl⟩, trivial⟩, rfl, rfl⟩
        show PV.str (tok s x) = PV.str ((s.drop ((q : Nat) : Int).toNat).take (((k : Nat) : Int).toNat - ((q : Nat) : Int).toNat))
        rw [tok_is hnp (k3 ▸ he) rfl]
        refine congrArg (fun m => PV.str ((s.drop q).take m)) ?_
        split <;> omega
end Go.Proofs.YtphmmoloegjocaaGreatDoor

/- The program's nested reader: expect, take. -/
namespace Go.Proofs.YtphmmoloegjocaaGreatDoor
open Go Y
set_option maxRecDepth 100000
set_option maxHeartbeats 40000000

abbrev psH (g : Int) (v : AV) (s : List UInt8) (q : Nat) : Hp := nrH g v (nx s q) s (tok s q)
/-- How a reading of the program ends. -/
def rdQ {α : Type} (r : Rd α) (val : α → AV) (H : Nat → Hp) (e : AE) (H' : Hp) : Prop := match r with
  | .inl p => e = placeX p ∧ H' = ⟨2, []⟩
  | .inr (a, q) => e = .returned (val a) ∧ H' = H q
def expectP (s : List UInt8) : List (List UInt8) → Nat → Rd Unit
  | [], q => .inr ((), q)
  | w :: ws, q => (mustP s w q).then fun _ q => expectP s ws q
theorem expect_le {s : List UInt8} : ∀ {ws : List (List UInt8)} {q q' : Nat}, q ≤ s.length → expectP s ws q = .inr ((), q') → q ≤ q' ∧ q' ≤ s.length
  | [], q, q', h, e => by
    simp only [expectP, Sum.inr.injEq, Prod.mk.injEq, true_and] at e
    omega
  | w :: ws, q, q', h, e => by
    rw [expectP, mustP] at e
    have h1 := te_le h
    have h2 := nx_le h
    split at e
    · have := expect_le (by omega : te s q ≤ s.length) e
      omega
    · cases e
theorem next_ps (g : Int) (v : AV) (s : List UInt8) (q : Nat) (hv : Self 2 v) (hs : s.length ≤ 100000) (hq : q ≤ s.length) : HoldsG cx 148 [.ptr 0 0 0] (psH g v s q) fun e H' => e = .returned und ∧ H' = psH g v s (te s q) :=
  next_h g v (nx s q) s (tok s q) (te s q) hv (by have := tok_len hq; have := te_le hq; omega) hs (te_le hq).2

theorem expect_h (g : Int) (v : AV) (s : List UInt8) (q0 : Nat) (ws : List (List UInt8)) (hv : Self 2 v) (hs : s.length ≤ 100000) (hq : q0 ≤ s.length) (hw : ws.length ≤ 1000) : HoldsG cx 149 [.ptr 0 0 0, .p (strs ws)] (psH g v s q0) (rdQ (expectP s ws q0) (fun _ => und) (psH g v s)) := by
  refine holdsN_of_vc Tryz.func149 rfl rfl rfl ?_
  have fix : ∀ ps N1 N n, n < 2 → rmap 2 ps N1 N n = n := fun ps N1 N n h => rmap_fix h
  refine ⟨Nat × Nat, fun x => [(0, .ptr 0 0 0), (6, .p (strs ws)), (7, .p (i64 ws.length)), (8, .p (i64 x.1))], fun x => psH g v s x.2, fun x => x.1 ≤ ws.length ∧ x.2 ≤ s.length ∧ expectP s (ws.drop x.1) x.2 = expectP s ws q0, fun x => ws.length - x.1, ?_, ?_⟩
  · exact ⟨(0, q0), ⟨by simp, hq, rfl⟩, ent_of [] [] [] rfl ⟨⟨rfl, rfl⟩, rfl, congrArg (fun n : Nat => i64 n) (List.length_map ..).symm, rfl, trivial⟩ ⟨⟨_, rfl, rfl, rfl, _, rfl, _, _, rfl, rfl, _, _, rfl, hv _ _ _ (fix _ _ _) (fun _ _ => rfl), _, _, rfl, rfl, _, _, rfl, rfl, _, _, rfl, rfl, rfl⟩, trivial⟩ rfl⟩
  rintro ⟨k, q⟩ ⟨k1, k2, k3⟩
  simp only [] at k1 k2 k3
  (first | refine brLt (fun h1 => ?_) (fun h1 => ?_) | refine brLe (fun h1 => ?_) (fun h1 => ?_) | refine brEq (fun h1 => ?_) (fun h1 => ?_))
  · have h1 : (k : Int) < (ws.length : Nat) := h1
    have hk : k < ws.length := by omega
    obtain ⟨w, hw'⟩ : ∃ w, w = ws.getD k [] := ⟨_, rfl⟩
    rw [drop_cons [] hk, ← hw', expectP, mustP] at k3
    refine ⟨_, ⟨by omega, .str w, by rw [hw']; exact tcell hk, rfl⟩, ?_⟩
    (first | refine brLt (fun h2 => ?_) (fun h2 => ?_) | refine brLe (fun h2 => ?_) (fun h2 => ?_) | refine brEq (fun h2 => ?_) (fun h2 => ?_))
    · have h2 : tok s q = w := h2
      rw [if_pos h2] at k3
      refine (next_ps g v s q hv hs k2).holds.mono fun e H' hq => ?_
      obtain ⟨rfl, rfl⟩ := hq
      refine ⟨_, wrap_i64 (by omega) (by omega), ?_⟩
      exact ⟨(k + 1, te s q), ⟨by simp only []; omega, (te_le k2).2, k3⟩, ent_of [] [] [] rfl (by (repeat' first | exact trivial | exact rfl | exact ⟨rfl, rfl⟩ | exact .inl rfl | refine ⟨_, rfl, rfl, rfl, ?_⟩ | refine ⟨_, _, rfl, ?_, ?_⟩ | refine ⟨_, rfl, ?_⟩ | refine And.intro ?_ ?_)) ⟨⟨_, rfl, rfl, rfl, _, rfl, _, _, rfl, rfl, _, _, rfl, hv _ _ _ (fix _ _ _) (fun _ _ => rfl), _, _, rfl, rfl, _, _, rfl, rfl, _, _, rfl, rfl, rfl⟩, trivial⟩ rfl, by show ws.length - (k + 1) < ws.length - k; omega⟩
    · have h2 : ¬ tok s q = w := h2
      rw [if_neg h2] at k3
      refine (fail_h TNs g v (nx s q) [.str s, .str (tok s q)]).holds.mono fun e H' hq => ?_
      obtain ⟨rfl, rfl⟩ := hq
      exact ⟨[], [], [], placeX (nx s q), ⟨2, []⟩, rfl, ⟨_, rfl, _, _, rfl, rfl, rfl⟩, trivial, by rw [← k3]; exact ⟨rfl, rfl⟩⟩
  · have h1 : ¬ (k : Int) < (ws.length : Nat) := h1
    rw [show ws.drop k = [] from List.drop_eq_nil_of_le (by omega), expectP] at k3
    exact ⟨[], [], [], .returned und, psH g v s q, rfl, by (repeat' first | exact trivial | exact rfl | exact ⟨rfl, rfl⟩ | exact .inl rfl | refine ⟨_, rfl, rfl, rfl, ?_⟩ | refine ⟨_, _, rfl, ?_, ?_⟩ | refine ⟨_, rfl, ?_⟩ | refine And.intro ?_ ?_), ⟨⟨_, rfl, rfl, rfl, _, rfl, _, _, rfl, rfl, _, _, rfl, hv _ _ _ (fix _ _ _) (fun _ _ => rfl), _, _, rfl, rfl, _, _, rfl, rfl, _, _, rfl, rfl, rfl⟩, trivial⟩, by rw [← k3]; exact ⟨rfl, rfl⟩⟩

theorem take_h (g : Int) (v : AV) (s : List UInt8) (q : Nat) (hv : Self 2 v) (hs : s.length ≤ 100000) (hq : q ≤ s.length) : HoldsG cx 150 [.ptr 0 0 0] (psH g v s q) (rdQ (numP s q) (fun n => .p (i64 n)) (psH g v s)) := by
  refine holdsN_of_vc Tryz.func150 rfl rfl rfl ?_
  have fix : ∀ ps N1 N n, n < 2 → rmap 2 ps N1 N n = n := fun ps N1 N n h => rmap_fix h
  have hN := num_h' TNs g v (nx s q) [.str s, .str (tok s q)] hv (tok s q) (by have := tok_len hq; have := te_le hq; omega)
  refine VDraw.seq rfl ?_
  by_cases hn : numB (tok s q) = true
  · refine hN.holds.mono fun e H' hq' => ?_
    obtain ⟨rfl, h⟩ := hq'
    rw [if_pos hn] at h
    subst h
    refine (next_ps g v s q hv hs hq).holds.mono fun e H' hq' => ?_
    obtain ⟨rfl, rfl⟩ := hq'
    exact ⟨[], [], [], .returned (.p (i64 (valN (tok s q)))), psH g v s (te s q), rfl, by (repeat' first | exact trivial | exact rfl | exact ⟨rfl, rfl⟩ | exact .inl rfl | refine ⟨_, rfl, rfl, rfl, ?_⟩ | refine ⟨_, _, rfl, ?_, ?_⟩ | refine ⟨_, rfl, ?_⟩ | refine And.intro ?_ ?_), ⟨⟨_, rfl, rfl, rfl, _, rfl, _, _, rfl, rfl, _, _, rfl, hv _ _ _ (fix _ _ _) (fun _ _ => rfl), _, _, rfl, rfl, _, _, rfl, rfl, _, _, rfl, rfl, rfl⟩, trivial⟩, by rw [numP, if_pos hn]; exact ⟨rfl, rfl⟩⟩
  · refine hN.holds.mono fun e H' hq' => ?_
    obtain ⟨rfl, h⟩ := hq'
    rw [if_neg hn] at h
    subst h
    exact ⟨[], [], [], placeX (nx s q), ⟨2, []⟩, rfl, ⟨_, rfl, _, _, rfl, rfl, rfl⟩, trivial, by rw [numP, if_neg hn]; exact ⟨rfl, rfl⟩⟩
end Go.Proofs.YtphmmoloegjocaaGreatDoor

/- The program's nested reader: node. -/
namespace Go.Proofs.YtphmmoloegjocaaGreatDoor
open Go Y
set_option maxRecDepth 100000
set_option maxHeartbeats 40000000

theorem then_assoc {α β γ : Type} (r : Rd α) (k : α → Nat → Rd β) (m : β → Nat → Rd γ) : (r.then k).then m = r.then fun a q => (k a q).then m := by
  cases r <;> rfl
theorem exp1 {α : Type} (s w : List UInt8) (q : Nat) (k : Unit → Nat → Rd α) : (expectP s [w] q).then k = (mustP s w q).then k := by
  rw [expectP, then_assoc]; rfl
theorem exp2 {α : Type} (s w w' : List UInt8) (q : Nat) (k : Unit → Nat → Rd α) : (expectP s [w, w'] q).then k = (mustP s w q).then fun _ q => (mustP s w' q).then k := by
  rw [expectP, then_assoc]
  congr 1
  funext _ q
  exact exp1 s w' q k
theorem num_lt {s : List UInt8} {q q' : Nat} {n : Int} (hq : q ≤ s.length) (h : numP s q = .inr (n, q')) : q < q' ∧ q' ≤ s.length := by
  rw [numP] at h
  split at h
  · rename_i hn
    cases h
    have := num_len hn
    exact ⟨te_lt hq (fun e => by rw [e] at this; simp at this), (te_le hq).2⟩
  · cases h

theorem LInv.is {α : Type} {R x : Rd α} {go : Nat → Rd α} {n q1 p : Nat} (h : LInv false q1 R go n p false) (hgo : ∀ f, go (f + 1) = x) : R = x := by
  obtain ⟨f, hf, rfl⟩ : ∃ f, n - p < f ∧ R = go f := h
  obtain ⟨f, rfl⟩ : ∃ g, f = g + 1 := ⟨f - 1, by omega⟩
  exact hgo f
theorem LInv.nxt {α : Type} {R : Rd α} {go go' : Nat → Rd α} {n q1 p q : Nat} (h : LInv false q1 R go n p false) (hgo : ∀ f, go (f + 1) = go' f) (hlt : p < q) (hq : q ≤ n) : LInv false q1 R go' n q false := by
  obtain ⟨f, hf, rfl⟩ : ∃ f, n - p < f ∧ R = go f := h
  obtain ⟨f, rfl⟩ : ∃ g, f = g + 1 := ⟨f - 1, by omega⟩
  exact ⟨f, by omega, hgo f⟩
abbrev pn (acc : List Nd) : AV := .sl 1 3 0 acc.length
def nodeQ (g : Int) (s : List UInt8) (acc : List Nd) (r : Rd Nd) (e : AE) (H' : Hp) : Prop := match r with
  | .inl p => e = placeX p ∧ H' = ⟨2, []⟩
  | .inr (x, q) => e = .returned und ∧ H' = ⟨3, [(2, nsO (acc ++ [x])), (0, nrO g (.sl 2 3 0 (acc.length + 1)) (nx s q) s (tok s q))]⟩
def npO (c : Int) (n : Nat) : AObj := ⟨TNode, false, .bx [.p (i64 c), .sl 3 1 0 n, .p .nils]⟩
theorem node_p (g : Int) (s : List UInt8) (F q0 : Nat) (acc : List Nd) (hF : s.length < F) (hs : s.length ≤ 100000) (hq0 : q0 ≤ s.length) (ha : acc.length ≤ 100000) : HoldsG cx 151 [.ptr 0 0 0] ⟨2, [(1, nsO acc), (0, nrO g (pn acc) (nx s q0) s (tok s q0))]⟩ (nodeQ g s acc (nodeRd s F q0)) := by
  refine holdsN_of_vc Tryz.func151 rfl rfl rfl ?_
  have hv : Self 2 (pn acc) := self_sl (by omega)
  have hE := expect_h g (pn acc) s q0 [kOpen, kNode] hv hs hq0 (by simp)
  have hR : nodeRd s F q0 = (expectP s [kOpen, kNode] q0).then fun _ q => (numP s q).then fun c q => (lstP s F q).then fun ps q => (rowsP s F F [] q).then fun rs q => (mustP s kClose q).then fun _ q => .inr (⟨c, ps, rs⟩, q) := by rw [exp2]; rfl
  refine hE.holds.useN [2] [] rfl (by (repeat' first | exact trivial | exact rfl | exact ⟨rfl, rfl⟩ | exact .inl rfl | refine ⟨_, rfl, rfl, rfl, ?_⟩ | refine ⟨_, _, rfl, ?_, ?_⟩ | refine ⟨_, rfl, ?_⟩ | refine And.intro ?_ ?_)) ⟨_, _, rfl, ⟨rfl, rfl⟩, _, _, rfl, ⟨_, rfl, by decide, rfl⟩, rfl⟩ fun e0 H0 hq => ?_
  rcases hr : expectP s [kOpen, kNode] q0 with p | ⟨⟨⟩, q1⟩
  · rw [hr] at hq hR
    obtain ⟨rfl, rfl⟩ := hq
    refine ⟨rfl, ?_⟩
    exact ⟨[], [], [], placeX p, ⟨2, []⟩, rfl, ⟨_, rfl, _, _, rfl, rfl, rfl⟩, trivial, by rw [show nodeRd s F q0 = .inl p from hR]; exact ⟨rfl, rfl⟩⟩
  have hq1 := expect_le hq0 hr
  rw [hr] at hq hR
  obtain ⟨rfl, rfl⟩ := hq
  refine ⟨rfl, ?_⟩
  have hR : nodeRd s F q0 = (numP s q1).then fun c q => (lstP s F q).then fun ps q => (rowsP s F F [] q).then fun rs q => (mustP s kClose q).then fun _ q => .inr (⟨c, ps, rs⟩, q) := hR
  refine (take_h g (pn acc) s q1 hv hs hq1.2).holds.useN [] [] rfl (by (repeat' first | exact trivial | exact rfl | exact ⟨rfl, rfl⟩ | exact .inl rfl | refine ⟨_, rfl, rfl, rfl, ?_⟩ | refine ⟨_, _, rfl, ?_, ?_⟩ | refine ⟨_, rfl, ?_⟩ | refine And.intro ?_ ?_)) (by (repeat' first | exact trivial | exact rfl | exact ⟨rfl, rfl⟩ | exact .inl rfl | refine ⟨_, rfl, rfl, rfl, ?_⟩ | refine ⟨_, _, rfl, ?_, ?_⟩ | refine ⟨_, rfl, ?_⟩ | refine And.intro ?_ ?_)) fun e0 H0 hq => ?_
  rcases hn : numP s q1 with p | ⟨c, q2⟩
  · rw [hn] at hq hR
    obtain ⟨rfl, rfl⟩ := hq
    refine ⟨rfl, ?_⟩
    exact ⟨[], [], [], placeX p, ⟨2, []⟩, rfl, ⟨_, rfl, _, _, rfl, rfl, rfl⟩, trivial, by rw [show nodeRd s F q0 = .inl p from hR]; exact ⟨rfl, rfl⟩⟩
  have hq2 := num_lt hq1.2 hn
  rw [hn] at hq hR
  obtain ⟨rfl, rfl⟩ := hq
  refine ⟨rfl, ?_⟩
  have hR : nodeRd s F q0 = (expectP s [kOpen] q2).then fun _ q => (numsP s F [] q).then fun ps q => (mustP s kClose q).then fun _ q => (rowsP s F F [] q).then fun rs q => (mustP s kClose q).then fun _ q => .inr (⟨c, ps, rs⟩, q) := by
    rw [hR, exp1]
    show (lstP s F q2).then _ = _
    rw [lstP, then_assoc]
    congr 1
    funext _ q
    rw [then_assoc]
    congr 1
    funext _ q
    rw [then_assoc]
    rfl
  refine (expect_h g (pn acc) s q2 [kOpen] hv hs hq2.2 (by simp)).holds.useN [4] [] rfl (by (repeat' first | exact trivial | exact rfl | exact ⟨rfl, rfl⟩ | exact .inl rfl | refine ⟨_, rfl, rfl, rfl, ?_⟩ | refine ⟨_, _, rfl, ?_, ?_⟩ | refine ⟨_, rfl, ?_⟩ | refine And.intro ?_ ?_)) ⟨_, _, rfl, ⟨rfl, rfl⟩, _, _, rfl, ⟨_, rfl, by decide, rfl⟩, rfl⟩ fun e0 H0 hq => ?_
  rcases hr3 : expectP s [kOpen] q2 with p | ⟨⟨⟩, q3⟩
  · rw [hr3] at hq hR
    obtain ⟨rfl, rfl⟩ := hq
    refine ⟨rfl, ?_⟩
    exact ⟨[], [], [], placeX p, ⟨2, []⟩, rfl, ⟨_, rfl, _, _, rfl, rfl, rfl⟩, trivial, by rw [show nodeRd s F q0 = .inl p from hR]; exact ⟨rfl, rfl⟩⟩
  have hq3 := expect_le hq2.2 hr3
  rw [hr3] at hq hR
  obtain ⟨rfl, rfl⟩ := hq
  refine ⟨rfl, ?_⟩
  have hR : nodeRd s F q0 = (numsP s F [] q3).then fun ps q => (mustP s kClose q).then fun _ q => (rowsP s F F [] q).then fun rs q => (mustP s kClose q).then fun _ q => .inr (⟨c, ps, rs⟩, q) := hR
  refine ⟨List Int × Nat, fun x => [(0, .ptr 0 0 0), (2, .ptr 2 0 0)], fun x => ⟨4, [(3, iO x.1), (2, npO c x.1.length), (1, nsO acc), (0, nrO g (pn acc) (nx s x.2) s (tok s x.2))]⟩,
    fun x => x.2 ≤ s.length ∧ x.1.length ≤ x.2 ∧ LInv false q3 (numsP s F [] q3) (fun f => numsP s f x.1 x.2) s.length x.2 false, fun x => s.length - x.2, ?_, ?_⟩
  · exact ⟨([], q3), ⟨hq3.2, by simp, LInv.init (go := fun f => numsP s f [] q3) (F := F) (n := s.length) (by omega)⟩, ent_of [] [(2, 3)] [(3, 1)] rfl (by (repeat' first | exact trivial | exact rfl | exact ⟨rfl, rfl⟩ | exact .inl rfl | refine ⟨_, rfl, rfl, rfl, ?_⟩ | refine ⟨_, _, rfl, ?_, ?_⟩ | refine ⟨_, rfl, ?_⟩ | refine And.intro ?_ ?_)) ⟨⟨rfl, rfl, rfl⟩, ⟨_, rfl, rfl, rfl, _, rfl, _, _, rfl, rfl, _, _, rfl, ⟨rfl, rfl, rfl, rfl⟩, _, _, rfl, .inl rfl, rfl⟩, ⟨_, rfl, rfl, rfl, rfl⟩, ⟨_, rfl, rfl, rfl, _, rfl, by (repeat' first | exact trivial | exact rfl | exact ⟨rfl, rfl⟩ | exact .inl rfl | refine ⟨_, rfl, rfl, rfl, ?_⟩ | refine ⟨_, _, rfl, ?_, ?_⟩ | refine ⟨_, rfl, ?_⟩ | refine And.intro ?_ ?_)⟩, trivial⟩ rfl⟩
  rintro ⟨ps, q4⟩ ⟨g1, g2, g3⟩
  simp only [] at g1 g2 g3
  (first | refine brLt (fun h1 => ?_) (fun h1 => ?_) | refine brLe (fun h1 => ?_) (fun h1 => ?_) | refine brEq (fun h1 => ?_) (fun h1 => ?_))
  rotate_left
  · have h1 : ¬ tok s q4 = kClose := h1
    refine VDraw.seq rfl ?_
    refine (take_h g (pn acc) s q4 hv hs g1).holds.useN [] [] rfl (by (repeat' first | exact trivial | exact rfl | exact ⟨rfl, rfl⟩ | exact .inl rfl | refine ⟨_, rfl, rfl, rfl, ?_⟩ | refine ⟨_, _, rfl, ?_, ?_⟩ | refine ⟨_, rfl, ?_⟩ | refine And.intro ?_ ?_)) (by (repeat' first | exact trivial | exact rfl | exact ⟨rfl, rfl⟩ | exact .inl rfl | refine ⟨_, rfl, rfl, rfl, ?_⟩ | refine ⟨_, _, rfl, ?_, ?_⟩ | refine ⟨_, rfl, ?_⟩ | refine And.intro ?_ ?_)) fun e0 H0 hq => ?_
    rcases hn4 : numP s q4 with p | ⟨n, q5⟩
    · rw [hn4] at hq
      obtain ⟨rfl, rfl⟩ := hq
      have g4 : numsP s F [] q3 = .inl p := g3.is fun f => by rw [numsP, if_neg h1, hn4]; rfl
      rw [g4] at hR
      refine ⟨rfl, ?_⟩
      exact ⟨[], [], [], placeX p, ⟨2, []⟩, rfl, ⟨_, rfl, _, _, rfl, rfl, rfl⟩, trivial, by rw [show nodeRd s F q0 = .inl p from hR]; exact ⟨rfl, rfl⟩⟩
    have hq5 := num_lt g1 hn4
    rw [hn4] at hq
    obtain ⟨rfl, rfl⟩ := hq
    refine ⟨rfl, ?_⟩
    refine ⟨by (repeat' first | exact trivial | exact rfl | exact ⟨rfl, rfl⟩ | exact .inl rfl | refine ⟨_, rfl, rfl, rfl, ?_⟩ | refine ⟨_, _, rfl, ?_, ?_⟩ | refine ⟨_, rfl, ?_⟩ | refine And.intro ?_ ?_), ?_⟩
    refine ⟨by (repeat' first | exact trivial | exact rfl | exact ⟨rfl, rfl⟩ | exact .inl rfl | refine ⟨_, rfl, rfl, rfl, ?_⟩ | refine ⟨_, _, rfl, ?_, ?_⟩ | refine ⟨_, rfl, ?_⟩ | refine And.intro ?_ ?_), ?_⟩
    refine ⟨by show 0 + 1 ≤ 1; omega, [i64 n], rfl, ?_⟩
    refine ⟨by show 0 + ps.length ≤ (ps.map i64).length; simp, ps.map i64, takeAll (by simp), by show (ps.length + 1) * 8 ≤ 140737488355328; omega, (ps ++ [n]).map i64, by simp, ?_⟩
    refine ⟨(ps ++ [n], q5), ⟨hq5.2, by simp only [snoc_len]; omega, g3.nxt (fun f => by rw [numsP, if_neg h1, hn4]; rfl) hq5.1 hq5.2⟩, ent_of [] [(3, 5)] [] rfl (by (repeat' first | exact trivial | exact rfl | exact ⟨rfl, rfl⟩ | exact .inl rfl | refine ⟨_, rfl, rfl, rfl, ?_⟩ | refine ⟨_, _, rfl, ?_, ?_⟩ | refine ⟨_, rfl, ?_⟩ | refine And.intro ?_ ?_)) ⟨⟨_, rfl, rfl, rfl, rfl⟩, ⟨_, rfl, rfl, rfl, _, rfl, _, _, rfl, rfl, _, _, rfl, congrArg (fun m => AV.sl 5 1 0 m) (snoc_len ps n).symm, _, _, rfl, .inl rfl, rfl⟩, ⟨_, rfl, rfl, rfl, rfl⟩, ⟨_, rfl, rfl, rfl, _, rfl, by (repeat' first | exact trivial | exact rfl | exact ⟨rfl, rfl⟩ | exact .inl rfl | refine ⟨_, rfl, rfl, rfl, ?_⟩ | refine ⟨_, _, rfl, ?_, ?_⟩ | refine ⟨_, rfl, ?_⟩ | refine And.intro ?_ ?_)⟩, trivial⟩ rfl, by show s.length - q5 < s.length - q4; omega⟩
  have h1 : tok s q4 = kClose := h1
  have g4 : numsP s F [] q3 = .inr (ps, nx s q4) := g3.is fun f => by rw [numsP, if_pos h1]
  rw [g4] at hR
  have hR : nodeRd s F q0 = (mustP s kClose (nx s q4)).then fun _ q => (rowsP s F F [] q).then fun rs q => (mustP s kClose q).then fun _ q => .inr (⟨c, ps, rs⟩, q) := hR
  rw [must_nx, ← exp1] at hR
  refine (expect_h g (pn acc) s q4 [kClose] hv hs g1 (by simp)).holds.useN [4] [] rfl (by (repeat' first | exact trivial | exact rfl | exact ⟨rfl, rfl⟩ | exact .inl rfl | refine ⟨_, rfl, rfl, rfl, ?_⟩ | refine ⟨_, _, rfl, ?_, ?_⟩ | refine ⟨_, rfl, ?_⟩ | refine And.intro ?_ ?_)) ⟨_, _, rfl, ⟨rfl, rfl⟩, _, _, rfl, ⟨_, rfl, by decide, rfl⟩, rfl⟩ fun e0 H0 hq => ?_
  rcases hr6 : expectP s [kClose] q4 with p | ⟨⟨⟩, q6⟩
  · rw [hr6] at hq hR
    obtain ⟨rfl, rfl⟩ := hq
    refine ⟨rfl, ?_⟩
    exact ⟨[], [], [], placeX p, ⟨2, []⟩, rfl, ⟨_, rfl, _, _, rfl, rfl, rfl⟩, trivial, by rw [show nodeRd s F q0 = .inl p from hR]; exact ⟨rfl, rfl⟩⟩
  have hq6 := expect_le g1 hr6
  rw [hr6] at hq hR
  obtain ⟨rfl, rfl⟩ := hq
  refine ⟨rfl, ?_⟩
  have hR : nodeRd s F q0 = (rowsP s F F [] q6).then fun rs q => (mustP s kClose q).then fun _ q => .inr (⟨c, ps, rs⟩, q) := hR
  refine ⟨List (List Int) × Nat, fun x => [(0, .ptr 0 0 0), (2, .ptr 2 0 0)], fun x => ⟨4, [(3, rO x.1), (2, ndqO c ps x.1.length), (1, nsO acc), (0, nrO g (pn acc) (nx s x.2) s (tok s x.2))]⟩,
    fun x => x.2 ≤ s.length ∧ x.1.length ≤ x.2 ∧ LInv false q6 (rowsP s F F [] q6) (fun f => rowsP s F f x.1 x.2) s.length x.2 false, fun x => s.length - x.2, ?_, ?_⟩
  · exact ⟨([], q6), ⟨hq6.2, by simp, LInv.init (go := fun f => rowsP s F f [] q6) (F := F) (n := s.length) (by omega)⟩, ent_of [3] [] [(3, 1)] rfl (by (repeat' first | exact trivial | exact rfl | exact ⟨rfl, rfl⟩ | exact .inl rfl | refine ⟨_, rfl, rfl, rfl, ?_⟩ | refine ⟨_, _, rfl, ?_, ?_⟩ | refine ⟨_, rfl, ?_⟩ | refine And.intro ?_ ?_)) ⟨⟨rfl, rfl, rfl⟩, ⟨_, rfl, rfl, rfl, _, rfl, _, _, rfl, rfl, _, _, rfl, ⟨_, rfl, by show 0 + ps.length ≤ (ps.map i64).length; simp, takeAll (by simp)⟩, _, _, rfl, ⟨rfl, rfl, rfl, rfl⟩, rfl⟩, ⟨_, rfl, rfl, rfl, rfl⟩, ⟨_, rfl, rfl, rfl, _, rfl, by (repeat' first | exact trivial | exact rfl | exact ⟨rfl, rfl⟩ | exact .inl rfl | refine ⟨_, rfl, rfl, rfl, ?_⟩ | refine ⟨_, _, rfl, ?_, ?_⟩ | refine ⟨_, rfl, ?_⟩ | refine And.intro ?_ ?_)⟩, trivial⟩ rfl⟩
  rintro ⟨rs, q7⟩ ⟨i1, i2, i3⟩
  simp only [] at i1 i2 i3
  (first | refine brLt (fun h2 => ?_) (fun h2 => ?_) | refine brLe (fun h2 => ?_) (fun h2 => ?_) | refine brEq (fun h2 => ?_) (fun h2 => ?_))
  rotate_left
  · have h2 : ¬ tok s q7 = kOpen := h2
    have hE := expect_h g (pn acc) s q7 [kClose] hv hs i1 (by simp)
    rw [expectP, mustP] at hE
    by_cases h3 : tok s q7 = kClose
    · have g6 : rowsP s F F [] q6 = .inr (rs, nx s q7) := i3.is fun f => by rw [rowsP, if_pos h3]
      rw [g6] at hR
      have hR : nodeRd s F q0 = (mustP s kClose (nx s q7)).then fun _ q => .inr (⟨c, ps, rs⟩, q) := hR
      rw [must_nx, mustP, if_pos h3] at hR
      rw [if_pos h3] at hE
      refine hE.holds.useN [4] [] rfl (by (repeat' first | exact trivial | exact rfl | exact ⟨rfl, rfl⟩ | exact .inl rfl | refine ⟨_, rfl, rfl, rfl, ?_⟩ | refine ⟨_, _, rfl, ?_, ?_⟩ | refine ⟨_, rfl, ?_⟩ | refine And.intro ?_ ?_)) ⟨_, _, rfl, ⟨rfl, rfl⟩, _, _, rfl, ⟨_, rfl, by decide, rfl⟩, rfl⟩ fun e0 H0 hq => ?_
      obtain ⟨rfl, rfl⟩ := hq
      refine ⟨rfl, ?_⟩
      refine VDraw.seq rfl ?_
      refine ⟨by (repeat' first | exact trivial | exact rfl | exact ⟨rfl, rfl⟩ | exact .inl rfl | refine ⟨_, rfl, rfl, rfl, ?_⟩ | refine ⟨_, _, rfl, ?_, ?_⟩ | refine ⟨_, rfl, ?_⟩ | refine And.intro ?_ ?_), ?_⟩
      refine ⟨by show 0 + 1 ≤ 1; omega, [[.p (i64 c), .p (ints ps), .sl 3 1 0 rs.length]], rfl, .inl ⟨[3], [(⟨c, ps, rs⟩ : Nd).cells], rfl, ⟨_, _, rfl, ⟨_, _, rfl, rfl, _, _, rfl, rfl, _, _, rfl, ⟨_, rfl, by show 0 + rs.length ≤ (rs.map ints).length; simp, takeAll (by simp)⟩, rfl⟩, rfl⟩, ?_⟩⟩
      refine ⟨by show 0 + acc.length ≤ (acc.map Nd.cells).length; simp, acc.map Nd.cells, takeAll (by simp), by show (acc.length + 1) * 56 ≤ 140737488355328; omega, (acc ++ [(⟨c, ps, rs⟩ : Nd)]).map Nd.cells, by simp, ?_⟩
      exact ⟨[], [(2, 6)], [], .returned und, ⟨3, [(2, nsO (acc ++ [(⟨c, ps, rs⟩ : Nd)])), (0, nrO g (.sl 2 3 0 (acc.length + 1)) (nx s (te s q7)) s (tok s (te s q7)))]⟩, rfl, by (repeat' first | exact trivial | exact rfl | exact ⟨rfl, rfl⟩ | exact .inl rfl | refine ⟨_, rfl, rfl, rfl, ?_⟩ | refine ⟨_, _, rfl, ?_, ?_⟩ | refine ⟨_, rfl, ?_⟩ | refine And.intro ?_ ?_), ⟨⟨_, rfl, rfl, rfl, rfl⟩, ⟨_, rfl, rfl, rfl, _, rfl, _, _, rfl, rfl, _, _, rfl, rfl, _, _, rfl, rfl, _, _, rfl, rfl, _, _, rfl, rfl, rfl⟩, trivial⟩, by rw [hR]; exact ⟨rfl, rfl⟩⟩
    · have g6 : rowsP s F F [] q6 = .inl (nx s q7) := i3.is fun f => by rw [rowsP, if_neg h3, rowRd, mustP, if_neg h2]; rfl
      rw [g6] at hR
      rw [if_neg h3] at hE
      refine hE.holds.useN [4] [] rfl (by (repeat' first | exact trivial | exact rfl | exact ⟨rfl, rfl⟩ | exact .inl rfl | refine ⟨_, rfl, rfl, rfl, ?_⟩ | refine ⟨_, _, rfl, ?_, ?_⟩ | refine ⟨_, rfl, ?_⟩ | refine And.intro ?_ ?_)) ⟨_, _, rfl, ⟨rfl, rfl⟩, _, _, rfl, ⟨_, rfl, by decide, rfl⟩, rfl⟩ fun e0 H0 hq => ?_
      obtain ⟨rfl, rfl⟩ := hq
      refine ⟨rfl, ?_⟩
      exact ⟨[], [], [], placeX (nx s q7), ⟨2, []⟩, rfl, ⟨_, rfl, _, _, rfl, rfl, rfl⟩, trivial, by rw [show nodeRd s F q0 = .inl (nx s q7) from hR]; exact ⟨rfl, rfl⟩⟩
  have h2 : tok s q7 = kOpen := h2
  have h2c : ¬ tok s q7 = kClose := by rw [h2]; decide
  have hrow : rowRd s F q7 = (numP s (te s q7)).then fun v q => (numsP s F [v] q).then fun l q => (mustP s kClose q).then fun _ q => .inr (l, q) := by rw [rowRd, mustP, if_pos h2]; rfl
  have hte := te_le i1
  have hnxl := nx_le i1
  have hE := expect_h g (pn acc) s q7 [kOpen] hv hs i1 (by simp)
  rw [expectP, mustP, if_pos h2] at hE
  refine hE.holds.useN [4] [] rfl (by (repeat' first | exact trivial | exact rfl | exact ⟨rfl, rfl⟩ | exact .inl rfl | refine ⟨_, rfl, rfl, rfl, ?_⟩ | refine ⟨_, _, rfl, ?_, ?_⟩ | refine ⟨_, rfl, ?_⟩ | refine And.intro ?_ ?_)) ⟨_, _, rfl, ⟨rfl, rfl⟩, _, _, rfl, ⟨_, rfl, by decide, rfl⟩, rfl⟩ fun e0 H0 hq => ?_
  obtain ⟨rfl, rfl⟩ := hq
  refine ⟨rfl, ?_⟩
  refine (take_h g (pn acc) s (te s q7) hv hs hte.2).holds.useN [] [] rfl (by (repeat' first | exact trivial | exact rfl | exact ⟨rfl, rfl⟩ | exact .inl rfl | refine ⟨_, rfl, rfl, rfl, ?_⟩ | refine ⟨_, _, rfl, ?_, ?_⟩ | refine ⟨_, rfl, ?_⟩ | refine And.intro ?_ ?_)) (by (repeat' first | exact trivial | exact rfl | exact ⟨rfl, rfl⟩ | exact .inl rfl | refine ⟨_, rfl, rfl, rfl, ?_⟩ | refine ⟨_, _, rfl, ?_, ?_⟩ | refine ⟨_, rfl, ?_⟩ | refine And.intro ?_ ?_)) fun e0 H0 hq => ?_
  rcases hn8 : numP s (te s q7) with p | ⟨v, q9⟩
  · rw [hn8] at hq
    obtain ⟨rfl, rfl⟩ := hq
    have g6 : rowsP s F F [] q6 = .inl p := i3.is fun f => by rw [rowsP, if_neg h2c, hrow, hn8]; rfl
    rw [g6] at hR
    refine ⟨rfl, ?_⟩
    exact ⟨[], [], [], placeX p, ⟨2, []⟩, rfl, ⟨_, rfl, _, _, rfl, rfl, rfl⟩, trivial, by rw [show nodeRd s F q0 = .inl p from hR]; exact ⟨rfl, rfl⟩⟩
  have hq9 := num_lt hte.2 hn8
  rw [hn8] at hq hrow
  obtain ⟨rfl, rfl⟩ := hq
  have hrow : rowRd s F q7 = (numsP s F [v] q9).then fun l q => (mustP s kClose q).then fun _ q => .inr (l, q) := hrow
  refine ⟨rfl, ?_⟩
  refine ⟨List Int × Nat, fun x => [(0, .ptr 0 0 0), (2, .ptr 2 0 0), (3, .sl 4 1 0 x.1.length)], fun x => ⟨5, [(4, iO x.1), (3, rO rs), (2, ndqO c ps rs.length), (1, nsO acc), (0, nrO g (pn acc) (nx s x.2) s (tok s x.2))]⟩,
    fun x => q9 ≤ x.2 ∧ x.2 ≤ s.length ∧ x.1.length ≤ x.2 ∧ LInv false q9 (numsP s F [v] q9) (fun f => numsP s f x.1 x.2) s.length x.2 false, fun x => s.length - x.2, ?_, ?_⟩
  · exact ⟨([v], q9), ⟨Nat.le_refl _, hq9.2, by show 1 ≤ q9; omega, LInv.init (go := fun f => numsP s f [v] q9) (F := F) (n := s.length) (by omega)⟩, ent_of [] [(4, 5)] [] rfl (by (repeat' first | exact trivial | exact rfl | exact ⟨rfl, rfl⟩ | exact .inl rfl | refine ⟨_, rfl, rfl, rfl, ?_⟩ | refine ⟨_, _, rfl, ?_, ?_⟩ | refine ⟨_, rfl, ?_⟩ | refine And.intro ?_ ?_)) ⟨⟨_, rfl, rfl, rfl, rfl⟩, ⟨_, rfl, rfl, rfl, rfl⟩, ⟨_, rfl, rfl, rfl, _, rfl, by (repeat' first | exact trivial | exact rfl | exact ⟨rfl, rfl⟩ | exact .inl rfl | refine ⟨_, rfl, rfl, rfl, ?_⟩ | refine ⟨_, _, rfl, ?_, ?_⟩ | refine ⟨_, rfl, ?_⟩ | refine And.intro ?_ ?_)⟩, ⟨_, rfl, rfl, rfl, rfl⟩, ⟨_, rfl, rfl, rfl, _, rfl, by (repeat' first | exact trivial | exact rfl | exact ⟨rfl, rfl⟩ | exact .inl rfl | refine ⟨_, rfl, rfl, rfl, ?_⟩ | refine ⟨_, _, rfl, ?_, ?_⟩ | refine ⟨_, rfl, ?_⟩ | refine And.intro ?_ ?_)⟩, trivial⟩ rfl⟩
  rintro ⟨row, q10⟩ ⟨l0, l1, l2, l3⟩
  simp only [] at l0 l1 l2 l3
  (first | refine brLt (fun h4 => ?_) (fun h4 => ?_) | refine brLe (fun h4 => ?_) (fun h4 => ?_) | refine brEq (fun h4 => ?_) (fun h4 => ?_))
  rotate_left
  · have h4 : ¬ tok s q10 = kClose := h4
    refine (take_h g (pn acc) s q10 hv hs l1).holds.useN [] [] rfl (by (repeat' first | exact trivial | exact rfl | exact ⟨rfl, rfl⟩ | exact .inl rfl | refine ⟨_, rfl, rfl, rfl, ?_⟩ | refine ⟨_, _, rfl, ?_, ?_⟩ | refine ⟨_, rfl, ?_⟩ | refine And.intro ?_ ?_)) (by (repeat' first | exact trivial | exact rfl | exact ⟨rfl, rfl⟩ | exact .inl rfl | refine ⟨_, rfl, rfl, rfl, ?_⟩ | refine ⟨_, _, rfl, ?_, ?_⟩ | refine ⟨_, rfl, ?_⟩ | refine And.intro ?_ ?_)) fun e0 H0 hq => ?_
    rcases hn10 : numP s q10 with p | ⟨n, q11⟩
    · rw [hn10] at hq
      obtain ⟨rfl, rfl⟩ := hq
      have g4 : numsP s F [v] q9 = .inl p := l3.is fun f => by rw [numsP, if_neg h4, hn10]; rfl
      rw [g4] at hrow
      have g6 : rowsP s F F [] q6 = .inl p := i3.is fun f => by rw [rowsP, if_neg h2c, hrow]; rfl
      rw [g6] at hR
      refine ⟨rfl, ?_⟩
      exact ⟨[], [], [], placeX p, ⟨2, []⟩, rfl, ⟨_, rfl, _, _, rfl, rfl, rfl⟩, trivial, by rw [show nodeRd s F q0 = .inl p from hR]; exact ⟨rfl, rfl⟩⟩
    have hq11 := num_lt l1 hn10
    rw [hn10] at hq
    obtain ⟨rfl, rfl⟩ := hq
    refine ⟨rfl, ?_⟩
    refine ⟨by show 0 + 1 ≤ 1; omega, [i64 n], rfl, ?_⟩
    refine ⟨by show 0 + row.length ≤ (row.map i64).length; simp, row.map i64, takeAll (by simp), by show (row.length + 1) * 8 ≤ 140737488355328; omega, (row ++ [n]).map i64, by simp, ?_⟩
    exact ⟨(row ++ [n], q11), ⟨by simp only []; omega, hq11.2, by simp only [snoc_len]; omega, l3.nxt (fun f => by rw [numsP, if_neg h4, hn10]; rfl) hq11.1 hq11.2⟩, ent_of [] [(4, 6)] [] rfl ⟨⟨rfl, rfl⟩, ⟨rfl, rfl⟩, congrArg (fun m => AV.sl 6 1 0 m) (snoc_len row n).symm, trivial⟩ ⟨⟨_, rfl, rfl, rfl, rfl⟩, ⟨_, rfl, rfl, rfl, rfl⟩, ⟨_, rfl, rfl, rfl, _, rfl, by (repeat' first | exact trivial | exact rfl | exact ⟨rfl, rfl⟩ | exact .inl rfl | refine ⟨_, rfl, rfl, rfl, ?_⟩ | refine ⟨_, _, rfl, ?_, ?_⟩ | refine ⟨_, rfl, ?_⟩ | refine And.intro ?_ ?_)⟩, ⟨_, rfl, rfl, rfl, rfl⟩, ⟨_, rfl, rfl, rfl, _, rfl, by (repeat' first | exact trivial | exact rfl | exact ⟨rfl, rfl⟩ | exact .inl rfl | refine ⟨_, rfl, rfl, rfl, ?_⟩ | refine ⟨_, _, rfl, ?_, ?_⟩ | refine ⟨_, rfl, ?_⟩ | refine And.intro ?_ ?_)⟩, trivial⟩ rfl, by show s.length - q11 < s.length - q10; omega⟩
  have h4 : tok s q10 = kClose := h4
  have g4 : numsP s F [v] q9 = .inr (row, nx s q10) := l3.is fun f => by rw [numsP, if_pos h4]
  have hte2 := te_le l1
  have hnx2 := nx_le l1
  rw [g4] at hrow
  have hrow : rowRd s F q7 = (mustP s kClose (nx s q10)).then fun _ q => .inr (row, q) := hrow
  rw [must_nx, mustP, if_pos h4] at hrow
  have hrow : rowRd s F q7 = .inr (row, te s q10) := hrow
  have hE2 := expect_h g (pn acc) s q10 [kClose] hv hs l1 (by simp)
  rw [expectP, mustP, if_pos h4] at hE2
  refine hE2.holds.useN [5] [] rfl (by (repeat' first | exact trivial | exact rfl | exact ⟨rfl, rfl⟩ | exact .inl rfl | refine ⟨_, rfl, rfl, rfl, ?_⟩ | refine ⟨_, _, rfl, ?_, ?_⟩ | refine ⟨_, rfl, ?_⟩ | refine And.intro ?_ ?_)) ⟨_, _, rfl, ⟨rfl, rfl⟩, _, _, rfl, ⟨_, rfl, by decide, rfl⟩, rfl⟩ fun e0 H0 hq => ?_
  obtain ⟨rfl, rfl⟩ := hq
  refine ⟨rfl, ?_⟩
  refine .inl ⟨[4], [ints row], rfl, ⟨_, _, rfl, ⟨row.map i64, rfl, by show 0 + row.length ≤ (row.map i64).length; simp, takeAll (by simp)⟩, rfl⟩, ?_⟩
  refine ⟨by show 0 + rs.length ≤ (rs.map ints).length; simp, rs.map ints, takeAll (by simp), by show (rs.length + 1) * 24 ≤ 140737488355328; omega, (rs ++ [row]).map ints, by simp, ?_⟩
  exact ⟨(rs ++ [row], te s q10), ⟨hte2.2, by simp only [snoc_len]; omega, i3.nxt (fun f => by rw [rowsP, if_neg h2c, hrow]; rfl) (by omega) hte2.2⟩, ent_of [] [(3, 7)] [] rfl (by (repeat' first | exact trivial | exact rfl | exact ⟨rfl, rfl⟩ | exact .inl rfl | refine ⟨_, rfl, rfl, rfl, ?_⟩ | refine ⟨_, _, rfl, ?_, ?_⟩ | refine ⟨_, rfl, ?_⟩ | refine And.intro ?_ ?_)) ⟨⟨_, rfl, rfl, rfl, rfl⟩, ⟨_, rfl, rfl, rfl, _, rfl, _, _, rfl, rfl, _, _, rfl, rfl, _, _, rfl, congrArg (fun m => AV.sl 7 1 0 m) (snoc_len rs row).symm, rfl⟩, ⟨_, rfl, rfl, rfl, rfl⟩, ⟨_, rfl, rfl, rfl, _, rfl, by (repeat' first | exact trivial | exact rfl | exact ⟨rfl, rfl⟩ | exact .inl rfl | refine ⟨_, rfl, rfl, rfl, ?_⟩ | refine ⟨_, _, rfl, ?_, ?_⟩ | refine ⟨_, rfl, ?_⟩ | refine And.intro ?_ ?_)⟩, trivial⟩ rfl, by show s.length - te s q10 < s.length - q7; omega⟩
end Go.Proofs.YtphmmoloegjocaaGreatDoor

/- The program's nested reader: read. -/
namespace Go.Proofs.YtphmmoloegjocaaGreatDoor
open Go Y
set_option maxRecDepth 100000
set_option maxHeartbeats 40000000

def netQ (s : List UInt8) (r : Rd Nt) (e : AE) (H' : Hp) : Prop := match r with
  | .inl p => e = placeX p ∧ H' = ⟨1, []⟩
  | .inr (n, _) => ∃ p t, e = .returned und ∧ H' = ⟨2, [(1, nsO n.nodes), (0, nrO n.grain (.sl 1 3 0 n.nodes.length) p s t)]⟩
theorem then_inr {α β : Type} {r : Rd α} {k : α → Nat → Rd β} {y : β × Nat} (h : r.then k = .inr y) : ∃ a p, r = .inr (a, p) ∧ k a p = .inr y := by
  rcases r with e | ⟨a, p⟩
  · cases h
  · exact ⟨a, p, rfl, h⟩
theorem must_le {s w : List UInt8} {q : Nat} {u : Unit} {q' : Nat} (hq : q ≤ s.length) (h : mustP s w q = .inr (u, q')) : q ≤ q' ∧ q' ≤ s.length := by
  rw [mustP] at h
  have h1 := nx_le hq
  have h2 := te_le hq
  split at h
  · cases h; omega
  · cases h
theorem nums_le {s : List UInt8} : ∀ {f : Nat} {acc l : List Int} {q q' : Nat}, q ≤ s.length → numsP s f acc q = .inr (l, q') → q ≤ q' ∧ q' ≤ s.length
  | 0, _, _, _, _, _, h => by cases h
  | f + 1, acc, l, q, q', hq, h => by
    rw [numsP] at h
    split at h
    · cases h; exact nx_le hq
    · obtain ⟨n, p, h1, h2⟩ := then_inr h
      have := num_lt hq h1
      have := nums_le this.2 h2
      omega
theorem row_le {s : List UInt8} {F : Nat} {l : List Int} {q q' : Nat} (hq : q ≤ s.length) (h : rowRd s F q = .inr (l, q')) : q ≤ q' ∧ q' ≤ s.length := by
  rw [rowRd] at h
  obtain ⟨_, p1, h1, h⟩ := then_inr h
  have a1 := must_le hq h1
  obtain ⟨_, p2, h2, h⟩ := then_inr h
  have a2 := num_lt a1.2 h2
  obtain ⟨_, p3, h3, h⟩ := then_inr h
  have a3 := nums_le a2.2 h3
  obtain ⟨_, p4, h4, h⟩ := then_inr h
  have a4 := must_le a3.2 h4
  cases h
  omega
theorem rows_le {s : List UInt8} {F : Nat} : ∀ {f : Nat} {acc l : List (List Int)} {q q' : Nat}, q ≤ s.length → rowsP s F f acc q = .inr (l, q') → q ≤ q' ∧ q' ≤ s.length
  | 0, _, _, _, _, _, h => by cases h
  | f + 1, acc, l, q, q', hq, h => by
    rw [rowsP] at h
    split at h
    · cases h; exact nx_le hq
    · obtain ⟨n, p, h1, h2⟩ := then_inr h
      have := row_le hq h1
      have := rows_le this.2 h2
      omega
theorem node_lt {s : List UInt8} {F q : Nat} {x : Nd} {q' : Nat} (hq : q ≤ s.length) (_hF : s.length < F) (h : nodeRd s F q = .inr (x, q')) : q < q' ∧ q' ≤ s.length := by
  rw [nodeRd] at h
  obtain ⟨_, p1, h1, h⟩ := then_inr h
  have a1 := must_le hq h1
  obtain ⟨_, p2, h2, h⟩ := then_inr h
  have a2 := must_le a1.2 h2
  obtain ⟨_, p3, h3, h⟩ := then_inr h
  have a3 := num_lt a2.2 h3
  obtain ⟨_, p4, h4, h⟩ := then_inr h
  rw [lstP] at h4
  obtain ⟨_, p5, h5, h4⟩ := then_inr h4
  have a5 := must_le a3.2 h5
  obtain ⟨_, p6, h6, h4⟩ := then_inr h4
  have a6 := nums_le a5.2 h6
  obtain ⟨_, p7, h7, h4⟩ := then_inr h4
  have a7 := must_le a6.2 h7
  cases h4
  obtain ⟨_, p8, h8, h⟩ := then_inr h
  have a8 := rows_le a7.2 h8
  obtain ⟨_, p9, h9, h⟩ := then_inr h
  have a9 := must_le a8.2 h9
  cases h
  omega
theorem read_p (s : List UInt8) (F : Nat) (hF : s.length < F) (hs : s.length ≤ 100000) : HoldsG cx 146 [.ptr 0 0 0, .p (.str s)] ⟨1, [(0, nrO 0 (.p .nils) 0 [] [])]⟩ (netQ s (netP s F)) := by
  refine holdsN_of_vc Tryz.func146 rfl rfl rfl ?_
  have hv : Self 2 (.p .nils) := self_nil 2
  refine (next_h 0 (.p .nils) 0 s [] 0 hv rfl hs (by omega)).useE [] [(1, 0)] rfl (by (repeat' first | exact trivial | exact rfl | exact ⟨rfl, rfl⟩ | exact .inl rfl | refine ⟨_, rfl, rfl, rfl, ?_⟩ | refine ⟨_, _, rfl, ?_, ?_⟩ | refine ⟨_, rfl, ?_⟩ | refine And.intro ?_ ?_)) (by (repeat' first | exact trivial | exact rfl | exact ⟨rfl, rfl⟩ | exact .inl rfl | refine ⟨_, rfl, rfl, rfl, ?_⟩ | refine ⟨_, _, rfl, ?_, ?_⟩ | refine ⟨_, rfl, ?_⟩ | refine And.intro ?_ ?_)) ?_
  have hR : netP s F = (expectP s [kOpen, kNet] 0).then fun _ q => (numP s q).then fun g q => (nodesP s F F [] q).then fun l q => (mustP s kClose q).then fun _ q => if tok s q = [] then .inr (⟨g, l⟩, q) else .inl (nx s q) := by rw [exp2]; rfl
  refine (expect_h 0 (.p .nils) s 0 [kOpen, kNet] hv hs (by omega) (by simp)).holds.useN [1] [(1, 0)] rfl (by (repeat' first | exact trivial | exact rfl | exact ⟨rfl, rfl⟩ | exact .inl rfl | refine ⟨_, rfl, rfl, rfl, ?_⟩ | refine ⟨_, _, rfl, ?_, ?_⟩ | refine ⟨_, rfl, ?_⟩ | refine And.intro ?_ ?_)) ⟨_, _, rfl, ⟨rfl, rfl⟩, _, _, rfl, ⟨_, rfl, by decide, rfl⟩, rfl⟩ fun e0 H0 hq => ?_
  rcases hr : expectP s [kOpen, kNet] 0 with p | ⟨⟨⟩, q1⟩
  · rw [hr] at hq hR
    obtain ⟨rfl, rfl⟩ := hq
    refine ⟨rfl, ?_⟩
    exact ⟨[], [], [], placeX p, ⟨1, []⟩, rfl, ⟨_, rfl, _, _, rfl, rfl, rfl⟩, trivial, by rw [show netP s F = .inl p from hR]; exact ⟨rfl, rfl⟩⟩
  have hq1 := expect_le (by omega) hr
  rw [hr] at hq hR
  obtain ⟨rfl, rfl⟩ := hq
  refine ⟨rfl, ?_⟩
  have hR : netP s F = (numP s q1).then fun g q => (nodesP s F F [] q).then fun l q => (mustP s kClose q).then fun _ q => if tok s q = [] then .inr (⟨g, l⟩, q) else .inl (nx s q) := hR
  refine (take_h 0 (.p .nils) s q1 hv hs hq1.2).holds.useN [] [(1, 0)] rfl (by (repeat' first | exact trivial | exact rfl | exact ⟨rfl, rfl⟩ | exact .inl rfl | refine ⟨_, rfl, rfl, rfl, ?_⟩ | refine ⟨_, _, rfl, ?_, ?_⟩ | refine ⟨_, rfl, ?_⟩ | refine And.intro ?_ ?_)) (by (repeat' first | exact trivial | exact rfl | exact ⟨rfl, rfl⟩ | exact .inl rfl | refine ⟨_, rfl, rfl, rfl, ?_⟩ | refine ⟨_, _, rfl, ?_, ?_⟩ | refine ⟨_, rfl, ?_⟩ | refine And.intro ?_ ?_)) fun e0 H0 hq => ?_
  rcases hn : numP s q1 with p | ⟨g, q2⟩
  · rw [hn] at hq hR
    obtain ⟨rfl, rfl⟩ := hq
    refine ⟨rfl, ?_⟩
    exact ⟨[], [], [], placeX p, ⟨1, []⟩, rfl, ⟨_, rfl, _, _, rfl, rfl, rfl⟩, trivial, by rw [show netP s F = .inl p from hR]; exact ⟨rfl, rfl⟩⟩
  have hq2 := num_lt hq1.2 hn
  rw [hn] at hq hR
  obtain ⟨rfl, rfl⟩ := hq
  refine ⟨rfl, ?_⟩
  have hR : netP s F = (nodesP s F F [] q2).then fun l q => (mustP s kClose q).then fun _ q => if tok s q = [] then .inr (⟨g, l⟩, q) else .inl (nx s q) := hR
  refine ⟨List Nd × Nat, fun _ => [(0, .ptr 0 0 0)], fun x => ⟨2, [(1, nsO x.1), (0, nrO g (pn x.1) (nx s x.2) s (tok s x.2))]⟩,
    fun x => x.2 ≤ s.length ∧ x.1.length ≤ x.2 ∧ LInv false q2 (nodesP s F F [] q2) (fun f => nodesP s F f x.1 x.2) s.length x.2 false, fun x => s.length - x.2, ?_, ?_⟩
  · exact ⟨([], q2), ⟨hq2.2, by simp, LInv.init (go := fun f => nodesP s F f [] q2) (F := F) (n := s.length) (by omega)⟩, ent_of [] [] [(1, 3)] rfl (by (repeat' first | exact trivial | exact rfl | exact ⟨rfl, rfl⟩ | exact .inl rfl | refine ⟨_, rfl, rfl, rfl, ?_⟩ | refine ⟨_, _, rfl, ?_, ?_⟩ | refine ⟨_, rfl, ?_⟩ | refine And.intro ?_ ?_)) ⟨⟨rfl, rfl⟩, ⟨_, rfl, rfl, rfl, _, rfl, _, _, rfl, rfl, _, _, rfl, ⟨rfl, rfl, rfl, rfl⟩, _, _, rfl, rfl, _, _, rfl, rfl, _, _, rfl, rfl, rfl⟩, trivial⟩ rfl⟩
  rintro ⟨l, q⟩ ⟨g1, g2, g3⟩
  simp only [] at g1 g2 g3
  have hv' : Self 2 (pn l) := self_sl (by omega)
  (first | refine brLt (fun h1 => ?_) (fun h1 => ?_) | refine brLe (fun h1 => ?_) (fun h1 => ?_) | refine brEq (fun h1 => ?_) (fun h1 => ?_))
  · have h1 : tok s q = kOpen := h1
    have h1c : ¬ tok s q = kClose := by rw [h1]; decide
    refine (node_p g s F q l hF hs g1 (by omega)).holds.mono fun e H' hq => ?_
    rcases hx : nodeRd s F q with p | ⟨x, q'⟩
    · rw [hx] at hq
      obtain ⟨rfl, rfl⟩ := hq
      have g4 : nodesP s F F [] q2 = .inl p := g3.is fun f => by rw [nodesP, if_neg h1c, hx]; rfl
      rw [g4] at hR
      exact ⟨[], [], [], placeX p, ⟨1, []⟩, rfl, ⟨_, rfl, _, _, rfl, rfl, rfl⟩, trivial, by rw [show netP s F = .inl p from hR]; exact ⟨rfl, rfl⟩⟩
    have hx' := node_lt g1 hF hx
    rw [hx] at hq
    obtain ⟨rfl, rfl⟩ := hq
    exact ⟨(l ++ [x], q'), ⟨hx'.2, by simp only [snoc_len]; omega, g3.nxt (fun f => by rw [nodesP, if_neg h1c, hx]; rfl) hx'.1 hx'.2⟩, ent_of [] [(1, 2)] [] rfl (by (repeat' first | exact trivial | exact rfl | exact ⟨rfl, rfl⟩ | exact .inl rfl | refine ⟨_, rfl, rfl, rfl, ?_⟩ | refine ⟨_, _, rfl, ?_, ?_⟩ | refine ⟨_, rfl, ?_⟩ | refine And.intro ?_ ?_)) ⟨⟨_, rfl, rfl, rfl, rfl⟩, ⟨_, rfl, rfl, rfl, _, rfl, _, _, rfl, rfl, _, _, rfl, congrArg (fun m => AV.sl 2 3 0 m) (snoc_len l x).symm, _, _, rfl, rfl, _, _, rfl, rfl, _, _, rfl, rfl, rfl⟩, trivial⟩ rfl, by show s.length - q' < s.length - q; omega⟩
  have h1 : ¬ tok s q = kOpen := h1
  have hE := expect_h g (pn l) s q [kClose] hv' hs g1 (by simp)
  rw [expectP, mustP] at hE
  by_cases h3 : tok s q = kClose
  · have g6 : nodesP s F F [] q2 = .inr (l, nx s q) := g3.is fun f => by rw [nodesP, if_pos h3]
    rw [g6] at hR
    have hR : netP s F = (mustP s kClose (nx s q)).then fun _ q => if tok s q = [] then .inr (⟨g, l⟩, q) else .inl (nx s q) := hR
    rw [must_nx, mustP, if_pos h3] at hR
    have hR : netP s F = if tok s (te s q) = [] then .inr (⟨g, l⟩, te s q) else .inl (nx s (te s q)) := hR
    rw [if_pos h3] at hE
    refine hE.holds.useN [2] [] rfl (by (repeat' first | exact trivial | exact rfl | exact ⟨rfl, rfl⟩ | exact .inl rfl | refine ⟨_, rfl, rfl, rfl, ?_⟩ | refine ⟨_, _, rfl, ?_, ?_⟩ | refine ⟨_, rfl, ?_⟩ | refine And.intro ?_ ?_)) ⟨_, _, rfl, ⟨rfl, rfl⟩, _, _, rfl, ⟨_, rfl, by decide, rfl⟩, rfl⟩ fun e0 H0 hq => ?_
    obtain ⟨rfl, rfl⟩ := hq
    refine ⟨rfl, ?_⟩
    (first | refine brLt (fun h4 => ?_) (fun h4 => ?_) | refine brLe (fun h4 => ?_) (fun h4 => ?_) | refine brEq (fun h4 => ?_) (fun h4 => ?_))
    · have h4 : tok s (te s q) = [] := h4
      rw [if_pos h4] at hR
      exact ⟨[], [], [], .returned und, ⟨2, [(1, nsO l), (0, nrO g (pn l) (nx s (te s q)) s (tok s (te s q)))]⟩, rfl, by (repeat' first | exact trivial | exact rfl | exact ⟨rfl, rfl⟩ | exact .inl rfl | refine ⟨_, rfl, rfl, rfl, ?_⟩ | refine ⟨_, _, rfl, ?_, ?_⟩ | refine ⟨_, rfl, ?_⟩ | refine And.intro ?_ ?_), ⟨⟨_, rfl, rfl, rfl, rfl⟩, ⟨_, rfl, rfl, rfl, _, rfl, by (repeat' first | exact trivial | exact rfl | exact ⟨rfl, rfl⟩ | exact .inl rfl | refine ⟨_, rfl, rfl, rfl, ?_⟩ | refine ⟨_, _, rfl, ?_, ?_⟩ | refine ⟨_, rfl, ?_⟩ | refine And.intro ?_ ?_)⟩, trivial⟩, by rw [hR]; exact ⟨_, _, rfl, rfl⟩⟩
    · have h4 : ¬ tok s (te s q) = [] := h4
      rw [if_neg h4] at hR
      refine (fail_h TNs g (pn l) (nx s (te s q)) [.str s, .str (tok s (te s q))]).holds.useN [] [] rfl (by (repeat' first | exact trivial | exact rfl | exact ⟨rfl, rfl⟩ | exact .inl rfl | refine ⟨_, rfl, rfl, rfl, ?_⟩ | refine ⟨_, _, rfl, ?_, ?_⟩ | refine ⟨_, rfl, ?_⟩ | refine And.intro ?_ ?_)) (by (repeat' first | exact trivial | exact rfl | exact ⟨rfl, rfl⟩ | exact .inl rfl | refine ⟨_, rfl, rfl, rfl, ?_⟩ | refine ⟨_, _, rfl, ?_, ?_⟩ | refine ⟨_, rfl, ?_⟩ | refine And.intro ?_ ?_)) fun e0 H0 hq => ?_
      obtain ⟨rfl, rfl⟩ := hq
      refine ⟨rfl, ?_⟩
      exact ⟨[], [], [], placeX (nx s (te s q)), ⟨1, []⟩, rfl, ⟨_, rfl, _, _, rfl, rfl, rfl⟩, trivial, by rw [show netP s F = .inl (nx s (te s q)) from hR]; exact ⟨rfl, rfl⟩⟩
  · have g6 : nodesP s F F [] q2 = .inl (nx s q) := g3.is fun f => by rw [nodesP, if_neg h3, nodeRd, mustP, if_neg h1]; rfl
    rw [g6] at hR
    rw [if_neg h3] at hE
    refine hE.holds.useN [2] [] rfl (by (repeat' first | exact trivial | exact rfl | exact ⟨rfl, rfl⟩ | exact .inl rfl | refine ⟨_, rfl, rfl, rfl, ?_⟩ | refine ⟨_, _, rfl, ?_, ?_⟩ | refine ⟨_, rfl, ?_⟩ | refine And.intro ?_ ?_)) ⟨_, _, rfl, ⟨rfl, rfl⟩, _, _, rfl, ⟨_, rfl, by decide, rfl⟩, rfl⟩ fun e0 H0 hq => ?_
    obtain ⟨rfl, rfl⟩ := hq
    refine ⟨rfl, ?_⟩
    exact ⟨[], [], [], placeX (nx s q), ⟨1, []⟩, rfl, ⟨_, rfl, _, _, rfl, rfl, rfl⟩, trivial, by rw [show netP s F = .inl (nx s q) from hR]; exact ⟨rfl, rfl⟩⟩
end Go.Proofs.YtphmmoloegjocaaGreatDoor

/- The program's ReadNested. -/
namespace Go.Proofs.YtphmmoloegjocaaGreatDoor
open Go Y
set_option maxRecDepth 100000
set_option maxHeartbeats 40000000

theorem result_h (T : TypeId) (g : Int) (m : Nat) (p : Nat) (rest : List PV) : HoldsG cx 147 [.ptr 0 0 0] (cmH T g (.sl 1 3 0 m) p rest) fun e H' => e = .returned (.agg [.p (i64 g), .sl 1 3 0 m]) ∧ H' = cmH T g (.sl 1 3 0 m) p rest := by
  refine holdsN_of_vc Tryz.func147 rfl rfl rfl ?_
  exact ⟨[], [], [], .returned (.agg [.p (i64 g), .sl 1 3 0 m]), cmH T g (.sl 1 3 0 m) p rest, rfl, ⟨_, rfl, _, rfl, _, _, rfl, rfl, _, _, rfl, rfl, rfl⟩, ⟨⟨_, rfl, rfl, rfl, _, rfl, _, _, rfl, rfl, _, _, rfl, rfl, _, _, rfl, rfl, seeL_p rest⟩, trivial⟩, rfl, rfl⟩
def erO (n : Int) : AObj := ⟨34, false, .bx [.p (i64 n)]⟩
def plO (n : Int) : AObj := ⟨3, false, .bx [.p (i64 n)]⟩
abbrev TPn : TypeId := 98
theorem nums_ok {s : List UInt8} : ∀ {f : Nat} {acc l : List Int} {q q' : Nat}, q ≤ s.length → acc.length ≤ q → numsP s f acc q = .inr (l, q') → l.length ≤ q'
  | 0, _, _, _, _, _, _, h => by cases h
  | f + 1, acc, l, q, q', hq, ha, h => by
    rw [numsP] at h
    split at h
    · cases h; have := nx_le hq; omega
    · obtain ⟨n, p, h1, h2⟩ := then_inr h
      have := num_lt hq h1
      exact nums_ok this.2 (by rw [snoc_len]; omega) h2
theorem rowRd_ok {s : List UInt8} {F : Nat} {l : List Int} {q q' : Nat} (hq : q ≤ s.length) (h : rowRd s F q = .inr (l, q')) : q < q' ∧ q' ≤ s.length ∧ l.length ≤ s.length := by
  rw [rowRd] at h
  obtain ⟨_, p1, h1, h⟩ := then_inr h
  have a1 := must_le hq h1
  obtain ⟨v, p2, h2, h⟩ := then_inr h
  have a2 := num_lt a1.2 h2
  obtain ⟨_, p3, h3, h⟩ := then_inr h
  have a3 := nums_le a2.2 h3
  have b3 := nums_ok a2.2 (by show 1 ≤ p2; omega) h3
  obtain ⟨_, p4, h4, h⟩ := then_inr h
  have a4 := must_le a3.2 h4
  cases h
  omega
theorem rows_ok {s : List UInt8} {F : Nat} : ∀ {f : Nat} {acc l : List (List Int)} {q q' : Nat}, q ≤ s.length → acc.length ≤ q → (∀ r ∈ acc, r.length ≤ s.length) → rowsP s F f acc q = .inr (l, q') → l.length ≤ q' ∧ ∀ r ∈ l, r.length ≤ s.length
  | 0, _, _, _, _, _, _, _, h => by cases h
  | f + 1, acc, l, q, q', hq, ha, hr, h => by
    rw [rowsP] at h
    split at h
    · cases h; have := nx_le hq; exact ⟨by omega, hr⟩
    · obtain ⟨n, p, h1, h2⟩ := then_inr h
      have := rowRd_ok hq h1
      refine rows_ok this.2.1 (by rw [snoc_len]; omega) (fun r hm => ?_) h2
      rcases List.mem_append.1 hm with hm | hm
      · exact hr r hm
      · simp only [List.mem_singleton] at hm; subst hm; exact this.2.2
theorem node_ok {s : List UInt8} {F q : Nat} {x : Nd} {q' : Nat} (hq : q ≤ s.length) (h : nodeRd s F q = .inr (x, q')) : OkX x s.length := by
  rw [nodeRd] at h
  obtain ⟨_, p1, h1, h⟩ := then_inr h
  have a1 := must_le hq h1
  obtain ⟨_, p2, h2, h⟩ := then_inr h
  have a2 := must_le a1.2 h2
  obtain ⟨_, p3, h3, h⟩ := then_inr h
  have a3 := num_lt a2.2 h3
  obtain ⟨ps, p4, h4, h⟩ := then_inr h
  rw [lstP] at h4
  obtain ⟨_, p5, h5, h4⟩ := then_inr h4
  have a5 := must_le a3.2 h5
  obtain ⟨_, p6, h6, h4⟩ := then_inr h4
  have a6 := nums_le a5.2 h6
  have b6 := nums_ok a5.2 (Nat.zero_le _) h6
  obtain ⟨_, p7, h7, h4⟩ := then_inr h4
  have a7 := must_le a6.2 h7
  cases h4
  obtain ⟨rs, p8, h8, h⟩ := then_inr h
  have a8 := rows_le a7.2 h8
  have b8 := rows_ok a7.2 (Nat.zero_le _) (by simp) h8
  obtain ⟨_, p9, h9, h⟩ := then_inr h
  cases h
  exact ⟨by show ps.length ≤ _; omega, by show rs.length ≤ _; omega, b8.2⟩
theorem nodes_ok {s : List UInt8} {F : Nat} (hF : s.length < F) : ∀ {f : Nat} {acc l : List Nd} {q q' : Nat}, q ≤ s.length → acc.length ≤ q → (∀ x ∈ acc, OkX x s.length) → nodesP s F f acc q = .inr (l, q') → (l.length ≤ q' ∧ q' ≤ s.length) ∧ ∀ x ∈ l, OkX x s.length
  | 0, _, _, _, _, _, _, _, h => by cases h
  | f + 1, acc, l, q, q', hq, ha, hr, h => by
    rw [nodesP] at h
    split at h
    · cases h; have := nx_le hq; exact ⟨by omega, hr⟩
    · obtain ⟨n, p, h1, h2⟩ := then_inr h
      have := node_lt hq hF h1
      have hk := node_ok hq h1
      refine nodes_ok hF this.2 (by rw [snoc_len]; omega) (fun r hm => ?_) h2
      rcases List.mem_append.1 hm with hm | hm
      · exact hr r hm
      · simp only [List.mem_singleton] at hm; subst hm; exact hk
theorem read_big {s : List UInt8} {F : Nat} {n : Nt} {q : Nat} (hs : s.length ≤ 50000) (hF : s.length < F) (h : netP s F = .inr (n, q)) : BigN n := by
  rw [netP] at h
  obtain ⟨_, p1, h1, h⟩ := then_inr h
  have a1 := must_le (Nat.zero_le _) h1
  obtain ⟨_, p2, h2, h⟩ := then_inr h
  have a2 := must_le a1.2 h2
  obtain ⟨g, p3, h3, h⟩ := then_inr h
  have a3 := num_lt a2.2 h3
  obtain ⟨l, p4, h4, h⟩ := then_inr h
  have a4 := nodes_ok hF a3.2 (Nat.zero_le _) (by simp) h4
  obtain ⟨_, p5, h5, h⟩ := then_inr h
  split at h
  · cases h
    exact big_of (n := s.length) (by omega) (by omega) a4.2
  · cases h
theorem read_n (s : List UInt8) (hs : s.length ≤ 50000) : HoldsG cx 55 [.iface TPn (.ptr 0 0 0), .p (.str s)] ⟨1, [(0, nrO 0 (.p .nils) 0 [] [])]⟩ fun e H' => e = .returned (.tup ((readNV s).map .p)) ∧ H' = ⟨1, []⟩ := by
  refine holdsN_of_vc Tryz.func55 rfl rfl rfl ?_
  (first | refine brLt (fun h0 => ?_) (fun h0 => ?_) | refine brLe (fun h0 => ?_) (fun h0 => ?_) | refine brEq (fun h0 => ?_) (fun h0 => ?_))
  · have h0 : (40000 : Int) < (s.length : Nat) := h0
    have e : readNV s = [znV, i64 0, i64 3] := by rw [readNV, if_pos (by omega)]
    exact ⟨[], [], [], .returned (.tup ([znV, i64 0, i64 3].map .p)), ⟨1, []⟩, rfl, ⟨_, rfl, _, rfl, _, _, rfl, rfl, _, _, rfl, rfl, _, _, rfl, rfl, rfl⟩, trivial, by rw [e], rfl⟩
  have h0 : ¬ (40000 : Int) < (s.length : Nat) := h0
  obtain ⟨F, hF⟩ : ∃ F, F = s.length + 1 := ⟨_, rfl⟩
  have hV : readNV s = match netP s F with
      | .inl e => [znV, i64 (e : Nat), i64 5]
      | .inr (n, _) => if validP n then [n.pv, i64 0, i64 0] else [znV, i64 0, i64 50] := by
    subst hF; rw [readNV]; exact if_neg (by omega)
  refine ⟨146, none, .ptr 0 0 0, by kernel_rfl, rfl, ?_⟩
  refine (read_p s F (by omega) (by omega)).holds.useN [] [] rfl (by (repeat' first | exact trivial | exact rfl | exact ⟨rfl, rfl⟩ | exact .inl rfl | refine ⟨_, rfl, rfl, rfl, ?_⟩ | refine ⟨_, _, rfl, ?_, ?_⟩ | refine ⟨_, rfl, ?_⟩ | refine And.intro ?_ ?_)) (by (repeat' first | exact trivial | exact rfl | exact ⟨rfl, rfl⟩ | exact .inl rfl | refine ⟨_, rfl, rfl, rfl, ?_⟩ | refine ⟨_, _, rfl, ?_, ?_⟩ | refine ⟨_, rfl, ?_⟩ | refine And.intro ?_ ?_)) fun e0 H0 hq => ?_
  rcases hr : netP s F with p | ⟨n, q⟩
  · rw [hr] at hq hV
    obtain ⟨rfl, rfl⟩ := hq
    refine ⟨rfl, ?_⟩
    refine holdsD_rec Tryz.func81 rfl rfl rfl ?_
    refine ⟨[], [], [], .returned und, ⟨4, [(3, erO 5), (2, plO p), (1, znO)]⟩, rfl, by (repeat' first | exact trivial | exact rfl | exact ⟨rfl, rfl⟩ | exact .inl rfl | refine ⟨_, rfl, rfl, rfl, ?_⟩ | refine ⟨_, _, rfl, ?_, ?_⟩ | refine ⟨_, rfl, ?_⟩ | refine And.intro ?_ ?_), by (repeat' first | exact trivial | exact rfl | exact ⟨rfl, rfl⟩ | exact .inl rfl | refine ⟨_, rfl, rfl, rfl, ?_⟩ | refine ⟨_, _, rfl, ?_, ?_⟩ | refine ⟨_, rfl, ?_⟩ | refine And.intro ?_ ?_), ?_⟩
    exact ⟨[], [], [], .returned (.tup ([znV, i64 (p : Nat), i64 5].map .p)), ⟨1, []⟩, rfl, ⟨_, rfl, _, rfl, _, _, rfl, rfl, _, _, rfl, rfl, _, _, rfl, rfl, rfl⟩, trivial, by rw [hV], rfl⟩
  rw [hr] at hq hV
  obtain ⟨p, t, rfl, rfl⟩ := hq
  refine ⟨rfl, ?_⟩
  refine ⟨147, some 0, .ptr 0 0 0, by kernel_rfl, rfl, ?_⟩
  refine (result_h TNs n.grain n.nodes.length p [.str s, .str t]).useE [] [(1, 4)] rfl (by (repeat' first | exact trivial | exact rfl | exact ⟨rfl, rfl⟩ | exact .inl rfl | refine ⟨_, rfl, rfl, rfl, ?_⟩ | refine ⟨_, _, rfl, ?_, ?_⟩ | refine ⟨_, rfl, ?_⟩ | refine And.intro ?_ ?_)) (by (repeat' first | exact trivial | exact rfl | exact ⟨rfl, rfl⟩ | exact .inl rfl | refine ⟨_, rfl, rfl, rfl, ?_⟩ | refine ⟨_, _, rfl, ?_, ?_⟩ | refine ⟨_, rfl, ?_⟩ | refine And.intro ?_ ?_)) ?_
  have hC := check_c n (read_big hs (by omega) hr)
  by_cases hv : validP n
  · rw [checkN, if_pos hv] at hC
    have hV : readNV s = [n.pv, i64 0, i64 0] := by rw [hV]; exact if_pos hv
    refine hC.uses [4] rfl ⟨_, _, rfl, ⟨_, rfl, _, _, rfl, rfl, _, _, rfl, ⟨_, rfl, by show 0 + n.nodes.length ≤ (n.nodes.map Nd.cells).length; simp, takeAll (by simp)⟩, rfl⟩, rfl⟩ ?_
    (first | refine brLt (fun h1 => ?_) (fun h1 => ?_) | refine brLe (fun h1 => ?_) (fun h1 => ?_) | refine brEq (fun h1 => ?_) (fun h1 => ?_))
    rotate_left
    · have h1 : ¬ (0 : Int) = 0 := h1
      exact absurd rfl h1
    refine holdsD_rec Tryz.func81 rfl rfl rfl ?_
    refine ⟨[], [], [], .returned und, ⟨5, [(4, { nsO n.nodes with fr := true }), (3, erO 0), (2, plO 0), (1, nbS 4 n.grain n.nodes.length)]⟩, rfl, by (repeat' first | exact trivial | exact rfl | exact ⟨rfl, rfl⟩ | exact .inl rfl | refine ⟨_, rfl, rfl, rfl, ?_⟩ | refine ⟨_, _, rfl, ?_, ?_⟩ | refine ⟨_, rfl, ?_⟩ | refine And.intro ?_ ?_), by (repeat' first | exact trivial | exact rfl | exact ⟨rfl, rfl⟩ | exact .inl rfl | refine ⟨_, rfl, rfl, rfl, ?_⟩ | refine ⟨_, _, rfl, ?_, ?_⟩ | refine ⟨_, rfl, ?_⟩ | refine And.intro ?_ ?_), ?_⟩
    exact ⟨[], [], [], .returned (.tup ([n.pv, i64 0, i64 0].map .p)), ⟨1, []⟩, rfl, ⟨_, rfl, _, rfl, _, _, rfl, ⟨_, rfl, _, _, rfl, rfl, _, _, rfl, ⟨_, rfl, by show 0 + n.nodes.length ≤ (n.nodes.map Nd.cells).length; simp, takeAll (by simp)⟩, rfl⟩, _, _, rfl, rfl, _, _, rfl, rfl, rfl⟩, trivial, by rw [hV], rfl⟩
  · rw [checkN, if_neg hv] at hC
    have hV : readNV s = [znV, i64 0, i64 50] := by rw [hV]; exact if_neg hv
    refine hC.uses [4] rfl ⟨_, _, rfl, ⟨_, rfl, _, _, rfl, rfl, _, _, rfl, ⟨_, rfl, by show 0 + n.nodes.length ≤ (n.nodes.map Nd.cells).length; simp, takeAll (by simp)⟩, rfl⟩, rfl⟩ ?_
    (first | refine brLt (fun h1 => ?_) (fun h1 => ?_) | refine brLe (fun h1 => ?_) (fun h1 => ?_) | refine brEq (fun h1 => ?_) (fun h1 => ?_))
    · have h1 : (50 : Int) = 0 := h1
      exact absurd h1 (by decide)
    refine holdsD_rec Tryz.func81 rfl rfl rfl ?_
    refine ⟨[], [], [], .returned und, ⟨5, [(3, erO 50), (2, plO 0), (1, znO)]⟩, rfl, by (repeat' first | exact trivial | exact rfl | exact ⟨rfl, rfl⟩ | exact .inl rfl | refine ⟨_, rfl, rfl, rfl, ?_⟩ | refine ⟨_, _, rfl, ?_, ?_⟩ | refine ⟨_, rfl, ?_⟩ | refine And.intro ?_ ?_), by (repeat' first | exact trivial | exact rfl | exact ⟨rfl, rfl⟩ | exact .inl rfl | refine ⟨_, rfl, rfl, rfl, ?_⟩ | refine ⟨_, _, rfl, ?_, ?_⟩ | refine ⟨_, rfl, ?_⟩ | refine And.intro ?_ ?_), ?_⟩
    exact ⟨[], [], [], .returned (.tup ([znV, i64 0, i64 50].map .p)), ⟨1, []⟩, rfl, ⟨_, rfl, _, rfl, _, _, rfl, rfl, _, _, rfl, rfl, _, _, rfl, rfl, rfl⟩, trivial, by rw [hV], rfl⟩
theorem readNested_p (s : List UInt8) (hs : s.length ≤ 50000) : Pure cx 21 [.str s] (· = .ret (readNV s)) := by
  refine pure_of_vc Tryz.func21 rfl rfl rfl ?_
  have hN := read_n s hs
  rw [readN_res] at hN
  rw [readN_res]
  rcases hr : readNR s with ⟨p, e⟩ | n
  · rw [hr] at hN
    refine hN.useE [] [(0, 1)] rfl (by (repeat' first | exact trivial | exact rfl | exact ⟨rfl, rfl⟩ | exact .inl rfl | refine ⟨_, rfl, rfl, rfl, ?_⟩ | refine ⟨_, _, rfl, ?_, ?_⟩ | refine ⟨_, rfl, ?_⟩ | refine And.intro ?_ ?_)) (by (repeat' first | exact trivial | exact rfl | exact ⟨rfl, rfl⟩ | exact .inl rfl | refine ⟨_, rfl, rfl, rfl, ?_⟩ | refine ⟨_, _, rfl, ?_, ?_⟩ | refine ⟨_, rfl, ?_⟩ | refine And.intro ?_ ?_)) ?_
    exact end3 znV (i64 (p : Nat)) (i64 e) rfl rfl rfl rfl rfl
  · rw [hr] at hN
    refine hN.useE [] [(0, 1)] rfl (by (repeat' first | exact trivial | exact rfl | exact ⟨rfl, rfl⟩ | exact .inl rfl | refine ⟨_, rfl, rfl, rfl, ?_⟩ | refine ⟨_, _, rfl, ?_, ?_⟩ | refine ⟨_, rfl, ?_⟩ | refine And.intro ?_ ?_)) (by (repeat' first | exact trivial | exact rfl | exact ⟨rfl, rfl⟩ | exact .inl rfl | refine ⟨_, rfl, rfl, rfl, ?_⟩ | refine ⟨_, _, rfl, ?_, ?_⟩ | refine ⟨_, rfl, ?_⟩ | refine And.intro ?_ ?_)) ?_
    exact end3 n.pv (i64 0) (i64 0) rfl rfl rfl rfl rfl
end Go.Proofs.YtphmmoloegjocaaGreatDoor

/- The program's line reader: numbers. -/
namespace Go.Proofs.YtphmmoloegjocaaGreatDoor
open Go Y
set_option maxRecDepth 100000
set_option maxHeartbeats 40000000

abbrev TLn : TypeId := 119
abbrev lrH (g : Int) (m p : Nat) : Hp := cmH TLn g (.sl 1 3 0 m) p []
def numsQ (g : Int) (m p : Nat) (ws : List (List UInt8)) (e : AE) (H' : Hp) : Prop :=
  if allB ws = true then e = .returned (.p (ints (ws.map valN))) ∧ H' = lrH g m p else e = placeX p ∧ H' = ⟨2, []⟩
theorem numbers_p (g : Int) (m p : Nat) (ws : List (List UInt8)) (hl : ws.length ≤ 100000) (hw : ∀ w ∈ ws, w.length ≤ 100000) : HoldsG cx 160 [.ptr 0 0 0, .p (strs ws)] (lrH g m p) (numsQ g m p ws) := by
  refine holdsN_of_vc Tryz.func160 rfl rfl rfl ?_
  refine ⟨by show (0 : Int) ≤ 0 ∧ (0 : Int) ≤ ((ws.map PV.str).length : Nat) ∧ (((ws.map PV.str).length : Nat) : Int) * 8 ≤ 281474976710656 ∧ (((ws.map PV.str).length : Nat) : Int) ≤ 281474976710656; rw [List.length_map]; omega, ?_⟩
  refine ⟨Nat, fun k => [(0, .ptr 0 0 0), (5, .sl 2 1 0 ((ws.take k).map valN).length), (11, .p (strs ws)), (12, .p (i64 ws.length)), (13, .p (i64 k))], fun k => ⟨3, [(2, iO ((ws.take k).map valN)), (0, cmO TLn g (.sl 1 3 0 m) p [])]⟩, fun k => k ≤ ws.length ∧ ∀ w ∈ ws.take k, numB w = true, fun k => ws.length - k, ?_, ?_⟩
  · exact ⟨0, ⟨by omega, by simp⟩, ent_of [] [] [] rfl ⟨⟨rfl, rfl⟩, rfl, rfl, congrArg (fun n : Nat => i64 n) (List.length_map ..).symm, rfl, trivial⟩ ⟨⟨_, rfl, rfl, rfl, rfl⟩, ⟨_, rfl, rfl, rfl, _, rfl, by (repeat' first | exact trivial | exact rfl | exact ⟨rfl, rfl⟩ | exact .inl rfl | refine ⟨_, rfl, rfl, rfl, ?_⟩ | refine ⟨_, _, rfl, ?_, ?_⟩ | refine ⟨_, rfl, ?_⟩ | refine And.intro ?_ ?_)⟩, trivial⟩ rfl⟩
  rintro k ⟨k1, k2⟩
  have hkm : ((ws.take k).map valN).length ≤ ws.length := by rw [List.length_map, List.length_take]; omega
  (first | refine brLt (fun h1 => ?_) (fun h1 => ?_) | refine brLe (fun h1 => ?_) (fun h1 => ?_) | refine brEq (fun h1 => ?_) (fun h1 => ?_))
  · have h1 : (k : Int) < (ws.length : Nat) := h1
    have hk : k < ws.length := by omega
    obtain ⟨w, hw'⟩ : ∃ w, w = ws.getD k [] := ⟨_, rfl⟩
    have hwl := hw _ (getD_memL [] hk)
    rw [← hw'] at hwl
    refine ⟨_, ⟨by omega, .str w, by rw [hw']; exact tcell hk, rfl⟩, ?_⟩
    refine (num_h' TLn g (.sl 1 3 0 m) p [] (self_sl (by omega)) w hwl).holds.useN [] [] rfl (by (repeat' first | exact trivial | exact rfl | exact ⟨rfl, rfl⟩ | exact .inl rfl | refine ⟨_, rfl, rfl, rfl, ?_⟩ | refine ⟨_, _, rfl, ?_, ?_⟩ | refine ⟨_, rfl, ?_⟩ | refine And.intro ?_ ?_)) (by (repeat' first | exact trivial | exact rfl | exact ⟨rfl, rfl⟩ | exact .inl rfl | refine ⟨_, rfl, rfl, rfl, ?_⟩ | refine ⟨_, _, rfl, ?_, ?_⟩ | refine ⟨_, rfl, ?_⟩ | refine And.intro ?_ ?_)) fun e0 H0 hq => ?_
    obtain ⟨rfl, hq⟩ := hq
    by_cases hn : numB w = true
    · rw [if_pos hn] at hq
      subst hq
      have e : (ws.take (k + 1)).map valN = (ws.take k).map valN ++ [valN w] := by rw [take_succ_getD [] hk, ← hw', List.map_append]; rfl
      refine ⟨rfl, ?_⟩
      refine ⟨by show 0 + 1 ≤ 1; omega, [i64 (valN w)], rfl, ?_⟩
      refine ⟨by show 0 + ((ws.take k).map valN).length ≤ (((ws.take k).map valN).map i64).length; simp, ((ws.take k).map valN).map i64, takeAll (by simp), by show (((ws.take k).map valN).length + 1) * 8 ≤ 140737488355328; omega, ((ws.take k).map valN ++ [valN w]).map i64, by simp, ?_⟩
      refine ⟨_, wrap_i64 (by omega) (by omega), ?_⟩
      refine ⟨k + 1, ⟨by omega, mem_take [] hk k2 (by rw [← hw']; exact hn)⟩, ent_of [] [(2, 4)] [] rfl ⟨⟨rfl, rfl⟩, ?_, rfl, rfl, rfl, trivial⟩ ⟨⟨_, rfl, rfl, rfl, by show ((ws.take k).map valN ++ [valN w]).map i64 = ((ws.take (k + 1)).map valN).map i64; rw [e]⟩, ⟨_, rfl, rfl, rfl, _, rfl, by (repeat' first | exact trivial | exact rfl | exact ⟨rfl, rfl⟩ | exact .inl rfl | refine ⟨_, rfl, rfl, rfl, ?_⟩ | refine ⟨_, _, rfl, ?_, ?_⟩ | refine ⟨_, rfl, ?_⟩ | refine And.intro ?_ ?_)⟩, trivial⟩ rfl, by show ws.length - (k + 1) < ws.length - k; omega⟩
      exact congrArg (fun m => AV.sl 4 1 0 m) (by rw [e, snoc_len])
    · rw [if_neg hn] at hq
      subst hq
      refine ⟨rfl, ?_⟩
      have ha : ¬ allB ws = true := fun h => by
        have := List.all_eq_true.1 h _ (getD_memL [] hk)
        rw [← hw'] at this
        exact hn this
      exact ⟨[], [], [], placeX p, ⟨2, []⟩, rfl, ⟨_, rfl, _, _, rfl, rfl, rfl⟩, trivial, by rw [numsQ, if_neg ha]; exact ⟨rfl, rfl⟩⟩
  · have h1 : ¬ (k : Int) < (ws.length : Nat) := h1
    have hlk : ws.take k = ws := take_all (by omega)
    rw [hlk] at k2
    have ha : allB ws = true := List.all_eq_true.2 k2
    refine ⟨[2], [], [], .returned (.p (ints (ws.map valN))), lrH g m p, rfl, ⟨_, rfl, ⟨_, rfl, ?_, ?_⟩⟩, ⟨⟨_, rfl, rfl, rfl, _, rfl, by (repeat' first | exact trivial | exact rfl | exact ⟨rfl, rfl⟩ | exact .inl rfl | refine ⟨_, rfl, rfl, rfl, ?_⟩ | refine ⟨_, _, rfl, ?_, ?_⟩ | refine ⟨_, rfl, ?_⟩ | refine And.intro ?_ ?_)⟩, trivial⟩, by rw [numsQ, if_pos ha]; exact ⟨rfl, rfl⟩⟩
    · show 0 + ((ws.take k).map valN).length ≤ (((ws.take k).map valN).map i64).length
      simp
    · rw [hlk]; exact takeAll (by simp)
end Go.Proofs.YtphmmoloegjocaaGreatDoor

/- The program's line reader: node. -/
namespace Go.Proofs.YtphmmoloegjocaaGreatDoor
open Go Y
set_option maxRecDepth 100000
set_option maxHeartbeats 40000000

/-- A region's orders, each shown to its end. -/
theorem vdraw_alt {C : Cx} {rd : Bool} {n0 N : Nat} {all : List Oper} {σ : Sg} {ds : List AD} {H : Hp} {K : Sg → List AD → Hp → Prop} {X : List AP → Sg → List AD → Hp → Prop}
    (h : (C.P.follows .mixedOrders && slotsOK N all (masks all []) && otOK all (masks all []) (altOT C.P (masks all []) all all.length [] []) [] [] []) = true)
    (hv : vD C rd all σ K X (altOT C.P (masks all []) all all.length [] []) [] ds H) :
    ∃ ot, (C.P.follows .mixedOrders && slotsOK N all (masks all []) && otOK all (masks all []) ot [] [] []) = true ∧
    ((vD C rd all σ K X ot [] ds H) ∨
     ∃ (α : Type) (sl : α → List (Nat × AV)) (hp : α → Hp) (pr : α → Prop),
      vD C rd all σ (fun σ' ds' H' => ∃ x, pr x ∧ Ent C n0 N σ' ds' H' (sets (fun _ => .junk) (sl x)) ds (hp x)) X ot [] ds H ∧
      ∀ x, pr x → K (sets (fun _ => .junk) (sl x)) ds (hp x)) := ⟨_, h, .inl hv⟩
abbrev Ns.heapL (n : Ns) (p s r : Nat) : Hp := ⟨r + 1, [(r, rO (lastR n.last)), (s, mO (n.rows r)), (0, cmO TLn n.g (.sl s 3 0 n.len) p [])]⟩
/-- What the words behind the word node make of a network. -/
def nodeLn (n : Ns) (w : List (List UInt8)) : Option Ns :=
  if w.length = 0 ∨ w.length = 2 ∨ (2 < w.length ∧ ¬ w.getD 1 [] = kFrom) then none
  else if numB (w.getD 0 []) = true then
    if 2 < w.length then
      if allB (w.drop 2) = true then some ⟨n.g, n.init ++ n.last.toList, some ⟨valN (w.getD 0 []), (w.drop 2).map valN, []⟩⟩ else none
    else some ⟨n.g, n.init ++ n.last.toList, some ⟨valN (w.getD 0 []), [], []⟩⟩
  else none
def lnQ (p : Nat) (r : Option Ns) (e : AE) (H' : Hp) : Prop := match r with
  | none => e = placeX p ∧ H' = ⟨3, []⟩
  | some n => e = .returned und ∧ H' = n.heapL p 3 4
def nd0O (c : Int) : AObj := ⟨TNode, false, .bx [.p (i64 c), .p .nils, .p .nils]⟩
theorem node_l (n : Ns) (p : Nat) (w : List (List UInt8)) (hn : n.len ≤ 100000) (hl : w.length ≤ 100000) (hw : ∀ v ∈ w, v.length ≤ 100000) :
    HoldsG cx 158 [.ptr 0 0 0, .p (strs w)] (n.heapL p 1 2) (lnQ p (nodeLn n w)) := by
  refine holdsN_of_vc Tryz.func158 rfl rfl rfl ?_
  have hrows := rows_len' n 2
  have hlen : ∀ x, Ns.len ⟨n.g, n.init ++ n.last.toList, some x⟩ = n.len + 1 := fun x => by
    obtain ⟨g, i, l⟩ := n
    cases l <;> simp [Ns.len]
  (first | refine brLt (fun h1 => ?_) (fun h1 => ?_) | refine brLe (fun h1 => ?_) (fun h1 => ?_) | refine brEq (fun h1 => ?_) (fun h1 => ?_))
  · have h1 : ((w.map PV.str).length : Int) = 0 := h1
    rw [List.length_map] at h1
    refine (fail_h TLn n.g (.sl 1 3 0 n.len) p []).holds.useN [] [] rfl (by (repeat' first | exact trivial | exact rfl | exact ⟨rfl, rfl⟩ | exact .inl rfl | refine ⟨_, rfl, rfl, rfl, ?_⟩ | refine ⟨_, _, rfl, ?_, ?_⟩ | refine ⟨_, rfl, ?_⟩ | refine And.intro ?_ ?_)) (by (repeat' first | exact trivial | exact rfl | exact ⟨rfl, rfl⟩ | exact .inl rfl | refine ⟨_, rfl, rfl, rfl, ?_⟩ | refine ⟨_, _, rfl, ?_, ?_⟩ | refine ⟨_, rfl, ?_⟩ | refine And.intro ?_ ?_)) fun e0 H0 hq => ?_
    obtain ⟨rfl, rfl⟩ := hq
    refine ⟨rfl, ?_⟩
    exact ⟨[], [], [], placeX p, ⟨3, []⟩, rfl, ⟨_, rfl, _, _, rfl, rfl, rfl⟩, trivial, by rw [show nodeLn n w = none from (by rw [nodeLn, if_pos (.inl (by omega))])]; exact ⟨rfl, rfl⟩⟩
  have h1 : ¬ ((w.map PV.str).length : Int) = 0 := h1
  rw [List.length_map] at h1
  (first | refine brLt (fun h2 => ?_) (fun h2 => ?_) | refine brLe (fun h2 => ?_) (fun h2 => ?_) | refine brEq (fun h2 => ?_) (fun h2 => ?_))
  · have h2 : ((w.map PV.str).length : Int) = 2 := h2
    rw [List.length_map] at h2
    refine (fail_h TLn n.g (.sl 1 3 0 n.len) p []).holds.useN [] [] rfl (by (repeat' first | exact trivial | exact rfl | exact ⟨rfl, rfl⟩ | exact .inl rfl | refine ⟨_, rfl, rfl, rfl, ?_⟩ | refine ⟨_, _, rfl, ?_, ?_⟩ | refine ⟨_, rfl, ?_⟩ | refine And.intro ?_ ?_)) (by (repeat' first | exact trivial | exact rfl | exact ⟨rfl, rfl⟩ | exact .inl rfl | refine ⟨_, rfl, rfl, rfl, ?_⟩ | refine ⟨_, _, rfl, ?_, ?_⟩ | refine ⟨_, rfl, ?_⟩ | refine And.intro ?_ ?_)) fun e0 H0 hq => ?_
    obtain ⟨rfl, rfl⟩ := hq
    refine ⟨rfl, ?_⟩
    exact ⟨[], [], [], placeX p, ⟨3, []⟩, rfl, ⟨_, rfl, _, _, rfl, rfl, rfl⟩, trivial, by rw [show nodeLn n w = none from (by rw [nodeLn, if_pos (.inr (.inl (by omega)))])]; exact ⟨rfl, rfl⟩⟩
  have h2 : ¬ ((w.map PV.str).length : Int) = 2 := h2
  rw [List.length_map] at h2
  have hw0 := hw _ (getD_memL [] (show 0 < w.length by omega))
  have hN := num_h' TLn n.g (.sl 1 3 0 n.len) p [] (self_sl (by omega)) (w.getD 0 []) hw0
  (first | refine brLt (fun h3 => ?_) (fun h3 => ?_) | refine brLe (fun h3 => ?_) (fun h3 => ?_) | refine brEq (fun h3 => ?_) (fun h3 => ?_))
  · have h3 : (2 : Int) < ((w.map PV.str).length : Nat) := h3
    rw [List.length_map] at h3
    refine ⟨_, ⟨by omega, .str (w.getD 1 []), tcell (by omega), rfl⟩, ?_⟩
    (first | refine brLt (fun h4 => ?_) (fun h4 => ?_) | refine brLe (fun h4 => ?_) (fun h4 => ?_) | refine brEq (fun h4 => ?_) (fun h4 => ?_))
    rotate_left
    · have h4 : ¬ w.getD 1 [] = kFrom := h4
      refine (fail_h TLn n.g (.sl 1 3 0 n.len) p []).holds.useN [] [] rfl (by (repeat' first | exact trivial | exact rfl | exact ⟨rfl, rfl⟩ | exact .inl rfl | refine ⟨_, rfl, rfl, rfl, ?_⟩ | refine ⟨_, _, rfl, ?_, ?_⟩ | refine ⟨_, rfl, ?_⟩ | refine And.intro ?_ ?_)) (by (repeat' first | exact trivial | exact rfl | exact ⟨rfl, rfl⟩ | exact .inl rfl | refine ⟨_, rfl, rfl, rfl, ?_⟩ | refine ⟨_, _, rfl, ?_, ?_⟩ | refine ⟨_, rfl, ?_⟩ | refine And.intro ?_ ?_)) fun e0 H0 hq => ?_
      obtain ⟨rfl, rfl⟩ := hq
      refine ⟨rfl, ?_⟩
      exact ⟨[], [], [], placeX p, ⟨3, []⟩, rfl, ⟨_, rfl, _, _, rfl, rfl, rfl⟩, trivial, by rw [show nodeLn n w = none from (by rw [nodeLn, if_pos (.inr (.inr ⟨by omega, h4⟩))])]; exact ⟨rfl, rfl⟩⟩
    have h4 : w.getD 1 [] = kFrom := h4
    have hc : ¬ (w.length = 0 ∨ w.length = 2 ∨ (2 < w.length ∧ ¬ w.getD 1 [] = kFrom)) := by
      rintro (h | h | ⟨_, h⟩)
      · omega
      · omega
      · exact h h4
    by_cases hb : numB (w.getD 0 []) = true
    · refine VDraw.altTo [(0, .ptr 0 0 0), (1, .p (strs w)), (4, .ptr 3 0 0)] ⟨4, [(3, nd0O (valN (w.getD 0 []))), (2, rO (lastR n.last)), (1, mO (n.rows 2)), (0, cmO TLn n.g (.sl 1 3 0 n.len) p [])]⟩ rfl ?_ ?_
      · refine ⟨_, ⟨by omega, .str (w.getD 0 []), tcell (by omega), rfl⟩, ?_⟩
        refine And.intro ?_ ?_
        · refine hN.holds.useN [] [] rfl (by (repeat' first | exact trivial | exact rfl | exact ⟨rfl, rfl⟩ | exact .inl rfl | refine ⟨_, rfl, rfl, rfl, ?_⟩ | refine ⟨_, _, rfl, ?_, ?_⟩ | refine ⟨_, rfl, ?_⟩ | refine And.intro ?_ ?_)) (by (repeat' first | exact trivial | exact rfl | exact ⟨rfl, rfl⟩ | exact .inl rfl | refine ⟨_, rfl, rfl, rfl, ?_⟩ | refine ⟨_, _, rfl, ?_, ?_⟩ | refine ⟨_, rfl, ?_⟩ | refine And.intro ?_ ?_)) fun e0 H0 hq => ?_
          obtain ⟨rfl, hq⟩ := hq
          rw [if_pos hb] at hq
          subst hq
          refine ⟨rfl, ?_⟩
          refine ⟨by (repeat' first | exact trivial | exact rfl | exact ⟨rfl, rfl⟩ | exact .inl rfl | refine ⟨_, rfl, rfl, rfl, ?_⟩ | refine ⟨_, _, rfl, ?_, ?_⟩ | refine ⟨_, rfl, ?_⟩ | refine And.intro ?_ ?_), ?_⟩
          exact ent_of [] [] [] rfl (by (repeat' first | exact trivial | exact rfl | exact ⟨rfl, rfl⟩ | exact .inl rfl | refine ⟨_, rfl, rfl, rfl, ?_⟩ | refine ⟨_, _, rfl, ?_, ?_⟩ | refine ⟨_, rfl, ?_⟩ | refine And.intro ?_ ?_)) ⟨⟨_, rfl, rfl, rfl, _, rfl, by (repeat' first | exact trivial | exact rfl | exact ⟨rfl, rfl⟩ | exact .inl rfl | refine ⟨_, rfl, rfl, rfl, ?_⟩ | refine ⟨_, _, rfl, ?_, ?_⟩ | refine ⟨_, rfl, ?_⟩ | refine And.intro ?_ ?_)⟩, ⟨_, rfl, rfl, rfl, rfl⟩, ⟨_, rfl, rfl, rfl, _, rfl, seeLL_self n 2 2 rfl⟩, ⟨_, rfl, rfl, rfl, _, rfl, by (repeat' first | exact trivial | exact rfl | exact ⟨rfl, rfl⟩ | exact .inl rfl | refine ⟨_, rfl, rfl, rfl, ?_⟩ | refine ⟨_, _, rfl, ?_, ?_⟩ | refine ⟨_, rfl, ?_⟩ | refine And.intro ?_ ?_)⟩, trivial⟩ rfl
        · refine ⟨by (repeat' first | exact trivial | exact rfl | exact ⟨rfl, rfl⟩ | exact .inl rfl | refine ⟨_, rfl, rfl, rfl, ?_⟩ | refine ⟨_, _, rfl, ?_, ?_⟩ | refine ⟨_, rfl, ?_⟩ | refine And.intro ?_ ?_), ?_⟩
          refine hN.holds.useN [] [] rfl (by (repeat' first | exact trivial | exact rfl | exact ⟨rfl, rfl⟩ | exact .inl rfl | refine ⟨_, rfl, rfl, rfl, ?_⟩ | refine ⟨_, _, rfl, ?_, ?_⟩ | refine ⟨_, rfl, ?_⟩ | refine And.intro ?_ ?_)) (by (repeat' first | exact trivial | exact rfl | exact ⟨rfl, rfl⟩ | exact .inl rfl | refine ⟨_, rfl, rfl, rfl, ?_⟩ | refine ⟨_, _, rfl, ?_, ?_⟩ | refine ⟨_, rfl, ?_⟩ | refine And.intro ?_ ?_)) fun e0 H0 hq => ?_
          obtain ⟨rfl, hq⟩ := hq
          rw [if_pos hb] at hq
          subst hq
          refine ⟨rfl, ?_⟩
          exact ent_of [] [] [] rfl (by (repeat' first | exact trivial | exact rfl | exact ⟨rfl, rfl⟩ | exact .inl rfl | refine ⟨_, rfl, rfl, rfl, ?_⟩ | refine ⟨_, _, rfl, ?_, ?_⟩ | refine ⟨_, rfl, ?_⟩ | refine And.intro ?_ ?_)) ⟨⟨_, rfl, rfl, rfl, _, rfl, by (repeat' first | exact trivial | exact rfl | exact ⟨rfl, rfl⟩ | exact .inl rfl | refine ⟨_, rfl, rfl, rfl, ?_⟩ | refine ⟨_, _, rfl, ?_, ?_⟩ | refine ⟨_, rfl, ?_⟩ | refine And.intro ?_ ?_)⟩, ⟨_, rfl, rfl, rfl, rfl⟩, ⟨_, rfl, rfl, rfl, _, rfl, seeLL_self n 2 2 rfl⟩, ⟨_, rfl, rfl, rfl, _, rfl, by (repeat' first | exact trivial | exact rfl | exact ⟨rfl, rfl⟩ | exact .inl rfl | refine ⟨_, rfl, rfl, rfl, ?_⟩ | refine ⟨_, _, rfl, ?_, ?_⟩ | refine ⟨_, rfl, ?_⟩ | refine And.intro ?_ ?_)⟩, trivial⟩ rfl
      (first | refine brLt (fun h5 => ?_) (fun h5 => ?_) | refine brLe (fun h5 => ?_) (fun h5 => ?_) | refine brEq (fun h5 => ?_) (fun h5 => ?_))
      rotate_left
      · have h5 : ¬ (2 : Int) < ((w.map PV.str).length : Nat) := h5
        rw [List.length_map] at h5
        omega
      refine ⟨by show (0 : Int) ≤ 2 ∧ (2 : Int) ≤ ((w.map PV.str).length : Nat); rw [List.length_map]; omega, ?_⟩
      have hA := numbers_p n.g n.len p (w.drop 2) (by rw [List.length_drop]; omega) (fun v hv => hw v (List.mem_of_mem_drop hv))
      refine hA.holds.useN [] [] rfl (by (repeat' first | exact trivial | exact rfl | exact ⟨rfl, rfl⟩ | exact .inl rfl | refine ⟨_, rfl, rfl, rfl, ?_⟩ | refine ⟨_, _, rfl, ?_, ?_⟩ | refine ⟨_, rfl, ?_⟩ | refine And.intro ?_ ?_)) ⟨_, _, rfl, ⟨rfl, rfl⟩, _, _, rfl, (by show PV.lst ((w.drop 2).map PV.str) = PV.lst ((w.map PV.str).drop 2); rw [List.map_drop]), rfl⟩ fun e0 H0 hq => ?_
      rw [numsQ] at hq
      by_cases ha : allB (w.drop 2) = true
      · rw [if_pos ha] at hq
        obtain ⟨rfl, rfl⟩ := hq
        refine ⟨rfl, ?_⟩
        have hS : nodeLn n w = some ⟨n.g, n.init ++ n.last.toList, some ⟨valN (w.getD 0 []), (w.drop 2).map valN, []⟩⟩ := by rw [nodeLn, if_neg hc, if_pos hb, if_pos (by omega), if_pos ha]
        have hlen := hlen ⟨valN (w.getD 0 []), (w.drop 2).map valN, []⟩
        refine VDraw.seq rfl ?_
        refine ⟨by (repeat' first | exact trivial | exact rfl | exact ⟨rfl, rfl⟩ | exact .inl rfl | refine ⟨_, rfl, rfl, rfl, ?_⟩ | refine ⟨_, _, rfl, ?_, ?_⟩ | refine ⟨_, rfl, ?_⟩ | refine And.intro ?_ ?_), ?_⟩
        refine ⟨by show 0 + 1 ≤ 1; omega, [[i64 (valN (w.getD 0 [])), (ints ((w.drop 2).map valN)), .nils]], rfl, ?_⟩
        refine ⟨by show 0 + n.len ≤ (n.rows 2).length; omega, n.rows 2, takeAll hrows, by show (n.len + 1) * 56 ≤ 140737488355328; omega, n.rows 2 ++ mapsP [[i64 (valN (w.getD 0 [])), (ints ((w.drop 2).map valN)), .nils]], rfl, ?_⟩
        refine ⟨[2], [(3, 5)], [(4, 1)], .returned und, Ns.heapL ⟨n.g, n.init ++ n.last.toList, some ⟨(valN (w.getD 0 [])), ((w.drop 2).map valN), []⟩⟩ p 3 4, rfl, by (repeat' first | exact trivial | exact rfl | exact ⟨rfl, rfl⟩ | exact .inl rfl | refine ⟨_, rfl, rfl, rfl, ?_⟩ | refine ⟨_, _, rfl, ?_, ?_⟩ | refine ⟨_, rfl, ?_⟩ | refine And.intro ?_ ?_), ⟨⟨rfl, rfl, rfl⟩, ⟨_, rfl, rfl, rfl, _, rfl, ?_⟩, ⟨_, rfl, rfl, rfl, _, rfl, ⟨_, _, rfl, rfl, _, _, rfl, ?_, _, _, rfl, rfl, rfl⟩⟩, trivial⟩, ?_⟩
        · refine seeLL_app (rows_freeze n 2 rfl) ⟨_, _, rfl, ⟨_, _, rfl, rfl, _, _, rfl, rfl, _, _, rfl, ⟨rfl, rfl, rfl, rfl⟩, rfl⟩, rfl⟩
        · refine congrArg (fun m => AV.sl 5 3 0 m) ?_
          exact hlen.symm
        · rw [show nodeLn n w = some ⟨n.g, n.init ++ n.last.toList, some ⟨(valN (w.getD 0 [])), ((w.drop 2).map valN), []⟩⟩ from hS]
          exact ⟨rfl, rfl⟩
      · rw [if_neg ha] at hq
        obtain ⟨rfl, rfl⟩ := hq
        refine ⟨rfl, ?_⟩
        exact ⟨[], [], [], placeX p, ⟨3, []⟩, rfl, ⟨_, rfl, _, _, rfl, rfl, rfl⟩, trivial, by rw [show nodeLn n w = none from (by rw [nodeLn, if_neg hc, if_pos hb, if_pos (by omega), if_neg ha])]; exact ⟨rfl, rfl⟩⟩
    · refine vdraw_alt rfl ?_
      · refine ⟨_, ⟨by omega, .str (w.getD 0 []), tcell (by omega), rfl⟩, ?_⟩
        refine And.intro ?_ ?_
        · refine hN.holds.useN [] [] rfl (by (repeat' first | exact trivial | exact rfl | exact ⟨rfl, rfl⟩ | exact .inl rfl | refine ⟨_, rfl, rfl, rfl, ?_⟩ | refine ⟨_, _, rfl, ?_, ?_⟩ | refine ⟨_, rfl, ?_⟩ | refine And.intro ?_ ?_)) (by (repeat' first | exact trivial | exact rfl | exact ⟨rfl, rfl⟩ | exact .inl rfl | refine ⟨_, rfl, rfl, rfl, ?_⟩ | refine ⟨_, _, rfl, ?_, ?_⟩ | refine ⟨_, rfl, ?_⟩ | refine And.intro ?_ ?_)) fun e0 H0 hq => ?_
          obtain ⟨rfl, hq⟩ := hq
          rw [if_neg hb] at hq
          subst hq
          refine ⟨rfl, ?_⟩
          exact ⟨[], [], [], placeX p, ⟨3, []⟩, rfl, ⟨_, rfl, _, _, rfl, rfl, rfl⟩, trivial, by rw [show nodeLn n w = none from (by rw [nodeLn, if_neg hc, if_neg hb])]; exact ⟨rfl, rfl⟩⟩
        · refine ⟨by (repeat' first | exact trivial | exact rfl | exact ⟨rfl, rfl⟩ | exact .inl rfl | refine ⟨_, rfl, rfl, rfl, ?_⟩ | refine ⟨_, _, rfl, ?_, ?_⟩ | refine ⟨_, rfl, ?_⟩ | refine And.intro ?_ ?_), ?_⟩
          refine hN.holds.useN [] [] rfl (by (repeat' first | exact trivial | exact rfl | exact ⟨rfl, rfl⟩ | exact .inl rfl | refine ⟨_, rfl, rfl, rfl, ?_⟩ | refine ⟨_, _, rfl, ?_, ?_⟩ | refine ⟨_, rfl, ?_⟩ | refine And.intro ?_ ?_)) (by (repeat' first | exact trivial | exact rfl | exact ⟨rfl, rfl⟩ | exact .inl rfl | refine ⟨_, rfl, rfl, rfl, ?_⟩ | refine ⟨_, _, rfl, ?_, ?_⟩ | refine ⟨_, rfl, ?_⟩ | refine And.intro ?_ ?_)) fun e0 H0 hq => ?_
          obtain ⟨rfl, hq⟩ := hq
          rw [if_neg hb] at hq
          subst hq
          refine ⟨rfl, ?_⟩
          exact ⟨[], [], [], placeX p, ⟨3, []⟩, rfl, ⟨_, rfl, _, _, rfl, rfl, rfl⟩, trivial, by rw [show nodeLn n w = none from (by rw [nodeLn, if_neg hc, if_neg hb])]; exact ⟨rfl, rfl⟩⟩
  have h3 : ¬ (2 : Int) < ((w.map PV.str).length : Nat) := h3
  rw [List.length_map] at h3
  have hc : ¬ (w.length = 0 ∨ w.length = 2 ∨ (2 < w.length ∧ ¬ w.getD 1 [] = kFrom)) := by
    rintro (h | h | ⟨h, _⟩) <;> omega
  by_cases hb : numB (w.getD 0 []) = true
  · refine VDraw.altTo [(0, .ptr 0 0 0), (1, .p (strs w)), (4, .ptr 3 0 0)] ⟨4, [(3, nd0O (valN (w.getD 0 []))), (2, rO (lastR n.last)), (1, mO (n.rows 2)), (0, cmO TLn n.g (.sl 1 3 0 n.len) p [])]⟩ rfl ?_ ?_
    · refine ⟨_, ⟨by omega, .str (w.getD 0 []), tcell (by omega), rfl⟩, ?_⟩
      refine And.intro ?_ ?_
      · refine hN.holds.useN [] [] rfl (by (repeat' first | exact trivial | exact rfl | exact ⟨rfl, rfl⟩ | exact .inl rfl | refine ⟨_, rfl, rfl, rfl, ?_⟩ | refine ⟨_, _, rfl, ?_, ?_⟩ | refine ⟨_, rfl, ?_⟩ | refine And.intro ?_ ?_)) (by (repeat' first | exact trivial | exact rfl | exact ⟨rfl, rfl⟩ | exact .inl rfl | refine ⟨_, rfl, rfl, rfl, ?_⟩ | refine ⟨_, _, rfl, ?_, ?_⟩ | refine ⟨_, rfl, ?_⟩ | refine And.intro ?_ ?_)) fun e0 H0 hq => ?_
        obtain ⟨rfl, hq⟩ := hq
        rw [if_pos hb] at hq
        subst hq
        refine ⟨rfl, ?_⟩
        refine ⟨by (repeat' first | exact trivial | exact rfl | exact ⟨rfl, rfl⟩ | exact .inl rfl | refine ⟨_, rfl, rfl, rfl, ?_⟩ | refine ⟨_, _, rfl, ?_, ?_⟩ | refine ⟨_, rfl, ?_⟩ | refine And.intro ?_ ?_), ?_⟩
        exact ent_of [] [] [] rfl (by (repeat' first | exact trivial | exact rfl | exact ⟨rfl, rfl⟩ | exact .inl rfl | refine ⟨_, rfl, rfl, rfl, ?_⟩ | refine ⟨_, _, rfl, ?_, ?_⟩ | refine ⟨_, rfl, ?_⟩ | refine And.intro ?_ ?_)) ⟨⟨_, rfl, rfl, rfl, _, rfl, by (repeat' first | exact trivial | exact rfl | exact ⟨rfl, rfl⟩ | exact .inl rfl | refine ⟨_, rfl, rfl, rfl, ?_⟩ | refine ⟨_, _, rfl, ?_, ?_⟩ | refine ⟨_, rfl, ?_⟩ | refine And.intro ?_ ?_)⟩, ⟨_, rfl, rfl, rfl, rfl⟩, ⟨_, rfl, rfl, rfl, _, rfl, seeLL_self n 2 2 rfl⟩, ⟨_, rfl, rfl, rfl, _, rfl, by (repeat' first | exact trivial | exact rfl | exact ⟨rfl, rfl⟩ | exact .inl rfl | refine ⟨_, rfl, rfl, rfl, ?_⟩ | refine ⟨_, _, rfl, ?_, ?_⟩ | refine ⟨_, rfl, ?_⟩ | refine And.intro ?_ ?_)⟩, trivial⟩ rfl
      · refine ⟨by (repeat' first | exact trivial | exact rfl | exact ⟨rfl, rfl⟩ | exact .inl rfl | refine ⟨_, rfl, rfl, rfl, ?_⟩ | refine ⟨_, _, rfl, ?_, ?_⟩ | refine ⟨_, rfl, ?_⟩ | refine And.intro ?_ ?_), ?_⟩
        refine hN.holds.useN [] [] rfl (by (repeat' first | exact trivial | exact rfl | exact ⟨rfl, rfl⟩ | exact .inl rfl | refine ⟨_, rfl, rfl, rfl, ?_⟩ | refine ⟨_, _, rfl, ?_, ?_⟩ | refine ⟨_, rfl, ?_⟩ | refine And.intro ?_ ?_)) (by (repeat' first | exact trivial | exact rfl | exact ⟨rfl, rfl⟩ | exact .inl rfl | refine ⟨_, rfl, rfl, rfl, ?_⟩ | refine ⟨_, _, rfl, ?_, ?_⟩ | refine ⟨_, rfl, ?_⟩ | refine And.intro ?_ ?_)) fun e0 H0 hq => ?_
        obtain ⟨rfl, hq⟩ := hq
        rw [if_pos hb] at hq
        subst hq
        refine ⟨rfl, ?_⟩
        exact ent_of [] [] [] rfl (by (repeat' first | exact trivial | exact rfl | exact ⟨rfl, rfl⟩ | exact .inl rfl | refine ⟨_, rfl, rfl, rfl, ?_⟩ | refine ⟨_, _, rfl, ?_, ?_⟩ | refine ⟨_, rfl, ?_⟩ | refine And.intro ?_ ?_)) ⟨⟨_, rfl, rfl, rfl, _, rfl, by (repeat' first | exact trivial | exact rfl | exact ⟨rfl, rfl⟩ | exact .inl rfl | refine ⟨_, rfl, rfl, rfl, ?_⟩ | refine ⟨_, _, rfl, ?_, ?_⟩ | refine ⟨_, rfl, ?_⟩ | refine And.intro ?_ ?_)⟩, ⟨_, rfl, rfl, rfl, rfl⟩, ⟨_, rfl, rfl, rfl, _, rfl, seeLL_self n 2 2 rfl⟩, ⟨_, rfl, rfl, rfl, _, rfl, by (repeat' first | exact trivial | exact rfl | exact ⟨rfl, rfl⟩ | exact .inl rfl | refine ⟨_, rfl, rfl, rfl, ?_⟩ | refine ⟨_, _, rfl, ?_, ?_⟩ | refine ⟨_, rfl, ?_⟩ | refine And.intro ?_ ?_)⟩, trivial⟩ rfl
    (first | refine brLt (fun h5 => ?_) (fun h5 => ?_) | refine brLe (fun h5 => ?_) (fun h5 => ?_) | refine brEq (fun h5 => ?_) (fun h5 => ?_))
    · have h5 : (2 : Int) < ((w.map PV.str).length : Nat) := h5
      rw [List.length_map] at h5
      omega
    have hS : nodeLn n w = some ⟨n.g, n.init ++ n.last.toList, some ⟨valN (w.getD 0 []), [], []⟩⟩ := by rw [nodeLn, if_neg hc, if_pos hb, if_neg (by omega)]
    have hlen := hlen ⟨valN (w.getD 0 []), [], []⟩
    refine VDraw.seq rfl ?_
    refine ⟨by (repeat' first | exact trivial | exact rfl | exact ⟨rfl, rfl⟩ | exact .inl rfl | refine ⟨_, rfl, rfl, rfl, ?_⟩ | refine ⟨_, _, rfl, ?_, ?_⟩ | refine ⟨_, rfl, ?_⟩ | refine And.intro ?_ ?_), ?_⟩
    refine ⟨by show 0 + 1 ≤ 1; omega, [[i64 (valN (w.getD 0 [])), .nils, .nils]], rfl, ?_⟩
    refine ⟨by show 0 + n.len ≤ (n.rows 2).length; omega, n.rows 2, takeAll hrows, by show (n.len + 1) * 56 ≤ 140737488355328; omega, n.rows 2 ++ mapsP [[i64 (valN (w.getD 0 [])), .nils, .nils]], rfl, ?_⟩
    refine ⟨[2], [(3, 5)], [(4, 1)], .returned und, Ns.heapL ⟨n.g, n.init ++ n.last.toList, some ⟨(valN (w.getD 0 [])), [], []⟩⟩ p 3 4, rfl, by (repeat' first | exact trivial | exact rfl | exact ⟨rfl, rfl⟩ | exact .inl rfl | refine ⟨_, rfl, rfl, rfl, ?_⟩ | refine ⟨_, _, rfl, ?_, ?_⟩ | refine ⟨_, rfl, ?_⟩ | refine And.intro ?_ ?_), ⟨⟨rfl, rfl, rfl⟩, ⟨_, rfl, rfl, rfl, _, rfl, ?_⟩, ⟨_, rfl, rfl, rfl, _, rfl, ⟨_, _, rfl, rfl, _, _, rfl, ?_, _, _, rfl, rfl, rfl⟩⟩, trivial⟩, ?_⟩
    · refine seeLL_app (rows_freeze n 2 rfl) ⟨_, _, rfl, ⟨_, _, rfl, rfl, _, _, rfl, (.inr (.inl rfl)), _, _, rfl, ⟨rfl, rfl, rfl, rfl⟩, rfl⟩, rfl⟩
    · refine congrArg (fun m => AV.sl 5 3 0 m) ?_
      exact hlen.symm
    · rw [show nodeLn n w = some ⟨n.g, n.init ++ n.last.toList, some ⟨(valN (w.getD 0 [])), [], []⟩⟩ from hS]
      exact ⟨rfl, rfl⟩
  · refine vdraw_alt rfl ?_
    · refine ⟨_, ⟨by omega, .str (w.getD 0 []), tcell (by omega), rfl⟩, ?_⟩
      refine And.intro ?_ ?_
      · refine hN.holds.useN [] [] rfl (by (repeat' first | exact trivial | exact rfl | exact ⟨rfl, rfl⟩ | exact .inl rfl | refine ⟨_, rfl, rfl, rfl, ?_⟩ | refine ⟨_, _, rfl, ?_, ?_⟩ | refine ⟨_, rfl, ?_⟩ | refine And.intro ?_ ?_)) (by (repeat' first | exact trivial | exact rfl | exact ⟨rfl, rfl⟩ | exact .inl rfl | refine ⟨_, rfl, rfl, rfl, ?_⟩ | refine ⟨_, _, rfl, ?_, ?_⟩ | refine ⟨_, rfl, ?_⟩ | refine And.intro ?_ ?_)) fun e0 H0 hq => ?_
        obtain ⟨rfl, hq⟩ := hq
        rw [if_neg hb] at hq
        subst hq
        refine ⟨rfl, ?_⟩
        exact ⟨[], [], [], placeX p, ⟨3, []⟩, rfl, ⟨_, rfl, _, _, rfl, rfl, rfl⟩, trivial, by rw [show nodeLn n w = none from (by rw [nodeLn, if_neg hc, if_neg hb])]; exact ⟨rfl, rfl⟩⟩
      · refine ⟨by (repeat' first | exact trivial | exact rfl | exact ⟨rfl, rfl⟩ | exact .inl rfl | refine ⟨_, rfl, rfl, rfl, ?_⟩ | refine ⟨_, _, rfl, ?_, ?_⟩ | refine ⟨_, rfl, ?_⟩ | refine And.intro ?_ ?_), ?_⟩
        refine hN.holds.useN [] [] rfl (by (repeat' first | exact trivial | exact rfl | exact ⟨rfl, rfl⟩ | exact .inl rfl | refine ⟨_, rfl, rfl, rfl, ?_⟩ | refine ⟨_, _, rfl, ?_, ?_⟩ | refine ⟨_, rfl, ?_⟩ | refine And.intro ?_ ?_)) (by (repeat' first | exact trivial | exact rfl | exact ⟨rfl, rfl⟩ | exact .inl rfl | refine ⟨_, rfl, rfl, rfl, ?_⟩ | refine ⟨_, _, rfl, ?_, ?_⟩ | refine ⟨_, rfl, ?_⟩ | refine And.intro ?_ ?_)) fun e0 H0 hq => ?_
        obtain ⟨rfl, hq⟩ := hq
        rw [if_neg hb] at hq
        subst hq
        refine ⟨rfl, ?_⟩
        exact ⟨[], [], [], placeX p, ⟨3, []⟩, rfl, ⟨_, rfl, _, _, rfl, rfl, rfl⟩, trivial, by rw [show nodeLn n w = none from (by rw [nodeLn, if_neg hc, if_neg hb])]; exact ⟨rfl, rfl⟩⟩
end Go.Proofs.YtphmmoloegjocaaGreatDoor

/- The program's line reader: last; the plain step. -/
namespace Go.Proofs.YtphmmoloegjocaaGreatDoor
open Go Y
set_option maxRecDepth 100000
set_option maxHeartbeats 40000000

theorem step_node (n : Ns) (w : List (List UInt8)) : nodeLn n w = stepN false n (kNode :: w) := by
  rw [nodeLn, stepN, if_neg (by decide : ¬ (false = true))]
  rw [if_pos (show (kNode :: w).getD 0 [] = kNode from rfl)]
  have e1 : (kNode :: w).getD 1 [] = w.getD 0 [] := rfl
  have e2 : (kNode :: w).getD 2 [] = w.getD 1 [] := rfl
  have e3 : (kNode :: w).drop 3 = w.drop 2 := rfl
  have e4 : (kNode :: w).length = w.length + 1 := rfl
  rw [e1, e2, e3, e4]
  by_cases hb : numB (w.getD 0 []) = true
  · by_cases h0 : w.length = 0
    · rw [if_pos (.inl h0), if_neg (by omega)]
    · rw [if_pos (show 2 ≤ w.length + 1 ∧ numB (w.getD 0 []) = true from ⟨by omega, hb⟩)]
      by_cases h1 : w.length = 1
      · rw [if_neg (by omega), if_pos hb, if_neg (by omega), if_pos (by omega)]
      · rw [if_neg (show ¬ w.length + 1 = 2 by omega)]
        by_cases h2 : w.length = 2
        · rw [if_pos (.inr (.inl h2)), if_neg (by omega)]
        · by_cases h3 : w.getD 1 [] = kFrom
          · rw [if_neg (by rintro (h | h | ⟨_, h⟩); exact h0 h; exact h2 h; exact h h3), if_pos hb, if_pos (by omega)]
            by_cases ha : allB (w.drop 2) = true
            · rw [if_pos ha, if_pos ⟨ha, by omega, h3⟩]
            · rw [if_neg ha, if_neg (fun h => ha h.1)]
          · rw [if_pos (.inr (.inr ⟨by omega, h3⟩)), if_neg (fun h => h3 h.2.2)]
  · rw [if_neg (show ¬ (2 ≤ w.length + 1 ∧ numB (w.getD 0 []) = true) from fun h => hb h.2)]
    split <;> rfl

theorem last_l (n : Ns) (p : Nat) (h0 : 0 < n.len) (hn : n.len ≤ 100000) : HoldsG cx 159 [.ptr 0 0 0] (n.heapL p 1 2) fun e H' => e = .returned (.ptr 1 (n.len - 1) 0) ∧ H' = n.heapL p 1 2 := by
  refine holdsN_of_vc Tryz.func159 rfl rfl rfl ?_
  refine VDraw.seq rfl ?_
  refine ⟨((n.len - 1 : Nat) : Int), by show _ = IntKind.i64.wrap (((n.len : Nat) : Int) - 1); rw [show ((n.len : Nat) : Int) - 1 = ((n.len - 1 : Nat) : Int) by omega]; exact wrap_i64 (by omega) (by omega), ?_⟩
  refine ⟨by show (0 : Int) ≤ ((n.len - 1 : Nat) : Int) ∧ ((n.len - 1 : Nat) : Int) < (n.len : Nat); omega, ?_⟩
  refine ⟨[], [], [], .returned (.ptr 1 (n.len - 1) 0), n.heapL p 1 2, rfl, ⟨_, rfl, ?_⟩, ⟨⟨_, rfl, rfl, rfl, rfl⟩, ⟨_, rfl, rfl, rfl, _, rfl, seeLL_self n 2 2 rfl⟩, ⟨_, rfl, rfl, rfl, _, rfl, by (repeat' first | exact trivial | exact rfl | exact ⟨rfl, rfl⟩ | exact .inl rfl | refine ⟨_, rfl, rfl, rfl, ?_⟩ | refine ⟨_, _, rfl, ?_, ?_⟩ | refine ⟨_, rfl, ?_⟩ | refine And.intro ?_ ?_)⟩, trivial⟩, rfl, rfl⟩
  refine ⟨rfl, ?_⟩
  show AV.ptr 1 (0 + ((n.len - 1 : Nat) : Int).toNat) 0 = AV.ptr 1 (n.len - 1) 0
  rw [Nat.zero_add, Int.toNat_natCast]
end Go.Proofs.YtphmmoloegjocaaGreatDoor

/- The program's lines: strings.Cut. -/
namespace Go.Proofs.YtphmmoloegjocaaGreatDoor
open Go Y
set_option maxRecDepth 100000
set_option maxHeartbeats 4000000

/-! ### Cut -/
def cutV (c : UInt8) (s : List UInt8) : List PV := if c ∈ s then [.str (s.take (ahead c s)), .str (s.drop (ahead c s + 1)), .bool true] else [.str s, .str [], .bool false]
theorem end3' {Q : PEnd → Prop} {H' : Hp} (a b c : PV) (hm : marksOK H'.l (fsOf H'.l) = true) (hq : Q (.ret [a, b, c])) : EndP Q (.returned (.tup [.p a, .p b, .p c])) H' :=
  ⟨.ret [a, b, c], ⟨hm, _, rfl, _, _, rfl, res_p _ a, _, _, rfl, res_p _ b, _, _, rfl, res_p _ c, rfl⟩, hq⟩
theorem cutI_c (s : List UInt8) (c : UInt8) (hs : s.length ≤ 1000000) : Pure cx 163 [.str s, .str [c]] (· = .ret (cutV c s)) := by
  refine pure_of_vc Tryz.func163 rfl rfl rfl ?_
  have hI := index1_c s c
  by_cases hc : c ∈ s
  · rw [index_ahead.1 hc] at hI
    have ha := (ahead_split hc).2.2
    refine hI.eq rfl ?_
    (first | refine brLt (fun h1 => ?_) (fun h1 => ?_) | refine brLe (fun h1 => ?_) (fun h1 => ?_) | refine brEq (fun h1 => ?_) (fun h1 => ?_))
    · refine VDraw.seq rfl ?_
      refine ⟨by show (0 : Int) ≤ (ahead c s : Nat) ∧ ((ahead c s : Nat) : Int) ≤ (s.length : Nat); omega, ?_⟩
      refine ⟨((ahead c s + 1 : Nat) : Int), by rw [Int.natCast_add]; exact wrap_i64 (by omega) (by omega), ?_⟩
      refine ⟨by show (0 : Int) ≤ (ahead c s + 1 : Nat) ∧ ((ahead c s + 1 : Nat) : Int) ≤ (s.length : Nat); omega, ?_⟩
      exact end3' _ _ _ rfl (by rw [cutV, if_pos hc]; rfl)
    · omega
  · rw [index_ahead.2 hc] at hI
    refine hI.eq rfl ?_
    (first | refine brLt (fun h1 => ?_) (fun h1 => ?_) | refine brLe (fun h1 => ?_) (fun h1 => ?_) | refine brEq (fun h1 => ?_) (fun h1 => ?_))
    · omega
    · exact end3' _ _ _ rfl (by rw [cutV, if_neg hc])
theorem cut_c (s : List UInt8) (c : UInt8) (hs : s.length ≤ 1000000) : Pure cx 162 [.str s, .str [c]] (· = .ret (cutV c s)) := by
  refine pure_of_vc Tryz.func162 rfl rfl rfl ?_
  have hI := cutI_c s c hs
  by_cases hc : c ∈ s
  · rw [cutV, if_pos hc] at hI ⊢
    exact hI.eq rfl (end3' _ _ _ rfl rfl)
  · rw [cutV, if_neg hc] at hI ⊢
    exact hI.eq rfl (end3' _ _ _ rfl rfl)

theorem lines_in : ∀ {s : List UInt8} (w : List UInt8), 10 ∈ s → linesA w s = (w ++ s.take (ahead 10 s)) :: linesA [] (s.drop (ahead 10 s + 1))
  | [], _, h => by simp at h
  | b :: r, w, h => by
    rw [linesA]
    by_cases hb : b = 10
    · rw [if_pos hb, ahead, if_pos hb]; simp
    · have hr : 10 ∈ r := by
        rcases List.mem_cons.1 h with h | h
        · exact absurd h.symm hb
        · exact h
      rw [if_neg hb, lines_in (w ++ [b]) hr, ahead, if_neg hb]
      simp
theorem lines_not : ∀ {s : List UInt8} (w : List UInt8), 10 ∉ s → linesA w s = if w ++ s = [] then [] else [w ++ s]
  | [], w, _ => by rw [linesA, List.append_nil]
  | b :: r, w, h => by
    simp only [List.mem_cons, not_or] at h
    rw [linesA, if_neg (fun e => h.1 e.symm), lines_not (w ++ [b]) h.2]
    simp
end Go.Proofs.YtphmmoloegjocaaGreatDoor

/- Plain: the fields at octet 32 are the words. -/
namespace Go.Proofs.YtphmmoloegjocaaGreatDoor
open Go Y
set_option maxRecDepth 100000
set_option maxHeartbeats 4000000

def is32 (r : Nat) : Bool := r == 32
theorem dec_yes (n b1 b2 b3 : Nat) : Lib.decodeN n 32 b1 b2 b3 = (32, 1) := by
  unfold Lib.decodeN
  rw [if_pos (by decide)]
theorem dec_not {n b0 b1 b2 b3 : Nat} (h : b0 ≠ 32) : (Lib.decodeN n b0 b1 b2 b3).1 ≠ 32 ∧ (1 < (Lib.decodeN n b0 b1 b2 b3).2 → b1 ≠ 32) ∧ (2 < (Lib.decodeN n b0 b1 b2 b3).2 → b2 ≠ 32) ∧ (3 < (Lib.decodeN n b0 b1 b2 b3).2 → b3 ≠ 32) ∧ (Lib.decodeN n b0 b1 b2 b3).2 ≤ 4 := by
  unfold Lib.decodeN
  repeat' split
  all_goals (simp only; omega)
theorem words_over : ∀ (p r w : List UInt8), (∀ b ∈ p, b ≠ 32) → wordsA w (p ++ r) = wordsA (w ++ p) r
  | [], r, w, _ => by rw [List.nil_append, List.append_nil]
  | b :: p, r, w, h => by
    rw [List.cons_append, wordsA, if_neg (h b (by simp)), words_over p r _ (fun c hc => h c (by simp [hc]))]
    simp
theorem at_drop {l : List UInt8} {p k : Nat} {b : UInt8} (h : b ∈ (l.drop p).take k) : ∃ j, j < k ∧ p + j < l.length ∧ b = l.getD (p + j) 0 := by
  obtain ⟨j, hj, rfl⟩ := List.getElem_of_mem h
  rw [List.length_take, List.length_drop] at hj
  refine ⟨j, by omega, by omega, ?_⟩
  rw [List.getElem_take, List.getElem_drop, List.getD_eq_getElem?_getD, List.getElem?_eq_getElem (by omega)]; rfl
theorem toNat_ne {b : UInt8} (h : b.toNat ≠ 32) : b ≠ 32 := fun e => h (by rw [e]; rfl)
theorem spans_words (s : ByteArray) : ∀ (f pos : Nat) (st : Option Nat) (acc : List (Nat × Nat)), s.size ≤ pos + f → pos ≤ s.size → (∀ a, st = some a → a < pos) →
    acc.map (fun p => Lib.pieceU s.data.toList p.1 p.2) ++ wordsA (Lib.openPiece s.data.toList st pos) (s.data.toList.drop pos) = (Lib.closeSpans s (Lib.spansFromP is32 s f pos st acc)).map (fun p => Lib.pieceU s.data.toList p.1 p.2)
  | 0, pos, st, acc, h, hp, hst => by
    obtain rfl : pos = s.size := by omega
    have hd : s.data.toList.drop s.size = [] := List.drop_eq_nil_of_le (by rw [← Lib.size_eq]; exact Nat.le_refl _)
    rw [hd, wordsA]
    cases st with
    | none => simp [Lib.spansFromP, Lib.closeSpans, Lib.openPiece]
    | some a =>
      have := Lib.pieceU_ne s.data.toList a s.size (hst a rfl) (by rw [← Lib.size_eq]; exact Nat.le_refl _)
      simp [Lib.spansFromP, Lib.closeSpans, Lib.openPiece, this]
  | f + 1, pos, st, acc, h, hp, hst => by
    by_cases hlt : pos < s.size
    · have hl : pos < s.data.toList.length := by rw [← Lib.size_eq]; exact hlt
      have hw := Lib.width_pos s pos
      have hwn : pos + (Utf8.decode s pos).2 ≤ s.size := by
        have := Lib.decodeN_le_n' (s.size - pos) (s.get! pos).toNat (s.get! (pos + 1)).toNat (s.get! (pos + 2)).toNat (s.get! (pos + 3)).toNat (by omega)
        rw [← Lib.decode_at] at this
        omega
      have hD := Lib.decode_N s pos
      by_cases hb : (s.data.toList.getD pos 0).toNat = 32
      · rw [hb, dec_yes] at hD
        have e1 : (Utf8.decode s pos).1 = 32 := by rw [hD]
        have e2 : (Utf8.decode s pos).2 = 1 := by rw [hD]
        have hb' : s.data.toList.getD pos 0 = 32 := UInt8.toNat_inj.1 hb
        rw [drop_cons 0 hl, hb', wordsA, if_pos rfl]
        simp only [Lib.spansFromP, if_pos hlt, e1, e2, is32]
        cases st with
        | none =>
          have ih := spans_words s f (pos + 1) none acc (by omega) (by omega) (fun a h => by cases h)
          simpa [Lib.openPiece] using ih
        | some a =>
          have hpn := Lib.pieceU_ne s.data.toList a pos (hst a rfl) (by omega)
          have ih := spans_words s f (pos + 1) none (acc ++ [(a, pos)]) (by omega) (by omega) (fun a h => by cases h)
          simpa [Lib.openPiece, hpn] using ih
      · have hn := dec_not (n := s.data.toList.length - pos) (b1 := (s.data.toList.getD (pos + 1) 0).toNat) (b2 := (s.data.toList.getD (pos + 2) 0).toNat) (b3 := (s.data.toList.getD (pos + 3) 0).toNat) hb
        rw [← hD] at hn
        obtain ⟨n1, n2, n3, n4, n5⟩ := hn
        obtain ⟨R, hR⟩ : ∃ R, (Utf8.decode s pos).1 = R := ⟨_, rfl⟩
        obtain ⟨W, hW⟩ : ∃ W, (Utf8.decode s pos).2 = W := ⟨_, rfl⟩
        rw [hW] at n2 n3 n4 n5 hw hwn
        rw [hR] at n1
        have hsp : is32 R = false := by rw [is32]; simpa using n1
        have hov : s.data.toList.drop pos = (s.data.toList.drop pos).take W ++ s.data.toList.drop (pos + W) := by rw [← List.drop_drop, List.take_append_drop]
        have hne : ∀ b ∈ (s.data.toList.drop pos).take W, b ≠ 32 := by
          intro b hm
          obtain ⟨j, hj, _, rfl⟩ := at_drop hm
          have : j = 0 ∨ j = 1 ∨ j = 2 ∨ j = 3 := by omega
          rcases this with rfl | rfl | rfl | rfl
          · exact toNat_ne hb
          · exact toNat_ne (n2 hj)
          · exact toNat_ne (n3 hj)
          · exact toNat_ne (n4 hj)
        rw [hov, words_over _ _ _ hne]
        simp only [Lib.spansFromP, if_pos hlt, hR, hW, hsp, Bool.false_eq_true, if_false]
        cases st with
        | none =>
          have ih := spans_words s f (pos + W) (some pos) acc (by omega) hwn (fun a h => by cases h; omega)
          have e : ([] : List UInt8) ++ (s.data.toList.drop pos).take W = Lib.pieceU s.data.toList pos (pos + W) := by
            unfold Lib.pieceU
            rw [List.nil_append, Nat.add_sub_cancel_left]
          simp only [Lib.openPiece] at ih ⊢
          rw [e]
          exact ih
        | some a =>
          have ih := spans_words s f (pos + W) (some a) acc (by omega) hwn (fun b h => by cases h; have := hst a rfl; omega)
          simp only [Lib.openPiece] at ih ⊢
          rw [Lib.pieceU_grow _ _ _ _ (Nat.le_of_lt (hst a rfl))]
          exact ih
    · obtain rfl : pos = s.size := by omega
      have hd : s.data.toList.drop s.size = [] := List.drop_eq_nil_of_le (by rw [← Lib.size_eq]; exact Nat.le_refl _)
      rw [hd, wordsA, Lib.spansFromP_end is32 s _ _ _ _ hlt]
      cases st with
      | none => simp [Lib.closeSpans, Lib.openPiece]
      | some a =>
        have := Lib.pieceU_ne s.data.toList a s.size (hst a rfl) (by rw [← Lib.size_eq]; exact Nat.le_refl _)
        simp [Lib.closeSpans, Lib.openPiece, this]
theorem fields_words (s : List UInt8) : Lib.goFieldsP is32 ⟨⟨s⟩⟩ = (wordsN s).map fun w => (⟨⟨w⟩⟩ : ByteArray) := by
  have h := spans_words ⟨⟨s⟩⟩ (ByteArray.size ⟨⟨s⟩⟩) 0 none [] (by omega) (Nat.zero_le _) (fun a h => by cases h)
  simp only [List.map_nil, List.nil_append, Lib.openPiece, List.drop_zero] at h
  unfold Lib.goFieldsP Lib.spansOfP wordsN
  rw [h, List.map_map]
  apply List.map_congr_left
  rintro ⟨a, b⟩ _
  show ByteArray.extract _ _ _ = _
  rw [← Lib.mk_data (ByteArray.extract _ _ _)]
  simp [Lib.pieceU]
end Go.Proofs.YtphmmoloegjocaaGreatDoor

/- Contracts of the kit's shelf, laid at this program by the kit's lay-shelf.mjs and lay-plain.mjs. -/
namespace Go.Proofs
open Go.Shelf
def Tryz.lays161_ren : Go.Shelf.Ren := ⟨fun | 161 => 69 | 231 => 91 | 227 => 92 | 233 => 93 | 235 => 94 | 228 => 108 | 197 => 83 | 151 => 109 | 260 => 102 | 152 => 121 | 137 => 127 | 119 => 128 | 224 => 113 | 225 => 112 | 217 => 111 | 266 => 123 | n => n, fun | 9 => 9 | 4 => 4 | 3 => 3 | 5 => 5 | 117 => 148 | 116 => 147 | 0 => 0 | 124 => 151 | 105 => 135 | 21 => 21 | 119 => 170 | 46 => 68 | 139 => 173 | 138 => 172 | n => n, fun | 3 => 1 | 4 => 2 | n => n⟩
theorem Tryz.lays161 : Go.Proofs.Lays.n161 Tryz.prog Tryz.lays161_ren := {
  mixed := by kernel_rfl
  f119 := Tryz.func128.trans (congrArg some (by kernel_rfl))
  f137 := Tryz.func127.trans (congrArg some (by kernel_rfl))
  f151 := Tryz.func109.trans (congrArg some (by kernel_rfl))
  f152 := Tryz.func121.trans (congrArg some (by kernel_rfl))
  f161 := Tryz.func69.trans (congrArg some (by kernel_rfl))
  f197 := Tryz.func83.trans (congrArg some (by kernel_rfl))
  f217 := Tryz.func111.trans (congrArg some (by kernel_rfl))
  f224 := Tryz.func113.trans (congrArg some (by kernel_rfl))
  f225 := Tryz.func112.trans (congrArg some (by kernel_rfl))
  f227 := Tryz.func92.trans (congrArg some (by kernel_rfl))
  f228 := Tryz.func108.trans (congrArg some (by kernel_rfl))
  f231 := Tryz.func91.trans (congrArg some (by kernel_rfl))
  f233 := Tryz.func93.trans (congrArg some (by kernel_rfl))
  f235 := Tryz.func94.trans (congrArg some (by kernel_rfl))
  f260 := Tryz.func102.trans (congrArg some (by kernel_rfl))
  f266 := Tryz.func123.trans (congrArg some (by kernel_rfl))
  t0 := Tryz.underlying0
  a0 := Tryz.isAgg0
  z0 := Tryz.sizeOf0
  v0 := Tryz.zeroValue0
  t3 := Tryz.underlying3
  a3 := Tryz.isAgg3
  z3 := Tryz.sizeOf3
  v3 := Tryz.zeroValue3
  t4 := Tryz.underlying4
  a4 := Tryz.isAgg4
  z4 := Tryz.sizeOf4
  v4 := Tryz.zeroValue4
  t5 := Tryz.underlying5
  a5 := Tryz.isAgg5
  z5 := Tryz.sizeOf5
  v5 := Tryz.zeroValue5
  t9 := Tryz.underlying9
  a9 := Tryz.isAgg9
  z9 := Tryz.sizeOf9
  v9 := Tryz.zeroValue9
  t21 := Tryz.underlying21
  a21 := Tryz.isAgg21
  z21 := Tryz.sizeOf21
  v21 := Tryz.zeroValue21
  t46 := Tryz.underlying68
  a46 := Tryz.isAgg68
  z46 := Tryz.sizeOf68
  v46 := Tryz.zeroValue68
  t105 := Tryz.underlying135
  a105 := Tryz.isAgg135
  z105 := Tryz.sizeOf135
  v105 := Tryz.zeroValue135
  t116 := Tryz.underlying147
  a116 := Tryz.isAgg147
  z116 := Tryz.sizeOf147
  t117 := Tryz.underlying148
  a117 := Tryz.isAgg148
  z117 := Tryz.sizeOf148
  v117 := Tryz.zeroValue148
  t119 := Tryz.underlying170
  a119 := Tryz.isAgg170
  z119 := Tryz.sizeOf170
  t124 := Tryz.underlying151
  a124 := Tryz.isAgg151
  z124 := Tryz.sizeOf151
  v124 := Tryz.zeroValue151
  t138 := Tryz.underlying172
  a138 := Tryz.isAgg172
  z138 := Tryz.sizeOf172
  v138 := Tryz.zeroValue172
  t139 := Tryz.underlying173
  a139 := Tryz.isAgg173
  z139 := Tryz.sizeOf173
  v139 := Tryz.zeroValue173
  g3 := by kernel_rfl
  g4 := by kernel_rfl }
def Tryz.lays99_ren : Go.Shelf.Ren := ⟨fun | 99 => 68 | 206 => 90 | n => n, fun | 9 => 9 | 4 => 4 | 3 => 3 | n => n, fun | n => n⟩
theorem Tryz.lays99 : Go.Proofs.Lays.n99 Tryz.prog Tryz.lays99_ren := {
  mixed := by kernel_rfl
  f99 := Tryz.func68.trans (congrArg some (by kernel_rfl))
  f206 := Tryz.func90.trans (congrArg some (by kernel_rfl))
  t3 := Tryz.underlying3
  a3 := Tryz.isAgg3
  z3 := Tryz.sizeOf3
  v3 := Tryz.zeroValue3
  t4 := Tryz.underlying4
  a4 := Tryz.isAgg4
  z4 := Tryz.sizeOf4
  v4 := Tryz.zeroValue4
  t9 := Tryz.underlying9
  a9 := Tryz.isAgg9
  z9 := Tryz.sizeOf9
  v9 := Tryz.zeroValue9 }
open Go.RowKit Go.Lib in
theorem Tryz.strings_HasPrefix (s p : ByteArray) (w : World) :
    Calls Tryz.prog 68 #[.string s, .string p] w fun e w' => e = .returned (.bool (Lib.hasPrefix s.data.toList p.data.toList)) ∧ w' = w := Any.strings_HasPrefix Tryz.lays99 s p w
def Tryz.lays229_ren : Go.Shelf.Ren := ⟨fun | 229 => 156 | n => n, fun | 9 => 9 | 40 => 185 | 31 => 48 | 152 => 213 | 3 => 3 | 0 => 0 | 4 => 4 | 21 => 21 | 154 => 215 | n => n, fun | n => n⟩
theorem Tryz.lays229 : Go.Proofs.Lays.n229 Tryz.prog Tryz.lays229_ren := {
  mixed := by kernel_rfl
  f229 := Tryz.func156.trans (congrArg some (by kernel_rfl))
  t0 := Tryz.underlying0
  a0 := Tryz.isAgg0
  z0 := Tryz.sizeOf0
  v0 := Tryz.zeroValue0
  t3 := Tryz.underlying3
  a3 := Tryz.isAgg3
  z3 := Tryz.sizeOf3
  v3 := Tryz.zeroValue3
  t4 := Tryz.underlying4
  a4 := Tryz.isAgg4
  z4 := Tryz.sizeOf4
  v4 := Tryz.zeroValue4
  t9 := Tryz.underlying9
  a9 := Tryz.isAgg9
  z9 := Tryz.sizeOf9
  v9 := Tryz.zeroValue9
  t21 := Tryz.underlying21
  a21 := Tryz.isAgg21
  z21 := Tryz.sizeOf21
  v21 := Tryz.zeroValue21
  t31 := Tryz.underlying48
  a31 := Tryz.isAgg48
  z31 := Tryz.sizeOf48
  v31 := Tryz.zeroValue48
  t40 := Tryz.underlying185
  a40 := Tryz.isAgg185
  z40 := Tryz.sizeOf185
  v40 := Tryz.zeroValue185
  t152 := Tryz.underlying213
  a152 := Tryz.isAgg213
  z152 := Tryz.sizeOf213
  v152 := Tryz.zeroValue213
  t154 := Tryz.underlying215
  a154 := Tryz.isAgg215
  z154 := Tryz.sizeOf215
  v154 := Tryz.zeroValue215 }
open Go.RowKit Go.Lib in
theorem Tryz.strings_FieldsFunc_grows (g : Nat) (lb : Array Value) (eg : ∀ args w, (callFunc g args).run Tryz.prog w = .ok (.enter g args) w) (p : Nat → Bool) (s : ByteArray) (w : World) (hs : s.size ≤ 4294967296) (hp : PredGrows Tryz.prog g lb p w) :
    Calls Tryz.prog 156 #[.string s, .func (.func g) #[] lb] w fun e w' => ∃ A, e = .returned (.slice (some ⟨A, 0, none⟩) (Lib.goFieldsP p s).length (Lib.goFieldsP p s).length) ∧ w.heap.size ≤ A ∧
      w'.ownsRow w.heap.size 9 1 (.slice (some ⟨A, 0, none⟩) (Lib.goFieldsP p s).length (Lib.goFieldsP p s).length) (Lib.goFieldsP p s).length ((Lib.goFieldsP p s).map Value.string) ∧ Below w.heap.size w w' := Any.strings_FieldsFunc_grows Tryz.lays229 g lb eg p s w hs hp (by kernel_rfl) (by kernel_rfl)
end Go.Proofs

/- Contracts of the kit's shelf as contracts on data: strings.FieldsFunc, HasPrefix, TrimLeft. -/
namespace Go.Proofs.YtphmmoloegjocaaGreatDoor
open Go Y RowKit
set_option maxRecDepth 100000
set_option maxHeartbeats 4000000

theorem later_below {Γ : Gm} {w w' : World} (hR : R cx Γ ⟨0, []⟩ w) (hb : Below w.heap.size w w') : Later cx 0 Γ ⟨0, []⟩ w Γ ⟨0, []⟩ w' := by
  have hfz : ∀ b arr, Γ.fz b = some arr → ∃ t z, w'.heap[b]? = some (.cells ⟨arr⟩ t z) := by
    intro b arr h
    obtain ⟨t, z, e⟩ := hR.fzok b arr h
    have hlt : b < w.heap.size := by
      rcases Nat.lt_or_ge b w.heap.size with h1 | h1
      · exact h1
      · rw [Array.getElem?_eq_none h1] at e; cases e
    exact ⟨t, z, by rw [hb.block b hlt]; exact e⟩
  refine ⟨⟨hR.glob, hR.fresh, hfz, fun n o hn => by simp [lget] at hn, fun n o q hn => by simp [lget] at hn, fun n o m p q q' hn => by simp [lget] at hn⟩, Ext.refl _ _, Nat.le_refl _, ⟨hb.os, hb.tape, hb.output, hb.size, fun k hk _ => hb.block k hk, fun k hk => .inr hk, Fzn.le_refl _, fun k a h => .inl h⟩⟩

/-- A contract that leaves what lay there. -/
theorem pure_below {g : FuncId} {fn : Func} {c : Code} {args : List PV} {x : PV} (hf : cx.P.funcs[g]? = some fn) (hname : (fn.name == "runtime.NumGoroutine") = false) (hbd : fn.body = some c) (hx : Res [] 5 (.p x) x)
    (h : ∀ (Γ : Gm) (w : World) (args' : List Value), R cx Γ ⟨0, []⟩ w → VRL Γ (args.map .p) args' → ∃ v', VP Γ.fz x v' ∧ Calls cx.P g ⟨args'⟩ w fun e w' => e = .returned v' ∧ Below w.heap.size w w') : Pure cx g args (· = .ret [x]) := by
  intro Γ w args' hR hA
  obtain ⟨v', h1, h2⟩ := h Γ w args' hR hA
  refine .inl ⟨run_enter hf hname hbd _ _, h2.mono fun e w' ⟨he, hw⟩ => ?_⟩
  subst he
  exact ⟨.returned (.p x), ⟨0, []⟩, Γ, ⟨.ret [x], ⟨rfl, _, rfl, hx⟩, rfl⟩, ⟨v', rfl, h1⟩, later_below hR hw⟩

/-- The other way: a contract on data without memory, as the shelf asks it of a function value. -/
theorem below_of_holds {g : FuncId} {args : List AV} {x : PV} (h : HoldsG cx g args ⟨0, []⟩ fun e H' => e = .returned (.p x) ∧ H' = ⟨0, []⟩) {w : World} {args' : List Value} {v' : Value} (hA : ∀ Γ, VRL Γ args args') (hv : ∀ v Γ, VR Γ (.p x) v → v = v') :
    Calls cx.P g ⟨args'⟩ w fun e w' => e = .returned v' ∧ Below w.heap.size w w' := by
  have hR : R cx ⟨fun _ => none, fun _ => none⟩ ⟨0, []⟩ w := ⟨fun g cs h => by simp [cx, gget] at h, fun _ _ => rfl, fun b arr h => by simp at h, fun n o hn => by simp [lget] at hn, fun n o q hn => by simp [lget] at hn, fun n o m p q q' hn => by simp [lget] at hn⟩
  refine (h _ w args' hR (hA _)).2.mono fun e w' hq => ?_
  obtain ⟨e0, H', Γ', ⟨rfl, rfl⟩, hE, hL⟩ := hq
  obtain ⟨v, rfl, hv'⟩ := hE
  have hT := hL.2.2.2
  exact ⟨by rw [hv _ _ hv'], hT.os, hT.tape, hT.output, hT.size, fun k hk => hT.kept k hk (fun ho => own_nil ho)⟩

theorem space_h (n : Int) : HoldsG cx 157 [.p (.int .i32 n)] ⟨0, []⟩ fun e H' => e = .returned (.p (.bool (decide (n = 32)))) ∧ H' = ⟨0, []⟩ := by
  refine holds_of_vc Tryz.func157 rfl rfl rfl ?_
  (first | refine brLt (fun h => ?_) (fun h => ?_) | refine brLe (fun h => ?_) (fun h => ?_) | refine brEq (fun h => ?_) (fun h => ?_))
  · have h : n = 32 := h
    exact ⟨by rw [decide_eq_true h]; rfl, rfl⟩
  · have h : ¬ n = 32 := h
    exact ⟨by rw [decide_eq_false h]; rfl, rfl⟩
theorem space_pays (w : World) : PredGrows cx.P 157 #[] is32 w := fun W x _ _ => by
  refine below_of_holds (x := .bool (decide ((x : Int) = 32))) (space_h x) (fun Γ => ?_) (fun v Γ hv => ?_)
  · simp only [VRL, VR, VP]
    exact ⟨_, _, rfl, rfl, rfl⟩
  · simp only [VR, VP] at hv
    rw [hv, is32]
    congr 1
    by_cases hx : x = 32
    · subst hx; rfl
    · rw [decide_eq_false (by omega)]
      simpa using hx

/-- A new block that nobody writes. -/
def Fzn.with (f : Fzn) (g : Nat) (arr : List Value) : Fzn := fun k => match Nat.beq k g with
  | true => some arr
  | false => f k
theorem later_fresh {Γ : Gm} {w w' : World} (hR : R cx Γ ⟨0, []⟩ w) (hb : Below w.heap.size w w') {g : Nat} {arr : List Value} {t : TypeId} {z : Nat × Nat} (hg : w.heap.size ≤ g) (he : w'.heap[g]? = some (.cells ⟨arr⟩ t z)) :
    Later cx 0 Γ ⟨0, []⟩ w ⟨Γ.nm, Fzn.with Γ.fz g arr⟩ ⟨0, []⟩ w' := by
  obtain ⟨hR1, _, _, hT⟩ := later_below hR hb
  have hnew : ∀ k a, Fzn.with Γ.fz g arr k = some a → (k = g ∧ a = arr) ∨ Γ.fz k = some a := fun k a h => by
    by_cases e : k = g
    · subst e
      simp only [Fzn.with, beq_refl', Option.some.injEq] at h
      exact .inl ⟨rfl, h.symm⟩
    · simp only [Fzn.with, beq_ne e] at h
      exact .inr h
  have hle : Γ.fz.le (Fzn.with Γ.fz g arr) := fun k a h => by
    have e : k ≠ g := fun e => by
      subst e
      obtain ⟨t, z, e⟩ := hR.fzok k a h
      have := (Array.getElem?_eq_some_iff.1 e).1
      omega
    simp only [Fzn.with, beq_ne e]
    exact h
  refine ⟨⟨fun g cs h => by simp [cx, gget] at h, hR1.fresh, fun b a h => ?_, fun n o hn => by simp [lget] at hn, fun n o q hn => by simp [lget] at hn, fun n o m p q q' hn => by simp [lget] at hn⟩, fun _ _ => rfl, Nat.le_refl _, ⟨hT.os, hT.tape, hT.output, hT.size, hT.kept, fun k hk => .inr (by obtain ⟨n, o, q, h, _⟩ := hk; simp [lget] at h), hle, fun k a h => ?_⟩⟩
  · rcases hnew b a h with ⟨rfl, rfl⟩ | h
    · exact ⟨t, z, he⟩
    · exact hR1.fzok b a h
  · rcases hnew k a h with ⟨rfl, rfl⟩ | h
    · exact .inr (.inl hg)
    · exact .inl h
/-- A contract whose result is a new row of data that refer to nothing. -/
theorem pure_row {g : FuncId} {fn : Func} {c : Code} {args : List PV} {ys : List PV} (hf : cx.P.funcs[g]? = some fn) (hname : (fn.name == "runtime.NumGoroutine") = false) (hbd : fn.body = some c)
    (h : ∀ (Γ : Gm) (w : World) (args' : List Value), R cx Γ ⟨0, []⟩ w → VRL Γ (args.map .p) args' → ∃ us, (∀ fz, VPL fz ys us) ∧ (∀ u ∈ us, plainV u = true) ∧ Calls cx.P g ⟨args'⟩ w fun e w' => ∃ A t z, e = .returned (.slice (some ⟨A, 0, none⟩) ys.length ys.length) ∧ w.heap.size ≤ A ∧ w'.heap[A]? = some (.cells ⟨us⟩ t z) ∧ Below w.heap.size w w') :
    Pure cx g args (· = .ret [.lst ys]) := by
  intro Γ w args' hR hA
  obtain ⟨us, h1, h2, h3⟩ := h Γ w args' hR hA
  refine .inl ⟨run_enter hf hname hbd _ _, h3.mono fun e w' hq => ?_⟩
  obtain ⟨A, t, z, rfl, hA1, hA2, hb⟩ := hq
  refine ⟨.returned (.p (.lst ys)), ⟨0, []⟩, _, ⟨.ret [.lst ys], ⟨rfl, _, rfl, res_p _ _⟩, rfl⟩, ⟨_, rfl, ?_⟩, later_fresh hR hb hA1 hA2⟩
  simp only [VR, VP]
  exact .inr ⟨A, 0, ys.length, us, us, rfl, Nat.le_refl _, by simp [Fzn.with], h1 _, [], [], by simp, rfl, h2⟩
theorem vpl_strs (fz : Fzn) : ∀ l : List (List UInt8), VPL fz (l.map .str) (l.map fun x => Value.string ⟨⟨x⟩⟩)
  | [] => rfl
  | x :: l => by
    simp only [List.map_cons, VPL, VP]
    exact ⟨_, _, rfl, rfl, vpl_strs fz l⟩
theorem fields_c (s : List UInt8) (hs : s.length ≤ 1000000) : Pure cx 156 [.str s, .fn (.func 157) [] []] (· = .ret [strs (wordsN s)]) := by
  refine pure_row Tryz.func156 rfl rfl fun Γ w args' hR hA => ?_
  simp only [List.map, VRL, VR, VP] at hA
  obtain ⟨a, as', rfl, rfl, b, bs', rfl, ⟨_, f1, f2, rfl, h1, h2⟩, rfl⟩ := hA
  simp only [VPL] at h1 h2
  have e1 : f1 = #[] := by cases f1; simpa using h1
  have e2 : f2 = #[] := by cases f2; simpa using h2
  subst e1 e2
  refine ⟨(wordsN s).map fun x => Value.string ⟨⟨x⟩⟩, fun fz => vpl_strs fz _, fun u hu => ?_, ?_⟩
  · obtain ⟨x, _, rfl⟩ := List.mem_map.1 hu
    rfl
  have hC := Tryz.strings_FieldsFunc_grows 157 #[] (fun args w => run_enter Tryz.func157 rfl rfl args w) is32 ⟨⟨s⟩⟩ w (by show s.length ≤ _; omega) (space_pays w)
  rw [fields_words, List.length_map, List.map_map] at hC
  refine hC.mono fun e w' hq => ?_
  obtain ⟨A, rfl, hA1, ⟨hl, hrow⟩, hb⟩ := hq
  rcases hrow with ⟨h0, _⟩ | ⟨g, cap, cur, hv, hg1, hg2, hg3, hg4, hg5, hg6⟩
  · cases h0
  have hg7 : g = A ∧ cap = (wordsN s).length := by
    simp only [Value.slice.injEq, Option.some.injEq, Addr.mk.injEq, and_true, true_and] at hv
    exact ⟨hv.1.symm, hv.2.symm⟩
  obtain ⟨rfl, rfl⟩ := hg7
  have hcur : cur.toList = (wordsN s).map fun x => Value.string ⟨⟨x⟩⟩ := by
    rw [List.take_of_length_le (by rw [Array.length_toList, hg5]; omega)] at hg6
    exact hg6
  exact ⟨g, _, _, by rw [List.length_map], hA1, hg2.trans (congrArg (fun l => some (Obj.cells ⟨l⟩ _ _)) hcur), hb⟩
end Go.Proofs.YtphmmoloegjocaaGreatDoor

/- The program's line reader: lines. -/
namespace Go.Proofs.YtphmmoloegjocaaGreatDoor
open Go Y
set_option maxRecDepth 100000
set_option maxHeartbeats 40000000

abbrev TPl : TypeId := 117
def teO (t : List UInt8) : AObj := ⟨9, false, .bx [.p (.str t)]⟩
def bxO : AObj := ⟨TPl, false, .bx [.ptr 0 0 0]⟩

theorem lines_h (t : List UInt8) : HoldsG cx 155 [.p (.str t)] ⟨0, []⟩ fun e H' => e = .returned (.fn (.func 161) [] [.ptr 0 0 0]) ∧ H' = ⟨1, [(0, teO t)]⟩ := by
  refine holds_of_vc Tryz.func155 rfl rfl rfl ?_
  exact ⟨rfl, rfl⟩

theorem cut_x (s : List UInt8) (hs : s.length ≤ 1000000) : ∃ line rest b, Pure cx 162 [.str s, .str [10]] (· = .ret [.str line, .str rest, .bool b]) ∧ (s ≠ [] → linesN s = line :: linesN rest ∧ line.length ≤ s.length ∧ rest.length < s.length) := by
  have h := cut_c s 10 hs
  rw [cutV] at h
  by_cases hc : (10 : UInt8) ∈ s
  · rw [if_pos hc] at h
    have ha := (ahead_split hc).2.2
    refine ⟨_, _, _, h, fun _ => ⟨?_, ?_, ?_⟩⟩
    · rw [linesN, lines_in [] hc, List.nil_append]; rfl
    · rw [List.length_take]; omega
    · rw [List.length_drop]; omega
  · rw [if_neg hc] at h
    refine ⟨_, _, _, h, fun h0 => ⟨?_, ?_, ?_⟩⟩
    · rw [linesN, lines_not [] hc, List.nil_append, if_neg h0]; rfl
    · omega
    · exact List.length_pos_iff.2 h0

/-- The heap of read in its range. -/
def rdS (st : LoopState) (pd : Option Code) (N : Nat) (σ : Sg) (ps : List Tmp) (ac bd : Code) (b : Bool) (n : Ns) (p : Nat) (t : List UInt8) : List (Nat × AObj) :=
  [(7, rO (lastR n.last)), (6, mO (n.rows 7)), (5, lpO st pd 4 N σ ps ac bd), (4, dfO), (3, teO t), (2, bO b), (1, bxO), (0, cmO TLn n.g (.sl 6 3 0 n.len) p [])]
/-- Behind the first line. -/
def rdA (N : Nat) (σ : Sg) (ps : List Tmp) (ac bd : Code) (n : Ns) (p : Nat) (t : List UInt8) : List (Nat × AObj) :=
  [(0, cmO TLn n.g (.sl 6 3 0 n.len) p []), (7, rO (lastR n.last)), (6, mO (n.rows 7)), (5, lpO .ready none 4 N σ ps ac bd), (4, dfO), (3, teO t), (2, bO true), (1, bxO)]
/-- Behind a node. -/
def rdB (N : Nat) (σ : Sg) (ps : List Tmp) (ac bd : Code) (n : Ns) (X : List (List AV)) (p : Nat) (t : List UInt8) : List (Nat × AObj) :=
  [(9, rO (lastR n.last)), (8, mO X), (0, cmO TLn n.g (.sl 8 3 0 n.len) p []), (5, lpO .ready none 4 N σ ps ac bd), (4, dfO), (3, teO t), (2, bO true), (1, bxO)]
/-- Behind a row. -/
def rdC (N : Nat) (σ : Sg) (ps : List Tmp) (ac bd : Code) (n : Ns) (X : List (List AV)) (z : AObj) (m p : Nat) (t : List UInt8) : List (Nat × AObj) :=
  [(9, rO (lastR n.last)), (8, z), (0, cmO TLn n.g (.sl 6 3 0 m) p []), (6, mO X), (5, lpO .ready none 4 N σ ps ac bd), (4, dfO), (3, teO t), (2, bO true), (1, bxO)]

theorem iterL_c (t0 : List UInt8) (ht : t0.length ≤ 50000) (N : Nat) (σ σ1 : Sg) (ds : List AD) (ps : List Tmp) (ac bd : Code) (Q : KQ)
    (hok : ∀ b n p t, runL true ns0 0 (linesN t0) = .inr (!b, n) → OkNs n 50000 → Q .normal σ1 ds ⟨8, rdS .exhausted none N σ ps ac bd b n p t⟩)
    (hno : ∀ k, runL true ns0 0 (linesN t0) = .inl k → Q (.panic [⟨.p (.iface 133 (i64 k)), false⟩]) σ1 ds ⟨6, [(4, dfO)]⟩)
    (hrd : ∀ (b : Bool) (n : Ns) (p k : Nat) (t line : List UInt8) (K : AE → Hp → Prop), OkNs n k → k ≤ 50000 → p ≤ 50000 → line.length ≤ 50000 →
      (passW (wordsN line) = true → K (.returned (vB true)) ⟨8, rdS .ready none N σ ps ac bd b n p t⟩) →
      (¬ passW (wordsN line) = true → stepN (!b) n (wordsN line) = none → ∀ H', lget H'.l 4 = some dfO → K (placeX (k + 1)) H') →
      (∀ n', ¬ passW (wordsN line) = true → stepN (!b) n (wordsN line) = some n' → K (.returned (vB true)) ⟨8, rdA N σ ps ac bd n' (k + 1) t⟩) →
      (∀ n' X, ¬ passW (wordsN line) = true → stepN (!b) n (wordsN line) = some n' → X = n'.rows 9 → K (.returned (vB true)) ⟨10, rdB N σ ps ac bd n' X (k + 1) t⟩) →
      (∀ n' X z m, ¬ passW (wordsN line) = true → stepN (!b) n (wordsN line) = some n' → X = n'.rows 9 → m = n'.len → K (.returned (vB true)) ⟨10, rdC N σ ps ac bd n' X z m (k + 1) t⟩) →
      RoundH cx 5 [.p (i64 ((k + 1 : Nat) : Int)), .p (.str line)] ⟨8, rdS .ready none N σ ps ac bd b n p t⟩ K) :
    HoldsG cx 161 [.fn (.yield 5) [] [], .ptr 3 0 0] ⟨6, [(5, lpO .ready none 4 N σ ps ac bd), (4, dfO), (3, teO t0), (2, bO false), (1, bxO), (0, cmO TLn 0 (.p .nils) 0 [])]⟩ (RangeQ 5 σ1 ds Q) := by
  refine holdsN_of_vc Tryz.func161 rfl rfl rfl ?_
  refine ⟨Bool × Ns × Nat × Nat × List UInt8, fun x => [(0, .fn (.yield 5) [] []), (1, .ptr 3 0 0), (3, .p (i64 ((x.2.2.2.1 + 1 : Nat) : Int)))], fun x => ⟨8, rdS .ready none N σ ps ac bd x.1 x.2.1 x.2.2.1 x.2.2.2.2⟩,
    fun x => x.2.2.2.1 + x.2.2.2.2.length ≤ t0.length ∧ OkNs x.2.1 x.2.2.2.1 ∧ x.2.2.1 ≤ x.2.2.2.1 ∧ runL (!x.1) x.2.1 x.2.2.2.1 (linesN x.2.2.2.2) = runL true ns0 0 (linesN t0), fun x => x.2.2.2.2.length, ?_, ?_⟩
  · refine ⟨(false, ns0, 0, 0, t0), ⟨by simp, ⟨fun _ => rfl, by simp [ns0, Ns.len], fun x hx => by simp [ns0] at hx⟩, by simp, rfl⟩, ent_of [] [] [(6, 3), (7, 1)] rfl (by (repeat' first | exact trivial | exact rfl | exact ⟨rfl, rfl⟩ | exact .inl rfl | refine ⟨_, rfl, rfl, rfl, ?_⟩ | refine ⟨_, _, rfl, ?_, ?_⟩ | refine ⟨_, rfl, ?_⟩ | refine And.intro ?_ ?_)) (by (repeat' first | exact trivial | exact rfl | exact ⟨rfl, rfl⟩ | exact .inl rfl | refine ⟨_, rfl, rfl, rfl, ?_⟩ | refine ⟨_, _, rfl, ?_, ?_⟩ | refine ⟨_, rfl, ?_⟩ | refine And.intro ?_ ?_)) rfl⟩
  rintro ⟨b, n, p, k, s⟩ ⟨g1, g2, g3, g4⟩
  simp only [] at g1 g2 g3 g4
  (first | refine brLt (fun h1 => ?_) (fun h1 => ?_) | refine brLe (fun h1 => ?_) (fun h1 => ?_) | refine brEq (fun h1 => ?_) (fun h1 => ?_))
  · have h1 : s = [] := h1
    subst h1
    have g5 : runL true ns0 0 (linesN t0) = .inr (!b, n) := by rw [← g4]; rfl
    exact ⟨[], [], [], .returned und, ⟨8, rdS .ready none N σ ps ac bd b n p []⟩, rfl, by (repeat' first | exact trivial | exact rfl | exact ⟨rfl, rfl⟩ | exact .inl rfl | refine ⟨_, rfl, rfl, rfl, ?_⟩ | refine ⟨_, _, rfl, ?_, ?_⟩ | refine ⟨_, rfl, ?_⟩ | refine And.intro ?_ ?_), ⟨⟨_, rfl, rfl, rfl, rfl⟩, ⟨_, rfl, rfl, rfl, _, rfl, seeLL_self n 7 7 rfl⟩, ⟨_, rfl, rfl, rfl, rfl, rfl, rfl⟩, ⟨_, rfl, rfl, rfl, rfl⟩, ⟨_, rfl, rfl, rfl, _, rfl, by (repeat' first | exact trivial | exact rfl | exact ⟨rfl, rfl⟩ | exact .inl rfl | refine ⟨_, rfl, rfl, rfl, ?_⟩ | refine ⟨_, _, rfl, ?_, ?_⟩ | refine ⟨_, rfl, ?_⟩ | refine And.intro ?_ ?_)⟩, ⟨_, rfl, rfl, rfl, _, rfl, by (repeat' first | exact trivial | exact rfl | exact ⟨rfl, rfl⟩ | exact .inl rfl | refine ⟨_, rfl, rfl, rfl, ?_⟩ | refine ⟨_, _, rfl, ?_, ?_⟩ | refine ⟨_, rfl, ?_⟩ | refine And.intro ?_ ?_)⟩, ⟨_, rfl, rfl, rfl, _, rfl, by (repeat' first | exact trivial | exact rfl | exact ⟨rfl, rfl⟩ | exact .inl rfl | refine ⟨_, rfl, rfl, rfl, ?_⟩ | refine ⟨_, _, rfl, ?_, ?_⟩ | refine ⟨_, rfl, ?_⟩ | refine And.intro ?_ ?_)⟩, ⟨_, rfl, rfl, rfl, _, rfl, by (repeat' first | exact trivial | exact rfl | exact ⟨rfl, rfl⟩ | exact .inl rfl | refine ⟨_, rfl, rfl, rfl, ?_⟩ | refine ⟨_, _, rfl, ?_, ?_⟩ | refine ⟨_, rfl, ?_⟩ | refine And.intro ?_ ?_)⟩, trivial⟩, hok b n p [] g5 (g2.mono (by omega))⟩
  have h1 : ¬ s = [] := h1
  obtain ⟨line, rest, c, hC, hL⟩ := cut_x s (by omega)
  obtain ⟨l1, l2, l3⟩ := hL h1
  rw [l1, runL] at g4
  obtain ⟨w1, w2⟩ := words_ok line (by omega)
  refine hC.eq rfl ?_
  refine hrd b n p k s line _ g2 (by omega) (by omega) (by omega) (fun hp => ?_) (fun hp hs H' hd => ?_) (fun n' hp hs => ?_) (fun n' X hp hs hX => ?_) (fun n' X z m hp hs hX hm => ?_)
  · rw [if_pos hp] at g4
    refine ⟨((k + 1 : Nat) : Int) + 1, wrap_i64 (by omega) (by omega), ?_⟩
    refine ⟨(b, n, p, k + 1, rest), ⟨?_, ?_, ?_, ?_⟩, ent_of [] [] [] rfl ⟨⟨rfl, _, _, rfl, rfl, rfl⟩, ⟨rfl, rfl⟩, congrArg (fun m : Int => i64 m) (show ((k + 1 : Nat) : Int) + 1 = ((k + 1 + 1 : Nat) : Int) by omega), trivial⟩ ⟨⟨_, rfl, rfl, rfl, rfl⟩, ⟨_, rfl, rfl, rfl, _, rfl, seeLL_self n 7 7 rfl⟩, ⟨_, rfl, rfl, rfl, rfl, rfl, rfl⟩, ⟨_, rfl, rfl, rfl, rfl⟩, ⟨_, rfl, rfl, rfl, _, rfl, by (repeat' first | exact trivial | exact rfl | exact ⟨rfl, rfl⟩ | exact .inl rfl | refine ⟨_, rfl, rfl, rfl, ?_⟩ | refine ⟨_, _, rfl, ?_, ?_⟩ | refine ⟨_, rfl, ?_⟩ | refine And.intro ?_ ?_)⟩, ⟨_, rfl, rfl, rfl, _, rfl, by (repeat' first | exact trivial | exact rfl | exact ⟨rfl, rfl⟩ | exact .inl rfl | refine ⟨_, rfl, rfl, rfl, ?_⟩ | refine ⟨_, _, rfl, ?_, ?_⟩ | refine ⟨_, rfl, ?_⟩ | refine And.intro ?_ ?_)⟩, ⟨_, rfl, rfl, rfl, _, rfl, by (repeat' first | exact trivial | exact rfl | exact ⟨rfl, rfl⟩ | exact .inl rfl | refine ⟨_, rfl, rfl, rfl, ?_⟩ | refine ⟨_, _, rfl, ?_, ?_⟩ | refine ⟨_, rfl, ?_⟩ | refine And.intro ?_ ?_)⟩, ⟨_, rfl, rfl, rfl, _, rfl, by (repeat' first | exact trivial | exact rfl | exact ⟨rfl, rfl⟩ | exact .inl rfl | refine ⟨_, rfl, rfl, rfl, ?_⟩ | refine ⟨_, _, rfl, ?_, ?_⟩ | refine ⟨_, rfl, ?_⟩ | refine And.intro ?_ ?_)⟩, trivial⟩ rfl, by show rest.length < s.length; omega⟩
    · simp only []; omega
    · exact g2.mono (by simp only []; omega)
    · simp only []; omega
    · exact g4
  · rw [if_neg hp, hs] at g4
    exact ⟨[], [], [], placeX (k + 1), ⟨6, [(4, dfO)]⟩, rfl, ⟨_, rfl, _, _, rfl, rfl, rfl⟩, ⟨⟨_, hd, rfl, rfl, rfl⟩, trivial⟩, hno (k + 1) g4.symm⟩
  · rw [if_neg hp, hs] at g4
    refine ⟨((k + 1 : Nat) : Int) + 1, wrap_i64 (by omega) (by omega), ?_⟩
    refine ⟨(true, n', (k + 1), k + 1, rest), ⟨?_, ?_, ?_, ?_⟩, ent_of [] [] [] rfl ⟨⟨rfl, _, _, rfl, rfl, rfl⟩, ⟨rfl, rfl⟩, congrArg (fun m : Int => i64 m) (show ((k + 1 : Nat) : Int) + 1 = ((k + 1 + 1 : Nat) : Int) by omega), trivial⟩ ⟨⟨_, rfl, rfl, rfl, rfl⟩, ⟨_, rfl, rfl, rfl, _, rfl, seeLL_self n' 7 7 rfl⟩, ⟨_, rfl, rfl, rfl, rfl, rfl, rfl⟩, ⟨_, rfl, rfl, rfl, rfl⟩, ⟨_, rfl, rfl, rfl, _, rfl, by (repeat' first | exact trivial | exact rfl | exact ⟨rfl, rfl⟩ | exact .inl rfl | refine ⟨_, rfl, rfl, rfl, ?_⟩ | refine ⟨_, _, rfl, ?_, ?_⟩ | refine ⟨_, rfl, ?_⟩ | refine And.intro ?_ ?_)⟩, ⟨_, rfl, rfl, rfl, _, rfl, by (repeat' first | exact trivial | exact rfl | exact ⟨rfl, rfl⟩ | exact .inl rfl | refine ⟨_, rfl, rfl, rfl, ?_⟩ | refine ⟨_, _, rfl, ?_, ?_⟩ | refine ⟨_, rfl, ?_⟩ | refine And.intro ?_ ?_)⟩, ⟨_, rfl, rfl, rfl, _, rfl, by (repeat' first | exact trivial | exact rfl | exact ⟨rfl, rfl⟩ | exact .inl rfl | refine ⟨_, rfl, rfl, rfl, ?_⟩ | refine ⟨_, _, rfl, ?_, ?_⟩ | refine ⟨_, rfl, ?_⟩ | refine And.intro ?_ ?_)⟩, ⟨_, rfl, rfl, rfl, _, rfl, by (repeat' first | exact trivial | exact rfl | exact ⟨rfl, rfl⟩ | exact .inl rfl | refine ⟨_, rfl, rfl, rfl, ?_⟩ | refine ⟨_, _, rfl, ?_, ?_⟩ | refine ⟨_, rfl, ?_⟩ | refine And.intro ?_ ?_)⟩, trivial⟩ rfl, by show rest.length < s.length; omega⟩
    · simp only []; omega
    · exact step_ok g2 w1 hs
    · simp only []; omega
    · exact g4
  · rw [if_neg hp, hs] at g4
    subst hX
    refine ⟨((k + 1 : Nat) : Int) + 1, wrap_i64 (by omega) (by omega), ?_⟩
    refine ⟨(true, n', (k + 1), k + 1, rest), ⟨?_, ?_, ?_, ?_⟩, ent_of [] [(6, 8), (7, 9)] [] rfl ⟨⟨rfl, _, _, rfl, rfl, rfl⟩, ⟨rfl, rfl⟩, congrArg (fun m : Int => i64 m) (show ((k + 1 : Nat) : Int) + 1 = ((k + 1 + 1 : Nat) : Int) by omega), trivial⟩ ⟨⟨_, rfl, rfl, rfl, rfl⟩, ⟨_, rfl, rfl, rfl, _, rfl, seeLL_self n' 9 7 rfl⟩, ⟨_, rfl, rfl, rfl, rfl, rfl, rfl⟩, ⟨_, rfl, rfl, rfl, rfl⟩, ⟨_, rfl, rfl, rfl, _, rfl, by (repeat' first | exact trivial | exact rfl | exact ⟨rfl, rfl⟩ | exact .inl rfl | refine ⟨_, rfl, rfl, rfl, ?_⟩ | refine ⟨_, _, rfl, ?_, ?_⟩ | refine ⟨_, rfl, ?_⟩ | refine And.intro ?_ ?_)⟩, ⟨_, rfl, rfl, rfl, _, rfl, by (repeat' first | exact trivial | exact rfl | exact ⟨rfl, rfl⟩ | exact .inl rfl | refine ⟨_, rfl, rfl, rfl, ?_⟩ | refine ⟨_, _, rfl, ?_, ?_⟩ | refine ⟨_, rfl, ?_⟩ | refine And.intro ?_ ?_)⟩, ⟨_, rfl, rfl, rfl, _, rfl, by (repeat' first | exact trivial | exact rfl | exact ⟨rfl, rfl⟩ | exact .inl rfl | refine ⟨_, rfl, rfl, rfl, ?_⟩ | refine ⟨_, _, rfl, ?_, ?_⟩ | refine ⟨_, rfl, ?_⟩ | refine And.intro ?_ ?_)⟩, ⟨_, rfl, rfl, rfl, _, rfl, by (repeat' first | exact trivial | exact rfl | exact ⟨rfl, rfl⟩ | exact .inl rfl | refine ⟨_, rfl, rfl, rfl, ?_⟩ | refine ⟨_, _, rfl, ?_, ?_⟩ | refine ⟨_, rfl, ?_⟩ | refine And.intro ?_ ?_)⟩, trivial⟩ rfl, by show rest.length < s.length; omega⟩
    · simp only []; omega
    · exact step_ok g2 w1 hs
    · simp only []; omega
    · exact g4
  · rw [if_neg hp, hs] at g4
    subst hX hm
    refine ⟨((k + 1 : Nat) : Int) + 1, wrap_i64 (by omega) (by omega), ?_⟩
    refine ⟨(true, n', (k + 1), k + 1, rest), ⟨?_, ?_, ?_, ?_⟩, ent_of [] [(7, 9)] [] rfl ⟨⟨rfl, _, _, rfl, rfl, rfl⟩, ⟨rfl, rfl⟩, congrArg (fun m : Int => i64 m) (show ((k + 1 : Nat) : Int) + 1 = ((k + 1 + 1 : Nat) : Int) by omega), trivial⟩ ⟨⟨_, rfl, rfl, rfl, rfl⟩, ⟨_, rfl, rfl, rfl, _, rfl, seeLL_self n' 9 7 rfl⟩, ⟨_, rfl, rfl, rfl, rfl, rfl, rfl⟩, ⟨_, rfl, rfl, rfl, rfl⟩, ⟨_, rfl, rfl, rfl, _, rfl, by (repeat' first | exact trivial | exact rfl | exact ⟨rfl, rfl⟩ | exact .inl rfl | refine ⟨_, rfl, rfl, rfl, ?_⟩ | refine ⟨_, _, rfl, ?_, ?_⟩ | refine ⟨_, rfl, ?_⟩ | refine And.intro ?_ ?_)⟩, ⟨_, rfl, rfl, rfl, _, rfl, by (repeat' first | exact trivial | exact rfl | exact ⟨rfl, rfl⟩ | exact .inl rfl | refine ⟨_, rfl, rfl, rfl, ?_⟩ | refine ⟨_, _, rfl, ?_, ?_⟩ | refine ⟨_, rfl, ?_⟩ | refine And.intro ?_ ?_)⟩, ⟨_, rfl, rfl, rfl, _, rfl, by (repeat' first | exact trivial | exact rfl | exact ⟨rfl, rfl⟩ | exact .inl rfl | refine ⟨_, rfl, rfl, rfl, ?_⟩ | refine ⟨_, _, rfl, ?_, ?_⟩ | refine ⟨_, rfl, ?_⟩ | refine And.intro ?_ ?_)⟩, ⟨_, rfl, rfl, rfl, _, rfl, by (repeat' first | exact trivial | exact rfl | exact ⟨rfl, rfl⟩ | exact .inl rfl | refine ⟨_, rfl, rfl, rfl, ?_⟩ | refine ⟨_, _, rfl, ?_, ?_⟩ | refine ⟨_, rfl, ?_⟩ | refine And.intro ?_ ?_)⟩, trivial⟩ rfl, by show rest.length < s.length; omega⟩
    · simp only []; omega
    · exact step_ok g2 w1 hs
    · simp only []; omega
    · exact g4
end Go.Proofs.YtphmmoloegjocaaGreatDoor

/- The program's line reader: read. -/
namespace Go.Proofs.YtphmmoloegjocaaGreatDoor
open Go Y
set_option maxRecDepth 100000
set_option maxHeartbeats 40000000

theorem renL_p (ρ : Nat → Nat) : ∀ l : List PV, renL ρ (l.map .p) = l.map .p
  | [] => rfl
  | x :: l => by rw [List.map_cons, renL, renL_p ρ l]; rfl
theorem renLL_p (ρ : Nat → Nat) : ∀ l : List (List PV), renLL ρ (mapsP l) = mapsP l
  | [] => rfl
  | x :: l => by rw [mapsP, renLL, renL_p, renLL_p ρ l]
theorem renLL_app (ρ : Nat → Nat) : ∀ a b : List (List AV), renLL ρ (a ++ b) = renLL ρ a ++ renLL ρ b
  | [], b => rfl
  | x :: a, b => by rw [List.cons_append, renLL, renLL_app ρ a b]; rfl
theorem ren_rows (ρ : Nat → Nat) (n : Ns) (r : Nat) : renLL ρ (n.rows r) = n.rows (ρ r) := by
  obtain ⟨g, i, l⟩ := n
  rw [Ns.rows, renLL_app, renLL_p]
  cases l <;> rfl
theorem row_put (n : Ns) {x : Nd} (hx : n.last = some x) (v : List Int) (ρ : Nat → Nat) (r r' : Nat) : (renLL ρ (n.rows r)).set (n.len - 1) [.p (i64 x.card), .p (ints x.parents), .sl r' 1 0 (x.rows.length + 1)] = Ns.rows ⟨n.g, n.init, some { x with rows := x.rows ++ [v] }⟩ r' := by
  have hnl : n.len = n.init.length + 1 := by rw [Ns.len, hx]
  rw [ren_rows, hnl, Nat.add_sub_cancel, rows_put n _ hx, Ns.rows, lastC, snoc_len]
def lineR (t : List UInt8) : Sum Nat (Bool × Ns) := runL true ns0 0 (linesN t)
/-- What reading ends with. -/
def readQ (r : Sum Nat (Bool × Ns)) (e : AE) (H' : Hp) : Prop := match r with
  | .inl k => e = placeX k ∧ H' = ⟨1, []⟩
  | .inr (true, _) => e = placeX 0 ∧ H' = ⟨1, []⟩
  | .inr (false, n) => ∃ p, OkNs n 50000 ∧ e = .returned und ∧ H' = n.heapL p 1 2

theorem read_l (t0 : List UInt8) (ht : t0.length ≤ 50000) : HoldsG cx 154 [.ptr 0 0 0, .p (.str t0)] ⟨1, [(0, cmO TLn 0 (.p .nils) 0 [])]⟩ (readQ (lineR t0)) := by
  refine holdsN_of_vc Tryz.func154 rfl rfl rfl ?_
  refine (lines_h t0).useE [] [] rfl trivial ⟨_, _, rfl, rfl, rfl⟩ ?_
  refine range_of ?_
  intro σ' ps ac bd e1 e2 e3 e4
  refine iterL_c t0 ht _ σ' _ _ ps ac bd _ (fun b n p t hr hn => ?_) (fun k hr => ?_) ?_
  · have hR : lineR t0 = .inr (!b, n) := hr
    cases b
    · refine (fail_h TLn n.g (.sl 1 3 0 n.len) 0 []).holds.useN [] [(1, 6)] rfl (by (repeat' first | exact trivial | exact rfl | exact ⟨rfl, rfl⟩ | exact .inl rfl | refine ⟨_, rfl, rfl, rfl, ?_⟩ | refine ⟨_, _, rfl, ?_, ?_⟩ | refine ⟨_, rfl, ?_⟩ | refine And.intro ?_ ?_)) (by (repeat' first | exact trivial | exact rfl | exact ⟨rfl, rfl⟩ | exact .inl rfl | refine ⟨_, rfl, rfl, rfl, ?_⟩ | refine ⟨_, _, rfl, ?_, ?_⟩ | refine ⟨_, rfl, ?_⟩ | refine And.intro ?_ ?_)) fun e0 H0 hq => ?_
      obtain ⟨rfl, rfl⟩ := hq
      refine ⟨rfl, ?_⟩
      exact ⟨[], [], [], placeX 0, ⟨1, []⟩, rfl, ⟨_, rfl, _, _, rfl, rfl, rfl⟩, trivial, by rw [hR]; exact ⟨rfl, rfl⟩⟩
    · exact ⟨[], [(1, 6), (2, 7)], [], .returned und, n.heapL p 1 2, rfl, by (repeat' first | exact trivial | exact rfl | exact ⟨rfl, rfl⟩ | exact .inl rfl | refine ⟨_, rfl, rfl, rfl, ?_⟩ | refine ⟨_, _, rfl, ?_, ?_⟩ | refine ⟨_, rfl, ?_⟩ | refine And.intro ?_ ?_), ⟨⟨_, rfl, rfl, rfl, rfl⟩, ⟨_, rfl, rfl, rfl, _, rfl, seeLL_self n 7 2 rfl⟩, ⟨_, rfl, rfl, rfl, _, rfl, by (repeat' first | exact trivial | exact rfl | exact ⟨rfl, rfl⟩ | exact .inl rfl | refine ⟨_, rfl, rfl, rfl, ?_⟩ | refine ⟨_, _, rfl, ?_, ?_⟩ | refine ⟨_, rfl, ?_⟩ | refine And.intro ?_ ?_)⟩, trivial⟩, by rw [hR]; exact ⟨p, hn, rfl, rfl⟩⟩
  · have hR : lineR t0 = .inl k := hr
    exact ⟨[], [], [], placeX k, ⟨1, []⟩, rfl, ⟨_, rfl, _, _, rfl, rfl, rfl⟩, trivial, by rw [hR]; exact ⟨rfl, rfl⟩⟩
  intro b n p k t line K g1 g2 g3 hl hS hE hA hB hC
  subst e1 e2 e3 e4
  have hlen := g1.len
  have hlast := g1.last
  have hno := g1.no
  cases b
  · obtain ⟨w1, w2⟩ := words_ok line hl
    have hF := fields_c line (by omega)
    refine round_of_vc rfl rfl rfl ?_
    refine hF.eq rfl ?_
    obtain ⟨ws, hws⟩ : ∃ ws, ws = wordsN line := ⟨_, rfl⟩
    rw [← hws] at w1 w2 hS hE hA hB hC
    rw [← hws]
    (first | refine brLt (fun h4 => ?_) (fun h4 => ?_) | refine brLe (fun h4 => ?_) (fun h4 => ?_) | refine brEq (fun h4 => ?_) (fun h4 => ?_))
    · have h4 : ((ws.map PV.str).length : Int) = 0 := h4
      rw [List.length_map] at h4
      have hnil : ws = [] := List.eq_nil_of_length_eq_zero (by omega)
      exact hS (by rw [passW, hnil]; rfl)
    have h4 : ¬ ((ws.map PV.str).length : Int) = 0 := h4
    rw [List.length_map] at h4
    have hpos : 0 < ws.length := by omega
    obtain ⟨_, hne⟩ := w2 _ (getD_memL [] hpos)
    have hp0 := List.length_pos_iff.2 hne
    have hnn : ¬ ws = [] := List.length_pos_iff.1 hpos
    refine ⟨_, ⟨by omega, .str (ws.getD 0 []), tcell hpos, rfl⟩, ?_⟩
    refine ⟨_, ⟨by omega, (ws.getD 0 []).getD 0 0, scan_at hp0, rfl⟩, ?_⟩
    (first | refine brLt (fun h5 => ?_) (fun h5 => ?_) | refine brLe (fun h5 => ?_) (fun h5 => ?_) | refine brEq (fun h5 => ?_) (fun h5 => ?_))
    · have h5 : (((ws.getD 0 []).getD 0 0).toNat : Int) = 59 := h5
      have h6 : (ws.getD 0 []).getD 0 0 = 59 := UInt8.toNat_inj.1 (by rw [show (59 : UInt8).toNat = 59 from rfl]; omega)
      exact hS (by rw [passW, decide_eq_true h6, Bool.or_true])
    have h5 : ¬ (((ws.getD 0 []).getD 0 0).toNat : Int) = 59 := h5
    have h6 : ¬ (ws.getD 0 []).getD 0 0 = 59 := fun e => h5 (by rw [e]; rfl)
    have hpass : ¬ passW ws = true := by rw [passW, decide_eq_false h6, decide_eq_false hnn]; decide
    have hSn : stepN (!false) n ws = if ws.length = 2 ∧ numB (ws.getD 1 []) = true ∧ ws.getD 0 [] = kNet then some { n with g := valN (ws.getD 1 []) } else none := by rw [stepN]; exact if_pos rfl
    refine ⟨_, ⟨by omega, .str (ws.getD 0 []), tcell hpos, rfl⟩, ?_⟩
    (first | refine brLt (fun h7 => ?_) (fun h7 => ?_) | refine brLe (fun h7 => ?_) (fun h7 => ?_) | refine brEq (fun h7 => ?_) (fun h7 => ?_))
    rotate_left
    · have h7 : ¬ ws.getD 0 [] = kNet := h7
      refine (fail_h TLn n.g (.sl 1 3 0 n.len) (k + 1) []).holds.useN [] [(1, 6)] rfl (by (repeat' first | exact trivial | exact rfl | exact ⟨rfl, rfl⟩ | exact .inl rfl | refine ⟨_, rfl, rfl, rfl, ?_⟩ | refine ⟨_, _, rfl, ?_, ?_⟩ | refine ⟨_, rfl, ?_⟩ | refine And.intro ?_ ?_)) (by (repeat' first | exact trivial | exact rfl | exact ⟨rfl, rfl⟩ | exact .inl rfl | refine ⟨_, rfl, rfl, rfl, ?_⟩ | refine ⟨_, _, rfl, ?_, ?_⟩ | refine ⟨_, rfl, ?_⟩ | refine And.intro ?_ ?_)) fun e0 H0 hq => ?_
      obtain ⟨rfl, rfl⟩ := hq
      refine ⟨rfl, ?_⟩
      exact hE hpass (by rw [hSn]; exact if_neg (fun h => h7 h.2.2)) _ rfl
    have h7 : ws.getD 0 [] = kNet := h7
    (first | refine brLt (fun h8 => ?_) (fun h8 => ?_) | refine brLe (fun h8 => ?_) (fun h8 => ?_) | refine brEq (fun h8 => ?_) (fun h8 => ?_))
    rotate_left
    · have h8 : ¬ ((ws.map PV.str).length : Int) = 2 := h8
      rw [List.length_map] at h8
      refine (fail_h TLn n.g (.sl 1 3 0 n.len) (k + 1) []).holds.useN [] [(1, 6)] rfl (by (repeat' first | exact trivial | exact rfl | exact ⟨rfl, rfl⟩ | exact .inl rfl | refine ⟨_, rfl, rfl, rfl, ?_⟩ | refine ⟨_, _, rfl, ?_, ?_⟩ | refine ⟨_, rfl, ?_⟩ | refine And.intro ?_ ?_)) (by (repeat' first | exact trivial | exact rfl | exact ⟨rfl, rfl⟩ | exact .inl rfl | refine ⟨_, rfl, rfl, rfl, ?_⟩ | refine ⟨_, _, rfl, ?_, ?_⟩ | refine ⟨_, rfl, ?_⟩ | refine And.intro ?_ ?_)) fun e0 H0 hq => ?_
      obtain ⟨rfl, rfl⟩ := hq
      refine ⟨rfl, ?_⟩
      exact hE hpass (by rw [hSn]; exact if_neg (fun h => h8 (by omega))) _ rfl
    have h8 : ((ws.map PV.str).length : Int) = 2 := h8
    rw [List.length_map] at h8
    have hw1 := (w2 _ (getD_memL [] (show 1 < ws.length by omega))).1
    have hN := num_h' TLn n.g (.sl 1 3 0 n.len) (k + 1) [] (self_sl (by omega)) (ws.getD 1 []) hw1
    refine VDraw.seq rfl ?_
    refine ⟨_, ⟨by omega, .str (ws.getD 1 []), tcell (by omega), rfl⟩, ?_⟩
    refine hN.holds.useN [] [(1, 6)] rfl (by (repeat' first | exact trivial | exact rfl | exact ⟨rfl, rfl⟩ | exact .inl rfl | refine ⟨_, rfl, rfl, rfl, ?_⟩ | refine ⟨_, _, rfl, ?_, ?_⟩ | refine ⟨_, rfl, ?_⟩ | refine And.intro ?_ ?_)) (by (repeat' first | exact trivial | exact rfl | exact ⟨rfl, rfl⟩ | exact .inl rfl | refine ⟨_, rfl, rfl, rfl, ?_⟩ | refine ⟨_, _, rfl, ?_, ?_⟩ | refine ⟨_, rfl, ?_⟩ | refine And.intro ?_ ?_)) fun e0 H0 hq => ?_
    obtain ⟨rfl, hq⟩ := hq
    by_cases hn : numB (ws.getD 1 []) = true
    · rw [if_pos hn] at hq
      subst hq
      refine ⟨rfl, ?_⟩
      refine ⟨by (repeat' first | exact trivial | exact rfl | exact ⟨rfl, rfl⟩ | exact .inl rfl | refine ⟨_, rfl, rfl, rfl, ?_⟩ | refine ⟨_, _, rfl, ?_, ?_⟩ | refine ⟨_, rfl, ?_⟩ | refine And.intro ?_ ?_), ?_⟩
      exact hA { n with g := valN (ws.getD 1 []) } hpass (by rw [hSn]; exact if_pos ⟨by omega, hn, h7⟩)
    · rw [if_neg hn] at hq
      subst hq
      refine ⟨rfl, ?_⟩
      exact hE hpass (by rw [hSn]; exact if_neg (fun h => hn h.2.1)) _ rfl
  · obtain ⟨w1, w2⟩ := words_ok line hl
    have hF := fields_c line (by omega)
    refine round_of_vc rfl rfl rfl ?_
    refine hF.eq rfl ?_
    obtain ⟨ws, hws⟩ : ∃ ws, ws = wordsN line := ⟨_, rfl⟩
    rw [← hws] at w1 w2 hS hE hA hB hC
    rw [← hws]
    (first | refine brLt (fun h4 => ?_) (fun h4 => ?_) | refine brLe (fun h4 => ?_) (fun h4 => ?_) | refine brEq (fun h4 => ?_) (fun h4 => ?_))
    · have h4 : ((ws.map PV.str).length : Int) = 0 := h4
      rw [List.length_map] at h4
      have hnil : ws = [] := List.eq_nil_of_length_eq_zero (by omega)
      exact hS (by rw [passW, hnil]; rfl)
    have h4 : ¬ ((ws.map PV.str).length : Int) = 0 := h4
    rw [List.length_map] at h4
    have hpos : 0 < ws.length := by omega
    obtain ⟨_, hne⟩ := w2 _ (getD_memL [] hpos)
    have hp0 := List.length_pos_iff.2 hne
    have hnn : ¬ ws = [] := List.length_pos_iff.1 hpos
    refine ⟨_, ⟨by omega, .str (ws.getD 0 []), tcell hpos, rfl⟩, ?_⟩
    refine ⟨_, ⟨by omega, (ws.getD 0 []).getD 0 0, scan_at hp0, rfl⟩, ?_⟩
    (first | refine brLt (fun h5 => ?_) (fun h5 => ?_) | refine brLe (fun h5 => ?_) (fun h5 => ?_) | refine brEq (fun h5 => ?_) (fun h5 => ?_))
    · have h5 : (((ws.getD 0 []).getD 0 0).toNat : Int) = 59 := h5
      have h6 : (ws.getD 0 []).getD 0 0 = 59 := UInt8.toNat_inj.1 (by rw [show (59 : UInt8).toNat = 59 from rfl]; omega)
      exact hS (by rw [passW, decide_eq_true h6, Bool.or_true])
    have h5 : ¬ (((ws.getD 0 []).getD 0 0).toNat : Int) = 59 := h5
    have h6 : ¬ (ws.getD 0 []).getD 0 0 = 59 := fun e => h5 (by rw [e]; rfl)
    have hpass : ¬ passW ws = true := by rw [passW, decide_eq_false h6, decide_eq_false hnn]; decide
    have hSn : stepN (!true) n ws = stepN false n ws := rfl
    rw [hSn] at hE hA hB hC
    refine ⟨_, ⟨by omega, .str (ws.getD 0 []), tcell hpos, rfl⟩, ?_⟩
    (first | refine brLt (fun h7 => ?_) (fun h7 => ?_) | refine brLe (fun h7 => ?_) (fun h7 => ?_) | refine brEq (fun h7 => ?_) (fun h7 => ?_))
    · have h7 : ws.getD 0 [] = kNode := h7
      have hcons : ws = kNode :: ws.drop 1 := by
        have := drop_cons (k := 0) [] hpos
        rw [List.drop_zero, h7] at this
        exact this
      have hN := node_l n (k + 1) (ws.drop 1) (by omega) (by rw [List.length_drop]; omega) (fun v hv => (w2 v (List.mem_of_mem_drop hv)).1)
      have hst : nodeLn n (ws.drop 1) = stepN false n ws := by rw [step_node, ← hcons]
      rw [hst] at hN
      refine VDraw.seq rfl ?_
      refine ⟨by show (0 : Int) ≤ 1 ∧ (1 : Int) ≤ ((ws.map PV.str).length : Nat); rw [List.length_map]; omega, ?_⟩
      refine hN.holds.useN [] [(1, 6), (2, 7)] rfl ⟨⟨_, rfl, rfl, rfl, rfl⟩, ⟨_, rfl, rfl, rfl, _, rfl, seeLL_self n 7 2 rfl⟩, ⟨_, rfl, rfl, rfl, _, rfl, by (repeat' first | exact trivial | exact rfl | exact ⟨rfl, rfl⟩ | exact .inl rfl | refine ⟨_, rfl, rfl, rfl, ?_⟩ | refine ⟨_, _, rfl, ?_, ?_⟩ | refine ⟨_, rfl, ?_⟩ | refine And.intro ?_ ?_)⟩, trivial⟩ ⟨_, _, rfl, ⟨rfl, rfl⟩, _, _, rfl, (by show PV.lst ((ws.drop 1).map PV.str) = PV.lst ((ws.map PV.str).drop 1); rw [List.map_drop]), rfl⟩ fun e0 H0 hq => ?_
      obtain ⟨S, hSS⟩ : ∃ S, S = stepN false n ws := ⟨_, rfl⟩
      rw [← hSS] at hq
      cases S with
      | none =>
        obtain ⟨rfl, rfl⟩ := hq
        refine ⟨rfl, ?_⟩
        exact hE hpass hSS.symm _ rfl
      | some n' =>
        obtain ⟨rfl, rfl⟩ := hq
        refine ⟨rfl, ?_⟩
        exact hB n' _ hpass hSS.symm (ren_rows _ n' 4)
    have h7 : ¬ ws.getD 0 [] = kNode := h7
    have hSr : stepN false n ws = if ws.getD 0 [] = kRow then (match n.last with
        | none => none
        | some x => if allB (ws.drop 1) = true ∧ 1 < ws.length then some ⟨n.g, n.init, some { x with rows := x.rows ++ [(ws.drop 1).map valN] }⟩ else none) else none := by
      rw [stepN, if_neg (by decide), if_neg h7] <;> rfl
    refine ⟨_, ⟨by omega, .str (ws.getD 0 []), tcell hpos, rfl⟩, ?_⟩
    (first | refine brLt (fun h8 => ?_) (fun h8 => ?_) | refine brLe (fun h8 => ?_) (fun h8 => ?_) | refine brEq (fun h8 => ?_) (fun h8 => ?_))
    rotate_left
    · have h8 : ¬ ws.getD 0 [] = kRow := h8
      refine (fail_h TLn n.g (.sl 1 3 0 n.len) (k + 1) []).holds.useN [] [(1, 6)] rfl (by (repeat' first | exact trivial | exact rfl | exact ⟨rfl, rfl⟩ | exact .inl rfl | refine ⟨_, rfl, rfl, rfl, ?_⟩ | refine ⟨_, _, rfl, ?_, ?_⟩ | refine ⟨_, rfl, ?_⟩ | refine And.intro ?_ ?_)) (by (repeat' first | exact trivial | exact rfl | exact ⟨rfl, rfl⟩ | exact .inl rfl | refine ⟨_, rfl, rfl, rfl, ?_⟩ | refine ⟨_, _, rfl, ?_, ?_⟩ | refine ⟨_, rfl, ?_⟩ | refine And.intro ?_ ?_)) fun e0 H0 hq => ?_
      obtain ⟨rfl, rfl⟩ := hq
      refine ⟨rfl, ?_⟩
      exact hE hpass (by rw [hSr]; exact if_neg h8) _ rfl
    have h8 : ws.getD 0 [] = kRow := h8
    rw [if_pos h8] at hSr
    (first | refine brLt (fun h9 => ?_) (fun h9 => ?_) | refine brLe (fun h9 => ?_) (fun h9 => ?_) | refine brEq (fun h9 => ?_) (fun h9 => ?_))
    rotate_left
    · have h9 : ¬ (1 : Int) < ((ws.map PV.str).length : Nat) := h9
      rw [List.length_map] at h9
      refine (fail_h TLn n.g (.sl 1 3 0 n.len) (k + 1) []).holds.useN [] [(1, 6)] rfl (by (repeat' first | exact trivial | exact rfl | exact ⟨rfl, rfl⟩ | exact .inl rfl | refine ⟨_, rfl, rfl, rfl, ?_⟩ | refine ⟨_, _, rfl, ?_, ?_⟩ | refine ⟨_, rfl, ?_⟩ | refine And.intro ?_ ?_)) (by (repeat' first | exact trivial | exact rfl | exact ⟨rfl, rfl⟩ | exact .inl rfl | refine ⟨_, rfl, rfl, rfl, ?_⟩ | refine ⟨_, _, rfl, ?_, ?_⟩ | refine ⟨_, rfl, ?_⟩ | refine And.intro ?_ ?_)) fun e0 H0 hq => ?_
      obtain ⟨rfl, rfl⟩ := hq
      refine ⟨rfl, ?_⟩
      exact hE hpass (by rw [hSr]; cases n.last with | none => rfl | some x => exact if_neg (fun h => by omega)) _ rfl
    have h9 : (1 : Int) < ((ws.map PV.str).length : Nat) := h9
    rw [List.length_map] at h9
    (first | refine brLt (fun h10 => ?_) (fun h10 => ?_) | refine brLe (fun h10 => ?_) (fun h10 => ?_) | refine brEq (fun h10 => ?_) (fun h10 => ?_))
    rotate_left
    · have h10 : ¬ (0 : Int) < ((n.len : Nat) : Int) := h10
      have hln : n.last = none := by
        cases e : n.last with
        | none => rfl
        | some x => rw [Ns.len, e] at h10; simp only [] at h10; omega
      refine (fail_h TLn n.g (.sl 1 3 0 n.len) (k + 1) []).holds.useN [] [(1, 6)] rfl (by (repeat' first | exact trivial | exact rfl | exact ⟨rfl, rfl⟩ | exact .inl rfl | refine ⟨_, rfl, rfl, rfl, ?_⟩ | refine ⟨_, _, rfl, ?_, ?_⟩ | refine ⟨_, rfl, ?_⟩ | refine And.intro ?_ ?_)) (by (repeat' first | exact trivial | exact rfl | exact ⟨rfl, rfl⟩ | exact .inl rfl | refine ⟨_, rfl, rfl, rfl, ?_⟩ | refine ⟨_, _, rfl, ?_, ?_⟩ | refine ⟨_, rfl, ?_⟩ | refine And.intro ?_ ?_)) fun e0 H0 hq => ?_
      obtain ⟨rfl, rfl⟩ := hq
      refine ⟨rfl, ?_⟩
      exact hE hpass (by rw [hSr, hln]) _ rfl
    have h10 : (0 : Int) < ((n.len : Nat) : Int) := h10
    obtain ⟨x, hx⟩ : ∃ x, n.last = some x := by
      cases e : n.last with
      | none => rw [Ns.len, e] at h10; have := hno e; rw [this] at h10; simp at h10
      | some x => exact ⟨x, rfl⟩
    rw [hx] at hSr
    have hSr : stepN false n ws = if allB (ws.drop 1) = true ∧ 1 < ws.length then some ⟨n.g, n.init, some { x with rows := x.rows ++ [(ws.drop 1).map valN] }⟩ else none := hSr
    have hnl : n.len = n.init.length + 1 := by rw [Ns.len, hx]
    have hX : ∀ ρ r, (renLL ρ (n.rows r))[n.len - 1]? = some [.p (i64 x.card), .p (ints x.parents), .sl (ρ r) 1 0 x.rows.length] := fun ρ r => by
      rw [ren_rows, hnl, Nat.add_sub_cancel]
      exact rows_at n (ρ r) hx
    have hrl : lastR n.last = x.rows := by rw [hx]; rfl
    rw [hrl] at hlast
    refine (last_l n (k + 1) (by omega) (by omega)).useE [] [(1, 6), (2, 7)] rfl ⟨⟨_, rfl, rfl, rfl, rfl⟩, ⟨_, rfl, rfl, rfl, _, rfl, seeLL_self n 7 2 rfl⟩, ⟨_, rfl, rfl, rfl, _, rfl, by (repeat' first | exact trivial | exact rfl | exact ⟨rfl, rfl⟩ | exact .inl rfl | refine ⟨_, rfl, rfl, rfl, ?_⟩ | refine ⟨_, _, rfl, ?_, ?_⟩ | refine ⟨_, rfl, ?_⟩ | refine And.intro ?_ ?_)⟩, trivial⟩ (by (repeat' first | exact trivial | exact rfl | exact ⟨rfl, rfl⟩ | exact .inl rfl | refine ⟨_, rfl, rfl, rfl, ?_⟩ | refine ⟨_, _, rfl, ?_, ?_⟩ | refine ⟨_, rfl, ?_⟩ | refine And.intro ?_ ?_)) ?_
    refine VDraw.seq rfl ?_
    refine ⟨_, ⟨_, hX _ _, rfl⟩, ?_⟩
    refine ⟨by show (0 : Int) ≤ 1 ∧ (1 : Int) ≤ ((ws.map PV.str).length : Nat); rw [List.length_map]; omega, ?_⟩
    have hM := numbers_p n.g n.len (k + 1) (ws.drop 1) (by rw [List.length_drop]; omega) (fun v hv => (w2 v (List.mem_of_mem_drop hv)).1)
    refine hM.holds.useN [] [(1, 6)] rfl (by (repeat' first | exact trivial | exact rfl | exact ⟨rfl, rfl⟩ | exact .inl rfl | refine ⟨_, rfl, rfl, rfl, ?_⟩ | refine ⟨_, _, rfl, ?_, ?_⟩ | refine ⟨_, rfl, ?_⟩ | refine And.intro ?_ ?_)) ⟨_, _, rfl, ⟨rfl, rfl⟩, _, _, rfl, (by show PV.lst ((ws.drop 1).map PV.str) = PV.lst ((ws.map PV.str).drop 1); rw [List.map_drop]), rfl⟩ fun e0 H0 hq => ?_
    rw [numsQ] at hq
    by_cases ha : allB (ws.drop 1) = true
    · rw [if_pos ha] at hq
      rw [if_pos ⟨ha, by omega⟩] at hSr
      obtain ⟨rfl, rfl⟩ := hq
      refine ⟨rfl, ?_⟩
      refine ⟨by (repeat' first | exact trivial | exact ⟨_, hX _ _, rfl⟩ | exact rfl | refine And.intro ?_ ?_), ?_⟩
      refine ⟨by (repeat' first | exact trivial | exact ⟨_, hX _ _, rfl⟩ | exact rfl | refine And.intro ?_ ?_), ?_⟩
      refine ⟨by show 0 + 1 ≤ 1; omega, [ints ((ws.drop 1).map valN)], rfl, ?_⟩
      refine ⟨by show 0 + x.rows.length ≤ ((lastR n.last).map ints).length; rw [hrl]; simp, x.rows.map ints, by show x.rows.map ints = (((lastR n.last).map ints).drop 0).take x.rows.length; rw [hrl]; exact takeAll (by simp), by show (x.rows.length + 1) * 24 ≤ 140737488355328; omega, (x.rows ++ [(ws.drop 1).map valN]).map ints, by simp, ?_⟩
      refine ⟨_, hX _ _, by show 2 + 1 ≤ 3; omega, ?_⟩
      refine hC ⟨n.g, n.init, some { x with rows := x.rows ++ [(ws.drop 1).map valN] }⟩ _ _ _ hpass hSr ?_ (by rw [hnl]; rfl)
      exact row_put n hx _ _ 2 9
    · rw [if_neg ha] at hq
      rw [if_neg (fun h => ha h.1)] at hSr
      obtain ⟨rfl, rfl⟩ := hq
      refine ⟨rfl, ?_⟩
      exact hE hpass hSr _ rfl
end Go.Proofs.YtphmmoloegjocaaGreatDoor

/- The program's ReadLines. -/
namespace Go.Proofs.YtphmmoloegjocaaGreatDoor
open Go Y
set_option maxRecDepth 100000
set_option maxHeartbeats 40000000

theorem rows_done' {L : List (Nat × AObj)} {d : Nat} (n : Ns) (r : Nat) (X : List (List AV)) (e : X = n.rows r) (h : lget L r = some { rO (lastR n.last) with fr := true }) : ResLL (Res L (d + 1)) ((X.drop 0).take n.len) (n.net.nodes.map Nd.cells) := by
  subst e
  exact rows_done n r h
theorem rows_len1 (n : Ns) (r : Nat) (X : List (List AV)) (e : X = n.rows r) : n.len ≤ X.length := by
  subst e
  rw [rows_len']; exact Nat.le_refl _
theorem line_v {s : List UInt8} (h : ¬ 40000 < s.length) : readLV s = match lineR s with
    | .inl k => [znV, i64 (k : Nat), i64 5]
    | .inr (true, _) => [znV, i64 0, i64 5]
    | .inr (false, n) => if validP n.net then [n.net.pv, i64 0, i64 0] else [znV, i64 0, i64 50] := by
  rw [readLV]; exact if_neg h
theorem read_nl (s : List UInt8) (hs : s.length ≤ 50000) : HoldsG cx 55 [.iface TPl (.ptr 0 0 0), .p (.str s)] ⟨1, [(0, cmO TLn 0 (.p .nils) 0 [])]⟩ fun e H' => e = .returned (.tup ((readLV s).map .p)) ∧ H' = ⟨1, []⟩ := by
  refine holdsN_of_vc Tryz.func55 rfl rfl rfl ?_
  (first | refine brLt (fun h0 => ?_) (fun h0 => ?_) | refine brLe (fun h0 => ?_) (fun h0 => ?_) | refine brEq (fun h0 => ?_) (fun h0 => ?_))
  · have h0 : (40000 : Int) < (s.length : Nat) := h0
    have e : readLV s = [znV, i64 0, i64 3] := by rw [readLV, if_pos (by omega)]
    exact ⟨[], [], [], .returned (.tup ([znV, i64 0, i64 3].map .p)), ⟨1, []⟩, rfl, ⟨_, rfl, _, rfl, _, _, rfl, rfl, _, _, rfl, rfl, _, _, rfl, rfl, rfl⟩, trivial, by rw [e], rfl⟩
  have h0 : ¬ (40000 : Int) < (s.length : Nat) := h0
  have hV := line_v (s := s) (by omega)
  refine ⟨154, none, .ptr 0 0 0, by kernel_rfl, rfl, ?_⟩
  refine (read_l s (by omega)).holds.useN [] [] rfl (by (repeat' first | exact trivial | exact rfl | exact ⟨rfl, rfl⟩ | exact .inl rfl | refine ⟨_, rfl, rfl, rfl, ?_⟩ | refine ⟨_, _, rfl, ?_, ?_⟩ | refine ⟨_, rfl, ?_⟩ | refine And.intro ?_ ?_)) (by (repeat' first | exact trivial | exact rfl | exact ⟨rfl, rfl⟩ | exact .inl rfl | refine ⟨_, rfl, rfl, rfl, ?_⟩ | refine ⟨_, _, rfl, ?_, ?_⟩ | refine ⟨_, rfl, ?_⟩ | refine And.intro ?_ ?_)) fun e0 H0 hq => ?_
  rcases hr : lineR s with k | ⟨b, n⟩
  · rw [hr] at hq hV
    obtain ⟨rfl, rfl⟩ := hq
    refine ⟨rfl, ?_⟩
    refine holdsD_rec Tryz.func81 rfl rfl rfl ?_
    refine ⟨[], [], [], .returned und, ⟨4, [(3, erO 5), (2, plO (k : Nat)), (1, znO)]⟩, rfl, by (repeat' first | exact trivial | exact rfl | exact ⟨rfl, rfl⟩ | exact .inl rfl | refine ⟨_, rfl, rfl, rfl, ?_⟩ | refine ⟨_, _, rfl, ?_, ?_⟩ | refine ⟨_, rfl, ?_⟩ | refine And.intro ?_ ?_), by (repeat' first | exact trivial | exact rfl | exact ⟨rfl, rfl⟩ | exact .inl rfl | refine ⟨_, rfl, rfl, rfl, ?_⟩ | refine ⟨_, _, rfl, ?_, ?_⟩ | refine ⟨_, rfl, ?_⟩ | refine And.intro ?_ ?_), ?_⟩
    exact ⟨[], [], [], .returned (.tup ([znV, i64 (k : Nat), i64 5].map .p)), ⟨1, []⟩, rfl, ⟨_, rfl, _, rfl, _, _, rfl, rfl, _, _, rfl, rfl, _, _, rfl, rfl, rfl⟩, trivial, by rw [hV], rfl⟩
  cases b
  rotate_left
  · rw [hr] at hq hV
    obtain ⟨rfl, rfl⟩ := hq
    refine ⟨rfl, ?_⟩
    refine holdsD_rec Tryz.func81 rfl rfl rfl ?_
    refine ⟨[], [], [], .returned und, ⟨4, [(3, erO 5), (2, plO 0), (1, znO)]⟩, rfl, by (repeat' first | exact trivial | exact rfl | exact ⟨rfl, rfl⟩ | exact .inl rfl | refine ⟨_, rfl, rfl, rfl, ?_⟩ | refine ⟨_, _, rfl, ?_, ?_⟩ | refine ⟨_, rfl, ?_⟩ | refine And.intro ?_ ?_), by (repeat' first | exact trivial | exact rfl | exact ⟨rfl, rfl⟩ | exact .inl rfl | refine ⟨_, rfl, rfl, rfl, ?_⟩ | refine ⟨_, _, rfl, ?_, ?_⟩ | refine ⟨_, rfl, ?_⟩ | refine And.intro ?_ ?_), ?_⟩
    exact ⟨[], [], [], .returned (.tup ([znV, i64 0, i64 5].map .p)), ⟨1, []⟩, rfl, ⟨_, rfl, _, rfl, _, _, rfl, rfl, _, _, rfl, rfl, _, _, rfl, rfl, rfl⟩, trivial, by rw [hV], rfl⟩
  rw [hr] at hq hV
  obtain ⟨p, hn, rfl, rfl⟩ := hq
  have hV : readLV s = if validP n.net then [n.net.pv, i64 0, i64 0] else [znV, i64 0, i64 50] := hV
  refine ⟨rfl, ?_⟩
  refine ⟨147, some 0, .ptr 0 0 0, by kernel_rfl, rfl, ?_⟩
  refine (result_h TLn n.g n.len p []).useE [] [(1, 4)] rfl (by (repeat' first | exact trivial | exact rfl | exact ⟨rfl, rfl⟩ | exact .inl rfl | refine ⟨_, rfl, rfl, rfl, ?_⟩ | refine ⟨_, _, rfl, ?_, ?_⟩ | refine ⟨_, rfl, ?_⟩ | refine And.intro ?_ ?_)) (by (repeat' first | exact trivial | exact rfl | exact ⟨rfl, rfl⟩ | exact .inl rfl | refine ⟨_, rfl, rfl, rfl, ?_⟩ | refine ⟨_, _, rfl, ?_, ?_⟩ | refine ⟨_, rfl, ?_⟩ | refine And.intro ?_ ?_)) ?_
  have hC := check_c n.net (hn.big (by omega))
  by_cases hv : validP n.net
  · rw [checkN, if_pos hv] at hC
    have hV : readLV s = [n.net.pv, i64 0, i64 0] := by rw [hV]; exact if_pos hv
    refine hC.uses [4, 5] rfl ⟨_, _, rfl, ⟨_, rfl, _, _, rfl, rfl, _, _, rfl, ⟨n.net.nodes.map Nd.cells, rfl, by rw [Nat.zero_add]; exact rows_len1 n 5 _ (ren_rows _ n 2), rows_done' n 5 _ (ren_rows _ n 2) rfl⟩, rfl⟩, rfl⟩ ?_
    (first | refine brLt (fun h1 => ?_) (fun h1 => ?_) | refine brLe (fun h1 => ?_) (fun h1 => ?_) | refine brEq (fun h1 => ?_) (fun h1 => ?_))
    rotate_left
    · have h1 : ¬ (0 : Int) = 0 := h1
      exact absurd rfl h1
    refine holdsD_rec Tryz.func81 rfl rfl rfl ?_
    refine ⟨[], [], [], .returned und, ⟨6, [(3, erO 0), (2, plO 0), (1, ntO n.net)]⟩, rfl, by (repeat' first | exact trivial | exact rfl | exact ⟨rfl, rfl⟩ | exact .inl rfl | refine ⟨_, rfl, rfl, rfl, ?_⟩ | refine ⟨_, _, rfl, ?_, ?_⟩ | refine ⟨_, rfl, ?_⟩ | refine And.intro ?_ ?_), ⟨⟨_, rfl, rfl, rfl, _, rfl, by (repeat' first | exact trivial | exact rfl | exact ⟨rfl, rfl⟩ | exact .inl rfl | refine ⟨_, rfl, rfl, rfl, ?_⟩ | refine ⟨_, _, rfl, ?_, ?_⟩ | refine ⟨_, rfl, ?_⟩ | refine And.intro ?_ ?_)⟩, ⟨_, rfl, rfl, rfl, _, rfl, by (repeat' first | exact trivial | exact rfl | exact ⟨rfl, rfl⟩ | exact .inl rfl | refine ⟨_, rfl, rfl, rfl, ?_⟩ | refine ⟨_, _, rfl, ?_, ?_⟩ | refine ⟨_, rfl, ?_⟩ | refine And.intro ?_ ?_)⟩, ⟨_, rfl, rfl, rfl, _, rfl, ⟨_, _, rfl, rfl, _, _, rfl, ⟨n.net.nodes.map Nd.cells, rfl, by rw [Nat.zero_add]; exact rows_len1 n 5 _ (ren_rows _ n 2), rows_done' n 5 _ (ren_rows _ n 2) rfl⟩, rfl⟩⟩, trivial⟩, ?_⟩
    exact ⟨[], [], [], .returned (.tup ([n.net.pv, i64 0, i64 0].map .p)), ⟨1, []⟩, rfl, ⟨_, rfl, _, rfl, _, _, rfl, rfl, _, _, rfl, rfl, _, _, rfl, rfl, rfl⟩, trivial, by rw [hV], rfl⟩
  · rw [checkN, if_neg hv] at hC
    have hV : readLV s = [znV, i64 0, i64 50] := by rw [hV]; exact if_neg hv
    refine hC.uses [4, 5] rfl ⟨_, _, rfl, ⟨_, rfl, _, _, rfl, rfl, _, _, rfl, ⟨n.net.nodes.map Nd.cells, rfl, by rw [Nat.zero_add]; exact rows_len1 n 5 _ (ren_rows _ n 2), rows_done' n 5 _ (ren_rows _ n 2) rfl⟩, rfl⟩, rfl⟩ ?_
    (first | refine brLt (fun h1 => ?_) (fun h1 => ?_) | refine brLe (fun h1 => ?_) (fun h1 => ?_) | refine brEq (fun h1 => ?_) (fun h1 => ?_))
    · have h1 : (50 : Int) = 0 := h1
      exact absurd h1 (by decide)
    refine holdsD_rec Tryz.func81 rfl rfl rfl ?_
    refine ⟨[], [], [], .returned und, ⟨6, [(3, erO 50), (2, plO 0), (1, znO)]⟩, rfl, by (repeat' first | exact trivial | exact rfl | exact ⟨rfl, rfl⟩ | exact .inl rfl | refine ⟨_, rfl, rfl, rfl, ?_⟩ | refine ⟨_, _, rfl, ?_, ?_⟩ | refine ⟨_, rfl, ?_⟩ | refine And.intro ?_ ?_), by (repeat' first | exact trivial | exact rfl | exact ⟨rfl, rfl⟩ | exact .inl rfl | refine ⟨_, rfl, rfl, rfl, ?_⟩ | refine ⟨_, _, rfl, ?_, ?_⟩ | refine ⟨_, rfl, ?_⟩ | refine And.intro ?_ ?_), ?_⟩
    exact ⟨[], [], [], .returned (.tup ([znV, i64 0, i64 50].map .p)), ⟨1, []⟩, rfl, ⟨_, rfl, _, rfl, _, _, rfl, rfl, _, _, rfl, rfl, _, _, rfl, rfl, rfl⟩, trivial, by rw [hV], rfl⟩
theorem readLines_p (s : List UInt8) (hs : s.length ≤ 50000) : Pure cx 49 [.str s] (· = .ret (readLV s)) := by
  refine pure_of_vc Tryz.func49 rfl rfl rfl ?_
  have hN := read_nl s hs
  rw [readL_res] at hN
  rw [readL_res]
  rcases hr : readLR s with ⟨p, e⟩ | n
  · rw [hr] at hN
    refine hN.useE [] [(0, 1)] rfl (by (repeat' first | exact trivial | exact rfl | exact ⟨rfl, rfl⟩ | exact .inl rfl | refine ⟨_, rfl, rfl, rfl, ?_⟩ | refine ⟨_, _, rfl, ?_, ?_⟩ | refine ⟨_, rfl, ?_⟩ | refine And.intro ?_ ?_)) (by (repeat' first | exact trivial | exact rfl | exact ⟨rfl, rfl⟩ | exact .inl rfl | refine ⟨_, rfl, rfl, rfl, ?_⟩ | refine ⟨_, _, rfl, ?_, ?_⟩ | refine ⟨_, rfl, ?_⟩ | refine And.intro ?_ ?_)) ?_
    exact end3 znV (i64 (p : Nat)) (i64 e) rfl rfl rfl rfl rfl
  · rw [hr] at hN
    refine hN.useE [] [(0, 1)] rfl (by (repeat' first | exact trivial | exact rfl | exact ⟨rfl, rfl⟩ | exact .inl rfl | refine ⟨_, rfl, rfl, rfl, ?_⟩ | refine ⟨_, _, rfl, ?_, ?_⟩ | refine ⟨_, rfl, ?_⟩ | refine And.intro ?_ ?_)) (by (repeat' first | exact trivial | exact rfl | exact ⟨rfl, rfl⟩ | exact .inl rfl | refine ⟨_, rfl, rfl, rfl, ?_⟩ | refine ⟨_, _, rfl, ?_, ?_⟩ | refine ⟨_, rfl, ?_⟩ | refine And.intro ?_ ?_)) ?_
    exact end3 n.pv (i64 0) (i64 0) rfl rfl rfl rfl rfl
end Go.Proofs.YtphmmoloegjocaaGreatDoor

/- The program's Turn. -/
namespace Go.Proofs.YtphmmoloegjocaaGreatDoor
open Go Y RowKit
set_option maxRecDepth 100000
set_option maxHeartbeats 40000000

theorem trim_c (s : List UInt8) (_hs : s.length ≤ 1000000) : Pure cx 69 [.str s, .str [32, 10]] (· = .ret [.str (Lib.trimLeftS s [32, 10])]) := by
  refine pure_below Tryz.func69 rfl rfl rfl fun Γ w args' hR hA => ?_
  simp only [List.map, VRL, VR, VP] at hA
  obtain ⟨a, as', rfl, rfl, b, bs', rfl, rfl, rfl⟩ := hA
  refine ⟨_, rfl, Any.strings_TrimLeft_laid Tryz.lays161 (by kernel_rfl) ⟨⟨s⟩⟩ ⟨⟨[32, 10]⟩⟩ w (by decide) (fun j b h => ?_)⟩
  have hm : b ∈ ([32, 10] : List UInt8) := List.mem_of_getElem? h
  simp only [List.mem_cons, List.not_mem_nil, or_false] at hm
  rcases hm with rfl | rfl <;> decide
theorem hasPre_c (s p : List UInt8) : Pure cx 68 [.str s, .str p] (· = .ret [.bool (Lib.hasPrefix s p)]) := by
  refine pure_below Tryz.func68 rfl rfl rfl fun Γ w args' hR hA => ?_
  simp only [List.map, VRL, VR, VP] at hA
  obtain ⟨a, as', rfl, rfl, b, bs', rfl, rfl, rfl⟩ := hA
  exact ⟨_, rfl, (Tryz.strings_HasPrefix ⟨⟨s⟩⟩ ⟨⟨p⟩⟩ w).mono fun e w' ⟨h1, h2⟩ => ⟨h1, h2 ▸ Below.refl _ _⟩⟩

theorem bl_fun : (fun b : UInt8 => ([32, 10] : List UInt8).contains b) = isBl := by
  funext b
  rw [isBl]
  by_cases h1 : b = 32
  · subst h1; rfl
  by_cases h2 : b = 10
  · subst h2; rfl
  have h3 : b.toNat ≠ 32 := fun e => h1 (UInt8.toNat_inj.1 e)
  have h4 : b.toNat ≠ 10 := fun e => h2 (UInt8.toNat_inj.1 e)
  simp [h1, h2, h3, h4]
theorem drop_nx (s : List UInt8) : s.drop (nx s 0) = s.dropWhile isBl := by
  rw [nx, scanF, List.drop_zero, Nat.zero_add]
  induction s with
  | nil => rfl
  | cons b r ih =>
    rw [List.takeWhile_cons, List.dropWhile_cons]
    split
    · simpa using ih
    · rfl
theorem tok_open (s : List UInt8) : Lib.hasPrefix (Lib.trimLeftS s [32, 10]) [40] = true ↔ tok s 0 = kOpen := by
  rw [Lib.trimLeftS, bl_fun, ← drop_nx, tok]
  have hle : nx s 0 ≤ s.length := (nx_le (Nat.zero_le _)).2
  rcases Nat.lt_or_ge (nx s 0) s.length with hlt | hge
  · obtain ⟨b, hb⟩ : ∃ b, b = s.getD (nx s 0) 0 := ⟨_, rfl⟩
    have hdr : s.drop (nx s 0) = b :: s.drop (nx s 0 + 1) := by rw [hb]; exact drop_cons 0 hlt
    have hte : nx s 0 < te s 0 := by
      rw [te]
      split
      · omega
      · rename_i h
        have : nx s 0 ≤ scanF isWd s (nx s 0) := Nat.le_add_right _ _
        omega
    constructor
    · intro h
      rw [hdr] at h
      have hb40 : b = 40 := by
        have h : ((40 : UInt8) == b && true) = true := h
        rw [Bool.and_true, beq_iff_eq] at h
        exact h.symm
      have hsc : scanF isWd s (nx s 0) = nx s 0 := by
        rw [scanF, hdr, hb40]; rfl
      have e : te s 0 = nx s 0 + 1 := by rw [te, if_pos ⟨hsc, hlt⟩]
      rw [e, hdr, hb40, Nat.add_sub_cancel_left]; rfl
    · intro h
      rw [hdr, show te s 0 - nx s 0 = (te s 0 - nx s 0 - 1) + 1 by omega, List.take_succ_cons] at h
      injection h with h1 h2
      rw [hdr, h1]; rfl
  · rw [List.drop_eq_nil_of_le (by omega)]
    constructor <;> intro h
    · cases h
    · simp at h
theorem valid_big {n : Nt} (h : validP n) : BigN n := by
  have hs := valid_sm h
  exact ⟨by have := hs.len; omega, fun x hx => by have := (hs.par x hx).2; omega, fun x hx => by have := (hs.rows x hx).2; omega, fun x hx r hr => by have := (hs.row x hx r hr).2.2; omega⟩
theorem turn_p (s : List UInt8) (hs : s.length ≤ 50000) : Pure cx 44 [.str s] (· = .ret (turnV s)) := by
  refine pure_of_vc Tryz.func44 rfl rfl rfl ?_
  have hL := readLines_p s hs
  rw [readL_res] at hL
  have hN := readNested_p s hs
  rw [readN_res] at hN
  have hP := hasPre_c (Lib.trimLeftS s [32, 10]) [40]
  refine (trim_c s (by omega)).eq rfl ?_
  by_cases h1 : tok s 0 = kOpen
  · rw [(tok_open s).2 h1] at hP
    refine hP.eq rfl ?_
    rcases hr : readNR s with ⟨p, e⟩ | n
    · rw [hr] at hN
      have hV : turnV s = [.str [], i64 e] := by
        rw [turnV]
        by_cases hl : s.length ≤ 40000
        · rw [if_pos ⟨hl, h1⟩, hr]
        · rw [if_neg (fun h => hl h.1)]
          rw [readNR, if_pos (by omega)] at hr
          rw [readLR, if_pos (by omega)]
          injection hr with hr
          injection hr with _ he
          rw [← he]
      have he := readN_err hr
      refine hN.eq rfl ?_
      (first | refine brLt (fun h2 => ?_) (fun h2 => ?_) | refine brLe (fun h2 => ?_) (fun h2 => ?_) | refine brEq (fun h2 => ?_) (fun h2 => ?_))
      · have h2 : e = 0 := h2
        omega
      · exact end2 (.str []) (i64 e) rfl rfl rfl (by rw [hV])
    · rw [hr] at hN
      have hl : s.length ≤ 40000 := by
        rcases Nat.lt_or_ge 40000 s.length with h | h
        · rw [readNR, if_pos h] at hr; cases hr
        · exact h
      have hv := readN_ok hr
      have hV : turnV s = [.str (byLines n), i64 0] := by rw [turnV, if_pos ⟨hl, h1⟩, hr]
      refine hN.eq rfl ?_
      (first | refine brLt (fun h2 => ?_) (fun h2 => ?_) | refine brLe (fun h2 => ?_) (fun h2 => ?_) | refine brEq (fun h2 => ?_) (fun h2 => ?_))
      rotate_left
      · have h2 : ¬ (0 : Int) = 0 := h2
        exact absurd rfl h2
      have hC := lines_c n (valid_big hv)
      rw [linesP, if_pos hv] at hC
      refine hC.eq rfl ?_
      exact end2 (.str (byLines n)) (i64 0) rfl rfl rfl (by rw [hV])
  · rw [Bool.eq_false_iff.2 (fun h => h1 ((tok_open s).1 h))] at hP
    refine hP.eq rfl ?_
    have hV : turnV s = match readLR s with
        | .inl (_, e) => [.str [], i64 e]
        | .inr n => [.str (nested n), i64 0] := by rw [turnV]; exact if_neg (fun h => h1 h.2)
    rcases hr : readLR s with ⟨p, e⟩ | n
    · rw [hr] at hL hV
      have he := readL_err hr
      refine hL.eq rfl ?_
      (first | refine brLt (fun h2 => ?_) (fun h2 => ?_) | refine brLe (fun h2 => ?_) (fun h2 => ?_) | refine brEq (fun h2 => ?_) (fun h2 => ?_))
      · have h2 : e = 0 := h2
        omega
      · exact end2 (.str []) (i64 e) rfl rfl rfl (by rw [hV])
    · rw [hr] at hL hV
      have hv := readL_ok hr
      refine hL.eq rfl ?_
      (first | refine brLt (fun h2 => ?_) (fun h2 => ?_) | refine brLe (fun h2 => ?_) (fun h2 => ?_) | refine brEq (fun h2 => ?_) (fun h2 => ?_))
      rotate_left
      · have h2 : ¬ (0 : Int) = 0 := h2
        exact absurd rfl h2
      have hC := nestedE_c n (valid_big hv)
      rw [nestedP, if_pos hv] at hC
      refine hC.eq rfl ?_
      exact end2 (.str (nested n)) (i64 0) rfl rfl rfl (by rw [hV])
end Go.Proofs.YtphmmoloegjocaaGreatDoor

/- The statements' own functions: ints, equal. -/
namespace Go.Proofs.YtphmmoloegjocaaGreatDoor
open Go Y
set_option maxRecDepth 100000
set_option maxHeartbeats 40000000

theorem ints_eq (a b : List Int) (ha : a.length ≤ 9223372036854775807) : Pure cx 56 [ints a, ints b] (· = .ret [.bool (decide (a = b))]) := by
  refine pure_of_vc Tryz.func56 rfl rfl rfl ?_
  (first | refine brLt (fun h1 => ?_) (fun h1 => ?_) | refine brLe (fun h1 => ?_) (fun h1 => ?_) | refine brEq (fun h1 => ?_) (fun h1 => ?_))
  rotate_left
  · have h1 : ¬ ((a.map i64).length : Int) = ((b.map i64).length : Nat) := h1
    rw [List.length_map, List.length_map] at h1
    refine end1 _ rfl rfl (retB ?_)
    rw [eq_comm, decide_eq_false_iff_not]
    rintro rfl
    exact h1 rfl
  have h1 : ((a.map i64).length : Int) = ((b.map i64).length : Nat) := h1
  rw [List.length_map, List.length_map] at h1
  have hl : a.length = b.length := by omega
  refine ⟨Nat, fun k => [(0, .p (ints a)), (1, .p (ints b)), (12, .p (i64 a.length)), (13, .p (i64 k))], fun _ => ⟨0, []⟩, fun k => k ≤ a.length ∧ a.take k = b.take k, fun k => a.length - k, ?_, ?_⟩
  · exact ⟨0, ⟨by omega, by simp⟩, ent0 rfl ⟨rfl, rfl, lenM i64 a, rfl, trivial⟩ trivial rfl⟩
  rintro k ⟨g1, g2⟩
  (first | refine brLt (fun h2 => ?_) (fun h2 => ?_) | refine brLe (fun h2 => ?_) (fun h2 => ?_) | refine brEq (fun h2 => ?_) (fun h2 => ?_))
  · have h2 : (k : Int) < (a.length : Nat) := h2
    refine VDraw.seq rfl ?_
    refine ⟨_, ⟨by omega, i64 (a.getD k 0), icell (by omega), rfl⟩, ?_⟩
    refine ⟨_, ⟨by omega, i64 (b.getD k 0), icell (by omega), rfl⟩, ?_⟩
    (first | refine brLt (fun h3 => ?_) (fun h3 => ?_) | refine brLe (fun h3 => ?_) (fun h3 => ?_) | refine brEq (fun h3 => ?_) (fun h3 => ?_))
    · have h3 : a.getD k 0 = b.getD k 0 := h3
      refine ⟨(k : Int) + 1, wrap_i64 (by omega) (by omega), k + 1, ⟨by omega, ?_⟩, ent0 rfl ⟨rfl, rfl, rfl, rfl, trivial⟩ trivial rfl, ?_⟩
      · rw [take_succ_getD 0 (by omega), take_succ_getD 0 (by omega), g2, h3]
      · show a.length - (k + 1) < a.length - k
        omega
    · have h3 : ¬ a.getD k 0 = b.getD k 0 := h3
      refine end1 _ rfl rfl (retB ?_)
      rw [eq_comm, decide_eq_false_iff_not]
      rintro rfl
      exact h3 rfl
  · have h2 : ¬ (k : Int) < (a.length : Nat) := h2
    refine end1 _ rfl rfl (retB ?_)
    rw [take_all (by omega), take_all (by omega)] at g2
    rw [eq_comm, decide_eq_true_iff]
    exact g2

noncomputable instance (n m : Nt) : Decidable (n = m) := Classical.propDecidable _
theorem nd_ext {x y : Nd} (h1 : x.card = y.card) (h2 : x.parents = y.parents) (h3 : x.rows = y.rows) : x = y := by
  obtain ⟨a, b, c⟩ := x
  obtain ⟨d, e, f⟩ := y
  simp only [] at h1 h2 h3
  rw [h1, h2, h3]
theorem nt_ext {n m : Nt} (h1 : n.grain = m.grain) (h2 : n.nodes = m.nodes) : n = m := by
  obtain ⟨a, b⟩ := n
  obtain ⟨d, e⟩ := m
  simp only [] at h1 h2
  rw [h1, h2]
theorem equal_c (n m : Nt) (hn : BigN n) : Pure cx 23 [n.pv, m.pv] (· = .ret [.bool (decide (n = m))]) := by
  refine pure_of_vc Tryz.func23 rfl rfl rfl ?_
  have hnl := hn.nodes
  (first | refine brLt (fun h1 => ?_) (fun h1 => ?_) | refine brLe (fun h1 => ?_) (fun h1 => ?_) | refine brEq (fun h1 => ?_) (fun h1 => ?_))
  rotate_left
  · have h1 : ¬ n.grain = m.grain := h1
    refine end1 (.bool false) rfl rfl (retB ?_)
    rw [eq_comm, decide_eq_false_iff_not]
    rintro rfl
    exact h1 rfl
  have h1 : n.grain = m.grain := h1
  (first | refine brLt (fun h2 => ?_) (fun h2 => ?_) | refine brLe (fun h2 => ?_) (fun h2 => ?_) | refine brEq (fun h2 => ?_) (fun h2 => ?_))
  rotate_left
  · have h2 : ¬ ((n.nodes.map Nd.cells).length : Int) = ((m.nodes.map Nd.cells).length : Nat) := h2
    refine end1 (.bool false) rfl rfl (retB ?_)
    rw [eq_comm, decide_eq_false_iff_not]
    rintro rfl
    exact h2 rfl
  have h2 : ((n.nodes.map Nd.cells).length : Int) = ((m.nodes.map Nd.cells).length : Nat) := h2
  rw [List.length_map, List.length_map] at h2
  refine ⟨Nat, fun k => [(2, .ptr 0 0 0), (3, .ptr 1 0 0), (25, .p (i64 n.nodes.length)), (26, .p (i64 k))], fun _ => ⟨2, [(1, ntO m), (0, ntO n)]⟩, fun k => k ≤ n.nodes.length ∧ n.nodes.take k = m.nodes.take k, fun k => n.nodes.length - k, ?_, ?_⟩
  · exact ⟨0, ⟨by omega, by simp⟩, ent_of [] [] [] rfl ⟨⟨rfl, rfl⟩, ⟨rfl, rfl⟩, lenM Nd.cells n.nodes, rfl, trivial⟩ (by (repeat' first | exact trivial | exact rfl | exact ⟨rfl, rfl⟩ | exact .inl rfl | refine ⟨_, rfl, rfl, rfl, ?_⟩ | refine ⟨_, _, rfl, ?_, ?_⟩ | refine ⟨_, rfl, ?_⟩ | refine And.intro ?_ ?_)) rfl⟩
  rintro k ⟨k1, k2⟩
  (first | refine brLt (fun h3 => ?_) (fun h3 => ?_) | refine brLe (fun h3 => ?_) (fun h3 => ?_) | refine brEq (fun h3 => ?_) (fun h3 => ?_))
  rotate_left
  · have h3 : ¬ (k : Int) < (n.nodes.length : Nat) := h3
    rw [take_all (by omega), take_all (by omega)] at k2
    exact end1 (.bool true) rfl rfl (retB (decide_eq_true (nt_ext h1 k2)).symm)
  have h3 : (k : Int) < (n.nodes.length : Nat) := h3
  have hk : k < n.nodes.length := by omega
  have hk' : k < m.nodes.length := by omega
  obtain ⟨x, hx⟩ : ∃ x, x = n.nodes.getD k nd0 := ⟨_, rfl⟩
  obtain ⟨y, hy⟩ : ∃ y, y = m.nodes.getD k nd0 := ⟨_, rfl⟩
  have hxm : x ∈ n.nodes := by rw [hx]; exact getD_memL nd0 hk
  have differ : ¬ x = y → ¬ n = m := fun h e => h (by rw [hx, hy, e])
  refine VDraw.altTo [(2, .ptr 0 0 0), (3, .ptr 1 0 0), (25, .p (i64 n.nodes.length)), (26, .p (i64 k)), (6, .ptr 2 0 0), (7, .ptr 3 0 0)] ⟨4, [(3, ndO y), (2, ndO x), (1, ntO m), (0, ntO n)]⟩ rfl ?_ ?_
  · refine ⟨_, ⟨by omega, x.cells, by rw [hx]; exact ncell hk, rfl⟩, ?_⟩
    refine ⟨_, ⟨by omega, y.cells, by rw [hy]; exact ncell hk', rfl⟩, ?_⟩
    refine And.intro ?_ ?_
    · refine ⟨by (repeat' first | exact trivial | exact rfl | exact ⟨rfl, rfl⟩ | exact .inl rfl | refine ⟨_, rfl, rfl, rfl, ?_⟩ | refine ⟨_, _, rfl, ?_, ?_⟩ | refine ⟨_, rfl, ?_⟩ | refine And.intro ?_ ?_), ?_⟩
      refine ⟨by (repeat' first | exact trivial | exact rfl | exact ⟨rfl, rfl⟩ | exact .inl rfl | refine ⟨_, rfl, rfl, rfl, ?_⟩ | refine ⟨_, _, rfl, ?_, ?_⟩ | refine ⟨_, rfl, ?_⟩ | refine And.intro ?_ ?_), ?_⟩
      refine ⟨by (repeat' first | exact trivial | exact rfl | exact ⟨rfl, rfl⟩ | exact .inl rfl | refine ⟨_, rfl, rfl, rfl, ?_⟩ | refine ⟨_, _, rfl, ?_, ?_⟩ | refine ⟨_, rfl, ?_⟩ | refine And.intro ?_ ?_), ?_⟩
      exact ent_of [] [] [] rfl (by (repeat' first | exact trivial | exact rfl | exact ⟨rfl, rfl⟩ | exact .inl rfl | refine ⟨_, rfl, rfl, rfl, ?_⟩ | refine ⟨_, _, rfl, ?_, ?_⟩ | refine ⟨_, rfl, ?_⟩ | refine And.intro ?_ ?_)) (by (repeat' first | exact trivial | exact rfl | exact ⟨rfl, rfl⟩ | exact .inl rfl | refine ⟨_, rfl, rfl, rfl, ?_⟩ | refine ⟨_, _, rfl, ?_, ?_⟩ | refine ⟨_, rfl, ?_⟩ | refine And.intro ?_ ?_)) rfl
    · refine ⟨by (repeat' first | exact trivial | exact rfl | exact ⟨rfl, rfl⟩ | exact .inl rfl | refine ⟨_, rfl, rfl, rfl, ?_⟩ | refine ⟨_, _, rfl, ?_, ?_⟩ | refine ⟨_, rfl, ?_⟩ | refine And.intro ?_ ?_), ?_⟩
      refine ⟨by (repeat' first | exact trivial | exact rfl | exact ⟨rfl, rfl⟩ | exact .inl rfl | refine ⟨_, rfl, rfl, rfl, ?_⟩ | refine ⟨_, _, rfl, ?_, ?_⟩ | refine ⟨_, rfl, ?_⟩ | refine And.intro ?_ ?_), ?_⟩
      refine ⟨by (repeat' first | exact trivial | exact rfl | exact ⟨rfl, rfl⟩ | exact .inl rfl | refine ⟨_, rfl, rfl, rfl, ?_⟩ | refine ⟨_, _, rfl, ?_, ?_⟩ | refine ⟨_, rfl, ?_⟩ | refine And.intro ?_ ?_), ?_⟩
      exact ent_of [] [(2, 3), (3, 2)] [] rfl (by (repeat' first | exact trivial | exact rfl | exact ⟨rfl, rfl⟩ | exact .inl rfl | refine ⟨_, rfl, rfl, rfl, ?_⟩ | refine ⟨_, _, rfl, ?_, ?_⟩ | refine ⟨_, rfl, ?_⟩ | refine And.intro ?_ ?_)) (by (repeat' first | exact trivial | exact rfl | exact ⟨rfl, rfl⟩ | exact .inl rfl | refine ⟨_, rfl, rfl, rfl, ?_⟩ | refine ⟨_, _, rfl, ?_, ?_⟩ | refine ⟨_, rfl, ?_⟩ | refine And.intro ?_ ?_)) rfl
  (first | refine brLt (fun h4 => ?_) (fun h4 => ?_) | refine brLe (fun h4 => ?_) (fun h4 => ?_) | refine brEq (fun h4 => ?_) (fun h4 => ?_))
  rotate_left
  · have h4 : ¬ x.card = y.card := h4
    refine end1 (.bool false) rfl rfl (retB ?_)
    rw [eq_comm, decide_eq_false_iff_not]
    exact differ fun e => h4 (by rw [e])
  have h4 : x.card = y.card := h4
  (first | refine brLt (fun h5 => ?_) (fun h5 => ?_) | refine brLe (fun h5 => ?_) (fun h5 => ?_) | refine brEq (fun h5 => ?_) (fun h5 => ?_))
  rotate_left
  · have h5 : ¬ ((x.rows.map ints).length : Int) = ((y.rows.map ints).length : Nat) := h5
    refine end1 (.bool false) rfl rfl (retB ?_)
    rw [eq_comm, decide_eq_false_iff_not]
    exact differ fun e => h5 (by rw [e])
  have h5 : ((x.rows.map ints).length : Int) = ((y.rows.map ints).length : Nat) := h5
  rw [List.length_map, List.length_map] at h5
  have hP := ints_eq x.parents y.parents (hn.par x hxm)
  by_cases h6 : x.parents = y.parents
  rotate_left
  · rw [decide_eq_false h6] at hP
    refine hP.eq rfl ?_
    refine end1 (.bool false) rfl rfl (retB ?_)
    rw [eq_comm, decide_eq_false_iff_not]
    exact differ fun e => h6 (by rw [e])
  rw [decide_eq_true h6] at hP
  refine hP.eq rfl ?_
  have hxr := hn.rows x hxm
  refine ⟨Nat, fun j => [(2, .ptr 0 0 0), (3, .ptr 1 0 0), (25, .p (i64 n.nodes.length)), (26, .p (i64 k)), (6, .ptr 2 0 0), (7, .ptr 3 0 0), (63, .p (i64 x.rows.length)), (64, .p (i64 j))], fun _ => ⟨4, [(3, ndO y), (2, ndO x), (1, ntO m), (0, ntO n)]⟩, fun j => j ≤ x.rows.length ∧ x.rows.take j = y.rows.take j, fun j => x.rows.length - j, ?_, ?_⟩
  · exact ⟨0, ⟨by omega, by simp⟩, ent_of [] [] [] rfl ⟨⟨rfl, rfl⟩, ⟨rfl, rfl⟩, rfl, rfl, ⟨rfl, rfl⟩, ⟨rfl, rfl⟩, lenM ints x.rows, rfl, trivial⟩ (by (repeat' first | exact trivial | exact rfl | exact ⟨rfl, rfl⟩ | exact .inl rfl | refine ⟨_, rfl, rfl, rfl, ?_⟩ | refine ⟨_, _, rfl, ?_, ?_⟩ | refine ⟨_, rfl, ?_⟩ | refine And.intro ?_ ?_)) rfl⟩
  rintro j ⟨j1, j2⟩
  (first | refine brLt (fun h7 => ?_) (fun h7 => ?_) | refine brLe (fun h7 => ?_) (fun h7 => ?_) | refine brEq (fun h7 => ?_) (fun h7 => ?_))
  rotate_left
  · have h7 : ¬ (j : Int) < (x.rows.length : Nat) := h7
    rw [take_all (by omega), take_all (by omega)] at j2
    refine ⟨(k : Int) + 1, wrap_i64 (by omega) (by omega), ?_⟩
    refine ⟨k + 1, ⟨by omega, ?_⟩, ent_of [] [] [] rfl (by (repeat' first | exact trivial | exact rfl | exact ⟨rfl, rfl⟩ | exact .inl rfl | refine ⟨_, rfl, rfl, rfl, ?_⟩ | refine ⟨_, _, rfl, ?_, ?_⟩ | refine ⟨_, rfl, ?_⟩ | refine And.intro ?_ ?_)) (by (repeat' first | exact trivial | exact rfl | exact ⟨rfl, rfl⟩ | exact .inl rfl | refine ⟨_, rfl, rfl, rfl, ?_⟩ | refine ⟨_, _, rfl, ?_, ?_⟩ | refine ⟨_, rfl, ?_⟩ | refine And.intro ?_ ?_)) rfl, by show n.nodes.length - (k + 1) < n.nodes.length - k; omega⟩
    rw [take_succ_getD nd0 hk, take_succ_getD nd0 hk', k2, ← hx, ← hy, nd_ext h4 h6 j2]
  have h7 : (j : Int) < (x.rows.length : Nat) := h7
  have hj : j < x.rows.length := by omega
  have hj' : j < y.rows.length := by omega
  have hrm := getD_memL [] hj
  refine VDraw.seq rfl ?_
  refine ⟨_, ⟨by omega, ints (x.rows.getD j []), ccell hj, rfl⟩, ?_⟩
  refine ⟨_, ⟨by omega, ints (y.rows.getD j []), ccell hj', rfl⟩, ?_⟩
  have hI := ints_eq (x.rows.getD j []) (y.rows.getD j []) (hn.row x hxm _ hrm)
  by_cases h8 : x.rows.getD j [] = y.rows.getD j []
  · rw [decide_eq_true h8] at hI
    refine hI.eq rfl ?_
    refine ⟨(j : Int) + 1, wrap_i64 (by omega) (by omega), ?_⟩
    refine ⟨j + 1, ⟨by omega, ?_⟩, ent_of [] [] [] rfl (by (repeat' first | exact trivial | exact rfl | exact ⟨rfl, rfl⟩ | exact .inl rfl | refine ⟨_, rfl, rfl, rfl, ?_⟩ | refine ⟨_, _, rfl, ?_, ?_⟩ | refine ⟨_, rfl, ?_⟩ | refine And.intro ?_ ?_)) (by (repeat' first | exact trivial | exact rfl | exact ⟨rfl, rfl⟩ | exact .inl rfl | refine ⟨_, rfl, rfl, rfl, ?_⟩ | refine ⟨_, _, rfl, ?_, ?_⟩ | refine ⟨_, rfl, ?_⟩ | refine And.intro ?_ ?_)) rfl, by show x.rows.length - (j + 1) < x.rows.length - j; omega⟩
    rw [take_succ_getD [] hj, take_succ_getD [] hj', j2, h8]
  · rw [decide_eq_false h8] at hI
    refine hI.eq rfl ?_
    refine end1 (.bool false) rfl rfl (retB ?_)
    rw [eq_comm, decide_eq_false_iff_not]
    exact differ fun e => h8 (by rw [e])
end Go.Proofs.YtphmmoloegjocaaGreatDoor

/- The statements' own functions: lined, nested, badLine, badNest, reads. -/
namespace Go.Proofs.YtphmmoloegjocaaGreatDoor
open Go Y
set_option maxRecDepth 100000
set_option maxHeartbeats 40000000

theorem lined_yes (t : List UInt8) (n : Nt) (ht : t.length ≤ 50000) (h : readLR t = .inr n) : Pure cx 26 [.str t, n.pv] (· = .ret [.bool true]) := by
  have hv := readL_ok h
  refine pure_of_vc Tryz.func26 rfl rfl rfl ?_
  have hR := readLines_p t ht
  rw [readL_res, h] at hR
  have hE := equal_c n n (valid_big hv)
  rw [decide_eq_true rfl] at hE
  refine hR.eq rfl ?_
  refine And.intro (fun _ => ?_) (fun h => absurd rfl h)
  refine And.intro (fun _ => ?_) (fun h => absurd rfl h)
  refine hE.eq rfl ?_
  exact end1 _ rfl rfl rfl
theorem nested_yes (t : List UInt8) (n : Nt) (ht : t.length ≤ 50000) (h : readNR t = .inr n) : Pure cx 27 [.str t, n.pv] (· = .ret [.bool true]) := by
  have hv := readN_ok h
  refine pure_of_vc Tryz.func27 rfl rfl rfl ?_
  have hR := readNested_p t ht
  rw [readN_res, h] at hR
  have hE := equal_c n n (valid_big hv)
  rw [decide_eq_true rfl] at hE
  refine hR.eq rfl ?_
  refine And.intro (fun _ => ?_) (fun h => absurd rfl h)
  refine And.intro (fun _ => ?_) (fun h => absurd rfl h)
  refine hE.eq rfl ?_
  exact end1 _ rfl rfl rfl
theorem badLine_yes (t : List UInt8) (p : Nat) (e : Int) (ht : t.length ≤ 50000) (h : readLR t = .inl (p, e)) : Pure cx 19 [.str t, i64 (p : Nat), i64 e] (· = .ret [.bool true]) := by
  refine pure_of_vc Tryz.func19 rfl rfl rfl ?_
  have hR := readLines_p t ht
  rw [readL_res, h] at hR
  refine hR.eq rfl ?_
  refine And.intro (fun _ => ?_) (fun h => absurd rfl h)
  refine And.intro (fun _ => ?_) (fun h => absurd rfl h)
  refine And.intro (fun _ => ?_) (fun h => absurd rfl h)
  refine And.intro (fun _ => ?_) (fun h => absurd rfl h)
  exact end1 _ rfl rfl rfl
theorem badNest_yes (t : List UInt8) (p : Nat) (e : Int) (ht : t.length ≤ 50000) (h : readNR t = .inl (p, e)) : Pure cx 22 [.str t, i64 (p : Nat), i64 e] (· = .ret [.bool true]) := by
  refine pure_of_vc Tryz.func22 rfl rfl rfl ?_
  have hR := readNested_p t ht
  rw [readN_res, h] at hR
  refine hR.eq rfl ?_
  refine And.intro (fun _ => ?_) (fun h => absurd rfl h)
  refine And.intro (fun _ => ?_) (fun h => absurd rfl h)
  refine And.intro (fun _ => ?_) (fun h => absurd rfl h)
  refine And.intro (fun _ => ?_) (fun h => absurd rfl h)
  exact end1 _ rfl rfl rfl

end Go.Proofs.YtphmmoloegjocaaGreatDoor

/- The chapter's examples (plain). Printed by gen/works41.py. -/
namespace Go.Proofs.YtphmmoloegjocaaGreatDoor
open Go Y
set_option maxRecDepth 100000
set_option maxHeartbeats 4000000

def exOne : Nt := ⟨4, [⟨2, [], [[1, 3]]⟩]⟩
def exTwo : Nt := ⟨4, [⟨2, [], [[1, 3]]⟩, ⟨2, [0], [[4, 0], [2, 2]]⟩]⟩
theorem valid_one : validP exOne := by
  refine ⟨by decide, by decide, by unfold okCard; decide, by unfold placedP listP; decide, by decide, ⟨fun v => v, ?_⟩, ?_⟩
  · show ∀ v, v < 1 → ∀ p, p < 1 → (parAt [0] v).testBit p = true → p < v
    decide
  · show ∀ v, v < 1 → nodeP exOne v
    unfold nodeP rowP
    decide
theorem valid_two : validP exTwo := by
  refine ⟨by decide, by decide, by unfold okCard; decide, by unfold placedP listP; decide, by decide, ⟨fun v => v, ?_⟩, ?_⟩
  · show ∀ v, v < 2 → ∀ p, p < 2 → (parAt [0, 1] v).testBit p = true → p < v
    decide
  · show ∀ v, v < 2 → nodeP exTwo v
    unfold nodeP rowP
    decide
theorem line_ok {t : List UInt8} {n : Ns} (h : t.length ≤ 40000) (e : runL true ns0 0 (linesN t) = .inr (false, n)) (hv : validP n.net) : readLR t = .inr n.net := by
  rw [readLR, if_neg (by omega), e]
  exact if_pos hv
theorem line_no {t : List UInt8} {k : Nat} (h : t.length ≤ 40000) (e : runL true ns0 0 (linesN t) = .inl k) : readLR t = .inl (k, 5) := by
  rw [readLR, if_neg (by omega), e]
theorem line_none {t : List UInt8} {n : Ns} (h : t.length ≤ 40000) (e : runL true ns0 0 (linesN t) = .inr (true, n)) : readLR t = .inl (0, 5) := by
  rw [readLR, if_neg (by omega), e]
theorem line_inv {t : List UInt8} {n : Ns} (h : t.length ≤ 40000) (e : runL true ns0 0 (linesN t) = .inr (false, n)) (hv : ¬ validP n.net) : readLR t = .inl (0, 50) := by
  rw [readLR, if_neg (by omega), e]
  exact if_neg hv
theorem nest_ok {t : List UInt8} {n : Nt} {q : Nat} (h : t.length ≤ 40000) (e : netP t (t.length + 1) = .inr (n, q)) (hv : validP n) : readNR t = .inr n := by
  rw [readNR, if_neg (by omega), e]
  exact if_pos hv
theorem nest_no {t : List UInt8} {k : Nat} (h : t.length ≤ 40000) (e : netP t (t.length + 1) = .inl k) : readNR t = .inl (k, 5) := by
  rw [readNR, if_neg (by omega), e]
def exL : List UInt8 := [110, 101, 116, 32, 52, 10, 110, 111, 100, 101, 32, 50, 10, 114, 111, 119, 32, 49, 32, 51, 10, 110, 111, 100, 101, 32, 50, 32, 102, 114, 111, 109, 32, 48, 10, 114, 111, 119, 32, 52, 32, 48, 10, 114, 111, 119, 32, 50, 32, 50, 10]
def exN : List UInt8 := [40, 110, 101, 116, 32, 52, 32, 40, 110, 111, 100, 101, 32, 50, 32, 40, 41, 32, 40, 49, 32, 51, 41, 41, 32, 40, 110, 111, 100, 101, 32, 50, 32, 40, 48, 41, 32, 40, 52, 32, 48, 41, 32, 40, 50, 32, 50, 41, 41, 41]
theorem ex_lines : byLines exTwo = exL := by decide
theorem ex_nested : nested exTwo = exN := by decide
theorem ex_l1 : readLR [110, 101, 116, 32, 52, 10, 32, 32, 59, 32, 120, 10, 110, 111, 100, 101, 32, 32, 50, 32, 10, 114, 111, 119, 32, 49, 32, 51] = .inr exOne := line_ok (n := ⟨4, [], some ⟨2, [], [[1, 3]]⟩⟩) (by decide) (by rfl) valid_one
theorem ex_l2 : readLR [110, 101, 116, 32, 52, 10, 114, 111, 119, 32, 49] = .inl (2, 5) := line_no (by decide) (by rfl)
theorem ex_l3 : readLR [110, 101, 116, 32, 48, 52] = .inl (1, 5) := line_no (by decide) (by rfl)
theorem ex_l4 : readLR [] = .inl (0, 5) := line_none (n := ns0) (by decide) (by rfl)
theorem ex_l5 : readLR [110, 101, 116, 32, 52] = .inl (0, 50) := line_inv (n := ⟨4, [], none⟩) (by decide) (by rfl) (fun h => absurd h.len.1 (by decide))
theorem ex_l6 : readLR [120] = .inl (1, 5) := line_no (by decide) (by rfl)
theorem ex_n0 : readNR exN = .inr exTwo := nest_ok (q := 50) (by decide) (by rfl) valid_two
theorem ex_n1 : readNR [40, 110, 101, 116, 32, 52, 40, 110, 111, 100, 101, 32, 50, 40, 41, 40, 49, 32, 51, 41, 41, 41] = .inr exOne := nest_ok (q := 22) (by decide) (by rfl) valid_one
theorem ex_n2 : readNR [40, 110, 101, 116, 32, 52, 32, 40, 110, 111, 100, 101, 32, 50, 32, 40, 41, 32, 40, 41, 41, 41] = .inl (19, 5) := nest_no (by decide) (by rfl)
theorem ex_n3 : readNR [40, 110, 101, 116, 52, 41] = .inl (1, 5) := nest_no (by decide) (by rfl)
theorem ex_n4 : readNR [40, 110, 101, 116, 32, 52] = .inl (6, 5) := nest_no (by decide) (by rfl)
theorem ex_t1 : turnV exN = [.str exL, i64 0] := by
  rw [turnV, if_pos ⟨by decide, by rfl⟩, ex_n0, ← ex_lines]
theorem ex_t2 : turnV [120] = [.str [], i64 5] := by
  rw [turnV, if_neg (fun h => absurd h.2 (by decide)), ex_l6]
end Go.Proofs.YtphmmoloegjocaaGreatDoor

/- The chapter's examples: works. -/
namespace Go.Proofs.YtphmmoloegjocaaGreatDoor
open Go Y
set_option maxRecDepth 100000
set_option maxHeartbeats 40000000

theorem two_c : Pure cx 43 [] (· = .ret [exTwo.pv]) := by
  refine pure_of_vc Tryz.func43 rfl rfl rfl ?_
  refine end1 exTwo.pv rfl ⟨_, rfl, _, _, rfl, rfl, _, _, rfl, ?_, rfl⟩ rfl
  refine ⟨_, rfl, by decide, ⟨_, _, rfl, ⟨_, _, rfl, rfl, _, _, rfl, .inr (.inl rfl), _, _, rfl, ?_, rfl⟩, _, _, rfl, ⟨_, _, rfl, rfl, _, _, rfl, ?_, _, _, rfl, ?_, rfl⟩, rfl⟩⟩
  · exact ⟨_, _, rfl, rfl, _, _, rfl, ⟨_, rfl, by decide, rfl⟩, rfl⟩
  · exact ⟨_, rfl, by decide, rfl⟩
  · exact ⟨_, _, rfl, rfl, _, _, rfl, ⟨_, rfl, by decide, rfl⟩, _, _, rfl, ⟨_, rfl, by decide, rfl⟩, rfl⟩
theorem one_c : Pure cx 45 [] (· = .ret [exOne.pv]) := by
  refine pure_of_vc Tryz.func45 rfl rfl rfl ?_
  refine two_c.eq rfl ?_
  refine ⟨by show (0 : Int) ≤ 1 ∧ (1 : Int) ≤ 2; decide, ?_⟩
  exact end1 exOne.pv rfl rfl rfl
theorem works_c : Pure cx 13 [] (· = .ret [.bool true]) := by
  have h1 := lines_c exTwo (valid_big valid_two)
  rw [linesP, if_pos valid_two, ex_lines] at h1
  have h2 := nestedE_c exTwo (valid_big valid_two)
  rw [nestedP, if_pos valid_two, ex_nested] at h2
  have h3 := turn_p exN (by decide)
  rw [ex_t1] at h3
  have h4 := turn_p [120] (by decide)
  rw [ex_t2] at h4
  refine pure_of_vc Tryz.func13 rfl rfl rfl ?_
  refine two_c.eq rfl ?_
  refine h1.eq rfl ?_
  refine two_c.eq rfl ?_
  refine h2.eq rfl ?_
  refine h3.eq rfl ?_
  refine h4.eq rfl ?_
  refine And.intro (fun _ => ?_) (fun h => absurd rfl h)
  refine And.intro (fun _ => ?_) (fun h => absurd rfl h)
  refine And.intro (fun _ => ?_) (fun h => absurd rfl h)
  refine And.intro (fun _ => ?_) (fun h => absurd rfl h)
  refine And.intro (fun _ => ?_) (fun h => absurd rfl h)
  refine And.intro (fun _ => ?_) (fun h => absurd rfl h)
  refine And.intro (fun _ => ?_) (fun h => absurd rfl h)
  refine one_c.eq rfl ?_
  refine (lined_yes _ exOne (by decide) ex_l1).eq rfl ?_
  refine (badLine_yes _ 2 5 (by decide) ex_l2).eq rfl ?_
  refine (badLine_yes _ 1 5 (by decide) ex_l3).eq rfl ?_
  refine (badLine_yes _ 0 5 (by decide) ex_l4).eq rfl ?_
  refine (badLine_yes _ 0 50 (by decide) ex_l5).eq rfl ?_
  refine one_c.eq rfl ?_
  refine (nested_yes _ exOne (by decide) ex_n1).eq rfl ?_
  refine (badNest_yes _ 19 5 (by decide) ex_n2).eq rfl ?_
  refine (badNest_yes _ 1 5 (by decide) ex_n3).eq rfl ?_
  refine (badNest_yes _ 6 5 (by decide) ex_n4).eq rfl ?_
  exact end1 _ rfl rfl rfl
end Go.Proofs.YtphmmoloegjocaaGreatDoor

/- The statements' own functions: Edit.Of. -/
namespace Go.Proofs.YtphmmoloegjocaaGreatDoor
open Go Y
set_option maxRecDepth 100000
set_option maxHeartbeats 40000000

structure Ed where
  place : UInt16
  cut : UInt16
  kind : UInt8
abbrev Ed.cells (E : Ed) : List PV := [.int .u16 (E.place.toNat : Nat), .int .u16 (E.cut.toNat : Nat), u8 E.kind]
abbrev Ed.pv (E : Ed) : PV := .agg E.cells
end Go.Proofs.YtphmmoloegjocaaGreatDoor

/- Reading lines: a form's text, also with other blanks (plain). -/
namespace Go.Proofs.YtphmmoloegjocaaGreatDoor
open Go Y
set_option maxRecDepth 100000
set_option maxHeartbeats 4000000

/-! ### Numbers -/
theorem dec_all : ∀ n < 100, numB (dec (n : Nat)) = true ∧ valN (dec (n : Nat)) = (n : Nat) := by decide +kernel
theorem dec_num {x : Int} (h0 : 0 ≤ x) (h : x < 100) : numB (dec x) = true ∧ valN (dec x) = x := by
  obtain ⟨n, rfl⟩ := Int.eq_ofNat_of_zero_le h0
  exact dec_all n (by omega)
theorem dec_ne (x : Int) : dec x ≠ [] := fun e => by have := dec_len x; rw [e] at this; simp at this
theorem isDg_ne {b c : UInt8} (h : isDg b = true) (hc : isDg c = false) : b ≠ c := fun e => by rw [e, hc] at h; cases h

/-! ### Words -/
structure Gw (w : List UInt8) : Prop where
  ne : w ≠ []
  sp : 32 ∉ w
  nl : 10 ∉ w
theorem gw_dec {x : Int} (h0 : 0 ≤ x) (h : x < 100) : Gw (dec x) :=
  ⟨dec_ne x, fun hm => isDg_ne (num_all (dec_num h0 h).1 _ hm) (by decide) rfl, fun hm => isDg_ne (num_all (dec_num h0 h).1 _ hm) (by decide) rfl⟩
def joinL (sep : List UInt8) : List (List UInt8) → List UInt8
  | [] => []
  | w :: r => w ++ r.flatMap (sep ++ ·)
theorem words_run : ∀ {u w s : List UInt8}, 32 ∉ u → wordsA w (u ++ s) = wordsA (w ++ u) s
  | [], w, s, _ => by rw [List.nil_append, List.append_nil]
  | b :: u, w, s, h => by
    simp only [List.mem_cons, not_or] at h
    rw [List.cons_append, wordsA, if_neg (fun e => h.1 e.symm), words_run h.2, List.append_assoc]; rfl
theorem words_gap0 : ∀ {g s : List UInt8}, (∀ b ∈ g, b = 32) → wordsA [] (g ++ s) = wordsA [] s
  | [], s, _ => rfl
  | b :: g, s, h => by
    rw [List.cons_append, wordsA, if_pos (h b (by simp)), if_pos rfl]
    exact words_gap0 fun c hc => h c (by simp [hc])
theorem words_gap {g s w : List UInt8} (h : ∀ b ∈ g, b = 32) (hg : g ≠ []) (hw : w ≠ []) : wordsA w (g ++ s) = w :: wordsA [] s := by
  cases g with
  | nil => exact absurd rfl hg
  | cons b g =>
    rw [List.cons_append, wordsA, if_pos (h b (by simp)), if_neg hw, words_gap0 fun c hc => h c (by simp [hc])]
theorem words_rest {sep g : List UInt8} (hs : ∀ b ∈ sep, b = 32) (hne : sep ≠ []) (hg : ∀ b ∈ g, b = 32) : ∀ {r : List (List UInt8)} {w : List UInt8}, w ≠ [] → (∀ v ∈ r, Gw v) → wordsA w (r.flatMap (sep ++ ·) ++ g) = w :: r
  | [], w, hw, _ => by
    show wordsA w g = [w]
    by_cases e : g = []
    · subst e; rw [wordsA, if_neg hw]
    · have := words_gap (s := []) hg e hw
      rw [List.append_nil] at this
      rw [this, wordsA, if_pos rfl]
  | v :: r, w, hw, h => by
    have hv := h v (by simp)
    rw [List.flatMap_cons, List.append_assoc, List.append_assoc, words_gap hs hne hw, words_run hv.sp, List.nil_append, words_rest hs hne hg hv.ne fun x hx => h x (by simp [hx])]
theorem words_join {sep g : List UInt8} (hs : ∀ b ∈ sep, b = 32) (hne : sep ≠ []) (hg : ∀ b ∈ g, b = 32) {ws : List (List UInt8)} (h : ∀ v ∈ ws, Gw v) : wordsN (joinL sep ws ++ g) = ws := by
  cases ws with
  | nil =>
    have := words_gap0 (s := []) hg
    rw [List.append_nil] at this
    exact this
  | cons w r =>
    have hw := h w (by simp)
    rw [wordsN, joinL, List.append_assoc, words_run hw.sp, List.nil_append, words_rest hs hne hg hw.ne fun x hx => h x (by simp [hx])]
theorem join_nl {sep : List UInt8} (hs : 10 ∉ sep) : ∀ {ws : List (List UInt8)}, (∀ v ∈ ws, Gw v) → 10 ∉ joinL sep ws
  | [], _, h => by simp [joinL] at h
  | w :: r, h, hm => by
    rw [joinL] at hm
    rcases List.mem_append.1 hm with hm | hm
    · exact (h w (by simp)).nl hm
    · obtain ⟨v, hv, hm⟩ := List.mem_flatMap.1 hm
      rcases List.mem_append.1 hm with hm | hm
      · exact hs hm
      · exact (h v (by simp [hv])).nl hm

/-! ### Lines that are not passed over -/
def keepL (ls : List (List UInt8)) : List (List (List UInt8)) := (ls.map wordsN).filter fun w => !passW w
def keep (t : List UInt8) : List (List (List UInt8)) := keepL (linesN t)
theorem keepL_cons (u : List UInt8) (r : List (List UInt8)) : keepL (u :: r) = if passW (wordsN u) = true then keepL r else wordsN u :: keepL r := by
  rw [keepL, List.map_cons, List.filter_cons]
  by_cases h : passW (wordsN u) = true
  · rw [if_pos h, h]; rfl
  · rw [if_neg h, Bool.not_eq_true] at *
    rw [h]; rfl
theorem lines_run : ∀ {u w r : List UInt8}, 10 ∉ u → linesA w (u ++ 10 :: r) = (w ++ u) :: linesA [] r
  | [], w, r, _ => by rw [List.nil_append, linesA, if_pos rfl, List.append_nil]
  | b :: u, w, r, h => by
    simp only [List.mem_cons, not_or] at h
    rw [List.cons_append, linesA, if_neg (fun e => h.1 e.symm), lines_run h.2, List.append_assoc]; rfl
theorem keep_line {u r : List UInt8} (h : 10 ∉ u) : keep (u ++ 10 :: r) = if passW (wordsN u) = true then keep r else wordsN u :: keep r := by
  rw [keep, linesN, lines_run h, List.nil_append, keepL_cons]; rfl
theorem keep_nlA : ∀ (u w : List UInt8), keepL (linesA w (u ++ [10])) = keepL (linesA w u)
  | [], w => by
    have e : linesA w [10] = [w] := by rw [linesA, if_pos rfl, linesA, if_pos rfl]
    rw [List.nil_append, e, linesA]
    by_cases h : w = []
    · subst h; rw [if_pos rfl]; rfl
    · rw [if_neg h]
  | b :: u, w => by
    rw [List.cons_append, linesA, linesA]
    by_cases h : b = 10
    · rw [if_pos h, if_pos h, keepL_cons, keepL_cons, keep_nlA u []]
    · rw [if_neg h, if_neg h, keep_nlA u _]
theorem keep_nl (u : List UInt8) : keep (u ++ [10]) = keep u := keep_nlA u []
theorem words_blank (u : List UInt8) : wordsN (32 :: u) = wordsN u := by rw [wordsN, wordsA, if_pos rfl, if_pos rfl]; rfl
theorem keep_spA : ∀ (u w : List UInt8), keepL (linesA (32 :: w) u) = keepL (linesA w u)
  | [], w => by
    rw [linesA, linesA, if_neg (by simp)]
    by_cases h : w = []
    · subst h; rw [if_pos rfl]; rfl
    · rw [if_neg h, keepL_cons, keepL_cons, words_blank]
  | b :: u, w => by
    rw [linesA, linesA]
    by_cases h : b = 10
    · rw [if_pos h, if_pos h, keepL_cons, keepL_cons, words_blank]
    · rw [if_neg h, if_neg h]
      exact keep_spA u (w ++ [b])
theorem keep_sp (u : List UInt8) : keep (32 :: u) = keep u := by
  rw [keep, linesN, linesA, if_neg (by decide)]
  exact keep_spA u []
theorem keep_flat {A : List (List UInt8) → List UInt8} {B : List UInt8} (hB : ∀ r, keep (B ++ r) = keep r) : ∀ {W : List (List (List UInt8))}, (∀ w ∈ W, 10 ∉ A w ∧ wordsN (A w) = w ∧ passW w = false) → ∀ r, keep (W.flatMap (fun w => A w ++ 10 :: B) ++ r) = W ++ keep r
  | [], _, r => rfl
  | w :: W, h, r => by
    obtain ⟨h1, h2, h3⟩ := h w (by simp)
    rw [List.flatMap_cons, List.append_assoc, List.append_assoc, List.cons_append, keep_line h1, h2, h3, if_neg (by decide), hB, keep_flat hB fun x hx => h x (by simp [hx])]; rfl

/-! ### Running over words -/
def runW : Bool → Ns → List (List (List UInt8)) → Option (Bool × Ns)
  | f, n, [] => some (f, n)
  | f, n, w :: ws => match stepN f n w with
    | none => none
    | some n' => runW false n' ws
theorem runL_app : ∀ {pre : List (List UInt8)} {rest : List (List UInt8)} {f f' : Bool} {n n' : Ns} {i : Nat}, runW f n (keepL pre) = some (f', n') → runL f n i (pre ++ rest) = runL f' n' (i + pre.length) rest
  | [], rest, f, f', n, n', i, h => by
    cases h; rfl
  | u :: pre, rest, f, f', n, n', i, h => by
    rw [keepL_cons] at h
    rw [List.cons_append, runL, List.length_cons, show i + (pre.length + 1) = i + 1 + pre.length by omega]
    by_cases hp : passW (wordsN u) = true
    · rw [if_pos hp] at h ⊢
      exact runL_app h
    · rw [if_neg hp] at h ⊢
      rw [runW] at h
      cases hs : stepN f n (wordsN u) with
      | none => rw [hs] at h; cases h
      | some m => rw [hs] at h; exact runL_app h
theorem runL_keep {t : List UInt8} {f f' : Bool} {n n' : Ns} (h : runW f n (keep t) = some (f', n')) : runL f n 0 (linesN t) = .inr (f', n') := by
  have := runL_app (rest := []) (i := 0) h
  rw [List.append_nil] at this
  rw [this]; rfl
theorem runW_app : ∀ {a b : List (List (List UInt8))} {f f' : Bool} {n n' : Ns}, runW f n a = some (f', n') → runW f n (a ++ b) = runW f' n' b
  | [], b, f, f', n, n', h => by cases h; rfl
  | w :: a, b, f, f', n, n', h => by
    rw [runW] at h
    rw [List.cons_append, runW]
    cases hs : stepN f n w with
    | none => rw [hs] at h; cases h
    | some m => rw [hs] at h; exact runW_app h

/-! ### The words of a network's lines -/
def rowW (r : List Int) : List (List UInt8) := kRow :: r.map dec
def nodeW (x : Nd) : List (List UInt8) := kNode :: dec x.card :: (if x.parents = [] then [] else kFrom :: x.parents.map dec)
def blockW (x : Nd) : List (List (List UInt8)) := nodeW x :: x.rows.map rowW
def netW (n : Nt) : List (List (List UInt8)) := [kNet, dec n.grain] :: n.nodes.flatMap blockW
theorem nums_flat (l : List Int) : numsN l = (l.map dec).flatMap ([32] ++ ·) := by rw [numsN, List.flatMap_map]; rfl
theorem row_join (r : List Int) : rowLine r = joinL [32] (rowW r) ++ [10] := by
  rw [rowLine, nums_flat, rowW, joinL, List.append_assoc]
theorem node_join (x : Nd) : nodeHead x = joinL [32] (nodeW x) ++ [10] := by
  rw [nodeHead, nodeW, joinL]
  by_cases h : x.parents = []
  · rw [if_pos h, if_pos h]; simp
  · rw [if_neg h, if_neg h, nums_flat]; simp
theorem block_join (x : Nd) : nodeLines x = (blockW x).flatMap fun w => joinL [32] w ++ [10] := by
  rw [nodeLines, blockW, List.flatMap_cons, node_join, List.flatMap_map]
  congr 1
  exact congrArg (fun f => List.flatMap f x.rows) (funext row_join)
theorem net_join (n : Nt) : byLines n = (netW n).flatMap fun w => joinL [32] w ++ [10] := by
  rw [byLines, netW, List.flatMap_cons, List.flatMap_assoc]
  have e : ([110, 101, 116, 32] ++ (dec n.grain ++ [10]) : List UInt8) = joinL [32] [kNet, dec n.grain] ++ [10] := by simp [joinL]
  rw [e]
  congr 1
  exact congrArg (fun f => List.flatMap f n.nodes) (funext block_join)

/-! ### What they are run to -/
/-- Numbers that have two digits at most; rows are not empty. -/
structure Tw (n : Nt) : Prop where
  g : 0 ≤ n.grain ∧ n.grain < 100
  card : ∀ x ∈ n.nodes, 0 ≤ x.card ∧ x.card < 100
  par : ∀ x ∈ n.nodes, two x.parents
  row : ∀ x ∈ n.nodes, ∀ r ∈ x.rows, two r ∧ r ≠ []
theorem valid_tw {n : Nt} (h : validP n) : Tw n := by
  have hs := valid_sm h
  refine ⟨hs.grain, fun x hx => by have := hs.card x hx; omega, fun x hx => (hs.par x hx).1, fun x hx r hr => ⟨(hs.row x hx r hr).1, fun e => ?_⟩⟩
  have := (hs.row x hx r hr).2.1
  rw [e] at this
  simp at this
theorem all_dec {l : List Int} (h : two l) : allB (l.map dec) = true ∧ (l.map dec).map valN = l := by
  constructor
  · rw [allB, List.all_eq_true]
    intro w hw
    obtain ⟨x, hx, rfl⟩ := List.mem_map.1 hw
    exact (dec_num (h x hx).1 (h x hx).2).1
  · rw [List.map_map]
    conv => rhs; rw [← List.map_id l]
    exact List.map_congr_left fun x hx => (dec_num (h x hx).1 (h x hx).2).2
theorem step_net (N : Ns) {g : Int} (h0 : 0 ≤ g) (h : g < 100) : stepN true N [kNet, dec g] = some { N with g := g } := by
  have hd := dec_num h0 h
  rw [stepN, if_pos rfl, if_pos ⟨rfl, hd.1, rfl⟩]
  show some { N with g := valN (dec g) } = _
  rw [hd.2]
theorem step_nodeW (N : Ns) {x : Nd} (hc : 0 ≤ x.card ∧ x.card < 100) (hp : two x.parents) : stepN false N (nodeW x) = some ⟨N.g, N.init ++ N.last.toList, some ⟨x.card, x.parents, []⟩⟩ := by
  have hd := dec_num hc.1 hc.2
  obtain ⟨c, ps, rs⟩ := x
  simp only [] at hc hp hd
  rw [stepN, if_neg (by decide), if_pos (show (nodeW ⟨c, ps, rs⟩).getD 0 [] = kNode by rfl)]
  show (if 2 ≤ (nodeW ⟨c, ps, rs⟩).length ∧ numB (dec c) = true then _ else _) = _
  cases ps with
  | nil =>
    rw [if_pos ⟨by show 2 ≤ 2; omega, hd.1⟩, if_pos (show (nodeW ⟨c, [], rs⟩).length = 2 by rfl)]
    show some (⟨N.g, N.init ++ N.last.toList, some ⟨valN (dec c), [], []⟩⟩ : Ns) = _
    rw [hd.2]
  | cons p ps =>
    have ha := all_dec hp
    have e : nodeW ⟨c, p :: ps, rs⟩ = kNode :: dec c :: kFrom :: (p :: ps).map dec := by rw [nodeW, if_neg (by simp)]
    rw [e, if_pos ⟨by simp, hd.1⟩, if_neg (by simp)]
    show (if allB ((p :: ps).map dec) = true ∧ 3 < (kNode :: dec c :: kFrom :: (p :: ps).map dec).length ∧ kFrom = kFrom then some (⟨N.g, N.init ++ N.last.toList, some ⟨valN (dec c), ((p :: ps).map dec).map valN, []⟩⟩ : Ns) else none) = _
    rw [if_pos ⟨ha.1, by simp, rfl⟩, ha.2, hd.2]
theorem step_rowW {N : Ns} {y : Nd} (hl : N.last = some y) {r : List Int} (h : two r) (hr : r ≠ []) : stepN false N (rowW r) = some ⟨N.g, N.init, some { y with rows := y.rows ++ [r] }⟩ := by
  have ha := all_dec h
  rw [stepN, if_neg (by decide), if_neg (show ¬ (rowW r).getD 0 [] = kNode by show ¬ kRow = kNode; decide), if_pos (show (rowW r).getD 0 [] = kRow by rfl), hl]
  show (if allB (r.map dec) = true ∧ 1 < (rowW r).length then some (⟨N.g, N.init, some { y with rows := y.rows ++ [(r.map dec).map valN] }⟩ : Ns) else none) = _
  have := List.length_pos_iff.2 hr
  rw [if_pos ⟨ha.1, by rw [rowW, List.length_cons, List.length_map]; omega⟩, ha.2]
theorem run_rows : ∀ {rs : List (List Int)} {g : Int} {l : List Nd} {y : Nd}, (∀ r ∈ rs, two r ∧ r ≠ []) → runW false ⟨g, l, some y⟩ (rs.map rowW) = some (false, ⟨g, l, some { y with rows := y.rows ++ rs }⟩)
  | [], g, l, y, _ => by
    obtain ⟨c, p, rs⟩ := y
    show some (false, _) = _
    rw [List.append_nil]
  | r :: rs, g, l, y, h => by
    have hr := h r (by simp)
    rw [List.map_cons, runW, step_rowW rfl hr.1 hr.2]
    show runW false ⟨g, l, some { y with rows := y.rows ++ [r] }⟩ (rs.map rowW) = _
    rw [run_rows fun x hx => h x (by simp [hx])]
    simp
theorem run_block (N : Ns) {x : Nd} (hc : 0 ≤ x.card ∧ x.card < 100) (hp : two x.parents) (hr : ∀ r ∈ x.rows, two r ∧ r ≠ []) : runW false N (blockW x) = some (false, ⟨N.g, N.init ++ N.last.toList, some x⟩) := by
  rw [blockW, runW, step_nodeW N hc hp]
  show runW false ⟨N.g, N.init ++ N.last.toList, some ⟨x.card, x.parents, []⟩⟩ (x.rows.map rowW) = _
  rw [run_rows hr]; rfl
theorem run_nodes : ∀ {l : List Nd} {N : Ns}, (∀ x ∈ l, (0 ≤ x.card ∧ x.card < 100) ∧ two x.parents ∧ ∀ r ∈ x.rows, two r ∧ r ≠ []) → ∃ N', runW false N (l.flatMap blockW) = some (false, N') ∧ N'.net = ⟨N.g, N.net.nodes ++ l⟩
  | [], N, _ => ⟨N, rfl, by rw [List.append_nil]; rfl⟩
  | x :: l, N, h => by
    obtain ⟨h1, h2, h3⟩ := h x (by simp)
    obtain ⟨N', e1, e2⟩ := run_nodes (l := l) (N := ⟨N.g, N.init ++ N.last.toList, some x⟩) fun y hy => h y (by simp [hy])
    refine ⟨N', ?_, ?_⟩
    · rw [List.flatMap_cons, runW_app (run_block N h1 h2 h3)]; exact e1
    · rw [e2]
      simp [Ns.net]
theorem run_net {n : Nt} (h : Tw n) : ∃ N', runW true ns0 (netW n) = some (false, N') ∧ N'.net = n := by
  obtain ⟨N', e1, e2⟩ := run_nodes (l := n.nodes) (N := ⟨n.grain, [], none⟩) fun x hx => ⟨h.card x hx, h.par x hx, h.row x hx⟩
  refine ⟨N', ?_, ?_⟩
  · rw [netW, runW, step_net ns0 h.g.1 h.g.2]; exact e1
  · rw [e2]; rfl
theorem readL_of {t : List UInt8} {n : Nt} (hl : t.length ≤ 40000) (hv : validP n) (h : keep t = netW n) : readLR t = .inr n := by
  obtain ⟨N', e1, e2⟩ := run_net (valid_tw hv)
  rw [← h] at e1
  rw [readLR, if_neg (by omega), runL_keep e1]
  simp only []
  rw [e2, if_pos hv]
end Go.Proofs.YtphmmoloegjocaaGreatDoor
