/- FormatBack: the row and the card. Both forms of a network are read as that network, also with other blanks; two networks with the same form are equal; for all pairs of drafts. Conditions: those of the card. -/
import Derived.Lib.Replace
import Derived.Shelf.Strings.Builder1
import Derived.Shelf.Strings.Builder2
import Derived.Shelf.Strings.OnBuilder
import Derived.Shelf.Strings.Trim
import Derived.Shelf.Small.Utf8
import Derived.Shelf.Small.Strs
import Derived.Shelf.Strings.BuilderF
import Derived.Shelf.Utf8.RuneCount
import Derived.Shelf.Strconv.Itoa0
import Derived.Shelf.Strconv.Itoa1
import Derived.Shelf.LaysM
import Derived.Shelf.Strconv.Itoa2
import Derived.Shelf.Strconv.Itoa3
import Derived.Shelf.Strings.Search1
import Derived.Shelf.Strings.Search2
import Derived.Shelf.Strings.Search3
import Derived.Shelf.Strings.Cut
import Derived.Shelf.Strings.Count
import Derived.Shelf.Strings.Shaped
import Derived.Shelf.Strings.Prefix
import Derived.Shelf.Strings.Split
import Derived.Shelf.Strings.Replace
import Derived.Shelf.Strings.SplitShaped
import Derived.Shelf.Unicode.Decode
import Derived.Shelf.Strings.Runes
import Derived.Shelf.Strings.RuneCount
import Derived.Shelf.Strings.AsciiSet
import Derived.Shelf.Strings.Explode
import Derived.Shelf.Unicode.DecodeSlow
import Derived.Shelf.Unicode.DecodeAny
import Derived.Shelf.Strings.FieldsFuncAny
import Derived.Shelf.Strings.FieldsFuncGrows
import Derived.Test.YtphmmoloegjocaaGreatDoorProg
import Derived.ChangeArms
import Derived.OpenShut
import Derived.WideHanded
import Derived.ChangeSame
import Derived.ProofKit
import Derived.LaidMore
import Derived.LaidLaws
import Derived.Stop.Joined
import Derived.MakeChecks
import Derived.Test.YtphmmoloegjocaaGreatDoorRows
import Derived.Lay
import Derived.Test.YtphmmoloegjocaaGreatDoorCards
import Derived.Test.YtphmmoloegjocaaGreatDoorTie
import Derived.SevenTiedAt
import Derived.Test.YtphmmoloegjocaaGreatDoorQ4
/- Reading nested texts: a form's text, also with other blanks; texts that are cut off (plain). -/
namespace Go.Proofs.YtphmmoloegjocaaGreatDoor
open Go Y
set_option maxRecDepth 100000
set_option maxHeartbeats 4000000

/-! ### The words that stand at a place -/
def At (s : List UInt8) : Nat → List (List UInt8) → Nat → Prop
  | p, [], q => p = q
  | p, w :: ts, q => tok s p = w ∧ At s (te s p) ts q
theorem at_app {s : List UInt8} : ∀ {a b : List (List UInt8)} {p q : Nat}, At s p (a ++ b) q → ∃ m, At s p a m ∧ At s m b q
  | [], b, p, q, h => ⟨p, rfl, h⟩
  | w :: a, b, p, q, h => by
    obtain ⟨h1, h2⟩ := h
    obtain ⟨m, h3, h4⟩ := at_app h2
    exact ⟨m, ⟨h1, h3⟩, h4⟩
theorem at_len {s : List UInt8} : ∀ {ts : List (List UInt8)} {p q : Nat}, p ≤ s.length → At s p ts q → (∀ w ∈ ts, w ≠ []) → p + ts.length ≤ q ∧ q ≤ s.length
  | [], p, q, hp, h, _ => by
    have h : p = q := h
    simp only [List.length_nil]; omega
  | w :: ts, p, q, hp, h, hne => by
    obtain ⟨h1, h2⟩ := h
    have h3 := te_lt hp (by rw [h1]; exact hne w (by simp))
    have h4 := at_len (te_le hp).2 h2 fun v hv => hne v (by simp [hv])
    rw [List.length_cons]; omega
theorem then_run {α β : Type} (a : α) (p : Nat) (k : α → Nat → Rd β) : Rd.then (.inr (a, p)) k = k a p := rfl
theorem dec_close {x : Int} (h0 : 0 ≤ x) (h : x < 100) : dec x ≠ kClose := fun e => by
  have := (dec_num h0 h).1
  rw [e] at this
  exact absurd this (by decide)
theorem num_at {s : List UInt8} {p : Nat} {x : Int} (h0 : 0 ≤ x) (h : x < 100) (e : tok s p = dec x) : numP s p = .inr (x, te s p) := by
  have hd := dec_num h0 h
  rw [numP, e, if_pos hd.1, hd.2]
theorem must_at {s w : List UInt8} {p : Nat} (e : tok s p = w) : mustP s w p = .inr ((), te s p) := by rw [mustP, if_pos e]
theorem nums_at {s : List UInt8} : ∀ {l : List Int} {F p q : Nat} {acc : List Int}, two l → l.length < F → At s p (l.map dec) q → tok s q = kClose → numsP s F acc p = .inr (acc ++ l, nx s q)
  | [], F + 1, p, q, acc, _, _, ha, hq => by
    have ha : p = q := ha
    rw [numsP, ha, if_pos hq, List.append_nil]
  | x :: l, F + 1, p, q, acc, h, hl, ha, hq => by
    obtain ⟨h1, h2⟩ := ha
    have hx := h x (by simp)
    rw [numsP, if_neg (by rw [h1]; exact dec_close hx.1 hx.2), num_at hx.1 hx.2 h1]
    show numsP s F (acc ++ [x]) (te s p) = _
    rw [nums_at (fun y hy => h y (by simp [hy])) (by simpa using hl) h2 hq]
    simp
def lstT (l : List Int) : List (List UInt8) := kOpen :: (l.map dec ++ [kClose])
theorem lst_at {s : List UInt8} {l : List Int} {F p q : Nat} (h : two l) (hl : l.length < F) (ha : At s p (lstT l) q) : lstP s F p = .inr (l, q) := by
  obtain ⟨h1, h2⟩ := ha
  obtain ⟨m, h3, h4, h5⟩ := at_app h2
  have h5 : te s m = q := h5
  rw [lstP, must_at h1, then_run, nums_at h hl h3 h4, then_run, must_nx, must_at h4, then_run, h5]; rfl
theorem row_at {s : List UInt8} {l : List Int} {F p q : Nat} (h : two l) (hne : l ≠ []) (hl : l.length < F) (ha : At s p (lstT l) q) : rowRd s F p = .inr (l, q) := by
  cases l with
  | nil => exact absurd rfl hne
  | cons x l =>
    obtain ⟨h1, h2, h2'⟩ := ha
    obtain ⟨m, h3, h4, h5⟩ := at_app h2'
    have h5 : te s m = q := h5
    have hx := h x (by simp)
    rw [rowRd, must_at h1, then_run, num_at hx.1 hx.2 h2, then_run, nums_at (fun y hy => h y (by simp [hy])) (by rw [List.length_cons] at hl; omega) h3 h4, then_run, must_nx, must_at h4, then_run, h5]; rfl
theorem rows_atN {s : List UInt8} {F : Nat} : ∀ {rs : List (List Int)} {f p q : Nat} {acc : List (List Int)}, (∀ r ∈ rs, two r ∧ r ≠ [] ∧ r.length < F) → rs.length < f → At s p (rs.flatMap lstT) q → tok s q = kClose → rowsP s F f acc p = .inr (acc ++ rs, nx s q)
  | [], f + 1, p, q, acc, _, _, ha, hq => by
    have ha : p = q := ha
    rw [rowsP, ha, if_pos hq, List.append_nil]
  | r :: rs, f + 1, p, q, acc, h, hl, ha, hq => by
    rw [List.flatMap_cons] at ha
    obtain ⟨m, h1, h2⟩ := at_app ha
    obtain ⟨k1, k2, k3⟩ := h r (by simp)
    rw [rowsP, if_neg (by rw [h1.1]; decide), row_at k1 k2 k3 h1]
    show rowsP s F f (acc ++ [r]) m = _
    rw [rows_atN (fun y hy => h y (by simp [hy])) (by simpa using hl) h2 hq]
    simp
def nodeT (x : Nd) : List (List UInt8) := kOpen :: kNode :: dec x.card :: (lstT x.parents ++ (x.rows.flatMap lstT ++ [kClose]))
structure OkF (F : Nat) (x : Nd) : Prop where
  card : 0 ≤ x.card ∧ x.card < 100
  par : two x.parents
  row : ∀ r ∈ x.rows, two r ∧ r ≠ [] ∧ r.length < F
  pl : x.parents.length < F
  rl : x.rows.length < F
theorem node_at {s : List UInt8} {x : Nd} {F p q : Nat} (h : OkF F x) (ha : At s p (nodeT x) q) : nodeRd s F p = .inr (x, q) := by
  obtain ⟨h1, h2, h3, h4⟩ := ha
  obtain ⟨m, h5, h6⟩ := at_app h4
  obtain ⟨k, h7, h8, h9⟩ := at_app h6
  have h9 : te s k = q := h9
  rw [nodeRd, must_at h1, then_run, must_at h2, then_run, num_at h.card.1 h.card.2 h3, then_run, lst_at h.par h.pl h5, then_run, rows_atN h.row h.rl h7 h8, then_run, must_nx, must_at h8, then_run, h9]; rfl
theorem nodes_at {s : List UInt8} {F : Nat} : ∀ {l : List Nd} {f p q : Nat} {acc : List Nd}, (∀ x ∈ l, OkF F x) → l.length < f → At s p (l.flatMap nodeT) q → tok s q = kClose → nodesP s F f acc p = .inr (acc ++ l, nx s q)
  | [], f + 1, p, q, acc, _, _, ha, hq => by
    have ha : p = q := ha
    rw [nodesP, ha, if_pos hq, List.append_nil]
  | x :: l, f + 1, p, q, acc, h, hl, ha, hq => by
    rw [List.flatMap_cons] at ha
    obtain ⟨m, h1, h2⟩ := at_app ha
    rw [nodesP, if_neg (by rw [h1.1]; decide), node_at (h x (by simp)) h1]
    show nodesP s F f (acc ++ [x]) m = _
    rw [nodes_at (fun y hy => h y (by simp [hy])) (by simpa using hl) h2 hq]
    simp
def netT (n : Nt) : List (List UInt8) := kOpen :: kNet :: dec n.grain :: (n.nodes.flatMap nodeT ++ [kClose])
theorem net_at {s : List UInt8} {n : Nt} {F q : Nat} (hg : 0 ≤ n.grain ∧ n.grain < 100) (h : ∀ x ∈ n.nodes, OkF F x) (hl : n.nodes.length < F) (ha : At s 0 (netT n) q) : netP s F = if tok s q = [] then .inr (n, q) else .inl (nx s q) := by
  obtain ⟨h1, h2, h3, h4⟩ := ha
  obtain ⟨m, h5, h6, h7⟩ := at_app h4
  have h7 : te s m = q := h7
  rw [netP, must_at h1, then_run, must_at h2, then_run, num_at hg.1 hg.2 h3, then_run, nodes_at h hl h5 h6, then_run, must_nx, must_at h6, then_run, h7]; rfl

/-! ### The words are not empty, and count -/
theorem lstT_ne (l : List Int) : ∀ w ∈ lstT l, w ≠ [] := by
  intro w hw
  simp only [lstT, List.mem_cons, List.mem_append, List.mem_map, List.not_mem_nil, or_false] at hw
  rcases hw with rfl | ⟨x, _, rfl⟩ | rfl
  · simp
  · exact dec_ne x
  · simp
theorem nodeT_ne (x : Nd) : ∀ w ∈ nodeT x, w ≠ [] := by
  intro w hw
  simp only [nodeT, List.mem_cons, List.mem_append, List.mem_flatMap, List.not_mem_nil, or_false] at hw
  rcases hw with rfl | rfl | rfl | h | ⟨r, _, h⟩ | rfl
  · simp
  · simp
  · exact dec_ne _
  · exact lstT_ne _ w h
  · exact lstT_ne _ w h
  · simp
theorem netT_ne (n : Nt) : ∀ w ∈ netT n, w ≠ [] := by
  intro w hw
  simp only [netT, List.mem_cons, List.mem_append, List.mem_flatMap, List.not_mem_nil, or_false] at hw
  rcases hw with rfl | rfl | rfl | ⟨x, _, h⟩ | rfl
  · simp
  · simp
  · exact dec_ne _
  · exact nodeT_ne x w h
  · simp
theorem flat_ge {α β : Type} {f : α → List β} {l : List α} {x : α} (h : x ∈ l) : (f x).length ≤ (l.flatMap f).length := by
  induction l with
  | nil => simp at h
  | cons y l ih =>
    rw [List.flatMap_cons, List.length_append]
    rcases List.mem_cons.1 h with rfl | h
    · omega
    · have := ih h; omega
theorem flat_count {α β : Type} {f : α → List β} {l : List α} (h : ∀ x ∈ l, 1 ≤ (f x).length) : l.length ≤ (l.flatMap f).length := by
  induction l with
  | nil => simp
  | cons y l ih =>
    rw [List.flatMap_cons, List.length_append, List.length_cons]
    have := ih fun x hx => h x (by simp [hx])
    have := h y (by simp)
    omega
theorem netT_big {n : Nt} (h : Tw n) {F : Nat} (hF : (netT n).length < F) : n.nodes.length < F ∧ ∀ x ∈ n.nodes, OkF F x := by
  have h1 : (netT n).length = (n.nodes.flatMap nodeT).length + 4 := by simp [netT]
  have h2 := flat_count (f := nodeT) (l := n.nodes) fun x _ => by simp [nodeT]
  refine ⟨by omega, fun x hx => ?_⟩
  have h3 := flat_ge (f := nodeT) hx
  have h4 : (nodeT x).length = (x.parents.length + 2) + (x.rows.flatMap lstT).length + 4 := by simp [nodeT, lstT]; omega
  have h5 := flat_count (f := lstT) (l := x.rows) fun r _ => by simp [lstT]
  refine ⟨h.card x hx, h.par x hx, fun r hr => ⟨(h.row x hx r hr).1, (h.row x hx r hr).2, ?_⟩, by omega, by omega⟩
  have h6 := flat_ge (f := lstT) hr
  have h7 : (lstT r).length = r.length + 2 := by simp [lstT]
  omega

/-! ### From texts to words -/
def okT (w r : List UInt8) : Prop := w = kOpen ∨ w = kClose ∨ (w ≠ [] ∧ (∀ b ∈ w, isWd b = true) ∧ ∀ b r', r = b :: r' → isWd b = false)
def Rn : List (List UInt8) → List UInt8 → List UInt8 → Prop
  | [], u, v => u = v
  | w :: ts, u, v => ∃ g r, u = g ++ (w ++ r) ∧ (∀ b ∈ g, isBl b = true) ∧ okT w r ∧ Rn ts r v
theorem tw_all {f : UInt8 → Bool} : ∀ {g r : List UInt8}, (∀ b ∈ g, f b = true) → (∀ b r', r = b :: r' → f b = false) → (g ++ r).takeWhile f = g
  | [], r, _, h => by
    cases r with
    | nil => rfl
    | cons b r => rw [List.nil_append, List.takeWhile_cons, h b r rfl]; rfl
  | a :: g, r, hg, h => by rw [List.cons_append, List.takeWhile_cons, if_pos (hg a (by simp)), tw_all (fun b hb => hg b (by simp [hb])) h]
theorem bl_wd {b : UInt8} (h : isWd b = true) : isBl b = false := by
  simp only [isWd, Bool.and_eq_true, Bool.not_eq_true'] at h
  rw [isBl, h.1.1.1, h.1.1.2]; rfl
theorem tok_at {s g w r : List UInt8} {p : Nat} (hp : p ≤ s.length) (e : s.drop p = g ++ (w ++ r)) (hg : ∀ b ∈ g, isBl b = true) (hw : okT w r) : tok s p = w ∧ te s p ≤ s.length ∧ s.drop (te s p) = r ∧ nx s p = p + g.length := by
  have hwb : ∀ b r', w ++ r = b :: r' → isBl b = false := by
    rcases hw with rfl | rfl | ⟨h1, h2, _⟩
    · intro b r' h; cases h; rfl
    · intro b r' h; cases h; rfl
    · intro b r' h
      cases w with
      | nil => exact absurd rfl h1
      | cons c w => cases h; exact bl_wd (h2 b (by simp))
  have hn : nx s p = p + g.length := by rw [nx, scanF, e, tw_all hg hwb]
  have hd : s.drop (nx s p) = w ++ r := by rw [hn, ← List.drop_drop, e, List.drop_append_of_le_length (Nat.le_refl _), List.drop_length, List.nil_append]
  have hl : (s.drop p).length = (g ++ (w ++ r)).length := by rw [e]
  rw [List.length_drop, List.length_append, List.length_append] at hl
  have ht : te s p = nx s p + w.length := by
    rcases hw with rfl | rfl | ⟨h1, h2, h3⟩
    · have hs : scanF isWd s (nx s p) = nx s p := by rw [scanF, hd]; rfl
      have : (kOpen : List UInt8).length = 1 := rfl
      rw [te, hs, if_pos ⟨rfl, by omega⟩]; rfl
    · have hs : scanF isWd s (nx s p) = nx s p := by rw [scanF, hd]; rfl
      have : (kClose : List UInt8).length = 1 := rfl
      rw [te, hs, if_pos ⟨rfl, by omega⟩]; rfl
    · have hs : scanF isWd s (nx s p) = nx s p + w.length := by rw [scanF, hd, tw_all h2 h3]
      have := List.length_pos_iff.2 h1
      rw [te, hs, if_neg (by omega)]
  refine ⟨?_, by omega, ?_, hn⟩
  · rw [tok, hd, ht, show nx s p + w.length - nx s p = w.length by omega, List.take_append_of_le_length (Nat.le_refl _), List.take_length]
  · rw [ht, ← List.drop_drop, hd, List.drop_append_of_le_length (Nat.le_refl _), List.drop_length, List.nil_append]
theorem at_rn {s : List UInt8} : ∀ {ts : List (List UInt8)} {p : Nat} {v : List UInt8}, p ≤ s.length → Rn ts (s.drop p) v → ∃ q, At s p ts q ∧ s.drop q = v ∧ q ≤ s.length
  | [], p, v, hp, h => ⟨p, rfl, h, hp⟩
  | w :: ts, p, v, hp, h => by
    obtain ⟨g, r, e, hg, hw, hr⟩ := h
    obtain ⟨h1, h2, h3, _⟩ := tok_at hp e hg hw
    obtain ⟨q, k1, k2, k3⟩ := at_rn h2 (by rw [h3]; exact hr)
    exact ⟨q, ⟨h1, k1⟩, k2, k3⟩
theorem tok_end {s : List UInt8} {q : Nat} (hq : q ≤ s.length) (h : ∀ b ∈ s.drop q, isBl b = true) : tok s q = [] ∧ nx s q = s.length := by
  have hn : nx s q = s.length := by
    have := tw_all (r := []) h (fun b r' h => by cases h)
    rw [List.append_nil] at this
    rw [nx, scanF, this, List.length_drop]; omega
  refine ⟨?_, hn⟩
  rw [tok, hn, List.drop_length, List.take_nil]
/-- A text in which a network's words stand is read as it. -/
theorem readN_of {s z : List UInt8} {n : Nt} (hl : s.length ≤ 40000) (hv : validP n) (h : Rn (netT n) s z) (hz : ∀ b ∈ z, isBl b = true) : readNR s = .inr n := by
  have ht := valid_tw hv
  obtain ⟨q, h1, h2, h3⟩ := at_rn (Nat.zero_le _) (by rw [List.drop_zero]; exact h)
  have h4 := at_len (Nat.zero_le _) h1 (netT_ne n)
  obtain ⟨h5, h6⟩ := netT_big ht (F := s.length + 1) (by omega)
  rw [readNR, if_neg (by omega), net_at ht.g h6 h5 h1, if_pos (tok_end h3 (by rw [h2]; exact hz)).1]
  exact if_pos hv
/-! ### Texts made of words and what stands between them -/
def rnd (sep : List UInt8 → List UInt8 → List UInt8) : List UInt8 → List (List UInt8) → List UInt8
  | _, [] => []
  | w, v :: ts => sep w v ++ (v ++ rnd sep v ts)
theorem rnd_app (sep : List UInt8 → List UInt8 → List UInt8) : ∀ (a b : List (List UInt8)) (w : List UInt8), rnd sep w (a ++ b) = rnd sep w a ++ rnd sep (a.getLastD w) b
  | [], b, w => rfl
  | v :: a, b, w => by
    rw [List.cons_append, rnd, rnd, rnd_app sep a b v, List.append_assoc, List.append_assoc]
    cases a <;> rfl
def isP (w : List UInt8) : Bool := decide (w = kOpen) || decide (w = kClose)
/-- Words of octets that can stand in words, and parentheses. -/
def Gt (w : List UInt8) : Prop := isP w = true ∨ (isP w = false ∧ w ≠ [] ∧ ∀ b ∈ w, isWd b = true)
theorem rn_rnd {sep : List UInt8 → List UInt8 → List UInt8} (hs : ∀ w v, ∀ b ∈ sep w v, isBl b = true) (hne : ∀ w v, isP w = false → isP v = false → sep w v ≠ []) {z : List UInt8} (hz : ∀ b r, z = b :: r → isWd b = false) :
    ∀ (ts : List (List UInt8)) (w : List UInt8), (∀ v ∈ ts, Gt v) → Rn ts (rnd sep w ts ++ z) z
  | [], w, _ => rfl
  | v :: ts, w, h => by
    refine ⟨sep w v, rnd sep v ts ++ z, by rw [rnd, List.append_assoc, List.append_assoc], hs w v, ?_, rn_rnd hs hne hz ts v fun x hx => h x (by simp [hx])⟩
    rcases h v (by simp) with hv | ⟨hv, h1, h2⟩
    · simp only [isP, Bool.or_eq_true, decide_eq_true_eq] at hv
      rcases hv with hv | hv
      · exact .inl hv
      · exact .inr (.inl hv)
    · refine .inr (.inr ⟨h1, h2, fun b r' e => ?_⟩)
      cases ts with
      | nil => exact hz b r' e
      | cons x ts =>
        rw [rnd, List.append_assoc] at e
        rcases hsx : sep v x with _ | ⟨c, g⟩
        · rw [hsx, List.nil_append] at e
          rcases h x (by simp) with hx | ⟨hx, _, _⟩
          · simp only [isP, Bool.or_eq_true, decide_eq_true_eq] at hx
            rcases hx with rfl | rfl
            · cases e; rfl
            · cases e; rfl
          · exact absurd hsx (hne v x hv hx)
        · rw [hsx] at e
          cases e
          have := hs v x b (by rw [hsx]; simp)
          cases hb : isWd b with
          | false => rfl
          | true => rw [bl_wd hb] at this; cases this
def sep0 (w v : List UInt8) : List UInt8 := if w = kOpen ∨ v = kClose then [] else [32]
theorem rnd_nums : ∀ (l : List Int) (w : List UInt8), w ≠ kOpen → (∀ x ∈ l, 0 ≤ x ∧ x < 100) → rnd sep0 w (l.map dec) = numsN l ∧ (l.map dec).getLastD w ≠ kOpen
  | [], w, hw, _ => ⟨rfl, hw⟩
  | x :: l, w, hw, h => by
    have hx := h x (by simp)
    have hd : dec x ≠ kOpen := fun e => by
      have := (dec_num hx.1 hx.2).1
      rw [e] at this
      exact absurd this (by decide)
    obtain ⟨h1, h2⟩ := rnd_nums l (dec x) hd fun y hy => h y (by simp [hy])
    refine ⟨?_, ?_⟩
    · rw [List.map_cons, rnd, h1, sep0, if_neg (by rintro (e | e); exact hw e; exact dec_close hx.1 hx.2 e), numsN, numsN, List.flatMap_cons]; rfl
    · rw [List.map_cons]
      cases l with
      | nil => exact hd
      | cons y l => exact h2
theorem rnd_lst {l : List Int} {w : List UInt8} (hw : w ≠ kOpen) (h : two l) : rnd sep0 w (lstT l) = 32 :: listN l := by
  rw [lstT, rnd, sep0, if_neg (by rintro (e | e); exact hw e; exact absurd e (by decide)), listN]
  show 32 :: 40 :: rnd sep0 kOpen (l.map dec ++ [kClose]) = _
  congr 2
  cases l with
  | nil => rfl
  | cons x l =>
    have hx := h x (by simp)
    have hd : dec x ≠ kOpen := fun e => by
      have := (dec_num hx.1 hx.2).1
      rw [e] at this
      exact absurd this (by decide)
    obtain ⟨h1, h2⟩ := rnd_nums l (dec x) hd fun y hy => h y (by simp [hy])
    rw [List.map_cons, List.cons_append, rnd, rnd_app, h1, sep0, if_pos (.inl rfl), List.nil_append]
    show dec x ++ (numsN l ++ rnd sep0 _ [kClose]) = _
    rw [rnd, sep0, if_pos (.inr rfl)]
    show dec x ++ (numsN l ++ kClose) = _
    simp [numsN]
theorem getLast_app {α : Type} (a b : List α) (w : α) : (a ++ b).getLastD w = b.getLastD (a.getLastD w) := by
  cases b with
  | nil => rw [List.append_nil]; rfl
  | cons x b => simp [List.getLastD_eq_getLast?]
theorem lstT_last (l : List Int) (w : List UInt8) : (lstT l).getLastD w = kClose := by rw [lstT, ← List.cons_append, getLast_app]; rfl
theorem rnd_lsts : ∀ (rs : List (List Int)) (w : List UInt8), w ≠ kOpen → (∀ r ∈ rs, two r) → rnd sep0 w (rs.flatMap lstT) = (rs.flatMap fun r => 32 :: listN r) ∧ (rs.flatMap lstT).getLastD w ≠ kOpen
  | [], w, hw, _ => ⟨rfl, hw⟩
  | r :: rs, w, hw, h => by
    obtain ⟨h1, h2⟩ := rnd_lsts rs kClose (by decide) fun y hy => h y (by simp [hy])
    refine ⟨?_, ?_⟩
    · rw [List.flatMap_cons, rnd_app, rnd_lst hw (h r (by simp)), lstT_last, h1, List.flatMap_cons]
    · rw [List.flatMap_cons, getLast_app, lstT_last]; exact h2
theorem nodeT_last (x : Nd) (w : List UInt8) : (nodeT x).getLastD w = kClose := by
  rw [nodeT, ← List.append_assoc, ← List.cons_append, ← List.cons_append, ← List.cons_append, getLast_app]; rfl
theorem rnd_node {x : Nd} {w : List UInt8} (hw : w ≠ kOpen) (hc : 0 ≤ x.card ∧ x.card < 100) (hp : two x.parents) (hr : ∀ r ∈ x.rows, two r) : rnd sep0 w (nodeT x) = 32 :: nodeNest x := by
  have hd : dec x.card ≠ kOpen := fun e => by
    have := (dec_num hc.1 hc.2).1
    rw [e] at this
    exact absurd this (by decide)
  obtain ⟨h1, h2⟩ := rnd_lsts x.rows kClose (by decide) hr
  rw [nodeT, rnd, sep0, if_neg (by rintro (e | e); exact hw e; exact absurd e (by decide)), rnd, sep0, if_pos (.inl rfl), rnd, sep0, if_neg (by rintro (e | e); exact absurd e (by decide); exact dec_close hc.1 hc.2 e), rnd_app, rnd_lst hd hp, lstT_last, rnd_app, h1, rnd, sep0, if_pos (.inr rfl), nodeNest]
  simp [rnd]
theorem rnd_nodes : ∀ (l : List Nd) (w : List UInt8), w ≠ kOpen → (∀ x ∈ l, (0 ≤ x.card ∧ x.card < 100) ∧ two x.parents ∧ ∀ r ∈ x.rows, two r) → rnd sep0 w (l.flatMap nodeT) = (l.flatMap fun x => 32 :: nodeNest x) ∧ (l.flatMap nodeT).getLastD w ≠ kOpen
  | [], w, hw, _ => ⟨rfl, hw⟩
  | x :: l, w, hw, h => by
    obtain ⟨h1, h2⟩ := rnd_nodes l kClose (by decide) fun y hy => h y (by simp [hy])
    obtain ⟨k1, k2, k3⟩ := h x (by simp)
    refine ⟨?_, ?_⟩
    · rw [List.flatMap_cons, rnd_app, rnd_node hw k1 k2 k3, nodeT_last, h1, List.flatMap_cons]
    · rw [List.flatMap_cons, getLast_app, nodeT_last]; exact h2
/-- The words behind the first parenthesis. -/
def netT1 (n : Nt) : List (List UInt8) := kNet :: dec n.grain :: (n.nodes.flatMap nodeT ++ [kClose])
theorem net_rnd {n : Nt} (h : Tw n) : nested n = 40 :: rnd sep0 kOpen (netT1 n) := by
  obtain ⟨h1, h2⟩ := rnd_nodes n.nodes (dec n.grain) (fun e => by
    have := (dec_num h.g.1 h.g.2).1
    rw [e] at this
    exact absurd this (by decide)) fun x hx => ⟨h.card x hx, h.par x hx, fun r hr => (h.row x hx r hr).1⟩
  rw [netT1, rnd, sep0, if_pos (.inl rfl), rnd, sep0, if_neg (by rintro (e | e); exact absurd e (by decide); exact dec_close h.g.1 h.g.2 e), rnd_app, h1, rnd, sep0, if_pos (.inr rfl), nested]
  simp [rnd]
theorem gt_dec {x : Int} (h0 : 0 ≤ x) (h : x < 100) : Gt (dec x) := by
  have hn := dec_num h0 h
  have hk : isP (dec x) = false := by
    cases e : isP (dec x) with
    | false => rfl
    | true =>
      simp only [isP, Bool.or_eq_true, decide_eq_true_eq] at e
      rcases e with e | e
      · rw [e] at hn; exact absurd hn.1 (by decide)
      · rw [e] at hn; exact absurd hn.1 (by decide)
  refine .inr ⟨hk, dec_ne x, fun b hb => ?_⟩
  have := num_all hn.1 b hb
  rw [isDg, decide_eq_true_eq] at this
  rw [isWd, beq_false_of_ne (by omega), beq_false_of_ne (by omega), beq_false_of_ne (by omega), beq_false_of_ne (by omega)]; rfl
theorem gt_lst {l : List Int} (h : two l) : ∀ w ∈ lstT l, Gt w := by
  intro w hw
  simp only [lstT, List.mem_cons, List.mem_append, List.mem_map, List.not_mem_nil, or_false] at hw
  rcases hw with rfl | ⟨x, hx, rfl⟩ | rfl
  · exact .inl rfl
  · exact gt_dec (h x hx).1 (h x hx).2
  · exact .inl rfl
theorem gt_net {n : Nt} (h : Tw n) : ∀ w ∈ netT1 n, Gt w := by
  intro w hw
  simp only [netT1, nodeT, List.mem_cons, List.mem_append, List.mem_flatMap, List.not_mem_nil, or_false] at hw
  rcases hw with rfl | rfl | ⟨x, hx, rfl | rfl | rfl | hw | ⟨r, hr, hw⟩ | rfl⟩ | rfl
  · exact .inr ⟨rfl, by decide, by decide⟩
  · exact gt_dec h.g.1 h.g.2
  · exact .inl rfl
  · exact .inr ⟨rfl, by decide, by decide⟩
  · exact gt_dec (h.card x hx).1 (h.card x hx).2
  · exact gt_lst (h.par x hx) w hw
  · exact gt_lst (h.row x hx r hr).1 w hw
  · exact .inl rfl
  · exact .inl rfl
/-- Any text of a network's words with blanks between them. -/
theorem rn_net {n : Nt} (h : Tw n) {sep : List UInt8 → List UInt8 → List UInt8} (hs : ∀ w v, ∀ b ∈ sep w v, isBl b = true) (hne : ∀ w v, isP w = false → isP v = false → sep w v ≠ []) {g z : List UInt8} (hg : ∀ b ∈ g, isBl b = true) (hz : ∀ b r, z = b :: r → isWd b = false) : Rn (netT n) (g ++ 40 :: (rnd sep kOpen (netT1 n) ++ z)) z :=
  ⟨g, rnd sep kOpen (netT1 n) ++ z, rfl, hg, .inl rfl, rn_rnd hs hne hz _ _ (gt_net h)⟩
theorem sep0_bl (w v : List UInt8) : ∀ b ∈ sep0 w v, isBl b = true := by
  intro b hb
  rw [sep0] at hb
  split at hb
  · simp at hb
  · simp only [List.mem_singleton] at hb; subst hb; rfl
theorem isP_no {w : List UInt8} (h : isP w = false) : w ≠ kOpen ∧ w ≠ kClose := by
  simp only [isP, Bool.or_eq_false_iff, decide_eq_false_iff_not] at h
  exact h
theorem sep0_ne (w v : List UInt8) (hw : isP w = false) (hv : isP v = false) : sep0 w v ≠ [] := by
  rw [sep0, if_neg (by rintro (e | e); exact (isP_no hw).1 e; exact (isP_no hv).2 e)]; simp
end Go.Proofs.YtphmmoloegjocaaGreatDoor

/- Forms of networks, read back (plain). -/
namespace Go.Proofs.YtphmmoloegjocaaGreatDoor
open Go Y
set_option maxRecDepth 100000
set_option maxHeartbeats 4000000

theorem netW_ok {n : Nt} (h : Tw n) : ∀ w ∈ netW n, (∀ v ∈ w, Gw v) ∧ passW w = false := by
  have hk : ∀ v ∈ [kNet, kNode, kRow, kFrom], Gw v := by
    intro v hv
    simp only [List.mem_cons, List.not_mem_nil, or_false] at hv
    rcases hv with rfl | rfl | rfl | rfl <;> exact ⟨by decide, by decide, by decide⟩
  intro w hw
  simp only [netW, blockW, List.mem_cons, List.mem_flatMap, List.mem_map] at hw
  rcases hw with rfl | ⟨x, hx, rfl | ⟨r, hr, rfl⟩⟩
  · refine ⟨fun v hv => ?_, rfl⟩
    simp only [List.mem_cons, List.not_mem_nil, or_false] at hv
    rcases hv with rfl | rfl
    · exact hk _ (by simp)
    · exact gw_dec h.g.1 h.g.2
  · refine ⟨fun v hv => ?_, ?_⟩
    · simp only [nodeW, List.mem_cons] at hv
      rcases hv with rfl | rfl | hv
      · exact hk _ (by simp)
      · exact gw_dec (h.card x hx).1 (h.card x hx).2
      · split at hv
        · simp at hv
        · simp only [List.mem_cons, List.mem_map] at hv
          rcases hv with rfl | ⟨p, hp, rfl⟩
          · exact hk _ (by simp)
          · exact gw_dec (h.par x hx p hp).1 (h.par x hx p hp).2
    · rfl
  · refine ⟨fun v hv => ?_, ?_⟩
    · simp only [rowW, List.mem_cons, List.mem_map] at hv
      rcases hv with rfl | ⟨p, hp, rfl⟩
      · exact hk _ (by simp)
      · exact gw_dec ((h.row x hx r hr).1 p hp).1 ((h.row x hx r hr).1 p hp).2
    · rfl
/-- Lines with other blanks between the words, behind them, and lines that are passed over. -/
theorem keep_form {n : Nt} (h : Tw n) {sep g B : List UInt8} (hs : ∀ b ∈ sep, b = 32) (hne : sep ≠ []) (hg : ∀ b ∈ g, b = 32) (hB : ∀ r, keep (B ++ r) = keep r) : keep ((netW n).flatMap fun w => (joinL sep w ++ g) ++ 10 :: B) = netW n := by
  have h32 : ∀ l : List UInt8, (∀ b ∈ l, b = 32) → 10 ∉ l := fun l hl hm => absurd (hl 10 hm) (by decide)
  have := keep_flat (A := fun w => joinL sep w ++ g) (B := B) hB (W := netW n) (fun w hw => by
    obtain ⟨h1, h2⟩ := netW_ok h w hw
    refine ⟨fun hm => ?_, words_join hs hne hg h1, h2⟩
    rcases List.mem_append.1 hm with hm | hm
    · exact join_nl (h32 sep hs) h1 hm
    · exact h32 g hg hm) []
  rw [List.append_nil] at this
  rw [this]
  show netW n ++ [] = _
  rw [List.append_nil]
theorem keep_lines {n : Nt} (h : Tw n) : keep (byLines n) = netW n := by
  rw [net_join]
  have := keep_form h (sep := [32]) (g := []) (B := []) (by simp) (by simp) (by simp) (fun r => rfl)
  simp only [List.append_nil] at this
  exact this
theorem keep_nl2 (r : List UInt8) : keep (10 :: r) = keep r := keep_line (u := []) (r := r) (by simp)
theorem rn_nested {n : Nt} (h : Tw n) {g z : List UInt8} (hg : ∀ b ∈ g, isBl b = true) (hz : ∀ b r, z = b :: r → isWd b = false) : Rn (netT n) (g ++ (nested n ++ z)) z := by
  rw [net_rnd h]
  exact rn_net h sep0_bl sep0_ne hg hz
theorem readL_lines {n : Nt} (hv : validP n) (hl : (byLines n).length ≤ 40000) : readLR (byLines n) = .inr n := readL_of hl hv (keep_lines (valid_tw hv))
theorem readN_nested {n : Nt} (hv : validP n) (hl : (nested n).length ≤ 40000) : readNR (nested n) = .inr n := by
  have := rn_nested (valid_tw hv) (g := []) (z := []) (by simp) (by simp)
  rw [List.append_nil] at this
  exact readN_of hl hv this (by simp)
theorem lines_inj {n m : Nt} (hn : validP n) (hm : validP m) (hl : (byLines n).length ≤ 40000) (e : byLines n = byLines m) : n = m := by
  have h1 := readL_lines hn hl
  rw [e, readL_lines hm (by rw [← e]; exact hl)] at h1
  injection h1 with h1
  exact h1.symm
theorem nested_inj {n m : Nt} (hn : validP n) (hm : validP m) (hl : (nested n).length ≤ 40000) (e : nested n = nested m) : n = m := by
  have h1 := readN_nested hn hl
  rw [e, readN_nested hm (by rw [← e]; exact hl)] at h1
  injection h1 with h1
  exact h1.symm
theorem DrB.sm {n : Nt} (h : DrB n) : SmT n := valid_sm h.valid
theorem DrB.rows {n : Nt} (h : DrB n) {x : Nd} (hx : x ∈ n.nodes) : x.rows.length ≤ 64 := by
  have hp3 := h.par x hx
  obtain ⟨v, hv, rfl⟩ := mem_getD nd0 hx
  have hp := h.valid.placed _ hx
  have h1 := (h.valid.node v hv).1
  have hok := atN_ok (l := cardsN n) (ps := (n.nodes.getD v nd0).parents) (fun c hc' => by obtain ⟨y, hy, rfl⟩ := List.mem_map.1 hc'; exact h.valid.cards y hy) (by rw [cardsN, List.length_map]; exact list_mem hp)
  have hal : (atN (cardsN n) (n.nodes.getD v nd0).parents).length = (n.nodes.getD v nd0).parents.length := List.length_map ..
  have h3 := prod_take hok _ (Nat.le_refl _)
  rw [take_all (Nat.le_refl _)] at h3
  have h4 : (4 : Int) ^ (atN (cardsN n) (n.nodes.getD v nd0).parents).length ≤ 64 := by
    have : ∀ i ≤ 3, (4 : Int) ^ i ≤ 64 := by decide
    exact this _ (by omega)
  have h5 : prodN (pcardsN n v) = prodN (atN (cardsN n) (n.nodes.getD v nd0).parents) := rfl
  omega
theorem DrB.lines {n : Nt} (h : DrB n) : (byLines n).length ≤ 6000 := by
  have hs := h.sm
  have h1 := flat_len (f := nodeLines) (B := 1100) (l := n.nodes) fun x hx => by
    have h2 := hs.head_len hx
    have h3 := flat_len (f := rowLine) (B := 16) (l := x.rows) fun r hr => hs.row_len hx hr
    have h4 := h.rows hx
    rw [nodeLines, List.length_append]
    have : 16 * x.rows.length ≤ 16 * 64 := Nat.mul_le_mul_left _ h4
    omega
  have h2 := h.five
  have h3 : 1100 * n.nodes.length ≤ 1100 * 5 := Nat.mul_le_mul_left _ h2
  have h4 := dec_len n.grain
  rw [byLines, List.length_append, List.length_append, List.length_append]
  simp only [List.length_cons, List.length_nil]
  omega
theorem DrB.nest {n : Nt} (h : DrB n) : (nested n).length ≤ 6000 := by
  have hs := h.sm
  have h1 := flat_len (f := fun x => 32 :: nodeNest x) (B := 1100) (l := n.nodes) fun x hx => by
    have h2 := list_len41 x.parents
    have h3 := flat_len (f := fun r => 32 :: listN r) (B := 15) (l := x.rows) fun r hr => by
      have h2 := list_len41 r
      have h3 := (hs.row x hx r hr).2.2
      simp only [List.length_cons]; omega
    have h4 := h.rows hx
    have h5 := h.par x hx
    have h6 := dec_len x.card
    have : 15 * x.rows.length ≤ 15 * 64 := Nat.mul_le_mul_left _ h4
    simp only [nodeNest, List.length_cons, List.length_append, List.length_nil]
    omega
  have h2 := h.five
  have h3 : 1100 * n.nodes.length ≤ 1100 * 5 := Nat.mul_le_mul_left _ h2
  have h4 := dec_len n.grain
  simp only [nested, List.length_cons, List.length_append, List.length_nil]
  omega
end Go.Proofs.YtphmmoloegjocaaGreatDoor

/- Forms with a line that is not as it must be; nested texts that are cut off (plain). -/
namespace Go.Proofs.YtphmmoloegjocaaGreatDoor
open Go Y
set_option maxRecDepth 100000
set_option maxHeartbeats 4000000

/-! ### Splitting behind an octet -/
theorem gw_nl {n : Nt} (h : Tw n) {w : List (List UInt8)} (hw : w ∈ netW n) : 10 ∉ joinL [32] w := join_nl (by decide) (netW_ok h w hw).1
/-! ### Parentheses -/
def bal (u : List UInt8) : Int := (u.count 40 : Int) - (u.count 41 : Int)
structure Nice (u : List UInt8) : Prop where
  ge : ∀ k, 0 ≤ bal (u.take k)
  all : bal u = 0
/-! ### What a reading has passed -/
end Go.Proofs.YtphmmoloegjocaaGreatDoor

/- Replacing in forms; what comes is read as the same network (plain). -/
namespace Go.Proofs.YtphmmoloegjocaaGreatDoor
open Go Y
set_option maxRecDepth 100000
set_option maxHeartbeats 4000000

/-! ### ReplaceAll, octet by octet -/
def rAll (old new s : List UInt8) : List UInt8 := Lib.replaceK old new (Lib.count s old) s
theorem rall_eq {old new s : List UInt8} (h : old ≠ new) : Lib.replaceAll s old new = rAll old new s := by
  rw [Lib.replaceAll, Lib.replace, if_neg (by rw [beq_iff_eq]; exact h), Lib.replaceNum, if_pos (.inl (by decide))]; rfl
theorem rall_miss {old new s : List UInt8} (h : Lib.index s old = -1) : rAll old new s = s := by
  rw [rAll, Lib.count_miss h]; rfl
theorem rall_hit {old new s : List UInt8} (ho : old ≠ []) {i : Nat} (h : Lib.index s old = i) : rAll old new s = s.take i ++ new ++ rAll old new (s.drop (i + old.length)) := by
  rw [rAll, Lib.count_hit ho h, Nat.add_comm 1, Lib.replaceK_hit old new _ s i h]; rfl
theorem rall_nil {old new : List UInt8} (ho : old ≠ []) : rAll old new [] = [] := by
  refine rall_miss ?_
  cases old with
  | nil => exact absurd rfl ho
  | cons a r => rfl
theorem rall_skip {old new r : List UInt8} {b : UInt8} (ho : old ≠ []) (h : old.isPrefixOf (b :: r) = false) : rAll old new (b :: r) = b :: rAll old new r := by
  have hix : Lib.index (b :: r) old = if Lib.index r old == -1 then -1 else Lib.index r old + 1 := by rw [Lib.index, h]; simp
  by_cases hm : Lib.index r old = -1
  · rw [rall_miss (by rw [hix, if_pos (beq_iff_eq.2 hm)]), rall_miss hm]
  · have hge := Lib.index_ge r old
    obtain ⟨j, hj⟩ : ∃ j : Nat, Lib.index r old = j := ⟨(Lib.index r old).toNat, by omega⟩
    have hix' : Lib.index (b :: r) old = ((j + 1 : Nat) : Int) := by rw [hix, if_neg (fun e => hm (beq_iff_eq.1 e)), hj]; omega
    rw [rall_hit ho hix', rall_hit ho hj, show j + 1 + old.length = (j + old.length) + 1 by omega]
    rfl
theorem rall_pre {old new s : List UInt8} (ho : old ≠ []) : rAll old new (old ++ s) = new ++ rAll old new s := by
  have hix : Lib.index (old ++ s) old = ((0 : Nat) : Int) := by
    have hp : old.isPrefixOf (old ++ s) = true := by rw [List.isPrefixOf_iff_prefix]; exact List.prefix_append _ _
    cases old with
    | nil => exact absurd rfl ho
    | cons a r =>
      rw [List.cons_append] at hp ⊢
      rw [Lib.index, if_pos hp]; rfl
  rw [rall_hit ho hix, Nat.zero_add, List.drop_append_of_le_length (Nat.le_refl _), List.drop_length]
  rfl
theorem rall_one {c : UInt8} {new : List UInt8} : ∀ s : List UInt8, rAll [c] new s = replN c new s
  | [] => rall_nil (by simp)
  | b :: r => by
    by_cases h : b = c
    · subst h
      have := rall_pre (old := [b]) (new := new) (s := r) (by simp)
      rw [List.singleton_append] at this
      rw [this, rall_one r, replN, replN, List.flatMap_cons, if_pos rfl]
    · rw [rall_skip (by simp) (by simp [List.isPrefixOf, Ne.symm h]), rall_one r, replN, replN, List.flatMap_cons, if_neg h]; rfl
theorem rall_run {a : UInt8} {o new : List UInt8} : ∀ {u s : List UInt8}, a ∉ u → rAll (a :: o) new (u ++ s) = u ++ rAll (a :: o) new s
  | [], s, _ => rfl
  | b :: u, s, h => by
    simp only [List.mem_cons, not_or] at h
    rw [List.cons_append, rall_skip (by simp) (by simp [List.isPrefixOf, h.1]), rall_run h.2]; rfl

/-! ### The nested form -/
theorem gt_no {v : List UInt8} (h : Gt v) : 32 ∉ v ∧ 10 ∉ v := by
  rcases h with h | ⟨_, _, h⟩
  · simp only [isP, Bool.or_eq_true, decide_eq_true_eq] at h
    rcases h with rfl | rfl <;> decide
  · exact ⟨fun hm => absurd (h _ hm) (by decide), fun hm => absurd (h _ hm) (by decide)⟩
theorem gt_open {v : List UInt8} (h : Gt v) : (v ≠ kOpen → 40 ∉ v) ∧ (v ≠ kClose → 41 ∉ v) := by
  rcases h with h | ⟨_, _, h⟩
  · simp only [isP, Bool.or_eq_true, decide_eq_true_eq] at h
    rcases h with rfl | rfl
    · exact ⟨fun e => absurd rfl e, fun _ => by decide⟩
    · exact ⟨fun _ => by decide, fun e => absurd rfl e⟩
  · exact ⟨fun _ hm => absurd (h _ hm) (by decide), fun _ hm => absurd (h _ hm) (by decide)⟩
theorem gt_ne {v : List UInt8} (h : Gt v) : v ≠ [] := by
  rcases h with h | ⟨_, h, _⟩
  · simp only [isP, Bool.or_eq_true, decide_eq_true_eq] at h
    rcases h with rfl | rfl <;> simp
  · exact h
def sep1 (w v : List UInt8) : List UInt8 := if w = kOpen ∨ v = kClose then [] else [10, 32, 10]
def sepM (w v : List UInt8) : List UInt8 := if w = kOpen ∨ v = kClose ∨ v = kOpen then [] else [32]
def sep2 (w v : List UInt8) : List UInt8 := if isP w = true ∨ isP v = true then [] else [32]
def sep3 (w v : List UInt8) : List UInt8 := (if isP w = true then [32] else []) ++ (sep0 w v ++ (if isP v = true then [32] else []))
theorem repl_id {c : UInt8} {new v : List UInt8} (h : c ∉ v) : replN c new v = v := repl_not h
theorem rnd1 : ∀ (ts : List (List UInt8)) (w : List UInt8), (∀ v ∈ ts, Gt v) → replN 32 [10, 32, 10] (rnd sep0 w ts) = rnd sep1 w ts
  | [], w, _ => rfl
  | v :: ts, w, h => by
    have hv := h v (by simp)
    rw [rnd, rnd, repl_append, repl_append, rnd1 ts v fun x hx => h x (by simp [hx]), repl_id (gt_no hv).1, sep0, sep1]
    split <;> rfl
theorem rndM : ∀ (ts : List (List UInt8)) (w : List UInt8), (∀ v ∈ ts, Gt v) → rAll [32, 40] [40] (rnd sep0 w ts) = rnd sepM w ts
  | [], w, _ => rall_nil (by simp)
  | v :: ts, w, h => by
    have hv := h v (by simp)
    have ih := rndM ts v fun x hx => h x (by simp [hx])
    rw [rnd, rnd, sep0, sepM]
    by_cases h1 : w = kOpen ∨ v = kClose
    · rw [if_pos h1, if_pos (by rcases h1 with h1 | h1; exact .inl h1; exact .inr (.inl h1)), List.nil_append, rall_run (gt_no hv).1, ih]; rfl
    · rw [if_neg h1]
      by_cases h2 : v = kOpen
      · rw [if_pos (.inr (.inr h2)), h2]
        have := rall_pre (old := [32, 40]) (new := [40]) (s := rnd sep0 kOpen ts) (by simp)
        rw [h2] at ih
        rw [ih] at this
        exact this
      · rw [if_neg (by rintro (e | e | e); exact h1 (.inl e); exact h1 (.inr e); exact h2 e)]
        have hp : ([32, 40] : List UInt8).isPrefixOf (32 :: (v ++ rnd sep0 v ts)) = false := by
          cases v with
          | nil => exact absurd rfl (gt_ne hv)
          | cons b v' =>
            have hb : (40 : UInt8) ≠ b := fun e => (gt_open hv).1 h2 (by rw [e]; simp)
            simp [List.isPrefixOf, hb]
        show rAll [32, 40] [40] (32 :: (v ++ rnd sep0 v ts)) = _
        rw [rall_skip (by simp) hp, rall_run (gt_no hv).1, ih]; rfl
theorem rnd2 : ∀ (ts : List (List UInt8)) (w : List UInt8), Gt w → (∀ v ∈ ts, Gt v) → rAll [41, 32] [41] (w ++ rnd sepM w ts) = w ++ rnd sep2 w ts
  | [], w, hw, _ => by
    show rAll [41, 32] [41] (w ++ []) = w ++ []
    by_cases h : w = kClose
    · rw [h]
      show rAll [41, 32] [41] (41 :: []) = _
      rw [rall_skip (by simp) (by rfl), rall_nil (by simp)]; rfl
    · rw [rall_run ((gt_open hw).2 h), rall_nil (by simp)]
  | v :: ts, w, hw, h => by
    have hv := h v (by simp)
    have ih := rnd2 ts v hv fun x hx => h x (by simp [hx])
    rw [rnd, rnd]
    by_cases h1 : w = kClose
    · subst h1
      have e2 : sep2 kClose v = [] := by rw [sep2, if_pos (.inl rfl)]
      rw [e2, List.nil_append, ← ih]
      show rAll [41, 32] [41] (41 :: (sepM kClose v ++ (v ++ rnd sepM v ts))) = 41 :: rAll [41, 32] [41] (v ++ rnd sepM v ts)
      rw [sepM]
      split
      · rename_i h2
        have hp : ([41, 32] : List UInt8).isPrefixOf (41 :: ([] ++ (v ++ rnd sepM v ts))) = false := by
          rcases h2 with h2 | rfl | rfl
          · exact absurd h2 (by decide)
          · rfl
          · rfl
        rw [rall_skip (by simp) hp]; rfl
      · exact rall_pre (old := [41, 32]) (by simp)
    · have e2 : sep2 w v = sepM w v := by
        have hwp : isP w = true ↔ w = kOpen := by
          simp only [isP, Bool.or_eq_true, decide_eq_true_eq]
          exact ⟨fun h => h.elim id fun e => absurd e h1, .inl⟩
        have hvp : isP v = true ↔ v = kClose ∨ v = kOpen := by
          simp only [isP, Bool.or_eq_true, decide_eq_true_eq]
          exact ⟨fun h => h.symm, fun h => h.symm⟩
        simp only [sep2, sepM, hwp, hvp]
      have h41 : 41 ∉ sepM w v := by
        rw [sepM]
        split <;> decide
      rw [rall_run ((gt_open hw).2 h1), rall_run h41, ih, e2]
def g3 (b : UInt8) : List UInt8 := if b = 40 then [32, 40, 32] else if b = 41 then [32, 41, 32] else [b]
theorem repl3 : ∀ s : List UInt8, replN 41 [32, 41, 32] (replN 40 [32, 40, 32] s) = s.flatMap g3
  | [] => rfl
  | b :: r => by
    have e : ∀ s, replN 40 [32, 40, 32] (b :: s) = (if b = 40 then [32, 40, 32] else [b]) ++ replN 40 [32, 40, 32] s := fun s => by rw [replN, List.flatMap_cons]; rfl
    rw [e, repl_append, repl3 r, List.flatMap_cons, g3]
    congr 1
    by_cases h : b = 40
    · subst h; rfl
    · rw [if_neg h, if_neg h, replN]
      simp
theorem g3_word {v : List UInt8} (h : Gt v) : v.flatMap g3 = (if isP v = true then [32] else []) ++ (v ++ (if isP v = true then [32] else [])) := by
  rcases h with h | ⟨h0, hne0, h⟩
  · rw [if_pos h]
    simp only [isP, Bool.or_eq_true, decide_eq_true_eq] at h
    rcases h with rfl | rfl <;> rfl
  · have hp : ¬ isP v = true := by rw [h0]; decide
    rw [if_neg hp, List.append_nil, List.nil_append]
    clear h0 hp hne0
    induction v with
    | nil => rfl
    | cons b v ih =>
      have hb := h b (by simp)
      rw [List.flatMap_cons, ih fun x hx => h x (by simp [hx]), g3, if_neg (fun e => by rw [e] at hb; exact absurd hb (by decide)), if_neg (fun e => by rw [e] at hb; exact absurd hb (by decide))]; rfl
theorem rnd3 : ∀ (ts : List (List UInt8)) (w : List UInt8), (∀ v ∈ ts, Gt v) → (if isP w = true then [32] else []) ++ (rnd sep0 w ts).flatMap g3 = rnd sep3 w ts ++ (if isP (ts.getLastD w) = true then [32] else [])
  | [], w, _ => by show _ ++ [] = [] ++ _; rw [List.append_nil]; rfl
  | v :: ts, w, h => by
    have ih := rnd3 ts v fun x hx => h x (by simp [hx])
    have hl : (v :: ts).getLastD w = ts.getLastD v := by cases ts <;> rfl
    have h0 : (sep0 w v).flatMap g3 = sep0 w v := by
      rw [sep0]
      split <;> rfl
    rw [hl, rnd, rnd, List.flatMap_append, List.flatMap_append, h0, g3_word (h v (by simp)), sep3]
    simp only [List.append_assoc]
    rw [ih]
theorem flat3_len : ∀ s : List UInt8, (s.flatMap g3).length ≤ 3 * s.length
  | [] => Nat.le_refl _
  | b :: r => by
    have := flat3_len r
    rw [List.flatMap_cons, List.length_append, List.length_cons, g3]
    split
    · simp only [List.length_cons, List.length_nil]; omega
    · split
      · simp only [List.length_cons, List.length_nil]; omega
      · simp only [List.length_cons, List.length_nil]; omega
theorem rnd2_len : ∀ (ts : List (List UInt8)) (w : List UInt8), (rnd sep2 w ts).length ≤ (rnd sep0 w ts).length
  | [], _ => Nat.le_refl _
  | v :: ts, w => by
    have ih := rnd2_len ts v
    have hs : (sep2 w v).length ≤ (sep0 w v).length := by
      rw [sep2, sep0]
      split
      · exact Nat.zero_le _
      · rename_i h
        rw [if_neg]
        · exact Nat.le_refl _
        · rintro (rfl | rfl)
          · exact h (.inl rfl)
          · exact h (.inr rfl)
    rw [rnd, rnd, List.length_append, List.length_append, List.length_append, List.length_append]
    omega
theorem netT1_last (n : Nt) (w : List UInt8) : (netT1 n).getLastD w = kClose := by
  rw [netT1, ← List.cons_append, ← List.cons_append, getLast_app]; rfl
/-- The nested forms with other blanks. -/
def nest1 (n : Nt) : List UInt8 := replN 32 [10, 32, 10] (nested n)
def nest2 (n : Nt) : List UInt8 := rAll [41, 32] [41] (rAll [32, 40] [40] (nested n))
def nest3 (n : Nt) : List UInt8 := ([10] ++ replN 41 [32, 41, 32] (replN 40 [32, 40, 32] (nested n))) ++ [10]
theorem read_nest1 {n : Nt} (hv : validP n) (hl : (nested n).length ≤ 6000) : readNR (nest1 n) = .inr n := by
  have ht := valid_tw hv
  have hlen := repl_len 32 [10, 32, 10] (nested n)
  have hb : ∀ w v, ∀ b ∈ sep1 w v, isBl b = true := fun w v b h => by
    rw [sep1] at h
    split at h
    · simp at h
    · revert b; decide
  have hn : ∀ w v, isP w = false → isP v = false → sep1 w v ≠ [] := fun w v hw hv => by
    rw [sep1, if_neg (by rintro (e | e); exact (isP_no hw).1 e; exact (isP_no hv).2 e)]; simp
  have := rn_net ht hb hn (g := []) (z := []) (by simp) (by simp)
  rw [List.append_nil, List.nil_append] at this
  refine readN_of (by rw [nest1]; simp only [List.length_cons, List.length_nil] at hlen; omega) hv ?_ (z := []) (by simp)
  rw [nest1, net_rnd ht]
  show Rn (netT n) (replN 32 [10, 32, 10] ([40] ++ rnd sep0 kOpen (netT1 n))) []
  rw [repl_append, rnd1 _ _ (gt_net ht)]
  exact this
theorem nest2_eq {n : Nt} (ht : Tw n) : nest2 n = 40 :: rnd sep2 kOpen (netT1 n) := by
  rw [nest2, net_rnd ht]
  show rAll [41, 32] [41] (rAll [32, 40] [40] ([40] ++ rnd sep0 kOpen (netT1 n))) = _
  rw [rall_run (by decide), rndM _ _ (gt_net ht), rnd2 _ _ (.inl rfl) (gt_net ht)]; rfl
theorem nest2_len {n : Nt} (ht : Tw n) : (nest2 n).length ≤ (nested n).length := by
  rw [nest2_eq ht, net_rnd ht, List.length_cons, List.length_cons]
  have := rnd2_len (netT1 n) kOpen
  omega
theorem read_nest2 {n : Nt} (hv : validP n) (hl : (nested n).length ≤ 6000) : readNR (nest2 n) = .inr n := by
  have ht := valid_tw hv
  have hlen := nest2_len ht
  have hb : ∀ w v, ∀ b ∈ sep2 w v, isBl b = true := fun w v b h => by
    rw [sep2] at h
    split at h
    · simp at h
    · revert b; decide
  have hn : ∀ w v, isP w = false → isP v = false → sep2 w v ≠ [] := fun w v hw hv => by
    rw [sep2, if_neg (by rw [hw, hv]; decide)]; simp
  have := rn_net ht hb hn (g := []) (z := []) (by simp) (by simp)
  rw [List.append_nil, List.nil_append] at this
  exact readN_of (by omega) hv (by rw [nest2_eq ht]; exact this) (by simp)
theorem read_nest3 {n : Nt} (hv : validP n) (hl : (nested n).length ≤ 6000) : readNR (nest3 n) = .inr n ∧ (nest3 n).length ≤ 20000 := by
  have ht := valid_tw hv
  have h0 : ∀ w v, ∀ b ∈ sep0 w v, isBl b = true := sep0_bl
  have hb : ∀ w v, ∀ b ∈ sep3 w v, isBl b = true := fun w v b h => by
    rw [sep3] at h
    rcases List.mem_append.1 h with h | h
    · split at h
      · simp only [List.mem_singleton] at h; subst h; rfl
      · simp at h
    · rcases List.mem_append.1 h with h | h
      · exact h0 w v b h
      · split at h
        · simp only [List.mem_singleton] at h; subst h; rfl
        · simp at h
  have hn : ∀ w v, isP w = false → isP v = false → sep3 w v ≠ [] := fun w v hw hv e => by
    rw [sep3] at e
    exact sep0_ne w v hw hv (List.append_eq_nil_iff.1 (List.append_eq_nil_iff.1 e).2).1
  have e : nest3 n = [10, 32] ++ 40 :: (rnd sep3 kOpen (netT1 n) ++ [32, 10]) := by
    have h3 := rnd3 (netT1 n) kOpen (gt_net ht)
    rw [netT1_last, if_pos (by rfl), if_pos (by rfl)] at h3
    rw [nest3, repl3, net_rnd ht, List.flatMap_cons]
    show [10] ++ ([32, 40, 32] ++ _) ++ [10] = _
    have h4 : ([32, 40, 32] ++ (rnd sep0 kOpen (netT1 n)).flatMap g3 : List UInt8) = [32, 40] ++ (rnd sep3 kOpen (netT1 n) ++ [32]) := by
      rw [← h3]; rfl
    rw [h4]
    simp
  have hlen : (nest3 n).length ≤ 20000 := by
    rw [nest3, repl3, List.length_append, List.length_append]
    have := flat3_len (nested n)
    simp only [List.length_cons, List.length_nil]
    omega
  have := rn_net ht hb hn (g := [10, 32]) (z := [32, 10]) (by decide) (fun b r e => by cases e; rfl)
  exact ⟨readN_of (by omega) hv (by rw [e]; exact this) (by decide), hlen⟩

/-! ### The lines -/
theorem repl_join {sep : List UInt8} : ∀ {r : List (List UInt8)}, (∀ v ∈ r, Gw v) → replN 32 sep (r.flatMap ([32] ++ ·)) = r.flatMap (sep ++ ·)
  | [], _ => rfl
  | v :: r, h => by
    rw [List.flatMap_cons, List.flatMap_cons, repl_append, repl_append, repl_id (h v (by simp)).sp, repl_join fun x hx => h x (by simp [hx])]
    have : replN 32 sep [32] = sep := by rw [replN, List.flatMap_cons, if_pos rfl]; simp
    rw [this]
theorem repl_joinL {sep : List UInt8} {w : List (List UInt8)} (h : ∀ v ∈ w, Gw v) : replN 32 sep (joinL [32] w) = joinL sep w := by
  cases w with
  | nil => rfl
  | cons v r => rw [joinL, joinL, repl_append, repl_id (h v (by simp)).sp, repl_join fun x hx => h x (by simp [hx])]
theorem repl_flat {c : UInt8} {new : List UInt8} {α : Type} {f g : α → List UInt8} : ∀ {l : List α}, (∀ x ∈ l, replN c new (f x) = g x) → replN c new (l.flatMap f) = l.flatMap g
  | [], _ => rfl
  | x :: l, h => by rw [List.flatMap_cons, List.flatMap_cons, repl_append, h x (by simp), repl_flat fun y hy => h y (by simp [hy])]
def newB : List UInt8 := [32, 59, 32, 110, 101, 116, 32, 49, 10, 10]
def line2 (n : Nt) : List UInt8 := [32] ++ replN 32 [32, 32, 32] (byLines n)
def line3 (n : Nt) : List UInt8 := replN 10 [32, 32, 10, 32, 59, 32, 110, 101, 116, 32, 49, 10, 10] (byLines n)
theorem read_line1 {n : Nt} (hv : validP n) (hl : (byLines n).length ≤ 40000) : readLR (Lib.trimSuffix (byLines n) [10]) = .inr n := by
  have ht := valid_tw hv
  obtain ⟨u, hu⟩ : ∃ u, byLines n = u ++ [10] := by
    rw [net_join]
    have hne : netW n ≠ [] := by rw [netW]; simp
    rw [← List.dropLast_concat_getLast hne, List.flatMap_append]
    exact ⟨((netW n).dropLast.flatMap fun w => joinL [32] w ++ [10]) ++ joinL [32] ((netW n).getLast hne), by rw [List.flatMap_cons, List.flatMap_nil, List.append_nil, List.append_assoc]⟩
  have hs : Lib.trimSuffix (byLines n) [10] = u := by
    rw [hu, Lib.trimSuffix, if_pos (by simp [Lib.hasSuffix])]
    simp
  rw [hs]
  refine readL_of (by rw [hu] at hl; simp only [List.length_append, List.length_cons, List.length_nil] at hl; omega) hv ?_
  rw [← keep_nl, ← hu, keep_lines ht]
theorem read_line2 {n : Nt} (hv : validP n) (hl : (byLines n).length ≤ 6000) : readLR (line2 n) = .inr n := by
  have ht := valid_tw hv
  have hlen := repl_len 32 [32, 32, 32] (byLines n)
  refine readL_of (by rw [line2, List.length_append]; simp only [List.length_cons, List.length_nil] at hlen ⊢; omega) hv ?_
  have e : replN 32 [32, 32, 32] (byLines n) = (netW n).flatMap fun w => (joinL [32, 32, 32] w ++ []) ++ 10 :: [] := by
    rw [net_join]
    refine repl_flat fun w hw => ?_
    rw [repl_append, repl_joinL (netW_ok ht w hw).1, List.append_nil]; rfl
  rw [line2, e]
  show keep (32 :: _) = _
  rw [keep_sp]
  exact keep_form ht (by decide) (by simp) (by simp) (fun r => rfl)
theorem flat_two {α : Type} {f : α → List UInt8} {k : Nat} {g : α → List UInt8} : ∀ {l : List α}, (∀ x ∈ l, (g x).length = (f x).length + k) → (l.flatMap g).length = (l.flatMap f).length + k * l.length
  | [], _ => rfl
  | x :: l, h => by
    have := flat_two (l := l) fun y hy => h y (by simp [hy])
    rw [List.flatMap_cons, List.flatMap_cons, List.length_append, List.length_append, this, h x (by simp), List.length_cons, Nat.mul_succ]; omega
theorem read_line3 {n : Nt} (hd : DrB n) : readLR (line3 n) = .inr n ∧ (line3 n).length ≤ 20000 := by
  have hv := hd.valid
  have ht := valid_tw hv
  have hl := hd.lines
  have e : line3 n = (netW n).flatMap fun w => (joinL [32] w ++ [32, 32]) ++ 10 :: newB := by
    rw [line3, net_join]
    refine repl_flat fun w hw => ?_
    rw [repl_append, repl_id (gw_nl ht hw), List.append_assoc]; rfl
  have hW : (netW n).length ≤ 400 := by
    have h1 := flat_len (f := fun x => (blockW x).map fun _ => (0 : UInt8)) (B := 65) (l := n.nodes) fun x hx => by
      have := hd.rows hx
      rw [List.length_map, blockW, List.length_cons, List.length_map]; omega
    have h2 : ((n.nodes.flatMap blockW).length) = (n.nodes.flatMap fun x => (blockW x).map fun _ => (0 : UInt8)).length := by
      induction n.nodes with
      | nil => rfl
      | cons x l ih => rw [List.flatMap_cons, List.flatMap_cons, List.length_append, List.length_append, ih, List.length_map]
    have h3 := hd.five
    have h4 : 65 * n.nodes.length ≤ 65 * 5 := Nat.mul_le_mul_left _ h3
    rw [netW, List.length_cons, h2]; omega
  have hlen : (line3 n).length ≤ 20000 := by
    have h5 := flat_two (f := fun w => joinL [32] w ++ [10]) (g := fun w => (joinL [32] w ++ [32, 32]) ++ 10 :: newB) (k := 12) (l := netW n) fun w _ => by
      simp only [List.length_append, List.length_cons, List.length_nil, newB]
    rw [← net_join] at h5
    rw [e, h5]
    have : 12 * (netW n).length ≤ 12 * 400 := Nat.mul_le_mul_left _ hW
    omega
  refine ⟨readL_of (by omega) hv ?_, hlen⟩
  rw [e]
  refine keep_form ht (by simp) (by simp) (by decide) fun r => ?_
  have h1 := keep_line (u := [32, 59, 32, 110, 101, 116, 32, 49]) (r := 10 :: r) (by decide)
  rw [if_pos (by rfl), keep_nl2] at h1
  exact h1
end Go.Proofs.YtphmmoloegjocaaGreatDoor

/- Contracts of the kit's shelf, laid at this program by the kit's lay-shelf.mjs and lay-plain.mjs. -/
namespace Go.Proofs
open Go.Shelf
end Go.Proofs

/- strings.Join by the kit's shelf; strings.SplitAfter at one octet. -/
namespace Go.Proofs.YtphmmoloegjocaaGreatDoor
open Go Y RowKit
set_option maxRecDepth 100000
set_option maxHeartbeats 4000000

/-! ### Splitting behind an octet -/
end Go.Proofs.YtphmmoloegjocaaGreatDoor

/- Contracts of the kit's shelf, laid at this program by the kit's lay-shelf.mjs and lay-plain.mjs. -/
namespace Go.Proofs
open Go.Shelf
def Tryz.lays102_ren : Go.Shelf.Ren := ⟨fun | 102 => 24 | 209 => 57 | 207 => 82 | n => n, fun | 9 => 9 | 4 => 4 | 3 => 3 | n => n, fun | n => n⟩
theorem Tryz.lays102 : Go.Proofs.Lays.n102 Tryz.prog Tryz.lays102_ren := {
  mixed := by kernel_rfl
  f102 := Tryz.func24.trans (congrArg some (by kernel_rfl))
  f207 := Tryz.func82.trans (congrArg some (by kernel_rfl))
  f209 := Tryz.func57.trans (congrArg some (by kernel_rfl))
  t3 := Tryz.underlying3
  a3 := Tryz.isAgg3
  z3 := Tryz.sizeOf3
  v3 := Tryz.zeroValue3
  t4 := Tryz.underlying4
  a4 := Tryz.isAgg4
  z4 := Tryz.sizeOf4
  v4 := Tryz.zeroValue4
  t9 := Tryz.underlying9
  a9 := Tryz.isAgg9
  z9 := Tryz.sizeOf9
  v9 := Tryz.zeroValue9 }
open Go.RowKit Go.Lib in
theorem Tryz.strings_TrimSuffix (s p : ByteArray) (w : World) (hs : s.size ≤ 9223372036854775807) :
    Calls Tryz.prog 24 #[.string s, .string p] w fun e w' => e = .returned (.string ⟨(Lib.trimSuffix s.data.toList p.data.toList).toArray⟩) ∧ w' = w := Any.strings_TrimSuffix Tryz.lays102 s p w hs
def Tryz.lays155_ren : Go.Shelf.Ren := ⟨fun | 155 => 25 | 154 => 58 | 138 => 78 | 165 => 54 | 143 => 79 | 166 => 33 | 197 => 83 | 169 => 37 | 195 => 98 | 218 => 99 | 240 => 63 | 241 => 80 | 219 => 100 | 260 => 102 | 276 => 86 | 277 => 101 | 217 => 111 | 225 => 112 | 224 => 113 | 267 => 114 | 266 => 123 | 314 => 124 | n => n, fun | 9 => 9 | 3 => 3 | 4 => 4 | 72 => 79 | 0 => 0 | 76 => 82 | 105 => 135 | 21 => 21 | 5 => 5 | 70 => 77 | 20 => 20 | 37 => 26 | 75 => 81 | 127 => 112 | 164 => 140 | 46 => 68 | 119 => 170 | 139 => 173 | 138 => 172 | 146 => 182 | 51 => 177 | 80 => 87 | n => n, fun | 1 => 0 | 3 => 1 | 4 => 2 | n => n⟩
theorem Tryz.lays155 : Go.Proofs.Lays.n155 Tryz.prog Tryz.lays155_ren := {
  mixed := by kernel_rfl
  f138 := Tryz.func78.trans (congrArg some (by kernel_rfl))
  f143 := Tryz.func79.trans (congrArg some (by kernel_rfl))
  f154 := Tryz.func58.trans (congrArg some (by kernel_rfl))
  f155 := Tryz.func25.trans (congrArg some (by kernel_rfl))
  f165 := Tryz.func54.trans (congrArg some (by kernel_rfl))
  f166 := Tryz.func33.trans (congrArg some (by kernel_rfl))
  f169 := Tryz.func37.trans (congrArg some (by kernel_rfl))
  f195 := Tryz.func98.trans (congrArg some (by kernel_rfl))
  f197 := Tryz.func83.trans (congrArg some (by kernel_rfl))
  f217 := Tryz.func111.trans (congrArg some (by kernel_rfl))
  f218 := Tryz.func99.trans (congrArg some (by kernel_rfl))
  f219 := Tryz.func100.trans (congrArg some (by kernel_rfl))
  f224 := Tryz.func113.trans (congrArg some (by kernel_rfl))
  f225 := Tryz.func112.trans (congrArg some (by kernel_rfl))
  f240 := Tryz.func63.trans (congrArg some (by kernel_rfl))
  f241 := Tryz.func80.trans (congrArg some (by kernel_rfl))
  f260 := Tryz.func102.trans (congrArg some (by kernel_rfl))
  f266 := Tryz.func123.trans (congrArg some (by kernel_rfl))
  f267 := Tryz.func114.trans (congrArg some (by kernel_rfl))
  f276 := Tryz.func86.trans (congrArg some (by kernel_rfl))
  f277 := Tryz.func101.trans (congrArg some (by kernel_rfl))
  f314 := Tryz.func124.trans (congrArg some (by kernel_rfl))
  t0 := Tryz.underlying0
  a0 := Tryz.isAgg0
  z0 := Tryz.sizeOf0
  v0 := Tryz.zeroValue0
  t3 := Tryz.underlying3
  a3 := Tryz.isAgg3
  z3 := Tryz.sizeOf3
  v3 := Tryz.zeroValue3
  t4 := Tryz.underlying4
  a4 := Tryz.isAgg4
  z4 := Tryz.sizeOf4
  v4 := Tryz.zeroValue4
  t5 := Tryz.underlying5
  a5 := Tryz.isAgg5
  z5 := Tryz.sizeOf5
  v5 := Tryz.zeroValue5
  t9 := Tryz.underlying9
  a9 := Tryz.isAgg9
  z9 := Tryz.sizeOf9
  v9 := Tryz.zeroValue9
  t20 := Tryz.underlying20
  a20 := Tryz.isAgg20
  z20 := Tryz.sizeOf20
  v20 := Tryz.zeroValue20
  t21 := Tryz.underlying21
  a21 := Tryz.isAgg21
  z21 := Tryz.sizeOf21
  v21 := Tryz.zeroValue21
  t37 := Tryz.underlying26
  a37 := Tryz.isAgg26
  z37 := Tryz.sizeOf26
  v37 := Tryz.zeroValue26
  t46 := Tryz.underlying68
  a46 := Tryz.isAgg68
  z46 := Tryz.sizeOf68
  v46 := Tryz.zeroValue68
  t51 := Tryz.underlying177
  a51 := Tryz.isAgg177
  z51 := Tryz.sizeOf177
  v51 := Tryz.zeroValue177
  t70 := Tryz.underlying77
  a70 := Tryz.isAgg77
  z70 := Tryz.sizeOf77
  v70 := Tryz.zeroValue77
  t72 := Tryz.underlying79
  a72 := Tryz.isAgg79
  z72 := Tryz.sizeOf79
  v72 := Tryz.zeroValue79
  t75 := Tryz.underlying81
  a75 := Tryz.isAgg81
  z75 := Tryz.sizeOf81
  v75 := Tryz.zeroValue81
  t76 := Tryz.underlying82
  a76 := Tryz.isAgg82
  z76 := Tryz.sizeOf82
  v76 := Tryz.zeroValue82
  t105 := Tryz.underlying135
  a105 := Tryz.isAgg135
  z105 := Tryz.sizeOf135
  v105 := Tryz.zeroValue135
  t119 := Tryz.underlying170
  a119 := Tryz.isAgg170
  z119 := Tryz.sizeOf170
  t127 := Tryz.underlying112
  a127 := Tryz.isAgg112
  z127 := Tryz.sizeOf112
  v127 := Tryz.zeroValue112
  t138 := Tryz.underlying172
  a138 := Tryz.isAgg172
  z138 := Tryz.sizeOf172
  v138 := Tryz.zeroValue172
  t139 := Tryz.underlying173
  a139 := Tryz.isAgg173
  z139 := Tryz.sizeOf173
  v139 := Tryz.zeroValue173
  t146 := Tryz.underlying182
  a146 := Tryz.isAgg182
  z146 := Tryz.sizeOf182
  v146 := Tryz.zeroValue182
  t164 := Tryz.underlying140
  a164 := Tryz.isAgg140
  z164 := Tryz.sizeOf140
  v164 := Tryz.zeroValue140
  g1 := by kernel_rfl
  g3 := by kernel_rfl
  g4 := by kernel_rfl }
theorem Tryz.Builder_Extra_155 : Builder.Extra Tryz.prog Tryz.lays155_ren := {
  sizeBuilder := by kernel_rfl
  liesBuilder := by kernel_rfl
  t5 := Tryz.underlying5
  a5 := Tryz.isAgg5
  z5 := Tryz.sizeOf5
  v5 := Tryz.zeroValue5
  infoByte := by kernel_rfl
  cellsByte := by kernel_rfl
  sizeByte := by kernel_rfl
  neB5 := by decide }
open Go.RowKit Go.Lib in
theorem Tryz.strings_ReplaceAll (s old new : ByteArray) (m : Int) (w : World) (hs : s.size < 4294967281) (hm : w.cell? ⟨0, 0, none⟩ = some (.int .i64 m)) (h1 : 1 ≤ old.size) (hlen : s.size + Lib.countB s old * new.size ≤ 140737488355328) :
    Calls Tryz.prog 25 #[.string s, .string old, .string new] w fun e w' =>
      e = .returned (.string ⟨(Lib.replaceAll s.data.toList old.data.toList new.data.toList).toArray⟩) ∧ Below w.heap.size w w' := Any.strings_ReplaceAll Tryz.lays155 Tryz.Builder_Extra_155 s old new m w hs hm h1 hlen
end Go.Proofs

/- strings.ReplaceAll and TrimSuffix by the kit's shelf: contracts in worlds whose bytealg.MaxLen is known to be a number. -/
namespace Go.Proofs.YtphmmoloegjocaaGreatDoor
open Go Y RowKit
set_option maxRecDepth 100000
set_option maxHeartbeats 4000000

noncomputable def cxm (m : Int) : Cx := ⟨Tryz.prog, [(0, [.int .i64 m])]⟩
theorem R_narrow {m : Int} {Γ : Gm} {H : Hp} {w : World} (h : R (cxm m) Γ H w) : R cx Γ H w :=
  ⟨fun g cs hg => by simp [cx, gget] at hg, h.fresh, h.fzok, h.objs, h.own, h.apart⟩
theorem later_widen {m : Int} {n0 : Nat} {Γ Γ' : Gm} {H H' : Hp} {w w' : World} (hR : R (cxm m) Γ H w) (h : Later cx n0 Γ H w Γ' H' w') : Later (cxm m) n0 Γ H w Γ' H' w' :=
  ⟨⟨fun g cs hg => VP_mono h.2.2.2.fz _ _ (hR.glob g cs hg), h.1.fresh, h.1.fzok, h.1.objs, h.1.own, h.1.apart⟩, h.2⟩
theorem Pure_wide {m : Int} {g : FuncId} {args : List PV} {Q : PEnd → Prop} (h : Pure cx g args Q) : Pure (cxm m) g args Q := by
  intro Γ w args' hR hA
  have key : ∀ e w', Post cx Γ ⟨0, []⟩ w (EndP Q) e w' → Post (cxm m) Γ ⟨0, []⟩ w (EndP Q) e w' := fun e w' hP => by
    obtain ⟨e0, H', Γ', h1, h2, h3⟩ := hP
    exact ⟨e0, H', Γ', h1, h2, later_widen hR h3⟩
  rcases h Γ w args' (R_narrow hR) hA with ⟨h1, h2⟩ | ⟨v', w', h1, h2⟩
  · exact .inl ⟨h1, h2.mono key⟩
  · exact .inr ⟨v', w', h1, key _ _ h2⟩
theorem pure_belowM {m : Int} {g : FuncId} {fn : Func} {c : Code} {args : List PV} {x : PV} (hf : cx.P.funcs[g]? = some fn) (hname : (fn.name == "runtime.NumGoroutine") = false) (hbd : fn.body = some c) (hx : Res [] 5 (.p x) x)
    (h : ∀ (Γ : Gm) (w : World) (args' : List Value), R (cxm m) Γ ⟨0, []⟩ w → VRL Γ (args.map .p) args' → ∃ v', VP Γ.fz x v' ∧ Calls cx.P g ⟨args'⟩ w fun e w' => e = .returned v' ∧ Below w.heap.size w w') : Pure (cxm m) g args (· = .ret [x]) := by
  intro Γ w args' hR hA
  obtain ⟨v', h1, h2⟩ := h Γ w args' hR hA
  refine .inl ⟨run_enter hf hname hbd _ _, h2.mono fun e w' ⟨he, hw⟩ => ?_⟩
  subst he
  exact ⟨.returned (.p x), ⟨0, []⟩, Γ, ⟨.ret [x], ⟨rfl, _, rfl, hx⟩, rfl⟩, ⟨v', rfl, h1⟩, later_widen hR (later_below (R_narrow hR) hw)⟩
theorem maxLen_cell {m : Int} {Γ : Gm} {w : World} (hR : R (cxm m) Γ ⟨0, []⟩ w) : w.cell? ⟨0, 0, none⟩ = some (.int .i64 m) := by
  have h := hR.glob 0 [.int .i64 m] rfl
  simp only [VP, VPL] at h
  obtain ⟨b, o, arr, us, h1, h2, ⟨u, us', rfl, rfl, rfl⟩, pre, post, h3, h4, _⟩ := h
  injection h1 with h1
  injection h1 with h1
  injection h1 with hb ho
  subst hb ho
  have hp : pre = [] := List.eq_nil_of_length_eq_zero h4
  subst hp
  obtain ⟨t, z, e⟩ := hR.fzok _ _ h2
  unfold World.cell?
  simp only [e, h3]
  rfl
theorem replaceAll_c (m : Int) (s old new : List UInt8) (h1 : 1 ≤ old.length) (hne : old ≠ new) (hs : s.length ≤ 100000) (hn : new.length ≤ 100) : Pure (cxm m) 25 [.str s, .str old, .str new] (· = .ret [.str (rAll old new s)]) := by
  refine pure_belowM Tryz.func25 rfl rfl rfl fun Γ w args' hR hA => ?_
  simp only [List.map, VRL, VR, VP] at hA
  obtain ⟨a, as', rfl, rfl, b, bs', rfl, rfl, c, cs', rfl, rfl, rfl⟩ := hA
  refine ⟨_, rfl, ?_⟩
  have hc := Lib.countB_le ⟨⟨old⟩⟩ h1 s.length ⟨⟨s⟩⟩ (Nat.le_refl _)
  have hc : Lib.count s old ≤ s.length := hc
  have hm : Lib.count s old * new.length ≤ 100000 * 100 := Nat.mul_le_mul (by omega) hn
  have := Tryz.strings_ReplaceAll ⟨⟨s⟩⟩ ⟨⟨old⟩⟩ ⟨⟨new⟩⟩ m w (by show s.length < _; omega) (maxLen_cell hR) h1 (by show s.length + Lib.count s old * new.length ≤ _; omega)
  rw [show Lib.replaceAll (⟨⟨s⟩⟩ : ByteArray).data.toList (⟨⟨old⟩⟩ : ByteArray).data.toList (⟨⟨new⟩⟩ : ByteArray).data.toList = rAll old new s from rall_eq hne] at this
  exact this
theorem trimSuf_c (s p : List UInt8) (hs : s.length ≤ 100000) : Pure cx 24 [.str s, .str p] (· = .ret [.str (Lib.trimSuffix s p)]) := by
  refine pure_below Tryz.func24 rfl rfl rfl fun Γ w args' hR hA => ?_
  simp only [List.map, VRL, VR, VP] at hA
  obtain ⟨a, as', rfl, rfl, b, bs', rfl, rfl, rfl⟩ := hA
  refine ⟨_, rfl, (Tryz.strings_TrimSuffix ⟨⟨s⟩⟩ ⟨⟨p⟩⟩ w (by show s.length ≤ _; omega)).mono fun e w' ⟨h1, h2⟩ => ⟨h1, ?_⟩⟩
  subst h2
  exact Below.refl _ _
end Go.Proofs.YtphmmoloegjocaaGreatDoor

/- The stage's theorem: both forms of a network are read as that network, also with other blanks. -/
namespace Go.Proofs.YtphmmoloegjocaaGreatDoor
open Go Y
set_option maxRecDepth 100000
set_option maxHeartbeats 40000000

def fourL (n : Nt) : List (List UInt8) := [byLines n, Lib.trimSuffix (byLines n) [10], line2 n, line3 n]
def fourN (n : Nt) : List (List UInt8) := [nested n, nest1 n, nest2 n, nest3 n]
theorem trim_le (s p : List UInt8) : (Lib.trimSuffix s p).length ≤ s.length := by
  rw [Lib.trimSuffix]
  split
  · exact List.length_take_le' _ _
  · exact Nat.le_refl _
theorem rndM_len : ∀ (ts : List (List UInt8)) (w : List UInt8), (rnd sepM w ts).length ≤ (rnd sep0 w ts).length
  | [], _ => Nat.le_refl _
  | v :: ts, w => by
    have ih := rndM_len ts v
    have hs : (sepM w v).length ≤ (sep0 w v).length := by
      rw [sepM, sep0]
      split
      · exact Nat.zero_le _
      · rename_i h
        rw [if_neg (by rintro (e | e); exact h (.inl e); exact h (.inr (.inl e)))]
        exact Nat.le_refl _
    rw [rnd, rnd, List.length_append, List.length_append, List.length_append, List.length_append]
    omega
theorem fourL_ok {n : Nt} (hn : DrB n) : ∀ v ∈ fourL n, v.length ≤ 50000 ∧ readLR v = .inr n := by
  have hv := hn.valid
  have hl := hn.lines
  intro v hm
  simp only [fourL, List.mem_cons, List.not_mem_nil, or_false] at hm
  rcases hm with rfl | rfl | rfl | rfl
  · exact ⟨by omega, readL_lines hv (by omega)⟩
  · exact ⟨by have := trim_le (byLines n) [10]; omega, read_line1 hv (by omega)⟩
  · have h := repl_len 32 [32, 32, 32] (byLines n)
    refine ⟨?_, read_line2 hv hl⟩
    rw [line2, List.length_append]
    simp only [List.length_cons, List.length_nil] at h ⊢
    omega
  · obtain ⟨h1, h2⟩ := read_line3 hn
    exact ⟨by omega, h1⟩
theorem fourN_ok {n : Nt} (hn : DrB n) : ∀ v ∈ fourN n, v.length ≤ 50000 ∧ readNR v = .inr n := by
  have hv := hn.valid
  have hl := hn.nest
  intro v hm
  simp only [fourN, List.mem_cons, List.not_mem_nil, or_false] at hm
  rcases hm with rfl | rfl | rfl | rfl
  · exact ⟨by omega, readN_nested hv (by omega)⟩
  · have h := repl_len 32 [10, 32, 10] (nested n)
    refine ⟨?_, read_nest1 hv hl⟩
    rw [nest1]
    simp only [List.length_cons, List.length_nil] at h
    omega
  · exact ⟨by have := nest2_len (valid_tw hv); omega, read_nest2 hv hl⟩
  · obtain ⟨h1, h2⟩ := read_nest3 hv hl
    exact ⟨by omega, h1⟩
theorem vdraw_altEx {C : Cx} {rd : Bool} {n0 N : Nat} {all : List Oper} {σ : Sg} {ds : List AD} {H : Hp} {K : Sg → List AD → Hp → Prop} {X : List AP → Sg → List AD → Hp → Prop} {α : Type} (sl : α → List (Nat × AV)) (hp : α → Hp) (pr : α → Prop)
    (h : (C.P.follows .mixedOrders && slotsOK N all (masks all []) && otOK all (masks all []) (altOT C.P (masks all []) all all.length [] []) [] [] []) = true)
    (hv : vD C rd all σ (fun σ' ds' H' => ∃ x, pr x ∧ Ent C n0 N σ' ds' H' (sets (fun _ => .junk) (sl x)) ds (hp x)) X (altOT C.P (masks all []) all all.length [] []) [] ds H) (hk : ∀ x, pr x → K (sets (fun _ => .junk) (sl x)) ds (hp x)) :
    ∃ ot, (C.P.follows .mixedOrders && slotsOK N all (masks all []) && otOK all (masks all []) ot [] [] []) = true ∧
    ((vD C rd all σ K X ot [] ds H) ∨
     ∃ (α : Type) (sl : α → List (Nat × AV)) (hp : α → Hp) (pr : α → Prop),
      vD C rd all σ (fun σ' ds' H' => ∃ x, pr x ∧ Ent C n0 N σ' ds' H' (sets (fun _ => .junk) (sl x)) ds (hp x)) X ot [] ds H ∧
      ∀ x, pr x → K (sets (fun _ => .junk) (sl x)) ds (hp x)) := ⟨_, h, .inr ⟨α, sl, hp, pr, hv, hk⟩⟩
theorem formatBack_c (m : Int) (D E : D5) (hD : OkD5 D) (hE : OkD5 E) : Pure (cxm m) 6 [D.pv, E.pv] (· = .ret [.bool true]) := by
  refine pure_of_vc Tryz.func6 rfl rfl rfl ?_
  refine (Pure_wide works_c).eq rfl ?_
  refine vdraw_altEx (α := Nt × Nt) (fun x => [(5, .ptr 2 0 0), (6, .ptr 3 0 0)]) (fun x => ⟨4, [(3, ntO x.2), (2, ntO x.1)]⟩) (fun x => DrB x.1 ∧ DrB x.2) rfl ?_ ?_
  · repeat' first
      | exact ⟨(n, k), ⟨hn, hk⟩, ent_of [] [] [] rfl ⟨⟨rfl, rfl⟩, ⟨rfl, rfl⟩, trivial⟩ (by (repeat' first | exact trivial | exact rfl | exact ⟨rfl, rfl⟩ | exact .inl rfl | refine ⟨_, rfl, rfl, rfl, ?_⟩ | refine ⟨_, _, rfl, ?_, ?_⟩ | refine ⟨_, rfl, ?_⟩ | refine And.intro ?_ ?_)) rfl⟩
      | exact ⟨(n, k), ⟨hn, hk⟩, ent_of [] [(2, 3), (3, 2)] [] rfl ⟨⟨rfl, rfl⟩, ⟨rfl, rfl⟩, trivial⟩ (by (repeat' first | exact trivial | exact rfl | exact ⟨rfl, rfl⟩ | exact .inl rfl | refine ⟨_, rfl, rfl, rfl, ?_⟩ | refine ⟨_, _, rfl, ?_, ?_⟩ | refine ⟨_, rfl, ?_⟩ | refine And.intro ?_ ?_)) rfl⟩
      | refine And.intro ?_ ?_
      | (refine (Pure_wide (net_c D hD)).at fun r hr => ?_; obtain ⟨n, hn, rfl⟩ := hr)
      | (refine (Pure_wide (net_c E hE)).at fun r hr => ?_; obtain ⟨k, hk, rfl⟩ := hr)
    all_goals (repeat' first | exact trivial | exact rfl | exact ⟨rfl, rfl⟩ | exact .inl rfl | refine ⟨_, rfl, rfl, rfl, ?_⟩ | refine ⟨_, _, rfl, ?_, ?_⟩ | refine ⟨_, rfl, ?_⟩ | refine And.intro ?_ ?_)
  rintro ⟨n, k⟩ ⟨hn, hk⟩
  have hn : DrB n := hn
  have hk : DrB k := hk
  have hv := hn.valid
  have hkv := hk.valid
  have ht := valid_tw hv
  have hb1 := hn.lines
  have hb2 := hn.nest
  have h1 := Pure_wide (m := m) (lines_c n (valid_big hv))
  rw [linesP, if_pos hv] at h1
  have h2 := Pure_wide (m := m) (nestedE_c n (valid_big hv))
  rw [nestedP, if_pos hv] at h2
  have h3 := Pure_wide (m := m) (lines_c k (valid_big hkv))
  rw [linesP, if_pos hkv] at h3
  have h4 := Pure_wide (m := m) (nestedE_c k (valid_big hkv))
  rw [nestedP, if_pos hkv] at h4
  have hEq := Pure_wide (m := m) (equal_c n k (valid_big hv))
  have hT := Pure_wide (m := m) (trimSuf_c (byLines n) [10] (by omega))
  have hl1 := repl_len 32 [32, 32, 32] (byLines n)
  simp only [List.length_cons, List.length_nil] at hl1
  have hR1 := replaceAll_c m (byLines n) [32] [32, 32, 32] (by decide) (by decide) (by omega) (by decide)
  rw [rall_one] at hR1
  have hR2 := replaceAll_c m (byLines n) [10] [32, 32, 10, 32, 59, 32, 110, 101, 116, 32, 49, 10, 10] (by decide) (by decide) (by omega) (by decide)
  rw [rall_one] at hR2
  have hR3 := replaceAll_c m (nested n) [32] [10, 32, 10] (by decide) (by decide) (by omega) (by decide)
  rw [rall_one] at hR3
  have hM : (rAll [32, 40] [40] (nested n)).length ≤ 6000 := by
    rw [net_rnd ht]
    show (rAll [32, 40] [40] ([40] ++ rnd sep0 kOpen (netT1 n))).length ≤ _
    rw [rall_run (by decide), rndM _ _ (gt_net ht)]
    have h1 := rndM_len (netT1 n) kOpen
    have h2 := congrArg List.length (net_rnd ht)
    rw [List.length_cons] at h2
    rw [List.length_append]
    simp only [List.length_cons, List.length_nil]
    omega
  have hl6 := repl_len 40 [32, 40, 32] (nested n)
  simp only [List.length_cons, List.length_nil] at hl6
  have hl7 := repl_len 41 [32, 41, 32] (replN 40 [32, 40, 32] (nested n))
  simp only [List.length_cons, List.length_nil] at hl7
  have hR4 := replaceAll_c m (nested n) [32, 40] [40] (by decide) (by decide) (by omega) (by decide)
  have hR5 := replaceAll_c m (rAll [32, 40] [40] (nested n)) [41, 32] [41] (by decide) (by decide) (by omega) (by decide)
  have hR6 := replaceAll_c m (nested n) [40] [32, 40, 32] (by decide) (by decide) (by omega) (by decide)
  rw [rall_one] at hR6
  have hR7 := replaceAll_c m (replN 40 [32, 40, 32] (nested n)) [41] [32, 41, 32] (by decide) (by decide) (by omega) (by decide)
  rw [rall_one] at hR7
  refine h1.eq rfl ?_
  refine h2.eq rfl ?_
  refine h3.eq rfl ?_
  refine h4.eq rfl ?_
  refine And.intro (fun _ => ?_) (fun h => absurd rfl h)
  refine And.intro (fun _ => ?_) (fun h => absurd rfl h)
  refine And.intro (fun _ => ?_) (fun h => absurd rfl h)
  refine And.intro (fun _ => ?_) (fun h => absurd rfl h)
  by_cases hnk : n = k
  · subst hnk
    rw [decide_eq_true rfl] at hEq
    refine And.intro (fun _ => ?_) (fun h => absurd rfl h)
    refine hEq.eq rfl ?_
    refine And.intro (fun _ => ?_) (fun h => absurd rfl h)
    refine And.intro (fun _ => ?_) (fun h => absurd rfl h)
    refine hEq.eq rfl ?_
    refine And.intro (fun _ => ?_) (fun h => absurd rfl h)
    refine hT.eq rfl ?_
    refine hR1.eq rfl ?_
    refine ⟨by show 1 + (replN 32 [32, 32, 32] (byLines n)).length ≤ 9223372036854775807; omega, ?_⟩
    refine hR2.eq rfl ?_
    refine ⟨Nat, fun j => [(5, .ptr 2 0 0), (9, .p (.str (nested n))), (85, .p (.agg ((fourL n).map .str))), (86, .p (i64 j))], fun _ => ⟨4, [(2, ntO n)]⟩, fun j => j ≤ 4, fun j => 4 - j, ?_, ?_⟩
    · exact ⟨0, by omega, ent_of [] [] [] rfl (by (repeat' first | exact trivial | exact rfl | exact ⟨rfl, rfl⟩ | exact .inl rfl | refine ⟨_, rfl, rfl, rfl, ?_⟩ | refine ⟨_, _, rfl, ?_, ?_⟩ | refine ⟨_, rfl, ?_⟩ | refine And.intro ?_ ?_)) (by (repeat' first | exact trivial | exact rfl | exact ⟨rfl, rfl⟩ | exact .inl rfl | refine ⟨_, rfl, rfl, rfl, ?_⟩ | refine ⟨_, _, rfl, ?_, ?_⟩ | refine ⟨_, rfl, ?_⟩ | refine And.intro ?_ ?_)) rfl⟩
    intro j hj
    (first | refine brLt (fun h3 => ?_) (fun h3 => ?_) | refine brLe (fun h3 => ?_) (fun h3 => ?_) | refine brEq (fun h3 => ?_) (fun h3 => ?_))
    · have h3 : (j : Int) < 4 := h3
      have hjL : j < (fourL n).length := by show j < 4; omega
      have hm := fourL_ok hn _ (getD_memL [] hjL)
      refine ⟨_, ⟨⟨by omega, by omega⟩, .str ((fourL n).getD j []), ldInP1 (by kernel_rfl) (by show ((fourL n).map PV.str)[((j : Nat) : Int).toNat * 1]? = _; rw [Int.toNat_natCast, Nat.mul_one]; exact tcell hjL), rfl⟩, ?_⟩
      refine (Pure_wide (lined_yes _ n hm.1 hm.2)).eq rfl ?_
      refine ⟨_, wrap_i64 (by omega) (by omega), ?_⟩
      exact ⟨j + 1, by omega, ent_of [] [] [] rfl (by (repeat' first | exact trivial | exact rfl | exact ⟨rfl, rfl⟩ | exact .inl rfl | refine ⟨_, rfl, rfl, rfl, ?_⟩ | refine ⟨_, _, rfl, ?_, ?_⟩ | refine ⟨_, rfl, ?_⟩ | refine And.intro ?_ ?_)) (by (repeat' first | exact trivial | exact rfl | exact ⟨rfl, rfl⟩ | exact .inl rfl | refine ⟨_, rfl, rfl, rfl, ?_⟩ | refine ⟨_, _, rfl, ?_, ?_⟩ | refine ⟨_, rfl, ?_⟩ | refine And.intro ?_ ?_)) rfl, by show 4 - (j + 1) < 4 - j; omega⟩
    refine hR3.eq rfl ?_
    refine hR4.eq rfl ?_
    refine hR5.eq rfl ?_
    refine hR6.eq rfl ?_
    refine hR7.eq rfl ?_
    refine ⟨by show 1 + (replN 41 [32, 41, 32] (replN 40 [32, 40, 32] (nested n))).length ≤ 9223372036854775807; omega, ?_⟩
    refine ⟨by show ([10] ++ replN 41 [32, 41, 32] (replN 40 [32, 40, 32] (nested n))).length + 1 ≤ 9223372036854775807; rw [List.length_append]; simp only [List.length_cons, List.length_nil]; omega, ?_⟩
    refine ⟨Nat, fun j => [(5, .ptr 2 0 0), (105, .p (.agg ((fourN n).map .str))), (106, .p (i64 j))], fun _ => ⟨4, [(2, ntO n)]⟩, fun j => j ≤ 4, fun j => 4 - j, ?_, ?_⟩
    · exact ⟨0, by omega, ent_of [] [] [] rfl (by (repeat' first | exact trivial | exact rfl | exact ⟨rfl, rfl⟩ | exact .inl rfl | refine ⟨_, rfl, rfl, rfl, ?_⟩ | refine ⟨_, _, rfl, ?_, ?_⟩ | refine ⟨_, rfl, ?_⟩ | refine And.intro ?_ ?_)) (by (repeat' first | exact trivial | exact rfl | exact ⟨rfl, rfl⟩ | exact .inl rfl | refine ⟨_, rfl, rfl, rfl, ?_⟩ | refine ⟨_, _, rfl, ?_, ?_⟩ | refine ⟨_, rfl, ?_⟩ | refine And.intro ?_ ?_)) rfl⟩
    intro i hi
    (first | refine brLt (fun h5 => ?_) (fun h5 => ?_) | refine brLe (fun h5 => ?_) (fun h5 => ?_) | refine brEq (fun h5 => ?_) (fun h5 => ?_))
    · have h5 : (i : Int) < 4 := h5
      have hiL : i < (fourN n).length := by show i < 4; omega
      have hm := fourN_ok hn _ (getD_memL [] hiL)
      refine ⟨_, ⟨⟨by omega, by omega⟩, .str ((fourN n).getD i []), ldInP1 (by kernel_rfl) (by show ((fourN n).map PV.str)[((i : Nat) : Int).toNat * 1]? = _; rw [Int.toNat_natCast, Nat.mul_one]; exact tcell hiL), rfl⟩, ?_⟩
      refine (Pure_wide (nested_yes _ n hm.1 hm.2)).eq rfl ?_
      refine ⟨_, wrap_i64 (by omega) (by omega), ?_⟩
      exact ⟨i + 1, by omega, ent_of [] [] [] rfl (by (repeat' first | exact trivial | exact rfl | exact ⟨rfl, rfl⟩ | exact .inl rfl | refine ⟨_, rfl, rfl, rfl, ?_⟩ | refine ⟨_, _, rfl, ?_, ?_⟩ | refine ⟨_, rfl, ?_⟩ | refine And.intro ?_ ?_)) (by (repeat' first | exact trivial | exact rfl | exact ⟨rfl, rfl⟩ | exact .inl rfl | refine ⟨_, rfl, rfl, rfl, ?_⟩ | refine ⟨_, _, rfl, ?_, ?_⟩ | refine ⟨_, rfl, ?_⟩ | refine And.intro ?_ ?_)) rfl, by show 4 - (i + 1) < 4 - i; omega⟩
    exact end1 _ rfl rfl rfl
  rw [decide_eq_false hnk] at hEq
  refine And.intro (fun h => absurd (lines_inj hv hkv (by omega) h) hnk) (fun _ => ?_)
  refine hEq.eq rfl ?_
  refine And.intro (fun _ => ?_) (fun h => absurd rfl h)
  refine And.intro (fun h => absurd (nested_inj hv hkv (by omega) h) hnk) (fun _ => ?_)
  refine hEq.eq rfl ?_
  refine And.intro (fun _ => ?_) (fun h => absurd rfl h)
  refine hT.eq rfl ?_
  refine hR1.eq rfl ?_
  refine ⟨by show 1 + (replN 32 [32, 32, 32] (byLines n)).length ≤ 9223372036854775807; omega, ?_⟩
  refine hR2.eq rfl ?_
  refine ⟨Nat, fun j => [(5, .ptr 2 0 0), (9, .p (.str (nested n))), (85, .p (.agg ((fourL n).map .str))), (86, .p (i64 j))], fun _ => ⟨4, [(2, ntO n)]⟩, fun j => j ≤ 4, fun j => 4 - j, ?_, ?_⟩
  · exact ⟨0, by omega, ent_of [] [] [] rfl (by (repeat' first | exact trivial | exact rfl | exact ⟨rfl, rfl⟩ | exact .inl rfl | refine ⟨_, rfl, rfl, rfl, ?_⟩ | refine ⟨_, _, rfl, ?_, ?_⟩ | refine ⟨_, rfl, ?_⟩ | refine And.intro ?_ ?_)) (by (repeat' first | exact trivial | exact rfl | exact ⟨rfl, rfl⟩ | exact .inl rfl | refine ⟨_, rfl, rfl, rfl, ?_⟩ | refine ⟨_, _, rfl, ?_, ?_⟩ | refine ⟨_, rfl, ?_⟩ | refine And.intro ?_ ?_)) rfl⟩
  intro j hj
  (first | refine brLt (fun h3 => ?_) (fun h3 => ?_) | refine brLe (fun h3 => ?_) (fun h3 => ?_) | refine brEq (fun h3 => ?_) (fun h3 => ?_))
  · have h3 : (j : Int) < 4 := h3
    have hjL : j < (fourL n).length := by show j < 4; omega
    have hm := fourL_ok hn _ (getD_memL [] hjL)
    refine ⟨_, ⟨⟨by omega, by omega⟩, .str ((fourL n).getD j []), ldInP1 (by kernel_rfl) (by show ((fourL n).map PV.str)[((j : Nat) : Int).toNat * 1]? = _; rw [Int.toNat_natCast, Nat.mul_one]; exact tcell hjL), rfl⟩, ?_⟩
    refine (Pure_wide (lined_yes _ n hm.1 hm.2)).eq rfl ?_
    refine ⟨_, wrap_i64 (by omega) (by omega), ?_⟩
    exact ⟨j + 1, by omega, ent_of [] [] [] rfl (by (repeat' first | exact trivial | exact rfl | exact ⟨rfl, rfl⟩ | exact .inl rfl | refine ⟨_, rfl, rfl, rfl, ?_⟩ | refine ⟨_, _, rfl, ?_, ?_⟩ | refine ⟨_, rfl, ?_⟩ | refine And.intro ?_ ?_)) (by (repeat' first | exact trivial | exact rfl | exact ⟨rfl, rfl⟩ | exact .inl rfl | refine ⟨_, rfl, rfl, rfl, ?_⟩ | refine ⟨_, _, rfl, ?_, ?_⟩ | refine ⟨_, rfl, ?_⟩ | refine And.intro ?_ ?_)) rfl, by show 4 - (j + 1) < 4 - j; omega⟩
  refine hR3.eq rfl ?_
  refine hR4.eq rfl ?_
  refine hR5.eq rfl ?_
  refine hR6.eq rfl ?_
  refine hR7.eq rfl ?_
  refine ⟨by show 1 + (replN 41 [32, 41, 32] (replN 40 [32, 40, 32] (nested n))).length ≤ 9223372036854775807; omega, ?_⟩
  refine ⟨by show ([10] ++ replN 41 [32, 41, 32] (replN 40 [32, 40, 32] (nested n))).length + 1 ≤ 9223372036854775807; rw [List.length_append]; simp only [List.length_cons, List.length_nil]; omega, ?_⟩
  refine ⟨Nat, fun j => [(5, .ptr 2 0 0), (105, .p (.agg ((fourN n).map .str))), (106, .p (i64 j))], fun _ => ⟨4, [(2, ntO n)]⟩, fun j => j ≤ 4, fun j => 4 - j, ?_, ?_⟩
  · exact ⟨0, by omega, ent_of [] [] [] rfl (by (repeat' first | exact trivial | exact rfl | exact ⟨rfl, rfl⟩ | exact .inl rfl | refine ⟨_, rfl, rfl, rfl, ?_⟩ | refine ⟨_, _, rfl, ?_, ?_⟩ | refine ⟨_, rfl, ?_⟩ | refine And.intro ?_ ?_)) (by (repeat' first | exact trivial | exact rfl | exact ⟨rfl, rfl⟩ | exact .inl rfl | refine ⟨_, rfl, rfl, rfl, ?_⟩ | refine ⟨_, _, rfl, ?_, ?_⟩ | refine ⟨_, rfl, ?_⟩ | refine And.intro ?_ ?_)) rfl⟩
  intro i hi
  (first | refine brLt (fun h5 => ?_) (fun h5 => ?_) | refine brLe (fun h5 => ?_) (fun h5 => ?_) | refine brEq (fun h5 => ?_) (fun h5 => ?_))
  · have h5 : (i : Int) < 4 := h5
    have hiL : i < (fourN n).length := by show i < 4; omega
    have hm := fourN_ok hn _ (getD_memL [] hiL)
    refine ⟨_, ⟨⟨by omega, by omega⟩, .str ((fourN n).getD i []), ldInP1 (by kernel_rfl) (by show ((fourN n).map PV.str)[((i : Nat) : Int).toNat * 1]? = _; rw [Int.toNat_natCast, Nat.mul_one]; exact tcell hiL), rfl⟩, ?_⟩
    refine (Pure_wide (nested_yes _ n hm.1 hm.2)).eq rfl ?_
    refine ⟨_, wrap_i64 (by omega) (by omega), ?_⟩
    exact ⟨i + 1, by omega, ent_of [] [] [] rfl (by (repeat' first | exact trivial | exact rfl | exact ⟨rfl, rfl⟩ | exact .inl rfl | refine ⟨_, rfl, rfl, rfl, ?_⟩ | refine ⟨_, _, rfl, ?_, ?_⟩ | refine ⟨_, rfl, ?_⟩ | refine And.intro ?_ ?_)) (by (repeat' first | exact trivial | exact rfl | exact ⟨rfl, rfl⟩ | exact .inl rfl | refine ⟨_, rfl, rfl, rfl, ?_⟩ | refine ⟨_, _, rfl, ?_, ?_⟩ | refine ⟨_, rfl, ?_⟩ | refine And.intro ?_ ?_)) rfl, by show 4 - (i + 1) < 4 - i; omega⟩
  exact end1 _ rfl rfl rfl
end Go.Proofs.YtphmmoloegjocaaGreatDoor

/- Arguments and listed variables, read as data. -/
namespace Go.Proofs.YtphmmoloegjocaaGreatDoor.Y
open Go

/-- The parts of a struct or an array, with their offsets. -/
def partsOf (P : Program) (t : TypeId) : Option (List (TypeId × Nat)) :=
  match P.underlying t with
  | some (.struct fs) => some (fs.toList.map fun f => (f.type, f.offset))
  | some (.array k e) => some ((List.range k).map fun i => (e, i * P.cellsOf e))
  | _ => none
def tiles (P : Program) : List (TypeId × Nat) → Nat → Option Nat
  | [], o => some o
  | f :: r, o => if f.2 = o then tiles P r (o + P.cellsOf f.1) else none
theorem tiles_le {P : Program} : ∀ {l : List (TypeId × Nat)} {o n : Nat}, tiles P l o = some n → o ≤ n
  | [], o, n, h => by simp only [tiles, Option.some.injEq] at h; omega
  | f :: r, o, n, h => by
    simp only [tiles] at h
    split at h
    · have := tiles_le h; omega
    · cases h

def basic : TypeDesc → Bool
  | .bool => true
  | .int _ => true
  | .string => true
  | _ => false

/-- Types of plain data: what the readings below cover. -/
def supp (P : Program) : Nat → TypeId → Bool
  | 0, _ => false
  | n + 1, t => match partsOf P t with
    | some l => decide (tiles P l 0 = some (P.cellsOf t)) && l.all fun f => supp P n f.1
    | none => match P.underlying t with
      | some (.slice e) => decide (0 < P.cellsOf e) && supp P n e
      | some d => basic d
      | none => false

def Flds (P : Program) (p : TypeId → List PV → Prop) : List (TypeId × Nat) → List PV → Prop
  | [], xs => xs = []
  | f :: r, xs => ∃ ys zs, xs = ys ++ zs ∧ ys.length = P.cellsOf f.1 ∧ p f.1 ys ∧ Flds P p r zs

/-- The cells of a value of a type. -/
def TyT (P : Program) : Nat → TypeId → List PV → Prop
  | 0, _, _ => False
  | m + 1, t, xs => match partsOf P t with
    | some l => Flds P (TyT P m) l xs
    | none => match P.underlying t with
      | some .bool => ∃ b, xs = [.bool b]
      | some (.int k) => ∃ n, xs = [.int k n] ∧ (Lit.int k n).wf = true
      | some .string => ∃ s, xs = [.str s] ∧ s.length ≤ maxLen
      | some (.slice e) => match Nat.beq (P.cellsOf e) 1 with
        | true => ∃ ys, xs = [.lst ys] ∧ ys.length ≤ maxLen ∧ ∀ y ∈ ys, TyT P m e [y]
        | false => ∃ yss, xs = [.lsts (P.cellsOf e) yss] ∧ yss.length ≤ maxLen ∧ ∀ ys ∈ yss, TyT P m e ys
      | _ => False

section
variable {H : Type} {enc : TypeId × Value → H} {P : Program} {W : World} {sp : Nat → Bool} {held : Bool}

/-- Cells of a block, one after the other. -/
theorem cells_take {a : Addr} {n : Nat} {cs : List Value} (hn : 0 < n) (h : W.cells? 0 a n = some cs) :
    ∃ c t z, W.heap[a.block]? = some (.cells c t z) ∧ a.spot = none ∧ cs.length = n ∧ a.off + n ≤ c.toList.length ∧ cs = (c.toList.drop a.off).take n := by
  unfold World.cells? at h
  rw [if_pos (Nat.zero_le _)] at h
  have hl := mapM_some_length h
  rw [List.length_range] at hl
  have hg : ∀ i, i < n → W.cell? (a.add i) = cs[i]? := fun i hi => mapM_some_get h i i (by simp [hi])
  have h0 := hg 0 hn
  have ha : a.add 0 = a := by simp [Addr.add]
  rw [ha, List.getElem?_eq_getElem (by omega)] at h0
  unfold World.cell? at h0
  split at h0
  · rename_i c t z hb
    have hs : a.spot = none := by
      cases hs : a.spot with
      | none => rfl
      | some _ => simp [hs] at h0
    have hcell : ∀ i, i < n → c[a.off + i]? = cs[i]? := by
      intro i hi
      have := hg i hi
      unfold World.cell? at this
      have hblk : (a.add i).block = a.block := by unfold Addr.add; split <;> rfl
      have hsp : (a.add i).spot = none := by unfold Addr.add; split <;> first | exact hs | rfl
      have hoff : (a.add i).off = a.off + i := by unfold Addr.add; split <;> simp_all
      rw [hblk, hb] at this
      simp only [hsp, hoff] at this
      simpa using this
    have hlen : a.off + n ≤ c.toList.length := by
      have := hcell (n - 1) (by omega)
      rw [List.getElem?_eq_getElem (by omega)] at this
      have := (Array.getElem?_eq_some_iff.1 this).1
      simp
      omega
    refine ⟨c, t, z, hb, hs, hl, hlen, ?_⟩
    refine List.ext_getElem? fun i => ?_
    by_cases hi : i < n
    · rw [← hcell i hi, List.getElem?_take_of_lt hi, List.getElem?_drop]
      simp
    · rw [List.getElem?_eq_none (by omega), List.getElem?_eq_none (by simp; omega)]
  · cases h0

def AllCells (fz : Fzn) (W : World) : Prop := ∀ b c t z, W.heap[b]? = some (.cells c t z) → fz b = some c.toList

/-- What a reading says of the cells. -/
def Rd (P : Program) (fz : Fzn) (m : Nat) (t : TypeId) (cs : List Value) : Prop := ∃ xs, VPL fz xs cs ∧ (∀ u ∈ cs, plainV u = true) ∧ TyT P m t xs

theorem flds_of {fz : Fzn} {m : Nat} {cs : List Value} : ∀ (l : List (TypeId × Nat)) (o : Nat), tiles P l o = some cs.length → (∀ f ∈ l, Rd P fz m f.1 ((cs.drop f.2).take (P.cellsOf f.1))) →
    ∃ xs, VPL fz xs (cs.drop o) ∧ (∀ u ∈ cs.drop o, plainV u = true) ∧ Flds P (TyT P m) l xs
  | [], o, ht, _ => by
    simp only [tiles, Option.some.injEq] at ht
    subst ht
    exact ⟨[], by simp [VPL], by simp, rfl⟩
  | f :: r, o, ht, hr => by
    simp only [tiles] at ht
    split at ht
    · rename_i ho
      have hle := tiles_le ht
      obtain ⟨ys, h1, h2, h3⟩ := hr f (by simp)
      obtain ⟨zs, k1, k2, k3⟩ := flds_of r (o + P.cellsOf f.1) ht fun g hg => hr g (by simp [hg])
      rw [ho] at h1 h2
      have e : cs.drop o = (cs.drop o).take (P.cellsOf f.1) ++ cs.drop (o + P.cellsOf f.1) := by
        rw [← List.drop_drop, List.take_append_drop]
      refine ⟨ys ++ zs, ?_, ?_, ys, zs, rfl, ?_, h3, k3⟩
      · rw [e]; exact VPL_append h1 k1
      · rw [e]; intro u hu; rcases List.mem_append.1 hu with hu | hu
        · exact h2 u hu
        · exact k2 u hu
      · rw [← VPL_length h1, List.length_take, List.length_drop]; omega
    · cases ht

theorem parts_trod {t : TypeId} {l : List (TypeId × Nat)} (hp : partsOf P t = some l) {n : Nat} {cs : List Value} {x : DataW H × List MemPlace} (h : DataW.trod enc P W 0 sp held n t cs = some x) :
    ∃ (xs : List (DataW H × List MemPlace)) (k : Nat), n = k + 1 ∧ x = (.agg (xs.map (·.1)), xs.flatMap (·.2)) ∧ cs.length = P.cellsOf t ∧ xs.length = l.length ∧
      ∀ (i : Nat) (f : TypeId × Nat), l[i]? = some f → DataW.trod enc P W 0 sp held k f.1 ((cs.drop f.2).take (P.cellsOf f.1)) = xs[i]? := by
  unfold partsOf at hp
  split at hp
  · rename_i fs hu
    injection hp with hp
    subst hp
    obtain ⟨xs, k, h1, h2, h3, h4, h5⟩ := DataW.trod_struct hu h
    refine ⟨xs, k, h1, h2, h3, by simpa using h4, fun i f hf => ?_⟩
    rw [List.getElem?_map, Option.map_eq_some_iff] at hf
    obtain ⟨g, hg, rfl⟩ := hf
    exact h5 i g (by simpa using hg)
  · rename_i k' e hu
    injection hp with hp
    subst hp
    obtain ⟨xs, k, h1, h2, h3, h4, h5⟩ := DataW.trod_array hu h
    refine ⟨xs, k, h1, h2, h3, by simpa using h4, fun i f hf => ?_⟩
    rw [List.getElem?_map, Option.map_eq_some_iff] at hf
    obtain ⟨j, hj, rfl⟩ := hf
    have hi := (List.getElem?_eq_some_iff.1 hj)
    obtain ⟨hi, hj⟩ := hi
    simp at hi hj
    subst hj
    exact h5 i hi
  · cases hp

theorem flat_singles {l : List (List PV)} (h : ∀ cs ∈ l, cs.length = 1) : l.flatten.length = l.length ∧ ∀ y ∈ l.flatten, [y] ∈ l := by
  induction l with
  | nil => simp
  | cons x r ih =>
    have hx := h x (by simp)
    obtain ⟨y, rfl⟩ : ∃ y, x = [y] := by
      match x, hx with
      | [y], _ => exact ⟨y, rfl⟩
    obtain ⟨h1, h2⟩ := ih fun c hc => h c (by simp [hc])
    refine ⟨by simp [h1], fun z hz => ?_⟩
    simp at hz
    rcases hz with rfl | hz
    · simp
    · have := h2 z (by simpa using hz)
      simp [this]

/-- A READING OF PLAIN DATA is a value of its type. -/
theorem typed_of_trod {fz : Fzn} (hfz : AllCells fz W) : ∀ (m : Nat) (t : TypeId) (n : Nat) (cs : List Value) (x : DataW H × List MemPlace), supp P m t = true → DataW.trod enc P W 0 sp held n t cs = some x → Rd P fz m t cs
  | 0, _, _, _, _, hs, _ => by simp [supp] at hs
  | m + 1, t, n, cs, x, hs, h => by
    have ih := typed_of_trod hfz m
    simp only [supp] at hs
    cases hp : partsOf P t with
    | some l =>
      simp only [hp, Bool.and_eq_true, decide_eq_true_eq, List.all_eq_true] at hs
      obtain ⟨xs, k, h1, h2, h3, h4, h5⟩ := parts_trod hp h
      obtain ⟨ys, g1, g2, g3⟩ := flds_of (fz := fz) (m := m) (cs := cs) l 0 (by rw [h3]; exact hs.1) fun f hf => by
        obtain ⟨i, hi, rfl⟩ := List.getElem_of_mem hf
        have := h5 i _ (List.getElem?_eq_getElem hi)
        rw [List.getElem?_eq_getElem (by omega)] at this
        exact ih _ _ _ _ (hs.2 _ hf) this
      exact ⟨ys, by simpa using g1, by simpa using g2, by simp only [TyT, hp]; exact g3⟩
    | none =>
      simp only [hp] at hs
      cases hu : P.underlying t with
      | none => simp [hu] at hs
      | some d =>
        simp only [hu] at hs
        cases d with
        | bool =>
          obtain ⟨b, rfl, _⟩ := DataW.trod_bool hu h
          exact ⟨[.bool b], by simp [VPL, VP], by simp [plainV], by simp [TyT, hp, hu]⟩
        | int k =>
          obtain ⟨b, rfl, _, hw⟩ := DataW.trod_int hu h
          exact ⟨[.int k b], by simp [VPL, VP], by simp [plainV], by simp [TyT, hp, hu, hw]⟩
        | string =>
          obtain ⟨⟨⟨s⟩⟩, rfl, _, hw⟩ := DataW.trod_string hu h
          exact ⟨[.str s], by simp [VPL, VP], by simp [plainV], by simp only [TyT, hp, hu]; exact ⟨s, rfl, hw⟩⟩
        | slice e =>
          simp only [Bool.and_eq_true, decide_eq_true_eq] at hs
          obtain ⟨hs0, hse⟩ := hs
          have fin : ∀ (v : Value) (len : Nat) (yss : List (List PV)), len ≤ maxLen → yss.length = len → (∀ ys ∈ yss, ys.length = P.cellsOf e ∧ TyT P m e ys) → plainV v = true →
              (yss = [] → ∃ a c, v = .slice a 0 c) → (yss ≠ [] → ∃ b o c arr us, v = .slice (some ⟨b, o, none⟩) len c ∧ len ≤ c ∧ fz b = some arr ∧ VPLL fz (P.cellsOf e) yss us ∧ Seg arr o us) → Rd P fz (m + 1) t [v] := by
            intro v len yss hml hlen hty hpl hnil hcons
            by_cases h1 : P.cellsOf e = 1
            · have hfl := flat_singles (l := yss) fun c hc => by rw [(hty c hc).1, h1]
              refine ⟨[.lst yss.flatten], ?_, by simpa using hpl, ?_⟩
              · simp only [VPL]
                refine ⟨v, [], rfl, ?_, rfl⟩
                simp only [VP]
                by_cases hy : yss = []
                · exact .inl ⟨by simp [hy], hnil hy⟩
                · obtain ⟨b, o, c, arr, us, k1, k2, k3, k4, k5⟩ := hcons hy
                  exact .inr ⟨b, o, c, arr, us, by rw [hfl.1, hlen]; exact k1, by rw [hfl.1, hlen]; exact k2, k3, (VPLL_flat.1 k4).1, k5⟩
              · simp only [TyT, hp, hu, h1]
                exact ⟨_, rfl, by rw [hfl.1, hlen]; exact hml, fun y hy => (hty _ (hfl.2 y hy)).2⟩
            · refine ⟨[.lsts (P.cellsOf e) yss], ?_, by simpa using hpl, ?_⟩
              · simp only [VPL]
                refine ⟨v, [], rfl, ?_, rfl⟩
                simp only [VP]
                by_cases hy : yss = []
                · exact .inl ⟨hy, hnil hy⟩
                · obtain ⟨b, o, c, arr, us, k1, k2, k3, k4, k5⟩ := hcons hy
                  exact .inr ⟨b, o, c, arr, us, by rw [hlen]; exact k1, by rw [hlen]; exact k2, k3, k4, k5⟩
              · have hb : Nat.beq (P.cellsOf e) 1 = false := beq_ne h1
                simp only [TyT, hp, hu, hb]
                exact ⟨_, rfl, by rw [hlen]; exact hml, fun y hy => (hty _ hy).2⟩
          rcases DataW.trod_slice hu h with ⟨rfl, _⟩ | ⟨a, len, cap, elems, rest, n', rfl, rfl, _, _, hlc, hcm, hel, hE, _, _⟩
          · exact fin _ 0 [] (by simp [maxLen]) rfl (by simp) rfl (fun _ => ⟨none, 0, rfl⟩) (by simp)
          · have hcs : ∀ i, i < len → ∃ cs', W.cells? 0 (a.add (i * P.cellsOf e)) (P.cellsOf e) = some cs' ∧ Rd P fz m e cs' := by
              intro i hi
              have := hE i hi
              rw [List.getElem?_eq_getElem (by omega), Option.bind_eq_some_iff] at this
              obtain ⟨cs', h1, h2⟩ := this
              exact ⟨cs', h1, ih _ _ _ _ hse h2⟩
            by_cases hl0 : len = 0
            · subst hl0
              exact fin _ 0 [] (by simp [maxLen]) rfl (by simp) rfl (fun _ => ⟨_, _, rfl⟩) (by simp)
            · obtain ⟨cs0, c1, _⟩ := hcs 0 (by omega)
              have ha : a.add (0 * P.cellsOf e) = a := by simp [Addr.add]
              rw [ha] at c1
              obtain ⟨c, tt, z, hb, hsp, _, _, _⟩ := cells_take hs0 c1
              have key : ∀ k, k ≤ len → ∃ yss us, yss.length = k ∧ VPLL fz (P.cellsOf e) yss us ∧ (∀ u ∈ us, plainV u = true) ∧ (∀ ys ∈ yss, ys.length = P.cellsOf e ∧ TyT P m e ys) ∧ (k ≠ 0 → a.off + k * P.cellsOf e ≤ c.toList.length) ∧ us = (c.toList.drop a.off).take (k * P.cellsOf e) := by
                intro k
                induction k with
                | zero => intro _; exact ⟨[], [], rfl, by simp [VPLL], by simp, by simp, by simp, by simp⟩
                | succ k ihk =>
                  intro hk
                  obtain ⟨yss, us, k1, k2, k3, k4, k5, k6⟩ := ihk (by omega)
                  obtain ⟨cs', d1, ys, d2, d3, d4⟩ := hcs k (by omega)
                  obtain ⟨c', tt', z', e1, e2, e3, e4, e5⟩ := cells_take hs0 d1
                  have hblk : (a.add (k * P.cellsOf e)).block = a.block := by unfold Addr.add; split <;> rfl
                  have hoff : (a.add (k * P.cellsOf e)).off = a.off + k * P.cellsOf e := by unfold Addr.add; split <;> simp_all
                  rw [hblk, hb] at e1
                  simp only [Option.some.injEq, Obj.cells.injEq] at e1
                  obtain ⟨rfl, _, _⟩ := e1
                  rw [hoff] at e4 e5
                  have hys : ys.length = P.cellsOf e := by rw [← VPL_length d2, e3]
                  have hf := VPLL_flat.1 k2
                  refine ⟨yss ++ [ys], us ++ cs', by simp [k1], VPLL_flat.2 ⟨?_, ?_⟩, ?_, ?_, fun _ => by rw [Nat.succ_mul]; omega, ?_⟩
                  · simpa using VPL_append hf.1 d2
                  · intro q hq; rcases List.mem_append.1 hq with hq | hq
                    · exact hf.2 q hq
                    · simp at hq; subst hq; exact hys
                  · intro u hu; rcases List.mem_append.1 hu with hu | hu
                    · exact k3 u hu
                    · exact d3 u hu
                  · intro q hq; rcases List.mem_append.1 hq with hq | hq
                    · exact k4 q hq
                    · simp at hq; subst hq; exact ⟨hys, d4⟩
                  · rw [k6, e5, Nat.succ_mul, List.take_add, List.drop_drop]
              obtain ⟨yss, us, k1, k2, k3, k4, k5, k6⟩ := key len (Nat.le_refl _)
              have k5 := k5 hl0
              have hne : yss ≠ [] := by intro e; subst e; simp at k1; omega
              refine fin _ len yss (by omega) k1 k4 rfl (fun e => absurd e hne) fun _ => ⟨a.block, a.off, cap, c.toList, us, ?_, hlc, hfz _ _ _ _ hb, k2, ?_⟩
              · obtain ⟨ab, ao, asp⟩ := a; simp only [] at hsp; subst hsp; rfl
              · refine ⟨c.toList.take a.off, c.toList.drop (a.off + len * P.cellsOf e), ?_, ?_, k3⟩
                · rw [k6, List.append_assoc, ← List.drop_drop, List.take_append_drop, List.take_append_drop]
                · rw [List.length_take]; omega
        | _ => simp [basic] at hs

/-! ### Listed variables -/
mutual
def flatD : DataW H → Option (List PV)
  | .lit (.bool b) => some [.bool b]
  | .lit (.int k n) => some [.int k n]
  | .lit (.string s) => some [.str s]
  | .agg ps => flatDL ps
  | _ => none
def flatDL : List (DataW H) → Option (List PV)
  | [] => some []
  | d :: r => match flatD d, flatDL r with
    | some xs, some ys => some (xs ++ ys)
    | _, _ => none
end

end
end Go.Proofs.YtphmmoloegjocaaGreatDoor.Y

/- From contracts on data to the statements of rows. -/
namespace Go.Proofs.YtphmmoloegjocaaGreatDoor.Y
open Go

theorem mapM_mono {α β : Type} {f g : α → Option β} : ∀ {l : List α} {r : List β}, (∀ x ∈ l, ∀ y, f x = some y → g x = some y) → l.mapM f = some r → l.mapM g = some r
  | [], r, _, h => by simpa using h
  | x :: l, r, hfg, h => by
    simp only [List.mapM_cons, Option.bind_eq_bind, Option.bind_eq_some_iff, Option.pure_def, Option.some.injEq] at h ⊢
    obtain ⟨y, h1, ys, h2, h3⟩ := h
    exact ⟨y, hfg x (by simp) y h1, ys, mapM_mono (fun z hz => hfg z (by simp [hz])) h2, h3⟩

/-- All that was there is there as it was. -/
def Kept (W W' : World) : Prop := ∀ (b : Nat) (o : Obj), W.heap[b]? = some o → W'.heap[b]? = some o

section
variable {H : Type} {enc : TypeId × Value → H} {P : Program} {W W' : World} {sp' : Nat → Bool} {held : Bool}

theorem Kept.cell (hk : Kept W W') {a : Addr} {v : Value} (h : W.cell? a = some v) : W'.cell? a = some v := by
  unfold World.cell? at h ⊢
  split at h
  · rename_i c t z hb
    rw [hk _ _ hb]
    exact h
  · cases h
theorem Kept.cells (hk : Kept W W') {a : Addr} {n : Nat} {cs : List Value} (h : W.cells? 0 a n = some cs) : W'.cells? 0 a n = some cs := by
  unfold World.cells? at h ⊢
  rw [if_pos (Nat.zero_le _)] at h ⊢
  exact mapM_mono (fun _ _ _ hx => hk.cell hx) h

theorem trod_kept (hk : Kept W W') (hsp : ∀ b, b < W.heap.size → sp' b = true) : ∀ (m : Nat) (t : TypeId) (n : Nat) (cs : List Value) (x : DataW H × List MemPlace), supp P m t = true → DataW.trod enc P W 0 (fun _ => true) held n t cs = some x → DataW.trod enc P W' 0 sp' held n t cs = some x
  | 0, _, _, _, _, hs, _ => by simp [supp] at hs
  | m + 1, t, 0, cs, x, hs, h => by simp [DataW.trod] at h
  | m + 1, t, n + 1, cs, x, hs, h => by
    have ih := trod_kept hk hsp m
    simp only [supp] at hs
    cases hu : P.underlying t with
    | none =>
      have hp : partsOf P t = none := by simp [partsOf, hu]
      simp [hp, hu] at hs
    | some d =>
      cases d with
      | struct fs =>
        have hp : partsOf P t = some (fs.toList.map fun f => (f.type, f.offset)) := by simp [partsOf, hu]
        simp only [hp, Bool.and_eq_true, List.all_eq_true] at hs
        unfold DataW.trod at h ⊢
        rw [hu] at h ⊢
        simp only [] at h ⊢
        split at h
        · rename_i hl
          rw [if_pos hl]
          rw [Option.map_eq_some_iff] at h ⊢
          obtain ⟨xs, h1, h2⟩ := h
          exact ⟨xs, mapM_mono (fun f hf y hy => ih _ _ _ _ (hs.2 (f.type, f.offset) (List.mem_map_of_mem hf)) hy) h1, h2⟩
        · cases h
      | array k e =>
        have hp : partsOf P t = some ((List.range k).map fun i => (e, i * P.cellsOf e)) := by simp [partsOf, hu]
        simp only [hp, Bool.and_eq_true, List.all_eq_true] at hs
        unfold DataW.trod at h ⊢
        rw [hu] at h ⊢
        simp only [] at h ⊢
        split at h
        · rename_i hl
          rw [if_pos hl]
          rw [Option.map_eq_some_iff] at h ⊢
          obtain ⟨xs, h1, h2⟩ := h
          exact ⟨xs, mapM_mono (fun i hi y hy => ih _ _ _ _ (hs.2 (e, i * P.cellsOf e) (List.mem_map_of_mem hi)) hy) h1, h2⟩
        · cases h
      | bool =>
        obtain ⟨b, rfl, rfl⟩ := DataW.trod_bool hu h
        unfold DataW.trod; rw [hu]
      | int k =>
        obtain ⟨b, rfl, rfl, hw⟩ := DataW.trod_int hu h
        unfold DataW.trod; rw [hu]; simp [hw]
      | string =>
        obtain ⟨s, rfl, rfl, hw⟩ := DataW.trod_string hu h
        unfold DataW.trod; rw [hu]; simp [hw]
      | slice e =>
        have hp : partsOf P t = none := by simp [partsOf, hu]
        simp only [hp, hu, Bool.and_eq_true, decide_eq_true_eq] at hs
        rcases DataW.trod_slice hu h with ⟨rfl, rfl⟩ | ⟨a, len, cap, _, _, _, _, rfl, _⟩
        · unfold DataW.trod; rw [hu]; rfl
        unfold DataW.trod at h ⊢
        rw [hu] at h ⊢
        simp only [if_true] at h ⊢
        split at h
        rotate_left
        · cases h
        rename_i hc
        rw [if_pos hc]
        rw [Option.bind_eq_some_iff] at h ⊢
        obtain ⟨elems, h1, h2⟩ := h
        rw [Option.map_eq_some_iff] at h2
        obtain ⟨rest, h2, h3⟩ := h2
        have el : ∀ i y, (W.cells? 0 (a.add (i * P.cellsOf e)) (P.cellsOf e)).bind (DataW.trod enc P W 0 (fun _ => true) held n e) = some y → (W'.cells? 0 (a.add (i * P.cellsOf e)) (P.cellsOf e)).bind (DataW.trod enc P W' 0 sp' held n e) = some y := by
          intro i y hy
          rw [Option.bind_eq_some_iff] at hy ⊢
          obtain ⟨cs', g1, g2⟩ := hy
          exact ⟨cs', hk.cells g1, ih _ _ _ _ hs.2 g2⟩
        refine ⟨elems, mapM_mono (fun i _ y hy => el i y hy) h1, ?_⟩
        rw [Option.map_eq_some_iff]
        refine ⟨rest, ?_, h3⟩
        by_cases hd : cap - len = 0
        · rw [hd] at h2 ⊢
          simp at h2
          subst h2
          cases sp' a.block <;> simp
        · have hb : a.block < W.heap.size := by
            have hl := mapM_some_length h2
            rw [List.length_range] at hl
            have := mapM_some_get h2 0 0 (by rw [List.getElem?_eq_getElem (by simp; omega)]; simp)
            rw [List.getElem?_eq_getElem (by omega), Option.bind_eq_some_iff] at this
            obtain ⟨cs', g1, _⟩ := this
            obtain ⟨c, t', z, g3, _⟩ := cells_take hs.1 g1
            have hblk : (a.add ((len + 0) * P.cellsOf e)).block = a.block := by unfold Addr.add; split <;> rfl
            rw [hblk] at g3
            exact (Array.getElem?_eq_some_iff.1 g3).1
          rw [if_pos (hsp _ hb)]
          exact mapM_mono (fun i _ y hy => el (len + i) y hy) h2
      | _ =>
        have hp : partsOf P t = none := by simp [partsOf, hu]
        simp [hp, hu, basic] at hs

theorem trodAll_kept (hk : Kept W W') (hsp : ∀ b, b < W.heap.size → sp' b = true) (m : Nat) : ∀ {ts : List TypeId} {vs : List Value} {ds : List (DataW H)} {ps : List MemPlace}, ts.all (supp P m) = true → DataW.TrodAll enc P W 0 (fun _ => true) held ts vs ds ps → DataW.TrodAll enc P W' 0 sp' held ts vs ds ps
  | [], [], [], ps, _, h => h
  | t :: ts, v :: vs, d :: ds, ps, hs, h => by
    simp only [List.all_cons, Bool.and_eq_true] at hs
    obtain ⟨p, q, ⟨fuel, h1⟩, h2, h3⟩ := h
    exact ⟨p, q, ⟨fuel, trod_kept hk hsp m _ _ _ _ hs.1 h1⟩, trodAll_kept hk hsp m hs.2 h2, h3⟩
  | [], [], _ :: _, ps, _, h => by simp [DataW.TrodAll] at h
  | [], _ :: _, _, ps, _, h => by simp [DataW.TrodAll] at h
  | _ :: _, [], _, ps, _, h => by simp [DataW.TrodAll] at h
  | _ :: _, _ :: _, [], ps, _, h => by simp [DataW.TrodAll] at h

/-- An argument of a type. -/
def ArgT (P : Program) (m : Nat) (t : TypeId) (x : PV) : Prop := match partsOf P t with
  | some _ => ∃ xs, x = .agg xs ∧ TyT P m t xs
  | none => TyT P m t [x]
def ArgsT (P : Program) (m : Nat) : List TypeId → List PV → Prop
  | [], xs => xs = []
  | t :: ts, xs => ∃ x r, xs = x :: r ∧ ArgT P m t x ∧ ArgsT P m ts r

def fzOf (W : World) : Fzn := fun b => match W.heap[b]? with
  | some (.cells c _ _) => some c.toList
  | _ => none
theorem fzOf_all (W : World) : AllCells (fzOf W) W := fun b c t z h => by simp [fzOf, h]
theorem fzOf_some {b : Nat} {arr : List Value} (h : fzOf W b = some arr) : ∃ c t z, W.heap[b]? = some (.cells c t z) ∧ arr = c.toList := by
  unfold fzOf at h
  split at h
  · rename_i c t z hb
    injection h with h
    exact ⟨c, t, z, hb, h.symm⟩
  · cases h

theorem arg_of {m : Nat} {base : Nat} {t : TypeId} {v : Value} {d : DataW H} {ps : List MemPlace} (hs : supp P m t = true) (hval : Value.okWide P W .any base t v) (h : DataW.Trod enc P W 0 (fun _ => true) true t v d ps) : ∃ x, VP (fzOf W) x v ∧ ArgT P m t x := by
  obtain ⟨fuel, h⟩ := h
  obtain ⟨xs, h1, h2, h3⟩ := typed_of_trod (fzOf_all W) m t fuel _ _ hs h
  unfold Value.okWide at hval
  cases hp : partsOf P t with
  | some l =>
    have : ∃ cs, v = .agg cs := by
      unfold partsOf at hp
      split at hp
      · rename_i fs hu; simp only [hu] at hval; obtain ⟨cs, h, _⟩ := hval; exact ⟨cs, h⟩
      · rename_i k e hu; simp only [hu] at hval; obtain ⟨cs, h, _⟩ := hval; exact ⟨cs, h⟩
      · cases hp
    obtain ⟨cs, rfl⟩ := this
    exact ⟨.agg xs, by simp only [VP]; exact ⟨cs, rfl, h1⟩, by simp only [ArgT, hp]; exact ⟨xs, rfl, h3⟩⟩
  | none =>
    have hv : v.cells = #[v] := by
      cases m with
      | zero => simp [supp] at hs
      | succ m =>
        simp only [supp, hp] at hs
        cases hu : P.underlying t with
        | none => simp [hu] at hs
        | some d =>
          simp only [hu] at hs hval
          cases d with
          | struct fs => simp [partsOf, hu] at hp
          | array k e => simp [partsOf, hu] at hp
          | bool => cases v <;> simp_all [Cell.okWide, Cell.ok, Value.cells]
          | int k => cases v <;> simp_all [Cell.okWide, Cell.ok, Value.cells]
          | string => cases v <;> simp_all [Cell.okWide, Cell.ok, Value.cells]
          | slice e => cases v <;> simp_all [Cell.okWide, Cell.ok, Value.cells]
          | _ => simp [basic] at hs
    rw [hv] at h1
    obtain ⟨x, rfl, h4⟩ : ∃ x, xs = [x] ∧ VP (fzOf W) x v := by
      match xs, h1 with
      | [], h1 => simp [VPL] at h1
      | x :: r, h1 =>
        simp only [VPL] at h1
        obtain ⟨u, us, e, g1, g2⟩ := h1
        simp only [List.cons.injEq] at e
        obtain ⟨rfl, rfl⟩ := e
        match r, g2 with
        | [], _ => exact ⟨x, rfl, g1⟩
        | y :: r, g2 => simp [VPL] at g2
    exact ⟨x, h4, by simp only [ArgT, hp]; exact h3⟩

theorem args_of {m base : Nat} : ∀ {ts : List TypeId} {vs : List Value} {ds : List (DataW H)} {ps : List MemPlace}, ts.all (supp P m) = true → (∀ (j : Nat) t v, ts[j]? = some t → vs[j]? = some v → Value.okWide P W .any base t v) → DataW.TrodAll enc P W 0 (fun _ => true) true ts vs ds ps →
    ∃ xs, VPL (fzOf W) xs vs ∧ ArgsT P m ts xs ∧ ds.length = ts.length
  | [], [], [], ps, _, _, _ => ⟨[], by simp [VPL], rfl, rfl⟩
  | t :: ts, v :: vs, d :: ds, ps, hs, hv, h => by
    simp only [List.all_cons, Bool.and_eq_true] at hs
    obtain ⟨p, q, h1, h2, h3⟩ := h
    obtain ⟨x, g1, g2⟩ := arg_of hs.1 (hv 0 t v rfl rfl) h1
    obtain ⟨xs, k1, k2, k3⟩ := args_of hs.2 (fun j t v ht hv' => hv (j + 1) t v ht hv') h2
    exact ⟨x :: xs, by simp only [VPL]; exact ⟨v, vs, rfl, g1, k1⟩, ⟨x, xs, rfl, g2, k2⟩, by simp [k3]⟩
  | [], [], _ :: _, ps, _, _, h => by simp [DataW.TrodAll] at h
  | [], _ :: _, _, ps, _, _, h => by simp [DataW.TrodAll] at h
  | _ :: _, [], _, ps, _, _, h => by simp [DataW.TrodAll] at h
  | _ :: _, _ :: _, [], ps, _, _, h => by simp [DataW.TrodAll] at h
end

section
variable {cx : Cx}

/-- A law on data, called in a world. -/
theorem calls_of_pure {H : Type} {enc : TypeId × Value → H} {W : World} {f : FuncId} {fn : Func} {c : Code} {m base : Nat} {args : Array Value} {ds : List (DataW H)} {ps : List MemPlace}
    (hf : cx.P.funcs[f]? = some fn) (hname : (fn.name == "runtime.NumGoroutine") = false) (hb : fn.body = some c) (hs : fn.params.toList.all (supp cx.P m) = true)
    (hpure : ∀ xs, ArgsT cx.P m fn.params.toList xs → Pure cx f xs (· = .ret [.bool true]))
    (hval : ∀ (j : Nat) t v, fn.params[j]? = some t → args[j]? = some v → Value.okWide cx.P W .any base t v)
    (hA : DataW.TrodAll enc cx.P W 0 (fun _ => true) true fn.params.toList args.toList ds ps)
    (hglob : ∀ g cs, gget cx.gt g = some cs → VP (fzOf W) (.fp cs) (.pointer (some ⟨g, 0, none⟩))) :
    Calls cx.P f args W fun e W' => e = .returned (.bool true) ∧ W'.os = W.os ∧ W'.output = W.output ∧ ∀ k, k < W.heap.size → W'.heap[k]? = W.heap[k]? := by
  obtain ⟨xs, h1, h2, _⟩ := args_of hs (fun j t v ht hv => hval j t v (by simpa using ht) (by simpa using hv)) hA
  have hR : R cx ⟨fun _ => none, fzOf W⟩ ⟨0, []⟩ W := by
    refine ⟨hglob, fun _ _ => rfl, fun b arr hb => ?_, fun n o hn => by simp [lget] at hn, fun n o q hn => by simp [lget] at hn, fun n o m p q q' hn => by simp [lget] at hn⟩
    obtain ⟨c, t, z, g1, rfl⟩ := fzOf_some hb
    exact ⟨t, z, g1⟩
  have key : ∀ e w', Post cx ⟨fun _ => none, fzOf W⟩ ⟨0, []⟩ W (EndP (· = .ret [.bool true])) e w' → e = .returned (.bool true) ∧ w'.os = W.os ∧ w'.output = W.output ∧ ∀ k, k < W.heap.size → w'.heap[k]? = W.heap[k]? := by
    intro e w' hP
    obtain ⟨r, Γ', hq, _, hE, _, hT, _⟩ := pure_post hR hP
    subst hq
    obtain ⟨v', rfl, hv⟩ := hE
    simp only [VR, VP] at hv
    subst hv
    exact ⟨rfl, hT.os, hT.output, fun k hk => hT.kept k hk own_nil⟩
  have hrun := run_enter hf hname hb args W
  rcases hpure xs h2 ⟨fun _ => none, fzOf W⟩ W args.toList hR (VRL_p.2 h1) with ⟨_, h4⟩ | ⟨v', w', h4, _⟩
  · exact h4.mono key
  · rw [hrun] at h4
    injection h4 with h4
    cases h4

/-- What a law's row asks behind the call. -/
theorem post_of_kept {H : Type} {enc : TypeId × Value → H} {W W' : World} {fn : Func} {s : ChangeSpec} {m : Nat} {bt : TypeId} {apart fresh handsOn : Bool} {args : Array Value} {ds gs : List (DataW H)} {before : List MemPlace}
    (hs : fn.params.toList.all (supp cx.P m) = true) (hvars : s.vars = []) (hres : fn.resultTypes = #[bt]) (hbt : cx.P.underlying bt = some .bool)
    (hfn : ∀ ds : List (DataW H), ds.length = fn.params.toList.length → s.fn H ds = { results := [.lit (.bool true)], args := ds })
    (hW : DataW.Whole enc cx.P fn.params.toList s.vars apart W args.toList ds gs before) (hlen : ds.length = fn.params.toList.length)
    (hos : W'.os = W.os) (hout : W'.output = W.output) (hkept : ∀ k, k < W.heap.size → W'.heap[k]? = W.heap[k]?) :
    s.post enc cx.P fn apart fresh handsOn false W args (.bool true) W' := by
  have hk : Kept W W' := fun b o hb => by rw [hkept b (Array.getElem?_eq_some_iff.1 hb).1]; exact hb
  have hW' := hW
  obtain ⟨p, q, h1, h2, _, _, _⟩ := hW'
  rw [hvars] at h2
  obtain ⟨rfl, rfl⟩ := Go.ChangeShapes.trodVars_none h2
  have e : s.fn H (ds ++ []) = { results := [.lit (.bool true)], args := ds } := by rw [List.append_nil]; exact hfn ds hlen
  refine ⟨ds, [], before, [], p, [], hW, ?_, ?_, ?_, ?_, fun h => by cases h⟩
  · rw [e, hres]
    exact Go.ChangeShapes.trodAll_mk1 (Go.RowKit.shut_bool hbt true)
  · rw [e]
    exact trodAll_kept hk (fun b hb => by simpa using hb) m hs h1
  · rw [e, hvars]
    rfl
  · refine ⟨hos, hout, fun i hi => ?_⟩
    rw [hkept i hi]
    have := Array.getElem?_eq_getElem hi
    rw [this]
    cases W.heap[i] <;> simp
end
end Go.Proofs.YtphmmoloegjocaaGreatDoor.Y

/- Arguments of the statements: drafts. -/
namespace Go.Proofs.YtphmmoloegjocaaGreatDoor
open Go Y
set_option maxRecDepth 100000
set_option maxHeartbeats 4000000

theorem ty_u8 {m : Nat} {xs : List PV} (h : TyT Tryz.prog (m + 1) 5 xs) : ∃ b : UInt8, xs = [u8 b] := by
  have hp : partsOf Tryz.prog 5 = none := by simp [partsOf, Tryz.underlying5]
  simp only [TyT, hp, Tryz.underlying5] at h
  obtain ⟨n, rfl, hw⟩ := h
  have := bounds_u8 hw
  refine ⟨UInt8.ofNat n.toNat, ?_⟩
  have e : ((UInt8.ofNat n.toNat).toNat : Int) = n := by
    simp
    omega
  rw [u8, e]
theorem lift_list {α : Type} {f : α → PV} {P : α → Prop} {ys : List PV} (h : ∀ y ∈ ys, ∃ a, y = f a ∧ P a) : ∃ zs : List α, ys = zs.map f ∧ ∀ z ∈ zs, P z := by
  induction ys with
  | nil => exact ⟨[], rfl, by simp⟩
  | cons y r ih =>
    obtain ⟨a, rfl, ha⟩ := h y (by simp)
    obtain ⟨zs, rfl, hz⟩ := ih fun z hz => h z (by simp [hz])
    exact ⟨a :: zs, rfl, fun z hm => by rcases List.mem_cons.1 hm with rfl | hm; exact ha; exact hz z hm⟩
theorem ty_bytes {m : Nat} {xs : List PV} (h : TyT Tryz.prog (m + 2) 26 xs) : ∃ bs : List UInt8, xs = [.lst (bs.map u8)] ∧ bs.length ≤ 9223372036854775807 := by
  have hp : partsOf Tryz.prog 26 = none := by simp [partsOf, Tryz.underlying26]
  have hc : Tryz.prog.cellsOf 5 = 1 := by kernel_rfl
  rw [TyT] at h
  simp only [hp, Tryz.underlying26, hc] at h
  obtain ⟨ys, rfl, hl, hy⟩ := h
  obtain ⟨bs, rfl, _⟩ := lift_list (f := u8) (P := fun _ => True) fun y hy' => by
    obtain ⟨b, hb⟩ := ty_u8 (hy y hy')
    simp at hb
    exact ⟨b, hb, trivial⟩
  exact ⟨bs, rfl, by rw [List.length_map] at hl; exact hl⟩
theorem lift_lists {α : Type} {f : α → List PV} {P : α → Prop} {ys : List (List PV)} (h : ∀ y ∈ ys, ∃ a, y = f a ∧ P a) : ∃ zs : List α, ys = zs.map f ∧ ∀ z ∈ zs, P z := by
  induction ys with
  | nil => exact ⟨[], rfl, by simp⟩
  | cons y r ih =>
    obtain ⟨a, rfl, ha⟩ := h y (by simp)
    obtain ⟨zs, rfl, hz⟩ := ih fun z hz => h z (by simp [hz])
    exact ⟨a :: zs, rfl, fun z hm => by rcases List.mem_cons.1 hm with rfl | hm; exact ha; exact hz z hm⟩
theorem ty_piece {m : Nat} {xs : List PV} (h : TyT Tryz.prog (m + 3) 67 xs) : ∃ p : Pc, xs = p.cells ∧ p.w.length ≤ 9223372036854775807 := by
  have hp : partsOf Tryz.prog 67 = some [(5, 0), (5, 1), (26, 2)] := by kernel_rfl
  rw [TyT] at h
  simp only [hp] at h
  obtain ⟨x1, _, rfl, _, h1, x2, _, rfl, _, h2, x3, _, rfl, _, h3, rfl⟩ := h
  obtain ⟨a, rfl⟩ := ty_u8 h1
  obtain ⟨b, rfl⟩ := ty_u8 h2
  obtain ⟨c, rfl, hc⟩ := ty_bytes h3
  exact ⟨⟨a, b, c⟩, rfl, hc⟩
theorem ty_pieces {m : Nat} {xs : List PV} (h : TyT Tryz.prog (m + 4) 25 xs) : ∃ l : List Pc, xs = [.lsts 3 (l.map Pc.cells)] ∧ l.length ≤ 9223372036854775807 ∧ ∀ p ∈ l, p.w.length ≤ 9223372036854775807 := by
  have hp : partsOf Tryz.prog 25 = none := by simp [partsOf, Tryz.underlying25]
  have hc : Tryz.prog.cellsOf 67 = 3 := by kernel_rfl
  rw [TyT] at h
  simp only [hp, Tryz.underlying25, hc] at h
  obtain ⟨ys, rfl, hn, hy⟩ := h
  obtain ⟨l, rfl, hl⟩ := lift_lists (f := Pc.cells) (P := fun p => p.w.length ≤ 9223372036854775807) fun y hy' => ty_piece (hy y hy')
  rw [List.length_map] at hn
  exact ⟨l, rfl, hn, hl⟩
theorem ty_draft5 {m : Nat} {xs : List PV} (h : TyT Tryz.prog (m + 5) 28 xs) : ∃ D : D5, xs = D.cells ∧ OkD5 D := by
  have hp : partsOf Tryz.prog 28 = some [(5, 0), (25, 1), (26, 2)] := by kernel_rfl
  rw [TyT] at h
  simp only [hp] at h
  obtain ⟨x1, _, rfl, _, h1, x2, _, rfl, _, h2, x3, _, rfl, _, h3, rfl⟩ := h
  obtain ⟨a, rfl⟩ := ty_u8 h1
  obtain ⟨b, rfl, hb1, hb2⟩ := ty_pieces h2
  obtain ⟨c, rfl, hc⟩ := ty_bytes h3
  exact ⟨⟨a, b, c⟩, rfl, ⟨hb1, hc, hb2⟩⟩
theorem arg_draft5 {m : Nat} {x : PV} (h : ArgT Tryz.prog (m + 5) 28 x) : ∃ D : D5, x = D.pv ∧ OkD5 D := by
  have hp : partsOf Tryz.prog 28 = some [(5, 0), (25, 1), (26, 2)] := by kernel_rfl
  simp only [ArgT, hp] at h
  obtain ⟨xs, rfl, h⟩ := h
  obtain ⟨w, rfl, hw⟩ := ty_draft5 h
  exact ⟨w, rfl, hw⟩
end Go.Proofs.YtphmmoloegjocaaGreatDoor

/- Arguments of the statements: networks, changes. -/
namespace Go.Proofs.YtphmmoloegjocaaGreatDoor
open Go Y
set_option maxRecDepth 100000
set_option maxHeartbeats 4000000

/-- A change of a network. -/
structure B5 where
  what : UInt8
  place : UInt8
  row : UInt8
  n : Int
abbrev B5.cells (B : B5) : List PV := [u8 B.what, u8 B.place, u8 B.row, i64 B.n]
abbrev B5.pv (B : B5) : PV := .agg B.cells
end Go.Proofs.YtphmmoloegjocaaGreatDoor

/- The listed tables, as the rows of format ask. -/
namespace Go.Proofs.YtphmmoloegjocaaGreatDoor
open Go Y
set_option maxRecDepth 100000

theorem own : ownKnob Tryz.prog.godebug = none := by kernel_rfl
abbrev laidD : List (String × DataW Unit) := [("math/bits.deBruijn32tab", Rows.laid_math_bits_deBruijn32tab), ("math/bits.deBruijn64tab", Rows.laid_math_bits_deBruijn64tab), ("internal/strconv.uint64pow10", Rows.laid_internal_strconv_uint64pow10), ("unicode/utf8.acceptRanges", Rows.laid_unicode_utf8_acceptRanges), ("unicode/utf8.first", Rows.laid_unicode_utf8_first)]
theorem door_metD (os : Os) (args : Array Value) : laidMetH Tryz.prog laidD ((World.laidAll Tryz.prog os laidD).forCall (fun _ _ => 0) ⟨#[], args, []⟩).memory := by
  rw [MakeChecks.laidMetH_plain _ _ _ (by kernel_rfl)]
  exact laidMet_laidAll _ (by kernel_rfl) (by kernel_rfl)
end Go.Proofs.YtphmmoloegjocaaGreatDoor

/- Rows over worlds whose bytealg.MaxLen is some number. -/
namespace Go.Proofs.YtphmmoloegjocaaGreatDoor
open Go Y
set_option maxRecDepth 100000

theorem handed_shaped {H : Type} {enc : TypeId × Value → H} {a : Assume} {C : Checked} {os : Os} {f : FuncId} {fn : Func} {s : ChangeSpec} {conds : List PathCond} {apart fresh handsOn again : Bool} {X : World → Array Value → Prop}
    (hX : ∀ (w w' : World) (args : Array Value), w.heap = w'.heap → X w args → X w' args)
    (own : ownKnob C.prog.godebug = none) (started : os.Started) (noInit : C.prog.inits.idxOf? f = none) (hfn : C.prog.funcs[f]? = some fn)
    (witness : ∃ (w : World) (tape : Tape) (i : Input), w.os = os ∧ (w.forCall tape i).Shaped C.prog ∧ i.vars = [] ∧ Input.okWide C.prog (w.forCall tape i) .any w.heap.size f i ∧
      ((s.pre enc C.prog fn conds apart (w.forCall tape i).memory i.args ∧ X (w.forCall tape i).memory i.args) ∧ sizedMet enc C.prog fn (OpenSpec.ofChange s) apart (w.forCall tape i).memory i.args) ∧ a.holds C.prog (lone (Frame.enter C.prog f i.args .normal) [] (w.forCall tape i)))
    (contract : ∀ (W : World) (base : Nat) (args : Array Value) (ds gs : List (DataW H)) (before : List MemPlace), W.ShapedOpen C.prog →
      (∀ (j : Nat) t v, fn.params[j]? = some t → args[j]? = some v → Value.okWide C.prog W .any base t v) →
      DataW.Whole enc C.prog fn.params.toList s.vars apart W args.toList ds gs before → X W args →
      Calls C.prog f args W fun e W' => ∃ v, e = .returned v ∧ s.post enc C.prog fn apart fresh handsOn again W args v W') :
    ReturnsInHanded a C os f .any (fun w args => (s.pre enc C.prog fn conds apart w args ∧ X w args) ∧ sizedMet enc C.prog fn (OpenSpec.ofChange s) apart w args) (s.post enc C.prog fn apart fresh handsOn again) := by
  refine returnsInHanded_of_calls own started noInit witness ?_
  intro w tape i _ hsh _ hok hpre _
  obtain ⟨_, _, _, fn', hfn', _, _, _, _, hval⟩ := hok
  have e : fn' = fn := Option.some.inj (hfn'.symm.trans hfn)
  subst e
  obtain ⟨⟨⟨ds, gs, before, hw, _⟩, hx⟩, _⟩ := hpre
  have hw' := DataW.Whole.of_heap (w' := w.forCall tape i) (by rfl) hw
  refine (contract (w.forCall tape i) w.heap.size i.args ds gs before hsh hval hw' (hX _ _ _ (by rfl) hx)).mono fun e W' ⟨v, he, hp⟩ => ?_
  subst he
  exact ChangeSpec.post_blind hp
theorem max_cell {W : World} (h : W.ShapedOpen Tryz.prog) : ∃ m, W.cell? ⟨0, 0, none⟩ = some (.int .i64 m) :=
  Go.Proofs.cell_of_shapedOpen_int (zero := #[.int .i64 0]) (t := 3) h (of_decide_eq_true (by kernel_rfl)) (by kernel_rfl) rfl (by kernel_rfl) (by kernel_rfl) Tryz.underlying3
theorem glob_max {m : Int} {W : World} (h : W.cell? ⟨0, 0, none⟩ = some (.int .i64 m)) : ∀ g cs, gget (cxm m).gt g = some cs → VP (fzOf W) (.fp cs) (.pointer (some ⟨g, 0, none⟩)) := by
  intro g cs hg
  simp only [cxm, gget] at hg
  split at hg
  · cases hg
    rename_i hb
    have hgm : g = 0 := by
      have := Nat.eq_of_beq_eq_true hb
      omega
    subst hgm
    unfold World.cell? at h
    split at h
    · rename_i c t z hc
      simp only [] at h
      have hl : c.toList[0]? = some (.int .i64 m) := by simpa using h
      simp only [VP, VPL]
      refine ⟨_, _, c.toList, [.int .i64 m], rfl, by simp [fzOf, hc], ⟨_, _, rfl, rfl, rfl⟩, [], c.toList.drop 1, ?_, rfl, by simp [plainV]⟩
      cases hcl : c.toList with
      | nil => rw [hcl] at hl; cases hl
      | cons x r =>
        rw [hcl] at hl
        cases hl
        rfl
    · cases h
  · cases hg
end Go.Proofs.YtphmmoloegjocaaGreatDoor

/- FormatBack: the row and the card. Both forms of a network are read as that network, also with other blanks; two networks with the same form are equal; for all pairs of drafts. Conditions: those of the card. -/
namespace Go.Proofs.YtphmmoloegjocaaGreatDoor
open Go Y
set_option maxRecDepth 100000

theorem formatBack_pure (m : Int) : ∀ xs, ArgsT Tryz.prog 8 Tryz.f6.params.toList xs → Pure (cxm m) 6 xs (· = .ret [.bool true]) := by
  intro xs h
  rw [Tryz.params6] at h
  obtain ⟨x0, _, rfl, h0, x1, _, rfl, h1, rfl⟩ := h
  obtain ⟨v0, rfl, g0⟩ := arg_draft5 h0
  obtain ⟨v1, rfl, g1⟩ := arg_draft5 h1
  exact formatBack_c m v0 v1 g0 g1
theorem formatBack_lifted (os : Os) (started : os.Started) (H : Type) (enc : TypeId × Value → H) :
    ReturnsInHanded {} Tryz.checked os 6 .any (fun w args => (Rows.formatBackSpec.pre enc Tryz.prog Tryz.f6 [] false w args ∧ laidMetH Tryz.prog laidD w) ∧ sizedMet enc Tryz.prog Tryz.f6 (OpenSpec.ofChange Rows.formatBackSpec) false w args)
      (Rows.formatBackSpec.post enc Tryz.prog Tryz.f6 false true false false) := by
  refine handed_shaped (C := Tryz.checked) (X := fun w _ => laidMetH Tryz.prog laidD w) (fun _ _ _ hh h => h.of_heap hh) own started (by kernel_rfl) Tryz.func6
    (ChangeSpec.witness_shaped (enc := enc) (C := Tryz.checked) (os := os) (X := fun w _ => laidMetH Tryz.prog laidD w) false (World.laidAll Tryz.prog os laidD) #[.agg #[.int .u8 0, .slice none 0 0, .slice none 0 0], .agg #[.int .u8 0, .slice none 0 0, .slice none 0 0]] 8 (World.laidAll_os _ _ _) (World.shaped_of_ZipB (by kernel_rfl) (by kernel_rfl)) (by kernel_rfl) (by kernel_rfl) (by kernel_rfl) (door_metD os _)) ?_
  intro W base args ds gs before hsh hval hW _
  obtain ⟨m, hm⟩ := max_cell hsh
  obtain ⟨p, q, hA, hV, _⟩ := id hW
  have hs : Tryz.f6.params.toList.all (supp Tryz.prog 8) = true := by kernel_rfl
  obtain ⟨_, _, _, hlen⟩ := args_of hs (fun j t v ht hv => hval j t v (by simpa using ht) (by simpa using hv)) hA
  refine (calls_of_pure (cx := cxm m) Tryz.func6 (by kernel_rfl) rfl hs (formatBack_pure m) hval hA (glob_max hm)).mono fun e W' ⟨he, h1, h2, h3⟩ => ?_
  subst he
  exact ⟨_, rfl, post_of_kept (cx := cxm m) (m := 8) hs rfl (by kernel_rfl) Tryz.underlying4 (fun ds h => by
    rw [Tryz.params6] at h
    match ds, h with
    | [_, _], _ => rfl) hW hlen h1 h2 h3⟩

theorem formatBack_holds : Rows.FormatBackSaid :=
  OpenClaim.holds_of_wide 6 Tryz.f6 rfl rfl rfl rfl rfl rfl rfl ⟨rfl, rfl, rfl, rfl, rfl⟩ rfl rfl rfl rfl rfl (by kernel_rfl) Tryz.func6 (by kernel_rfl)
    (of_decide_eq_true (by kernel_rfl)) (by unfold Func.isWrapper; first | (rw [if_pos (by decide +kernel)]; kernel_rfl) | (rw [if_neg (by decide +kernel)]; exact ⟨rfl, rfl⟩))
    (fun os started H enc _ => formatBack_lifted os started H enc)

theorem formatBack_card : Rows.FormatBackCardSaid :=
  Claim7.holds_tied_plain_at .later [] [.data, .data, .data, .data, .pinned] true (true, "05df7281f202b8135faad0929ba83131a8abc96c8d0575467d8e0ee31e71e4e4") true
    formatBack_holds (fun _ h => by cases h) (by kernel_rfl) (fun _ h => by cases h) formatBack_row_tie rfl ⟨rfl, rfl⟩ (by kernel_rfl) rfl
    (fun f fn hf hfn => by
      obtain rfl : f = 6 := Option.some.inj ((show Tryz.prog.funcNamed "haruspex/haruspexlaw41.FormatBack" = some 6 by kernel_rfl).symm.trans hf) |>.symm
      obtain rfl : fn = Tryz.f6 := (Option.some.inj (Tryz.func6.symm.trans hfn)).symm
      exact ⟨by kernel_rfl, fun j t ht => by
        have hall : (Tryz.f6.params.toList.all fun u => !Tryz.prog.wantsStandIn u) = true := by kernel_rfl
        exact (show Tryz.prog.wantsStandIn t = false by simpa using List.all_eq_true.1 hall t (by simpa using Array.mem_of_getElem? ht))⟩)
    (by kernel_rfl)
#print axioms formatBack_card
end Go.Proofs.YtphmmoloegjocaaGreatDoor
