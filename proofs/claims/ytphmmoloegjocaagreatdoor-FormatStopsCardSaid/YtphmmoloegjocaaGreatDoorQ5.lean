/- FormatStops: the row and the card. What is not as it must be is reported where it stands: lines, and nested texts that are cut off or have something behind them; for all drafts and places. Conditions: those of the card. -/
import Derived.Shelf.Strings.Builder1
import Derived.Shelf.Strings.Builder2
import Derived.Shelf.Strings.OnBuilder
import Derived.Shelf.Strings.Trim
import Derived.Shelf.Small.Utf8
import Derived.Shelf.Small.Strs
import Derived.Shelf.Strings.BuilderF
import Derived.Shelf.Utf8.RuneCount
import Derived.Shelf.Strconv.Itoa0
import Derived.Shelf.Strconv.Itoa1
import Derived.Shelf.LaysM
import Derived.Shelf.Strconv.Itoa2
import Derived.Shelf.Strconv.Itoa3
import Derived.Shelf.Strings.Search1
import Derived.Shelf.Strings.Search2
import Derived.Shelf.Strings.Search3
import Derived.Shelf.Strings.Cut
import Derived.Shelf.Strings.Count
import Derived.Shelf.Strings.Shaped
import Derived.Shelf.Strings.Prefix
import Derived.Shelf.Strings.Split
import Derived.Shelf.Strings.Replace
import Derived.Shelf.Strings.SplitShaped
import Derived.Shelf.Unicode.Decode
import Derived.Shelf.Strings.Runes
import Derived.Shelf.Strings.RuneCount
import Derived.Shelf.Strings.AsciiSet
import Derived.Shelf.Strings.Explode
import Derived.Shelf.Unicode.DecodeSlow
import Derived.Shelf.Unicode.DecodeAny
import Derived.Shelf.Strings.FieldsFuncAny
import Derived.Shelf.Strings.FieldsFuncGrows
import Derived.Test.YtphmmoloegjocaaGreatDoorProg
import Derived.ChangeArms
import Derived.OpenShut
import Derived.WideHanded
import Derived.ChangeSame
import Derived.ProofKit
import Derived.LaidMore
import Derived.LaidLaws
import Derived.Stop.Joined
import Derived.MakeChecks
import Derived.Test.YtphmmoloegjocaaGreatDoorRows
import Derived.Lay
import Derived.Test.YtphmmoloegjocaaGreatDoorCards
import Derived.Test.YtphmmoloegjocaaGreatDoorTie
import Derived.SevenTiedAt
import Derived.Test.YtphmmoloegjocaaGreatDoorQ4
/- Reading nested texts: a form's text, also with other blanks; texts that are cut off (plain). -/
namespace Go.Proofs.YtphmmoloegjocaaGreatDoor
open Go Y
set_option maxRecDepth 100000
set_option maxHeartbeats 4000000

/-! ### The words that stand at a place -/
def At (s : List UInt8) : Nat → List (List UInt8) → Nat → Prop
  | p, [], q => p = q
  | p, w :: ts, q => tok s p = w ∧ At s (te s p) ts q
theorem at_app {s : List UInt8} : ∀ {a b : List (List UInt8)} {p q : Nat}, At s p (a ++ b) q → ∃ m, At s p a m ∧ At s m b q
  | [], b, p, q, h => ⟨p, rfl, h⟩
  | w :: a, b, p, q, h => by
    obtain ⟨h1, h2⟩ := h
    obtain ⟨m, h3, h4⟩ := at_app h2
    exact ⟨m, ⟨h1, h3⟩, h4⟩
theorem at_len {s : List UInt8} : ∀ {ts : List (List UInt8)} {p q : Nat}, p ≤ s.length → At s p ts q → (∀ w ∈ ts, w ≠ []) → p + ts.length ≤ q ∧ q ≤ s.length
  | [], p, q, hp, h, _ => by
    have h : p = q := h
    simp only [List.length_nil]; omega
  | w :: ts, p, q, hp, h, hne => by
    obtain ⟨h1, h2⟩ := h
    have h3 := te_lt hp (by rw [h1]; exact hne w (by simp))
    have h4 := at_len (te_le hp).2 h2 fun v hv => hne v (by simp [hv])
    rw [List.length_cons]; omega
theorem then_run {α β : Type} (a : α) (p : Nat) (k : α → Nat → Rd β) : Rd.then (.inr (a, p)) k = k a p := rfl
theorem dec_close {x : Int} (h0 : 0 ≤ x) (h : x < 100) : dec x ≠ kClose := fun e => by
  have := (dec_num h0 h).1
  rw [e] at this
  exact absurd this (by decide)
theorem num_at {s : List UInt8} {p : Nat} {x : Int} (h0 : 0 ≤ x) (h : x < 100) (e : tok s p = dec x) : numP s p = .inr (x, te s p) := by
  have hd := dec_num h0 h
  rw [numP, e, if_pos hd.1, hd.2]
theorem must_at {s w : List UInt8} {p : Nat} (e : tok s p = w) : mustP s w p = .inr ((), te s p) := by rw [mustP, if_pos e]
theorem nums_at {s : List UInt8} : ∀ {l : List Int} {F p q : Nat} {acc : List Int}, two l → l.length < F → At s p (l.map dec) q → tok s q = kClose → numsP s F acc p = .inr (acc ++ l, nx s q)
  | [], F + 1, p, q, acc, _, _, ha, hq => by
    have ha : p = q := ha
    rw [numsP, ha, if_pos hq, List.append_nil]
  | x :: l, F + 1, p, q, acc, h, hl, ha, hq => by
    obtain ⟨h1, h2⟩ := ha
    have hx := h x (by simp)
    rw [numsP, if_neg (by rw [h1]; exact dec_close hx.1 hx.2), num_at hx.1 hx.2 h1]
    show numsP s F (acc ++ [x]) (te s p) = _
    rw [nums_at (fun y hy => h y (by simp [hy])) (by simpa using hl) h2 hq]
    simp
def lstT (l : List Int) : List (List UInt8) := kOpen :: (l.map dec ++ [kClose])
theorem lst_at {s : List UInt8} {l : List Int} {F p q : Nat} (h : two l) (hl : l.length < F) (ha : At s p (lstT l) q) : lstP s F p = .inr (l, q) := by
  obtain ⟨h1, h2⟩ := ha
  obtain ⟨m, h3, h4, h5⟩ := at_app h2
  have h5 : te s m = q := h5
  rw [lstP, must_at h1, then_run, nums_at h hl h3 h4, then_run, must_nx, must_at h4, then_run, h5]; rfl
theorem row_at {s : List UInt8} {l : List Int} {F p q : Nat} (h : two l) (hne : l ≠ []) (hl : l.length < F) (ha : At s p (lstT l) q) : rowRd s F p = .inr (l, q) := by
  cases l with
  | nil => exact absurd rfl hne
  | cons x l =>
    obtain ⟨h1, h2, h2'⟩ := ha
    obtain ⟨m, h3, h4, h5⟩ := at_app h2'
    have h5 : te s m = q := h5
    have hx := h x (by simp)
    rw [rowRd, must_at h1, then_run, num_at hx.1 hx.2 h2, then_run, nums_at (fun y hy => h y (by simp [hy])) (by rw [List.length_cons] at hl; omega) h3 h4, then_run, must_nx, must_at h4, then_run, h5]; rfl
theorem rows_atN {s : List UInt8} {F : Nat} : ∀ {rs : List (List Int)} {f p q : Nat} {acc : List (List Int)}, (∀ r ∈ rs, two r ∧ r ≠ [] ∧ r.length < F) → rs.length < f → At s p (rs.flatMap lstT) q → tok s q = kClose → rowsP s F f acc p = .inr (acc ++ rs, nx s q)
  | [], f + 1, p, q, acc, _, _, ha, hq => by
    have ha : p = q := ha
    rw [rowsP, ha, if_pos hq, List.append_nil]
  | r :: rs, f + 1, p, q, acc, h, hl, ha, hq => by
    rw [List.flatMap_cons] at ha
    obtain ⟨m, h1, h2⟩ := at_app ha
    obtain ⟨k1, k2, k3⟩ := h r (by simp)
    rw [rowsP, if_neg (by rw [h1.1]; decide), row_at k1 k2 k3 h1]
    show rowsP s F f (acc ++ [r]) m = _
    rw [rows_atN (fun y hy => h y (by simp [hy])) (by simpa using hl) h2 hq]
    simp
def nodeT (x : Nd) : List (List UInt8) := kOpen :: kNode :: dec x.card :: (lstT x.parents ++ (x.rows.flatMap lstT ++ [kClose]))
structure OkF (F : Nat) (x : Nd) : Prop where
  card : 0 ≤ x.card ∧ x.card < 100
  par : two x.parents
  row : ∀ r ∈ x.rows, two r ∧ r ≠ [] ∧ r.length < F
  pl : x.parents.length < F
  rl : x.rows.length < F
theorem node_at {s : List UInt8} {x : Nd} {F p q : Nat} (h : OkF F x) (ha : At s p (nodeT x) q) : nodeRd s F p = .inr (x, q) := by
  obtain ⟨h1, h2, h3, h4⟩ := ha
  obtain ⟨m, h5, h6⟩ := at_app h4
  obtain ⟨k, h7, h8, h9⟩ := at_app h6
  have h9 : te s k = q := h9
  rw [nodeRd, must_at h1, then_run, must_at h2, then_run, num_at h.card.1 h.card.2 h3, then_run, lst_at h.par h.pl h5, then_run, rows_atN h.row h.rl h7 h8, then_run, must_nx, must_at h8, then_run, h9]; rfl
theorem nodes_at {s : List UInt8} {F : Nat} : ∀ {l : List Nd} {f p q : Nat} {acc : List Nd}, (∀ x ∈ l, OkF F x) → l.length < f → At s p (l.flatMap nodeT) q → tok s q = kClose → nodesP s F f acc p = .inr (acc ++ l, nx s q)
  | [], f + 1, p, q, acc, _, _, ha, hq => by
    have ha : p = q := ha
    rw [nodesP, ha, if_pos hq, List.append_nil]
  | x :: l, f + 1, p, q, acc, h, hl, ha, hq => by
    rw [List.flatMap_cons] at ha
    obtain ⟨m, h1, h2⟩ := at_app ha
    rw [nodesP, if_neg (by rw [h1.1]; decide), node_at (h x (by simp)) h1]
    show nodesP s F f (acc ++ [x]) m = _
    rw [nodes_at (fun y hy => h y (by simp [hy])) (by simpa using hl) h2 hq]
    simp
def netT (n : Nt) : List (List UInt8) := kOpen :: kNet :: dec n.grain :: (n.nodes.flatMap nodeT ++ [kClose])
theorem net_at {s : List UInt8} {n : Nt} {F q : Nat} (hg : 0 ≤ n.grain ∧ n.grain < 100) (h : ∀ x ∈ n.nodes, OkF F x) (hl : n.nodes.length < F) (ha : At s 0 (netT n) q) : netP s F = if tok s q = [] then .inr (n, q) else .inl (nx s q) := by
  obtain ⟨h1, h2, h3, h4⟩ := ha
  obtain ⟨m, h5, h6, h7⟩ := at_app h4
  have h7 : te s m = q := h7
  rw [netP, must_at h1, then_run, must_at h2, then_run, num_at hg.1 hg.2 h3, then_run, nodes_at h hl h5 h6, then_run, must_nx, must_at h6, then_run, h7]; rfl

/-! ### The words are not empty, and count -/
theorem lstT_ne (l : List Int) : ∀ w ∈ lstT l, w ≠ [] := by
  intro w hw
  simp only [lstT, List.mem_cons, List.mem_append, List.mem_map, List.not_mem_nil, or_false] at hw
  rcases hw with rfl | ⟨x, _, rfl⟩ | rfl
  · simp
  · exact dec_ne x
  · simp
theorem nodeT_ne (x : Nd) : ∀ w ∈ nodeT x, w ≠ [] := by
  intro w hw
  simp only [nodeT, List.mem_cons, List.mem_append, List.mem_flatMap, List.not_mem_nil, or_false] at hw
  rcases hw with rfl | rfl | rfl | h | ⟨r, _, h⟩ | rfl
  · simp
  · simp
  · exact dec_ne _
  · exact lstT_ne _ w h
  · exact lstT_ne _ w h
  · simp
theorem netT_ne (n : Nt) : ∀ w ∈ netT n, w ≠ [] := by
  intro w hw
  simp only [netT, List.mem_cons, List.mem_append, List.mem_flatMap, List.not_mem_nil, or_false] at hw
  rcases hw with rfl | rfl | rfl | ⟨x, _, h⟩ | rfl
  · simp
  · simp
  · exact dec_ne _
  · exact nodeT_ne x w h
  · simp
theorem flat_ge {α β : Type} {f : α → List β} {l : List α} {x : α} (h : x ∈ l) : (f x).length ≤ (l.flatMap f).length := by
  induction l with
  | nil => simp at h
  | cons y l ih =>
    rw [List.flatMap_cons, List.length_append]
    rcases List.mem_cons.1 h with rfl | h
    · omega
    · have := ih h; omega
theorem flat_count {α β : Type} {f : α → List β} {l : List α} (h : ∀ x ∈ l, 1 ≤ (f x).length) : l.length ≤ (l.flatMap f).length := by
  induction l with
  | nil => simp
  | cons y l ih =>
    rw [List.flatMap_cons, List.length_append, List.length_cons]
    have := ih fun x hx => h x (by simp [hx])
    have := h y (by simp)
    omega
theorem netT_big {n : Nt} (h : Tw n) {F : Nat} (hF : (netT n).length < F) : n.nodes.length < F ∧ ∀ x ∈ n.nodes, OkF F x := by
  have h1 : (netT n).length = (n.nodes.flatMap nodeT).length + 4 := by simp [netT]
  have h2 := flat_count (f := nodeT) (l := n.nodes) fun x _ => by simp [nodeT]
  refine ⟨by omega, fun x hx => ?_⟩
  have h3 := flat_ge (f := nodeT) hx
  have h4 : (nodeT x).length = (x.parents.length + 2) + (x.rows.flatMap lstT).length + 4 := by simp [nodeT, lstT]; omega
  have h5 := flat_count (f := lstT) (l := x.rows) fun r _ => by simp [lstT]
  refine ⟨h.card x hx, h.par x hx, fun r hr => ⟨(h.row x hx r hr).1, (h.row x hx r hr).2, ?_⟩, by omega, by omega⟩
  have h6 := flat_ge (f := lstT) hr
  have h7 : (lstT r).length = r.length + 2 := by simp [lstT]
  omega

/-! ### From texts to words -/
def okT (w r : List UInt8) : Prop := w = kOpen ∨ w = kClose ∨ (w ≠ [] ∧ (∀ b ∈ w, isWd b = true) ∧ ∀ b r', r = b :: r' → isWd b = false)
def Rn : List (List UInt8) → List UInt8 → List UInt8 → Prop
  | [], u, v => u = v
  | w :: ts, u, v => ∃ g r, u = g ++ (w ++ r) ∧ (∀ b ∈ g, isBl b = true) ∧ okT w r ∧ Rn ts r v
theorem tw_all {f : UInt8 → Bool} : ∀ {g r : List UInt8}, (∀ b ∈ g, f b = true) → (∀ b r', r = b :: r' → f b = false) → (g ++ r).takeWhile f = g
  | [], r, _, h => by
    cases r with
    | nil => rfl
    | cons b r => rw [List.nil_append, List.takeWhile_cons, h b r rfl]; rfl
  | a :: g, r, hg, h => by rw [List.cons_append, List.takeWhile_cons, if_pos (hg a (by simp)), tw_all (fun b hb => hg b (by simp [hb])) h]
theorem bl_wd {b : UInt8} (h : isWd b = true) : isBl b = false := by
  simp only [isWd, Bool.and_eq_true, Bool.not_eq_true'] at h
  rw [isBl, h.1.1.1, h.1.1.2]; rfl
theorem tok_at {s g w r : List UInt8} {p : Nat} (hp : p ≤ s.length) (e : s.drop p = g ++ (w ++ r)) (hg : ∀ b ∈ g, isBl b = true) (hw : okT w r) : tok s p = w ∧ te s p ≤ s.length ∧ s.drop (te s p) = r ∧ nx s p = p + g.length := by
  have hwb : ∀ b r', w ++ r = b :: r' → isBl b = false := by
    rcases hw with rfl | rfl | ⟨h1, h2, _⟩
    · intro b r' h; cases h; rfl
    · intro b r' h; cases h; rfl
    · intro b r' h
      cases w with
      | nil => exact absurd rfl h1
      | cons c w => cases h; exact bl_wd (h2 b (by simp))
  have hn : nx s p = p + g.length := by rw [nx, scanF, e, tw_all hg hwb]
  have hd : s.drop (nx s p) = w ++ r := by rw [hn, ← List.drop_drop, e, List.drop_append_of_le_length (Nat.le_refl _), List.drop_length, List.nil_append]
  have hl : (s.drop p).length = (g ++ (w ++ r)).length := by rw [e]
  rw [List.length_drop, List.length_append, List.length_append] at hl
  have ht : te s p = nx s p + w.length := by
    rcases hw with rfl | rfl | ⟨h1, h2, h3⟩
    · have hs : scanF isWd s (nx s p) = nx s p := by rw [scanF, hd]; rfl
      have : (kOpen : List UInt8).length = 1 := rfl
      rw [te, hs, if_pos ⟨rfl, by omega⟩]; rfl
    · have hs : scanF isWd s (nx s p) = nx s p := by rw [scanF, hd]; rfl
      have : (kClose : List UInt8).length = 1 := rfl
      rw [te, hs, if_pos ⟨rfl, by omega⟩]; rfl
    · have hs : scanF isWd s (nx s p) = nx s p + w.length := by rw [scanF, hd, tw_all h2 h3]
      have := List.length_pos_iff.2 h1
      rw [te, hs, if_neg (by omega)]
  refine ⟨?_, by omega, ?_, hn⟩
  · rw [tok, hd, ht, show nx s p + w.length - nx s p = w.length by omega, List.take_append_of_le_length (Nat.le_refl _), List.take_length]
  · rw [ht, ← List.drop_drop, hd, List.drop_append_of_le_length (Nat.le_refl _), List.drop_length, List.nil_append]
theorem at_rn {s : List UInt8} : ∀ {ts : List (List UInt8)} {p : Nat} {v : List UInt8}, p ≤ s.length → Rn ts (s.drop p) v → ∃ q, At s p ts q ∧ s.drop q = v ∧ q ≤ s.length
  | [], p, v, hp, h => ⟨p, rfl, h, hp⟩
  | w :: ts, p, v, hp, h => by
    obtain ⟨g, r, e, hg, hw, hr⟩ := h
    obtain ⟨h1, h2, h3, _⟩ := tok_at hp e hg hw
    obtain ⟨q, k1, k2, k3⟩ := at_rn h2 (by rw [h3]; exact hr)
    exact ⟨q, ⟨h1, k1⟩, k2, k3⟩
/-- Something stands behind it. -/
theorem readN_behind {s g w r : List UInt8} {n : Nt} (hl : s.length ≤ 40000) (hv : validP n) (h : Rn (netT n) s (g ++ (w ++ r))) (hg : ∀ b ∈ g, isBl b = true) (hw : okT w r) : readNR s = .inl (s.length - (w ++ r).length, 5) := by
  have ht := valid_tw hv
  obtain ⟨q, h1, h2, h3⟩ := at_rn (Nat.zero_le _) (by rw [List.drop_zero]; exact h)
  have h4 := at_len (Nat.zero_le _) h1 (netT_ne n)
  obtain ⟨h5, h6⟩ := netT_big ht (F := s.length + 1) (by omega)
  obtain ⟨k1, _, _, k4⟩ := tok_at h3 h2 hg hw
  have hne : w ≠ [] := by
    rcases hw with rfl | rfl | h
    · simp
    · simp
    · exact h.1
  have hlen : (s.drop q).length = (g ++ (w ++ r)).length := by rw [h2]
  rw [List.length_drop, List.length_append] at hlen
  rw [readNR, if_neg (by omega), net_at ht.g h6 h5 h1, if_neg (by rw [k1]; exact hne)]
  show Sum.inl (nx s q, 5) = _
  rw [k4, show q + g.length = s.length - (w ++ r).length by omega]

/-! ### Texts made of words and what stands between them -/
def rnd (sep : List UInt8 → List UInt8 → List UInt8) : List UInt8 → List (List UInt8) → List UInt8
  | _, [] => []
  | w, v :: ts => sep w v ++ (v ++ rnd sep v ts)
theorem rnd_app (sep : List UInt8 → List UInt8 → List UInt8) : ∀ (a b : List (List UInt8)) (w : List UInt8), rnd sep w (a ++ b) = rnd sep w a ++ rnd sep (a.getLastD w) b
  | [], b, w => rfl
  | v :: a, b, w => by
    rw [List.cons_append, rnd, rnd, rnd_app sep a b v, List.append_assoc, List.append_assoc]
    cases a <;> rfl
def isP (w : List UInt8) : Bool := decide (w = kOpen) || decide (w = kClose)
/-- Words of octets that can stand in words, and parentheses. -/
def Gt (w : List UInt8) : Prop := isP w = true ∨ (isP w = false ∧ w ≠ [] ∧ ∀ b ∈ w, isWd b = true)
theorem rn_rnd {sep : List UInt8 → List UInt8 → List UInt8} (hs : ∀ w v, ∀ b ∈ sep w v, isBl b = true) (hne : ∀ w v, isP w = false → isP v = false → sep w v ≠ []) {z : List UInt8} (hz : ∀ b r, z = b :: r → isWd b = false) :
    ∀ (ts : List (List UInt8)) (w : List UInt8), (∀ v ∈ ts, Gt v) → Rn ts (rnd sep w ts ++ z) z
  | [], w, _ => rfl
  | v :: ts, w, h => by
    refine ⟨sep w v, rnd sep v ts ++ z, by rw [rnd, List.append_assoc, List.append_assoc], hs w v, ?_, rn_rnd hs hne hz ts v fun x hx => h x (by simp [hx])⟩
    rcases h v (by simp) with hv | ⟨hv, h1, h2⟩
    · simp only [isP, Bool.or_eq_true, decide_eq_true_eq] at hv
      rcases hv with hv | hv
      · exact .inl hv
      · exact .inr (.inl hv)
    · refine .inr (.inr ⟨h1, h2, fun b r' e => ?_⟩)
      cases ts with
      | nil => exact hz b r' e
      | cons x ts =>
        rw [rnd, List.append_assoc] at e
        rcases hsx : sep v x with _ | ⟨c, g⟩
        · rw [hsx, List.nil_append] at e
          rcases h x (by simp) with hx | ⟨hx, _, _⟩
          · simp only [isP, Bool.or_eq_true, decide_eq_true_eq] at hx
            rcases hx with rfl | rfl
            · cases e; rfl
            · cases e; rfl
          · exact absurd hsx (hne v x hv hx)
        · rw [hsx] at e
          cases e
          have := hs v x b (by rw [hsx]; simp)
          cases hb : isWd b with
          | false => rfl
          | true => rw [bl_wd hb] at this; cases this
def sep0 (w v : List UInt8) : List UInt8 := if w = kOpen ∨ v = kClose then [] else [32]
theorem rnd_nums : ∀ (l : List Int) (w : List UInt8), w ≠ kOpen → (∀ x ∈ l, 0 ≤ x ∧ x < 100) → rnd sep0 w (l.map dec) = numsN l ∧ (l.map dec).getLastD w ≠ kOpen
  | [], w, hw, _ => ⟨rfl, hw⟩
  | x :: l, w, hw, h => by
    have hx := h x (by simp)
    have hd : dec x ≠ kOpen := fun e => by
      have := (dec_num hx.1 hx.2).1
      rw [e] at this
      exact absurd this (by decide)
    obtain ⟨h1, h2⟩ := rnd_nums l (dec x) hd fun y hy => h y (by simp [hy])
    refine ⟨?_, ?_⟩
    · rw [List.map_cons, rnd, h1, sep0, if_neg (by rintro (e | e); exact hw e; exact dec_close hx.1 hx.2 e), numsN, numsN, List.flatMap_cons]; rfl
    · rw [List.map_cons]
      cases l with
      | nil => exact hd
      | cons y l => exact h2
theorem rnd_lst {l : List Int} {w : List UInt8} (hw : w ≠ kOpen) (h : two l) : rnd sep0 w (lstT l) = 32 :: listN l := by
  rw [lstT, rnd, sep0, if_neg (by rintro (e | e); exact hw e; exact absurd e (by decide)), listN]
  show 32 :: 40 :: rnd sep0 kOpen (l.map dec ++ [kClose]) = _
  congr 2
  cases l with
  | nil => rfl
  | cons x l =>
    have hx := h x (by simp)
    have hd : dec x ≠ kOpen := fun e => by
      have := (dec_num hx.1 hx.2).1
      rw [e] at this
      exact absurd this (by decide)
    obtain ⟨h1, h2⟩ := rnd_nums l (dec x) hd fun y hy => h y (by simp [hy])
    rw [List.map_cons, List.cons_append, rnd, rnd_app, h1, sep0, if_pos (.inl rfl), List.nil_append]
    show dec x ++ (numsN l ++ rnd sep0 _ [kClose]) = _
    rw [rnd, sep0, if_pos (.inr rfl)]
    show dec x ++ (numsN l ++ kClose) = _
    simp [numsN]
theorem getLast_app {α : Type} (a b : List α) (w : α) : (a ++ b).getLastD w = b.getLastD (a.getLastD w) := by
  cases b with
  | nil => rw [List.append_nil]; rfl
  | cons x b => simp [List.getLastD_eq_getLast?]
theorem lstT_last (l : List Int) (w : List UInt8) : (lstT l).getLastD w = kClose := by rw [lstT, ← List.cons_append, getLast_app]; rfl
theorem rnd_lsts : ∀ (rs : List (List Int)) (w : List UInt8), w ≠ kOpen → (∀ r ∈ rs, two r) → rnd sep0 w (rs.flatMap lstT) = (rs.flatMap fun r => 32 :: listN r) ∧ (rs.flatMap lstT).getLastD w ≠ kOpen
  | [], w, hw, _ => ⟨rfl, hw⟩
  | r :: rs, w, hw, h => by
    obtain ⟨h1, h2⟩ := rnd_lsts rs kClose (by decide) fun y hy => h y (by simp [hy])
    refine ⟨?_, ?_⟩
    · rw [List.flatMap_cons, rnd_app, rnd_lst hw (h r (by simp)), lstT_last, h1, List.flatMap_cons]
    · rw [List.flatMap_cons, getLast_app, lstT_last]; exact h2
theorem nodeT_last (x : Nd) (w : List UInt8) : (nodeT x).getLastD w = kClose := by
  rw [nodeT, ← List.append_assoc, ← List.cons_append, ← List.cons_append, ← List.cons_append, getLast_app]; rfl
theorem rnd_node {x : Nd} {w : List UInt8} (hw : w ≠ kOpen) (hc : 0 ≤ x.card ∧ x.card < 100) (hp : two x.parents) (hr : ∀ r ∈ x.rows, two r) : rnd sep0 w (nodeT x) = 32 :: nodeNest x := by
  have hd : dec x.card ≠ kOpen := fun e => by
    have := (dec_num hc.1 hc.2).1
    rw [e] at this
    exact absurd this (by decide)
  obtain ⟨h1, h2⟩ := rnd_lsts x.rows kClose (by decide) hr
  rw [nodeT, rnd, sep0, if_neg (by rintro (e | e); exact hw e; exact absurd e (by decide)), rnd, sep0, if_pos (.inl rfl), rnd, sep0, if_neg (by rintro (e | e); exact absurd e (by decide); exact dec_close hc.1 hc.2 e), rnd_app, rnd_lst hd hp, lstT_last, rnd_app, h1, rnd, sep0, if_pos (.inr rfl), nodeNest]
  simp [rnd]
theorem rnd_nodes : ∀ (l : List Nd) (w : List UInt8), w ≠ kOpen → (∀ x ∈ l, (0 ≤ x.card ∧ x.card < 100) ∧ two x.parents ∧ ∀ r ∈ x.rows, two r) → rnd sep0 w (l.flatMap nodeT) = (l.flatMap fun x => 32 :: nodeNest x) ∧ (l.flatMap nodeT).getLastD w ≠ kOpen
  | [], w, hw, _ => ⟨rfl, hw⟩
  | x :: l, w, hw, h => by
    obtain ⟨h1, h2⟩ := rnd_nodes l kClose (by decide) fun y hy => h y (by simp [hy])
    obtain ⟨k1, k2, k3⟩ := h x (by simp)
    refine ⟨?_, ?_⟩
    · rw [List.flatMap_cons, rnd_app, rnd_node hw k1 k2 k3, nodeT_last, h1, List.flatMap_cons]
    · rw [List.flatMap_cons, getLast_app, nodeT_last]; exact h2
/-- The words behind the first parenthesis. -/
def netT1 (n : Nt) : List (List UInt8) := kNet :: dec n.grain :: (n.nodes.flatMap nodeT ++ [kClose])
theorem net_rnd {n : Nt} (h : Tw n) : nested n = 40 :: rnd sep0 kOpen (netT1 n) := by
  obtain ⟨h1, h2⟩ := rnd_nodes n.nodes (dec n.grain) (fun e => by
    have := (dec_num h.g.1 h.g.2).1
    rw [e] at this
    exact absurd this (by decide)) fun x hx => ⟨h.card x hx, h.par x hx, fun r hr => (h.row x hx r hr).1⟩
  rw [netT1, rnd, sep0, if_pos (.inl rfl), rnd, sep0, if_neg (by rintro (e | e); exact absurd e (by decide); exact dec_close h.g.1 h.g.2 e), rnd_app, h1, rnd, sep0, if_pos (.inr rfl), nested]
  simp [rnd]
theorem gt_dec {x : Int} (h0 : 0 ≤ x) (h : x < 100) : Gt (dec x) := by
  have hn := dec_num h0 h
  have hk : isP (dec x) = false := by
    cases e : isP (dec x) with
    | false => rfl
    | true =>
      simp only [isP, Bool.or_eq_true, decide_eq_true_eq] at e
      rcases e with e | e
      · rw [e] at hn; exact absurd hn.1 (by decide)
      · rw [e] at hn; exact absurd hn.1 (by decide)
  refine .inr ⟨hk, dec_ne x, fun b hb => ?_⟩
  have := num_all hn.1 b hb
  rw [isDg, decide_eq_true_eq] at this
  rw [isWd, beq_false_of_ne (by omega), beq_false_of_ne (by omega), beq_false_of_ne (by omega), beq_false_of_ne (by omega)]; rfl
theorem gt_lst {l : List Int} (h : two l) : ∀ w ∈ lstT l, Gt w := by
  intro w hw
  simp only [lstT, List.mem_cons, List.mem_append, List.mem_map, List.not_mem_nil, or_false] at hw
  rcases hw with rfl | ⟨x, hx, rfl⟩ | rfl
  · exact .inl rfl
  · exact gt_dec (h x hx).1 (h x hx).2
  · exact .inl rfl
theorem gt_net {n : Nt} (h : Tw n) : ∀ w ∈ netT1 n, Gt w := by
  intro w hw
  simp only [netT1, nodeT, List.mem_cons, List.mem_append, List.mem_flatMap, List.not_mem_nil, or_false] at hw
  rcases hw with rfl | rfl | ⟨x, hx, rfl | rfl | rfl | hw | ⟨r, hr, hw⟩ | rfl⟩ | rfl
  · exact .inr ⟨rfl, by decide, by decide⟩
  · exact gt_dec h.g.1 h.g.2
  · exact .inl rfl
  · exact .inr ⟨rfl, by decide, by decide⟩
  · exact gt_dec (h.card x hx).1 (h.card x hx).2
  · exact gt_lst (h.par x hx) w hw
  · exact gt_lst (h.row x hx r hr).1 w hw
  · exact .inl rfl
  · exact .inl rfl
/-- Any text of a network's words with blanks between them. -/
theorem rn_net {n : Nt} (h : Tw n) {sep : List UInt8 → List UInt8 → List UInt8} (hs : ∀ w v, ∀ b ∈ sep w v, isBl b = true) (hne : ∀ w v, isP w = false → isP v = false → sep w v ≠ []) {g z : List UInt8} (hg : ∀ b ∈ g, isBl b = true) (hz : ∀ b r, z = b :: r → isWd b = false) : Rn (netT n) (g ++ 40 :: (rnd sep kOpen (netT1 n) ++ z)) z :=
  ⟨g, rnd sep kOpen (netT1 n) ++ z, rfl, hg, .inl rfl, rn_rnd hs hne hz _ _ (gt_net h)⟩
theorem sep0_bl (w v : List UInt8) : ∀ b ∈ sep0 w v, isBl b = true := by
  intro b hb
  rw [sep0] at hb
  split at hb
  · simp at hb
  · simp only [List.mem_singleton] at hb; subst hb; rfl
theorem isP_no {w : List UInt8} (h : isP w = false) : w ≠ kOpen ∧ w ≠ kClose := by
  simp only [isP, Bool.or_eq_false_iff, decide_eq_false_iff_not] at h
  exact h
theorem sep0_ne (w v : List UInt8) (hw : isP w = false) (hv : isP v = false) : sep0 w v ≠ [] := by
  rw [sep0, if_neg (by rintro (e | e); exact (isP_no hw).1 e; exact (isP_no hv).2 e)]; simp
end Go.Proofs.YtphmmoloegjocaaGreatDoor

/- Forms of networks, read back (plain). -/
namespace Go.Proofs.YtphmmoloegjocaaGreatDoor
open Go Y
set_option maxRecDepth 100000
set_option maxHeartbeats 4000000

theorem netW_ok {n : Nt} (h : Tw n) : ∀ w ∈ netW n, (∀ v ∈ w, Gw v) ∧ passW w = false := by
  have hk : ∀ v ∈ [kNet, kNode, kRow, kFrom], Gw v := by
    intro v hv
    simp only [List.mem_cons, List.not_mem_nil, or_false] at hv
    rcases hv with rfl | rfl | rfl | rfl <;> exact ⟨by decide, by decide, by decide⟩
  intro w hw
  simp only [netW, blockW, List.mem_cons, List.mem_flatMap, List.mem_map] at hw
  rcases hw with rfl | ⟨x, hx, rfl | ⟨r, hr, rfl⟩⟩
  · refine ⟨fun v hv => ?_, rfl⟩
    simp only [List.mem_cons, List.not_mem_nil, or_false] at hv
    rcases hv with rfl | rfl
    · exact hk _ (by simp)
    · exact gw_dec h.g.1 h.g.2
  · refine ⟨fun v hv => ?_, ?_⟩
    · simp only [nodeW, List.mem_cons] at hv
      rcases hv with rfl | rfl | hv
      · exact hk _ (by simp)
      · exact gw_dec (h.card x hx).1 (h.card x hx).2
      · split at hv
        · simp at hv
        · simp only [List.mem_cons, List.mem_map] at hv
          rcases hv with rfl | ⟨p, hp, rfl⟩
          · exact hk _ (by simp)
          · exact gw_dec (h.par x hx p hp).1 (h.par x hx p hp).2
    · rfl
  · refine ⟨fun v hv => ?_, ?_⟩
    · simp only [rowW, List.mem_cons, List.mem_map] at hv
      rcases hv with rfl | ⟨p, hp, rfl⟩
      · exact hk _ (by simp)
      · exact gw_dec ((h.row x hx r hr).1 p hp).1 ((h.row x hx r hr).1 p hp).2
    · rfl
theorem rn_nested {n : Nt} (h : Tw n) {g z : List UInt8} (hg : ∀ b ∈ g, isBl b = true) (hz : ∀ b r, z = b :: r → isWd b = false) : Rn (netT n) (g ++ (nested n ++ z)) z := by
  rw [net_rnd h]
  exact rn_net h sep0_bl sep0_ne hg hz
theorem DrB.sm {n : Nt} (h : DrB n) : SmT n := valid_sm h.valid
theorem DrB.rows {n : Nt} (h : DrB n) {x : Nd} (hx : x ∈ n.nodes) : x.rows.length ≤ 64 := by
  have hp3 := h.par x hx
  obtain ⟨v, hv, rfl⟩ := mem_getD nd0 hx
  have hp := h.valid.placed _ hx
  have h1 := (h.valid.node v hv).1
  have hok := atN_ok (l := cardsN n) (ps := (n.nodes.getD v nd0).parents) (fun c hc' => by obtain ⟨y, hy, rfl⟩ := List.mem_map.1 hc'; exact h.valid.cards y hy) (by rw [cardsN, List.length_map]; exact list_mem hp)
  have hal : (atN (cardsN n) (n.nodes.getD v nd0).parents).length = (n.nodes.getD v nd0).parents.length := List.length_map ..
  have h3 := prod_take hok _ (Nat.le_refl _)
  rw [take_all (Nat.le_refl _)] at h3
  have h4 : (4 : Int) ^ (atN (cardsN n) (n.nodes.getD v nd0).parents).length ≤ 64 := by
    have : ∀ i ≤ 3, (4 : Int) ^ i ≤ 64 := by decide
    exact this _ (by omega)
  have h5 : prodN (pcardsN n v) = prodN (atN (cardsN n) (n.nodes.getD v nd0).parents) := rfl
  omega
theorem DrB.lines {n : Nt} (h : DrB n) : (byLines n).length ≤ 6000 := by
  have hs := h.sm
  have h1 := flat_len (f := nodeLines) (B := 1100) (l := n.nodes) fun x hx => by
    have h2 := hs.head_len hx
    have h3 := flat_len (f := rowLine) (B := 16) (l := x.rows) fun r hr => hs.row_len hx hr
    have h4 := h.rows hx
    rw [nodeLines, List.length_append]
    have : 16 * x.rows.length ≤ 16 * 64 := Nat.mul_le_mul_left _ h4
    omega
  have h2 := h.five
  have h3 : 1100 * n.nodes.length ≤ 1100 * 5 := Nat.mul_le_mul_left _ h2
  have h4 := dec_len n.grain
  rw [byLines, List.length_append, List.length_append, List.length_append]
  simp only [List.length_cons, List.length_nil]
  omega
theorem DrB.nest {n : Nt} (h : DrB n) : (nested n).length ≤ 6000 := by
  have hs := h.sm
  have h1 := flat_len (f := fun x => 32 :: nodeNest x) (B := 1100) (l := n.nodes) fun x hx => by
    have h2 := list_len41 x.parents
    have h3 := flat_len (f := fun r => 32 :: listN r) (B := 15) (l := x.rows) fun r hr => by
      have h2 := list_len41 r
      have h3 := (hs.row x hx r hr).2.2
      simp only [List.length_cons]; omega
    have h4 := h.rows hx
    have h5 := h.par x hx
    have h6 := dec_len x.card
    have : 15 * x.rows.length ≤ 15 * 64 := Nat.mul_le_mul_left _ h4
    simp only [nodeNest, List.length_cons, List.length_append, List.length_nil]
    omega
  have h2 := h.five
  have h3 : 1100 * n.nodes.length ≤ 1100 * 5 := Nat.mul_le_mul_left _ h2
  have h4 := dec_len n.grain
  simp only [nested, List.length_cons, List.length_append, List.length_nil]
  omega
end Go.Proofs.YtphmmoloegjocaaGreatDoor

/- Forms with a line that is not as it must be; nested texts that are cut off (plain). -/
namespace Go.Proofs.YtphmmoloegjocaaGreatDoor
open Go Y
set_option maxRecDepth 100000
set_option maxHeartbeats 4000000

/-! ### Splitting behind an octet -/
def saA (c : UInt8) : List UInt8 → List UInt8 → List (List UInt8)
  | w, [] => [w]
  | w, b :: r => if b = c then (w ++ [b]) :: saA c [] r else saA c (w ++ [b]) r
def saN (c : UInt8) (s : List UInt8) : List (List UInt8) := saA c [] s
theorem sa_run {c : UInt8} : ∀ {u w r : List UInt8}, c ∉ u → saA c w (u ++ c :: r) = (w ++ (u ++ [c])) :: saA c [] r
  | [], w, r, _ => by rw [List.nil_append, saA, if_pos rfl]; rfl
  | b :: u, w, r, h => by
    simp only [List.mem_cons, not_or] at h
    rw [List.cons_append, saA, if_neg (fun e => h.1 e.symm), sa_run h.2, List.append_assoc]; rfl
theorem sa_not {c : UInt8} : ∀ {u w : List UInt8}, c ∉ u → saA c w u = [w ++ u]
  | [], w, _ => by rw [saA, List.append_nil]
  | b :: u, w, h => by
    simp only [List.mem_cons, not_or] at h
    rw [saA, if_neg (fun e => h.1 e.symm), sa_not h.2, List.append_assoc]; rfl
abbrev lineW (w : List (List UInt8)) : List UInt8 := joinL [32] w ++ [10]
theorem gw_nl {n : Nt} (h : Tw n) {w : List (List UInt8)} (hw : w ∈ netW n) : 10 ∉ joinL [32] w := join_nl (by decide) (netW_ok h w hw).1
theorem sa_lines : ∀ {W : List (List (List UInt8))}, (∀ w ∈ W, 10 ∉ joinL [32] w) → saN 10 (W.flatMap lineW) = W.map lineW ++ [[]]
  | [], _ => rfl
  | w :: W, h => by
    have ih := sa_lines (W := W) fun x hx => h x (by simp [hx])
    rw [saN] at ih ⊢
    rw [List.flatMap_cons, lineW, List.append_assoc]
    show saA 10 [] (joinL [32] w ++ 10 :: W.flatMap lineW) = _
    rw [sa_run (h w (by simp)), ih]; rfl
theorem lines_flat : ∀ {W : List (List (List UInt8))} {r : List UInt8}, (∀ w ∈ W, 10 ∉ joinL [32] w) → linesN (W.flatMap lineW ++ r) = W.map (joinL [32]) ++ linesN r
  | [], r, _ => rfl
  | w :: W, r, h => by
    have ih := lines_flat (W := W) (r := r) fun x hx => h x (by simp [hx])
    rw [linesN] at ih ⊢
    rw [List.flatMap_cons, lineW, List.append_assoc, List.append_assoc]
    show linesA [] (joinL [32] w ++ 10 :: (W.flatMap lineW ++ r)) = _
    rw [lines_run (h w (by simp)), ih]; rfl
theorem keepL_join : ∀ {W : List (List (List UInt8))}, (∀ w ∈ W, (∀ v ∈ w, Gw v) ∧ passW w = false) → keepL (W.map (joinL [32])) = W
  | [], _ => rfl
  | w :: W, h => by
    obtain ⟨h1, h2⟩ := h w (by simp)
    have e := words_join (sep := [32]) (g := []) (by simp) (by simp) (by simp) h1
    rw [List.append_nil] at e
    rw [List.map_cons, keepL_cons, e, h2, if_neg (by decide), keepL_join fun x hx => h x (by simp [hx])]
theorem runW_pre : ∀ {a b : List (List (List UInt8))} {f : Bool} {n : Ns} {x : Bool × Ns}, runW f n (a ++ b) = some x → ∃ n', runW f n a = some (decide (a = []) && f, n')
  | [], b, f, n, x, _ => ⟨n, by rw [runW]; simp⟩
  | w :: a, b, f, n, x, h => by
    rw [List.cons_append, runW] at h
    rw [runW]
    cases hs : stepN f n w with
    | none => rw [hs] at h; cases h
    | some m =>
      rw [hs] at h
      obtain ⟨n', e⟩ := runW_pre h
      exact ⟨n', by simp only [e]; simp⟩
theorem step_no {f : Bool} {n : Ns} {w : List (List UInt8)} (h1 : f = true → ¬ (w.length = 2 ∧ numB (w.getD 1 []) = true ∧ w.getD 0 [] = kNet)) (h2 : f = false → w.getD 0 [] = kNode → ¬ (2 ≤ w.length ∧ numB (w.getD 1 []) = true) ∨ (w.length ≠ 2 ∧ w.getD 2 [] ≠ kFrom))
    (h3 : f = false → w.getD 0 [] = kRow → ¬ (allB (w.drop 1) = true ∧ 1 < w.length)) : stepN f n w = none := by
  cases f with
  | true => rw [stepN, if_pos rfl, if_neg (h1 rfl)]
  | false =>
    rw [stepN, if_neg (by decide)]
    by_cases e : w.getD 0 [] = kNode
    · rw [if_pos e]
      rcases h2 rfl e with h | ⟨ha, hb⟩
      · rw [if_neg h]
      · split
        · rw [if_neg (fun h => hb h.2.2)]
        · rfl
    · rw [if_neg e]
      by_cases e' : w.getD 0 [] = kRow
      · rw [if_pos e']
        cases n.last with
        | none => rfl
        | some x => exact if_neg (h3 rfl e')
      · rw [if_neg e']
def badL : List (List UInt8) := [[114, 111, 119, 115, 32, 49, 10], [110, 101, 116, 32, 52, 10], [110, 111, 100, 101, 10], [114, 111, 119, 10], [110, 111, 100, 101, 32, 50, 32, 111, 102, 32, 48, 10], [114, 111, 119, 32, 49, 32, 120, 10]]
theorem bad_line {f : Bool} {n : Ns} {k : Nat} (hk : k < 6) (h : f = true → k ≠ 1) : ∃ u, badL.getD k [] = u ++ [10] ∧ u.length ≤ 20 ∧ 10 ∉ u ∧ passW (wordsN u) = false ∧ stepN f n (wordsN u) = none := by
  have hk : k = 0 ∨ k = 1 ∨ k = 2 ∨ k = 3 ∨ k = 4 ∨ k = 5 := by omega
  rcases hk with rfl | rfl | rfl | rfl | rfl | rfl
  · exact ⟨[114, 111, 119, 115, 32, 49], rfl, by decide, by decide, by decide, step_no (fun _ => by decide) (fun _ => by decide) (fun _ => by decide)⟩
  · exact ⟨[110, 101, 116, 32, 52], rfl, by decide, by decide, by decide, step_no (fun e => absurd rfl (h e)) (fun _ => by decide) (fun _ => by decide)⟩
  · exact ⟨[110, 111, 100, 101], rfl, by decide, by decide, by decide, step_no (fun _ => by decide) (fun _ => by decide) (fun _ => by decide)⟩
  · exact ⟨[114, 111, 119], rfl, by decide, by decide, by decide, step_no (fun _ => by decide) (fun _ => by decide) (fun _ => by decide)⟩
  · exact ⟨[110, 111, 100, 101, 32, 50, 32, 111, 102, 32, 48], rfl, by decide, by decide, by decide, step_no (fun _ => by decide) (fun _ => by decide) (fun _ => by decide)⟩
  · exact ⟨[114, 111, 119, 32, 49, 32, 120], rfl, by decide, by decide, by decide, step_no (fun _ => by decide) (fun _ => by decide) (fun _ => by decide)⟩
/-- A line that is not as it must be is reported with its number. -/
theorem read_bad {n : Nt} (hv : validP n) {k b : Nat} (hk : k ≤ (netW n).length) (hb : b < 6) (h : k = 0 → b ≠ 1) (hl : (((netW n).take k).flatMap lineW ++ badL.getD b [] ++ ((netW n).drop k).flatMap lineW).length ≤ 40000) :
    readLR (((netW n).take k).flatMap lineW ++ badL.getD b [] ++ ((netW n).drop k).flatMap lineW) = .inl (k + 1, 5) := by
  have ht := valid_tw hv
  obtain ⟨N', e1, _⟩ := run_net ht
  rw [← List.take_append_drop k (netW n)] at e1
  obtain ⟨m, e2⟩ := runW_pre e1
  have hkl : ((netW n).take k).length = k := by rw [List.length_take]; omega
  have hf : (decide ((netW n).take k = []) && true) = true → b ≠ 1 := fun e => by
    rw [Bool.and_true, decide_eq_true_eq] at e
    rw [e] at hkl
    exact h (by simpa using hkl.symm)
  obtain ⟨u, h1, h2, h3, h4, h5⟩ := bad_line (n := m) hb hf
  have hj : ∀ w ∈ (netW n).take k, 10 ∉ joinL [32] w := fun w hw => gw_nl ht (List.mem_of_mem_take hw)
  rw [readLR, if_neg (by omega), h1, List.append_assoc, lines_flat hj, List.append_assoc]
  have e3 : linesN (u ++ ([10] ++ ((netW n).drop k).flatMap lineW)) = u :: linesN (((netW n).drop k).flatMap lineW) := by
    rw [linesN]
    show linesA [] (u ++ 10 :: _) = _
    rw [lines_run h3]; rfl
  have e4 : runW true ns0 (keepL (((netW n).take k).map (joinL [32]))) = some (decide ((netW n).take k = []) && true, m) := by
    rw [keepL_join fun w hw => netW_ok ht w (List.mem_of_mem_take hw)]; exact e2
  rw [e3, runL_app e4, runL, if_neg (by rw [h4]; decide), h5, List.length_map, hkl, Nat.zero_add]

/-! ### Parentheses -/
def bal (u : List UInt8) : Int := (u.count 40 : Int) - (u.count 41 : Int)
theorem bal_app (a b : List UInt8) : bal (a ++ b) = bal a + bal b := by rw [bal, bal, bal, List.count_append, List.count_append]; omega
theorem bal_no {u : List UInt8} (h1 : 40 ∉ u) (h2 : 41 ∉ u) : bal u = 0 := by rw [bal, List.count_eq_zero_of_not_mem h1, List.count_eq_zero_of_not_mem h2]; rfl
structure Nice (u : List UInt8) : Prop where
  ge : ∀ k, 0 ≤ bal (u.take k)
  all : bal u = 0
theorem nice_no {u : List UInt8} (h1 : 40 ∉ u) (h2 : 41 ∉ u) : Nice u :=
  ⟨fun k => by rw [bal_no (fun h => h1 (List.mem_of_mem_take h)) fun h => h2 (List.mem_of_mem_take h)]; omega, bal_no h1 h2⟩
theorem nice_app {a b : List UInt8} (ha : Nice a) (hb : Nice b) : Nice (a ++ b) :=
  ⟨fun k => by
    rw [List.take_append, bal_app]
    have := ha.ge k
    have := hb.ge (k - a.length)
    omega, by rw [bal_app, ha.all, hb.all]; rfl⟩
theorem nice_par {a : List UInt8} (ha : Nice a) : Nice (40 :: (a ++ [41])) := by
  have h1 : bal (40 :: (a ++ [41])) = 0 := by
    show bal ([40] ++ (a ++ [41])) = 0
    rw [bal_app, bal_app, ha.all]; rfl
  refine ⟨fun k => ?_, h1⟩
  cases k with
  | zero => exact Int.le_refl 0
  | succ k =>
    rw [List.take_succ_cons]
    show 0 ≤ bal ([40] ++ (a ++ [41]).take k)
    rw [bal_app, List.take_append, bal_app]
    have h2 := ha.ge k
    have h3 : bal ([41].take (k - a.length)) ≥ -1 := by
      rcases Nat.eq_zero_or_pos (k - a.length) with e | e
      · rw [e]; decide
      · rw [take_all (by simp only [List.length_cons, List.length_nil]; omega)]; decide
    have h4 : bal [40] = 1 := rfl
    omega
theorem nice_flat {α : Type} {f : α → List UInt8} : ∀ {l : List α}, (∀ x ∈ l, Nice (f x)) → Nice (l.flatMap f)
  | [], _ => nice_no (by simp) (by simp)
  | x :: l, h => by rw [List.flatMap_cons]; exact nice_app (h x (by simp)) (nice_flat fun y hy => h y (by simp [hy]))
theorem nice_dec {x : Int} (h0 : 0 ≤ x) (h : x < 100) : Nice (dec x) :=
  nice_no (fun hm => isDg_ne (num_all (dec_num h0 h).1 _ hm) (by decide) rfl) (fun hm => isDg_ne (num_all (dec_num h0 h).1 _ hm) (by decide) rfl)
theorem nice_nums {l : List Int} (h : two l) : Nice (numsN l) :=
  nice_flat fun x hx => nice_app (a := [32]) (nice_no (by decide) (by decide)) (nice_dec (h x hx).1 (h x hx).2)
theorem nice_list {l : List Int} (h : two l) : Nice (listN l) := by
  refine nice_par ?_
  cases l with
  | nil => exact nice_no (by simp [numsN]) (by simp [numsN])
  | cons x l =>
    show Nice (dec x ++ numsN l)
    exact nice_app (nice_dec (h x (by simp)).1 (h x (by simp)).2) (nice_nums fun y hy => h y (by simp [hy]))
theorem nice_node {x : Nd} (hc : 0 ≤ x.card ∧ x.card < 100) (hp : two x.parents) (hr : ∀ r ∈ x.rows, two r) : Nice (nodeNest x) := by
  have : nodeNest x = 40 :: (([110, 111, 100, 101, 32] ++ (dec x.card ++ ([32] ++ (listN x.parents ++ (x.rows.flatMap fun r => 32 :: listN r))))) ++ [41]) := by simp [nodeNest]
  rw [this]
  exact nice_par (nice_app (nice_no (by decide) (by decide)) (nice_app (nice_dec hc.1 hc.2) (nice_app (nice_no (by decide) (by decide)) (nice_app (nice_list hp) (nice_flat fun r hm => nice_app (a := [32]) (nice_no (by decide) (by decide)) (nice_list (hr r hm)))))))
theorem nest_pos {n : Nt} (h : Tw n) {i : Nat} (h0 : 0 < i) (hi : i < (nested n).length) : 1 ≤ bal ((nested n).take i) := by
  have e : nested n = 40 :: (([110, 101, 116, 32] ++ (dec n.grain ++ (n.nodes.flatMap fun x => 32 :: nodeNest x))) ++ [41]) := by simp [nested]
  have hn : Nice ([110, 101, 116, 32] ++ (dec n.grain ++ (n.nodes.flatMap fun x => 32 :: nodeNest x))) :=
    nice_app (nice_no (by decide) (by decide)) (nice_app (nice_dec h.g.1 h.g.2) (nice_flat fun x hx => nice_app (a := [32]) (nice_no (by decide) (by decide)) (nice_node (h.card x hx) (h.par x hx) fun r hr => (h.row x hx r hr).1)))
  obtain ⟨B, hB⟩ : ∃ B, B = [110, 101, 116, 32] ++ (dec n.grain ++ (n.nodes.flatMap fun x => 32 :: nodeNest x)) := ⟨_, rfl⟩
  rw [← hB] at e hn
  rw [e] at hi ⊢
  simp only [List.length_cons, List.length_append, List.length_nil] at hi
  obtain ⟨k, rfl⟩ : ∃ k, i = k + 1 := ⟨i - 1, by omega⟩
  rw [List.take_succ_cons, List.take_append_of_le_length (by omega)]
  show 1 ≤ bal ([40] ++ B.take k)
  rw [bal_app]
  have := hn.ge k
  have h4 : bal [40] = 1 := rfl
  omega

/-! ### What a reading has passed -/
def Dp (s : List UInt8) (p : Nat) : Int := bal (s.take p)
def OkR (s : List UInt8) (p : Nat) (d : Int) {α : Type} (r : Rd α) : Prop := match r with
  | .inl e => e ≤ s.length
  | .inr (_, q) => q ≤ s.length ∧ Dp s q = Dp s p + d
theorem okr_then {s : List UInt8} {p : Nat} {d d' : Int} {α β : Type} {r : Rd α} {k : α → Nat → Rd β} (h : OkR s p d r) (hk : ∀ a q, q ≤ s.length → OkR s q d' (k a q)) : OkR s p (d + d') (r.then k) := by
  rcases r with e | ⟨a, q⟩
  · exact h
  · obtain ⟨h1, h2⟩ := h
    have := hk a q h1
    show OkR s p (d + d') (k a q)
    rcases hr : k a q with e | ⟨b, q'⟩
    · rw [hr] at this; exact this
    · rw [hr] at this
      exact ⟨this.1, by rw [this.2, h2]; omega⟩
theorem tw_mem {f : UInt8 → Bool} : ∀ {l : List UInt8} {b : UInt8}, b ∈ l.takeWhile f → f b = true
  | a :: l, b, h => by
    rw [List.takeWhile_cons] at h
    split at h
    · rcases List.mem_cons.1 h with rfl | h
      · assumption
      · exact tw_mem h
    · simp at h
theorem tw_take (f : UInt8 → Bool) : ∀ l : List UInt8, l.takeWhile f = l.take (l.takeWhile f).length
  | [] => rfl
  | a :: l => by
    rw [List.takeWhile_cons]
    split
    · rw [List.length_cons, List.take_succ_cons, ← tw_take f l]
    · rfl
theorem dp_nx (s : List UInt8) (p : Nat) : Dp s (nx s p) = Dp s p := by
  have h0 : bal ((s.drop p).takeWhile isBl) = 0 := bal_no (fun h => absurd (tw_mem h) (by decide)) (fun h => absurd (tw_mem h) (by decide))
  rw [Dp, nx, scanF, List.take_add, bal_app, ← tw_take, h0, Int.add_zero]; rfl
theorem dp_te {s : List UInt8} {p : Nat} (hp : p ≤ s.length) : Dp s (te s p) = Dp s p + bal (tok s p) := by
  have h := te_le hp
  rw [← dp_nx s p, Dp, Dp, tok, ← bal_app]
  congr 1
  rw [show te s p = nx s p + (te s p - nx s p) by omega, List.take_add]
  rw [show nx s p + (te s p - nx s p) - nx s p = te s p - nx s p by omega]
theorem okr_must {s w : List UInt8} {p : Nat} (hp : p ≤ s.length) : OkR s p (bal w) (mustP s w p) := by
  rw [mustP]
  split
  · rename_i h
    exact ⟨(te_le hp).2, by rw [dp_te hp, h]⟩
  · exact (nx_le hp).2
theorem okr_num {s : List UInt8} {p : Nat} (hp : p ≤ s.length) : OkR s p 0 (numP s p) := by
  rw [numP]
  split
  · rename_i h
    refine ⟨(te_le hp).2, ?_⟩
    rw [dp_te hp, bal_no]
    · exact fun hm => isDg_ne (num_all h _ hm) (by decide) rfl
    · exact fun hm => isDg_ne (num_all h _ hm) (by decide) rfl
  · exact (nx_le hp).2
theorem okr_nums {s : List UInt8} : ∀ {F : Nat} {acc : List Int} {p : Nat}, p ≤ s.length → OkR s p 0 (numsP s F acc p)
  | 0, acc, p, hp => hp
  | F + 1, acc, p, hp => by
    rw [numsP]
    split
    · exact ⟨(nx_le hp).2, by rw [dp_nx]; omega⟩
    · have := okr_then (okr_num hp) (k := fun v q => numsP s F (acc ++ [v]) q) (d' := 0) fun a q hq => okr_nums hq
      exact this
theorem okr_end {s : List UInt8} {α : Type} {a : α} {p : Nat} (hp : p ≤ s.length) : OkR s p 0 (.inr (a, p) : Rd α) := ⟨hp, by omega⟩
theorem okr_row {s : List UInt8} {F p : Nat} (hp : p ≤ s.length) : OkR s p 0 (rowRd s F p) :=
  okr_then (d := 1) (d' := -1) (okr_must hp) fun _ _ hq => okr_then (d := 0) (d' := -1) (okr_num hq) fun _ _ hq => okr_then (d := 0) (d' := -1) (okr_nums hq) fun _ _ hq => okr_then (d := -1) (d' := 0) (okr_must hq) fun _ _ hq => okr_end hq
theorem okr_lst {s : List UInt8} {F p : Nat} (hp : p ≤ s.length) : OkR s p 0 (lstP s F p) :=
  okr_then (d := 1) (d' := -1) (okr_must hp) fun _ _ hq => okr_then (d := 0) (d' := -1) (okr_nums hq) fun _ _ hq => okr_then (d := -1) (d' := 0) (okr_must hq) fun _ _ hq => okr_end hq
theorem okr_rows {s : List UInt8} {F : Nat} : ∀ {f : Nat} {acc : List (List Int)} {p : Nat}, p ≤ s.length → OkR s p 0 (rowsP s F f acc p)
  | 0, acc, p, hp => hp
  | f + 1, acc, p, hp => by
    rw [rowsP]
    split
    · exact ⟨(nx_le hp).2, by rw [dp_nx]; omega⟩
    · have := okr_then (okr_row (F := F) hp) (k := fun v q => rowsP s F f (acc ++ [v]) q) (d' := 0) fun a q hq => okr_rows hq
      exact this
theorem okr_node {s : List UInt8} {F p : Nat} (hp : p ≤ s.length) : OkR s p 0 (nodeRd s F p) :=
  okr_then (d := 1) (d' := -1) (okr_must hp) fun _ _ hq => okr_then (d := 0) (d' := -1) (okr_must hq) fun _ _ hq => okr_then (d := 0) (d' := -1) (okr_num hq) fun _ _ hq => okr_then (d := 0) (d' := -1) (okr_lst hq) fun _ _ hq => okr_then (d := 0) (d' := -1) (okr_rows hq) fun _ _ hq => okr_then (d := -1) (d' := 0) (okr_must hq) fun _ _ hq => okr_end hq
theorem okr_nodes {s : List UInt8} {F : Nat} : ∀ {f : Nat} {acc : List Nd} {p : Nat}, p ≤ s.length → OkR s p 0 (nodesP s F f acc p)
  | 0, acc, p, hp => hp
  | f + 1, acc, p, hp => by
    rw [nodesP]
    split
    · exact ⟨(nx_le hp).2, by rw [dp_nx]; omega⟩
    · have := okr_then (okr_node (F := F) hp) (k := fun v q => nodesP s F f (acc ++ [v]) q) (d' := 0) fun a q hq => okr_nodes hq
      exact this
theorem tok_nil {s : List UInt8} {q : Nat} (hq : q ≤ s.length) (h : tok s q = []) : nx s q = s.length := by
  have h1 := nx_le hq
  have h2 := tok_len hq
  rw [h] at h2
  rcases Nat.lt_or_ge (nx s q) s.length with h3 | h3
  · have h4 : nx s q < te s q := by
      have h5 := scan_le (f := isWd) h1.2
      rw [te]
      split
      · omega
      · rename_i h6
        have : scanF isWd s (nx s q) ≠ nx s q := fun e => h6 ⟨e, h3⟩
        omega
    simp only [List.length_nil] at h2
    omega
  · omega
def okEnd (s : List UInt8) (r : Rd Nt) : Prop := match r with
  | .inl e => e ≤ s.length
  | .inr _ => bal s = 0
theorem okEnd_then {s : List UInt8} {p : Nat} {d : Int} {α : Type} {r : Rd α} {k : α → Nat → Rd Nt} (h : OkR s p d r) (hk : ∀ a q, q ≤ s.length → Dp s q = Dp s p + d → okEnd s (k a q)) : okEnd s (r.then k) := by
  rcases r with e | ⟨a, q⟩
  · exact h
  · exact hk a q h.1 h.2
theorem net_end (s : List UInt8) (F : Nat) : okEnd s (netP s F) := by
  refine okEnd_then (okr_must (Nat.zero_le _)) fun _ q hq e1 => okEnd_then (okr_must hq) fun _ q hq e2 => okEnd_then (okr_num hq) fun _ q hq e3 => okEnd_then (okr_nodes hq) fun l q hq e4 => okEnd_then (okr_must hq) fun _ q hq e5 => ?_
  split
  · rename_i h
    have h1 := tok_nil hq h
    have h2 := dp_nx s q
    rw [h1] at h2
    have h3 : Dp s s.length = bal s := by rw [Dp, take_all (Nat.le_refl _)]
    have h4 : Dp s 0 = 0 := rfl
    have b1 : bal kOpen = 1 := rfl
    have b2 : bal kNet = 0 := rfl
    have b3 : bal kClose = -1 := rfl
    show bal s = 0
    omega
  · exact (nx_le hq).2
/-- A text that is cut off is refused, at a place of it. -/
theorem read_cut {n : Nt} (hv : validP n) {i : Nat} (hi : i < (nested n).length) (hl : i ≤ 40000) : ∃ j, readNR ((nested n).take i) = .inl (j, 5) ∧ j ≤ i := by
  have hlen : ((nested n).take i).length = i := by rw [List.length_take]; omega
  have he := net_end ((nested n).take i) (i + 1)
  rw [readNR, hlen, if_neg (by omega)]
  rcases hr : netP ((nested n).take i) (i + 1) with e | ⟨m, q⟩
  · rw [hr] at he
    have he : e ≤ ((nested n).take i).length := he
    exact ⟨e, rfl, by omega⟩
  · exfalso
    rw [hr] at he
    have he : bal ((nested n).take i) = 0 := he
    rcases Nat.eq_zero_or_pos i with h0 | h0
    · subst h0
      rw [List.take_zero] at hr
      cases hr
    · have := nest_pos (valid_tw hv) h0 hi
      omega
def tailL : List (List UInt8) := [[41], [40], [120], [49]]
theorem read_tail {n : Nt} (hv : validP n) (hl : (nested n).length ≤ 39000) {k : Nat} (hk : k < 4) : readNR ((nested n ++ [32]) ++ tailL.getD k []) = .inl ((nested n).length + 1, 5) := by
  have hw : okT (tailL.getD k []) [] ∧ (tailL.getD k []).length = 1 := by
    have hk : k = 0 ∨ k = 1 ∨ k = 2 ∨ k = 3 := by omega
    rcases hk with rfl | rfl | rfl | rfl
    · exact ⟨.inr (.inl rfl), rfl⟩
    · exact ⟨.inl rfl, rfl⟩
    · exact ⟨.inr (.inr ⟨by decide, by decide, fun b r' e => by cases e⟩), rfl⟩
    · exact ⟨.inr (.inr ⟨by decide, by decide, fun b r' e => by cases e⟩), rfl⟩
  obtain ⟨w, hw0⟩ : ∃ w, w = tailL.getD k [] := ⟨_, rfl⟩
  rw [← hw0] at hw ⊢
  have hr := rn_nested (valid_tw hv) (g := []) (z := [32] ++ (w ++ [])) (by simp) (fun b r e => by cases e; rfl)
  rw [List.nil_append] at hr
  have e : (nested n ++ [32]) ++ w = nested n ++ ([32] ++ (w ++ [])) := by simp
  rw [e]
  have := readN_behind (by simp only [List.length_append, List.length_cons, List.length_nil]; omega) hv hr (by decide) hw.1
  rw [this]
  congr 2
  simp only [List.length_append, List.length_cons, List.length_nil]
  omega
end Go.Proofs.YtphmmoloegjocaaGreatDoor

/- Contracts of the kit's shelf, laid at this program by the kit's lay-shelf.mjs and lay-plain.mjs. -/
namespace Go.Proofs
open Go.Shelf
def Tryz.lays156_ren : Go.Shelf.Ren := ⟨fun | 156 => 20 | 165 => 54 | 166 => 33 | 169 => 37 | 240 => 63 | 241 => 80 | 276 => 86 | 277 => 101 | n => n, fun | 31 => 48 | 9 => 9 | 3 => 3 | 4 => 4 | 0 => 0 | 20 => 20 | 72 => 79 | 76 => 82 | 70 => 77 | 37 => 26 | 75 => 81 | 127 => 112 | 164 => 140 | 5 => 5 | 80 => 87 | n => n, fun | n => n⟩
theorem Tryz.lays156 : Go.Proofs.Lays.n156 Tryz.prog Tryz.lays156_ren := {
  mixed := by kernel_rfl
  f156 := Tryz.func20.trans (congrArg some (by kernel_rfl))
  f165 := Tryz.func54.trans (congrArg some (by kernel_rfl))
  f166 := Tryz.func33.trans (congrArg some (by kernel_rfl))
  f169 := Tryz.func37.trans (congrArg some (by kernel_rfl))
  f240 := Tryz.func63.trans (congrArg some (by kernel_rfl))
  f241 := Tryz.func80.trans (congrArg some (by kernel_rfl))
  f276 := Tryz.func86.trans (congrArg some (by kernel_rfl))
  f277 := Tryz.func101.trans (congrArg some (by kernel_rfl))
  t0 := Tryz.underlying0
  a0 := Tryz.isAgg0
  z0 := Tryz.sizeOf0
  v0 := Tryz.zeroValue0
  t3 := Tryz.underlying3
  a3 := Tryz.isAgg3
  z3 := Tryz.sizeOf3
  v3 := Tryz.zeroValue3
  t4 := Tryz.underlying4
  a4 := Tryz.isAgg4
  z4 := Tryz.sizeOf4
  v4 := Tryz.zeroValue4
  t9 := Tryz.underlying9
  a9 := Tryz.isAgg9
  z9 := Tryz.sizeOf9
  v9 := Tryz.zeroValue9
  t20 := Tryz.underlying20
  a20 := Tryz.isAgg20
  z20 := Tryz.sizeOf20
  v20 := Tryz.zeroValue20
  t31 := Tryz.underlying48
  a31 := Tryz.isAgg48
  z31 := Tryz.sizeOf48
  v31 := Tryz.zeroValue48
  t37 := Tryz.underlying26
  a37 := Tryz.isAgg26
  z37 := Tryz.sizeOf26
  v37 := Tryz.zeroValue26
  t70 := Tryz.underlying77
  a70 := Tryz.isAgg77
  z70 := Tryz.sizeOf77
  v70 := Tryz.zeroValue77
  t72 := Tryz.underlying79
  a72 := Tryz.isAgg79
  z72 := Tryz.sizeOf79
  v72 := Tryz.zeroValue79
  t75 := Tryz.underlying81
  a75 := Tryz.isAgg81
  z75 := Tryz.sizeOf81
  v75 := Tryz.zeroValue81
  t76 := Tryz.underlying82
  a76 := Tryz.isAgg82
  z76 := Tryz.sizeOf82
  v76 := Tryz.zeroValue82
  t127 := Tryz.underlying112
  a127 := Tryz.isAgg112
  z127 := Tryz.sizeOf112
  v127 := Tryz.zeroValue112
  t164 := Tryz.underlying140
  a164 := Tryz.isAgg140
  z164 := Tryz.sizeOf140
  v164 := Tryz.zeroValue140 }
theorem Tryz.Builder_Extra_156 : Builder.Extra Tryz.prog Tryz.lays156_ren := {
  sizeBuilder := by kernel_rfl
  liesBuilder := by kernel_rfl
  t5 := Tryz.underlying5
  a5 := Tryz.isAgg5
  z5 := Tryz.sizeOf5
  v5 := Tryz.zeroValue5
  infoByte := by kernel_rfl
  cellsByte := by kernel_rfl
  sizeByte := by kernel_rfl
  neB5 := by decide }
open Go.RowKit in
theorem Tryz.strings_Join_none (a : Option Addr) (c : Nat) (sep : ByteArray) (w : World) :
    Calls Tryz.prog 20 #[.slice a 0 c, .string sep] w fun e w' => e = .returned (.string ⟨#[]⟩) ∧ w' = w := Any.strings_Join_none Tryz.lays156 Tryz.Builder_Extra_156 a c sep w
open Go.RowKit in
theorem Tryz.strings_Join (bk o c : Nat) (xs : List ByteArray) (sep : ByteArray) (w : World) (hcells : ∀ (j : Nat) x, xs[j]? = some x → w.cell? ⟨bk, o + j, none⟩ = some (.string x)) (hbk : bk < w.heap.size) (hN : xs.length ≤ 140737488355328) (hcap : xs.length ≤ c) (hlen : (Lib.join (xs.map (·.data.toList)) sep.data.toList).length ≤ 140737488355328) :
    Calls Tryz.prog 20 #[.slice (some ⟨bk, o, none⟩) xs.length c, .string sep] w fun e w' => e = .returned (.string ⟨(Lib.join (xs.map (·.data.toList)) sep.data.toList).toArray⟩) ∧ Below w.heap.size w w' := Any.strings_Join Tryz.lays156 Tryz.Builder_Extra_156 bk o c xs sep w hcells hbk hN hcap hlen
end Go.Proofs

/- strings.Join by the kit's shelf; strings.SplitAfter at one octet. -/
namespace Go.Proofs.YtphmmoloegjocaaGreatDoor
open Go Y RowKit
set_option maxRecDepth 100000
set_option maxHeartbeats 4000000

theorem vpl_strs2 {fz : Fzn} : ∀ {l : List (List UInt8)} {us : List Value}, VPL fz (l.map PV.str) us → us = l.map fun s => .string ⟨⟨s⟩⟩
  | [], us, h => by simpa only [List.map, VPL] using h
  | s :: l, us, h => by
    simp only [List.map, VPL, VP] at h
    obtain ⟨u, us', rfl, rfl, h⟩ := h
    rw [vpl_strs2 h]; rfl
theorem joinB_c (l : List (List UInt8)) (sep : List UInt8) (hl : l.length ≤ 1000000) (hlen : (Lib.join l sep).length ≤ 140737488355328) : Pure cx 20 [strs l, .str sep] (· = .ret [.str (Lib.join l sep)]) := by
  refine pure_below Tryz.func20 rfl rfl rfl fun Γ w args' hR hA => ?_
  simp only [List.map, VRL, VR] at hA
  obtain ⟨a, as', rfl, h1, b, bs', rfl, h2, rfl⟩ := hA
  simp only [VP] at h2
  subst h2
  refine ⟨_, rfl, ?_⟩
  simp only [VP] at h1
  rcases h1 with ⟨he, a', c, rfl⟩ | ⟨bk, o, c, arr, us, rfl, hc, hfz, hv, pre, post, harr, hpre, _⟩
  · have hl0 : l = [] := by simpa using he
    subst hl0
    refine (Tryz.strings_Join_none a' c ⟨⟨sep⟩⟩ w).mono fun e w' ⟨h1, h2⟩ => ⟨h1, ?_⟩
    subst h2
    exact Below.refl _ _
  · have hus := vpl_strs2 hv
    obtain ⟨t, z, hb⟩ := hR.fzok bk arr hfz
    have hbk : bk < w.heap.size := by
      rcases Nat.lt_or_ge bk w.heap.size with h1 | h1
      · exact h1
      · rw [Array.getElem?_eq_none h1] at hb; cases hb
    have hm : (l.map fun s => (⟨⟨s⟩⟩ : ByteArray)).map (·.data.toList) = l := by rw [List.map_map]; exact List.map_id' _
    have := Tryz.strings_Join bk o c (l.map fun s => ⟨⟨s⟩⟩) ⟨⟨sep⟩⟩ w (fun j x hx => ?_) hbk (by rw [List.length_map]; omega) (by rw [List.length_map]; rw [List.length_map] at hc; exact hc) (by rw [hm]; exact hlen)
    · rw [hm, List.length_map] at this
      rw [List.length_map]
      exact this
    · rw [List.getElem?_map, Option.map_eq_some_iff] at hx
      obtain ⟨s, hs, rfl⟩ := hx
      unfold World.cell?
      simp only [hb]
      show (⟨arr⟩ : Array Value)[o + j]? = _
      have hj : j < l.length := (List.getElem?_eq_some_iff.1 hs).1
      rw [List.getElem?_toArray, harr, hus, List.append_assoc, List.getElem?_append_right (by omega), hpre, Nat.add_sub_cancel_left, List.getElem?_append_left (by rw [List.length_map]; exact hj), List.getElem?_map, hs]; rfl
theorem join_nil (l : List (List UInt8)) : Lib.join l [] = l.flatten := by
  rw [Lib.join]
  induction l with
  | nil => rfl
  | cons a r ih =>
    cases r with
    | nil => simp [List.intercalate]
    | cons b r => rw [List.intercalate_cons_cons, ih]; simp

/-! ### Splitting behind an octet -/
theorem sa_in {c : UInt8} {s : List UInt8} (h : c ∈ s) : saN c s = s.take (ahead c s + 1) :: saN c (s.drop (ahead c s + 1)) := by
  obtain ⟨h1, h2, h3⟩ := ahead_split h
  have key : ∀ (A R : List UInt8) (a : Nat), A.length = a → c ∉ A → saN c (A ++ c :: R) = (A ++ c :: R).take (a + 1) :: saN c ((A ++ c :: R).drop (a + 1)) := fun A R a hl hn => by
    have e1 : (A ++ c :: R).take (a + 1) = A ++ [c] := by
      rw [← hl, List.take_append, List.take_of_length_le (by omega), show A.length + 1 - A.length = 1 by omega]; rfl
    have e2 : (A ++ c :: R).drop (a + 1) = R := by
      rw [← hl, List.drop_append, List.drop_eq_nil_of_le (by omega), show A.length + 1 - A.length = 1 by omega]; rfl
    rw [e1, e2, saN, sa_run hn]; rfl
  have := key (s.take (ahead c s)) (s.drop (ahead c s + 1)) (ahead c s) (by rw [List.length_take]; omega) h2
  rw [← h1] at this
  exact this
def strO (l : List (List UInt8)) : AObj := ⟨9, false, .pu (l.map .str)⟩
theorem genSplit_c (s : List UInt8) (c : UInt8) (hs : s.length ≤ 1000000) : Pure cx 53 [.str s, .str [c], i64 1, i64 (-1)] (· = .ret [strs (saN c s)]) := by
  refine pure_of_vc Tryz.func53 rfl rfl rfl ?_
  refine And.intro (fun h => absurd (show (-1 : Int) = 0 from h) (by decide)) (fun _ => ?_)
  refine And.intro (fun h => absurd (show [c] = [] from h) (by simp)) (fun _ => ?_)
  refine And.intro (fun _ => ?_) (fun h => absurd (show (-1 : Int) < 0 by decide) h)
  have hcl : s.count c ≤ s.length := List.count_le_length
  refine (strCount1_c s c).eq rfl ?_
  obtain ⟨N, hN⟩ : ∃ N, N = s.count c := ⟨_, rfl⟩
  rw [← hN] at hcl ⊢
  refine ⟨((N + 1 : Nat) : Int), by rw [Int.natCast_add]; exact wrap_i64 (by omega) (by omega), ?_⟩
  refine ⟨((s.length + 1 : Nat) : Int), by rw [Int.natCast_add]; exact wrap_i64 (by omega) (by omega), ?_⟩
  have hX : (if ((s.length + 1 : Nat) : Int) < ((N + 1 : Nat) : Int) then ((s.length + 1 : Nat) : Int) else ((N + 1 : Nat) : Int)) = ((N + 1 : Nat) : Int) := by
    split <;> omega
  refine ⟨by
    show (0 : Int) ≤ (if ((s.length + 1 : Nat) : Int) < ((N + 1 : Nat) : Int) then ((s.length + 1 : Nat) : Int) else ((N + 1 : Nat) : Int)) ∧ (if ((s.length + 1 : Nat) : Int) < ((N + 1 : Nat) : Int) then ((s.length + 1 : Nat) : Int) else ((N + 1 : Nat) : Int)) ≤ (if ((s.length + 1 : Nat) : Int) < ((N + 1 : Nat) : Int) then ((s.length + 1 : Nat) : Int) else ((N + 1 : Nat) : Int)) ∧ (if ((s.length + 1 : Nat) : Int) < ((N + 1 : Nat) : Int) then ((s.length + 1 : Nat) : Int) else ((N + 1 : Nat) : Int)) * 16 ≤ 281474976710656 ∧ (if ((s.length + 1 : Nat) : Int) < ((N + 1 : Nat) : Int) then ((s.length + 1 : Nat) : Int) else ((N + 1 : Nat) : Int)) ≤ 281474976710656
    rw [hX]; omega, ?_⟩
  refine ⟨(N : Int), by
    show _ = IntKind.i64.wrap ((if ((s.length + 1 : Nat) : Int) < ((N + 1 : Nat) : Int) then ((s.length + 1 : Nat) : Int) else ((N + 1 : Nat) : Int)) - 1)
    rw [hX, show ((N + 1 : Nat) : Int) - 1 = (N : Nat) by omega]; exact wrap_i64 (by omega) (by omega), ?_⟩
  refine ⟨Nat × List (List UInt8) × List UInt8, fun x => [(0, .p (.str x.2.2)), (1, .p (.str [c])), (2, .p (i64 1)), (3, .p (i64 N)), (9, .sl 0 1 0 (N + 1)), (10, .p (i64 x.1))], fun x => ⟨1, [(0, strO (x.2.1 ++ List.replicate (N + 1 - x.1) []))]⟩,
    fun x => x.1 ≤ N ∧ x.2.1.length = x.1 ∧ saN c s = x.2.1 ++ saN c x.2.2 ∧ x.2.2.count c + x.1 = N ∧ x.2.2.length ≤ s.length, fun x => N - x.1, ?_, ?_⟩
  · refine ⟨(0, [], s), ⟨by simp, rfl, rfl, by simp only []; omega, Nat.le_refl _⟩, ent_of [] [] [] rfl ⟨rfl, rfl, rfl, rfl, ?_, rfl, trivial⟩ ⟨⟨_, rfl, rfl, rfl, ?_⟩, trivial⟩ rfl⟩
    · show AV.sl 0 1 0 (if ((s.length + 1 : Nat) : Int) < ((N + 1 : Nat) : Int) then ((s.length + 1 : Nat) : Int) else ((N + 1 : Nat) : Int)).toNat = .sl 0 1 0 (N + 1)
      rw [hX]; rfl
    · show List.replicate (if ((s.length + 1 : Nat) : Int) < ((N + 1 : Nat) : Int) then ((s.length + 1 : Nat) : Int) else ((N + 1 : Nat) : Int)).toNat (PV.str []) = (([] : List (List UInt8)) ++ List.replicate (N + 1 - 0) []).map .str
      rw [hX, Int.toNat_natCast, List.nil_append, List.map_replicate]; rfl
  rintro ⟨k, L, r⟩ ⟨g1, g2, g3, g4, g5⟩
  simp only [] at g1 g2 g3 g4 g5
  have hlen : (L ++ List.replicate (N + 1 - k) []).length = N + 1 := by rw [List.length_append, List.length_replicate]; omega
  (first | refine brLt (fun h1 => ?_) (fun h1 => ?_) | refine brLe (fun h1 => ?_) (fun h1 => ?_) | refine brEq (fun h1 => ?_) (fun h1 => ?_))
  · have h1 : (k : Int) < (N : Nat) := h1
    have hc : c ∈ r := List.count_pos_iff.1 (by omega)
    have hI := strIndex1_c r c
    rw [index_ahead.1 hc] at hI
    obtain ⟨a1, a2, a3⟩ := ahead_split hc
    have a4 := sa_in hc
    have a5 : (r.drop (ahead c r + 1)).count c + 1 = r.count c := by
      conv => rhs; rw [a1, List.count_append, List.count_cons_self, List.count_eq_zero_of_not_mem a2]
      omega
    obtain ⟨a, ha⟩ : ∃ a, a = ahead c r := ⟨_, rfl⟩
    rw [← ha] at hI a3 a4 a5
    refine hI.eq rfl ?_
    refine And.intro (fun h => absurd (show ((a : Nat) : Int) < 0 from h) (by omega)) (fun _ => ?_)
    refine ⟨((a + 1 : Nat) : Int), by rw [Int.natCast_add]; exact wrap_i64 (by omega) (by omega), ?_⟩
    refine ⟨by show (0 : Int) ≤ ((a + 1 : Nat) : Int) ∧ ((a + 1 : Nat) : Int) ≤ (r.length : Nat); omega, ?_⟩
    refine ⟨by show (0 : Int) ≤ (k : Nat) ∧ (k : Int) < ((N + 1 : Nat) : Int); omega, ?_⟩
    refine ⟨by show 0 + ((k : Nat) : Int).toNat < ((L ++ List.replicate (N + 1 - k) []).map PV.str).length; rw [List.length_map, hlen]; omega, ?_⟩
    refine ⟨((a + 1 : Nat) : Int), by rw [Int.natCast_add]; exact wrap_i64 (by omega) (by omega), ?_⟩
    refine ⟨by show (0 : Int) ≤ ((a + 1 : Nat) : Int) ∧ ((a + 1 : Nat) : Int) ≤ (r.length : Nat); omega, ?_⟩
    refine ⟨_, wrap_i64 (by omega) (by omega), ?_⟩
    refine ⟨(k + 1, L ++ [r.take (a + 1)], r.drop (a + 1)), ⟨by simp only []; omega, by simp only [snoc_len]; omega, by simp only []; rw [g3, a4]; simp, by simp only []; omega, by simp only [List.length_drop]; omega⟩, ent_of [] [] [] rfl ⟨rfl, rfl, rfl, rfl, rfl, rfl, trivial⟩ ⟨⟨_, rfl, rfl, rfl, ?_⟩, trivial⟩ rfl, by show N - (k + 1) < N - k; omega⟩
    show ((L ++ List.replicate (N + 1 - k) []).map PV.str).set (0 + ((k : Nat) : Int).toNat) (PV.str (r.take (a + 1))) = ((L ++ [r.take (a + 1)]) ++ List.replicate (N + 1 - (k + 1)) []).map .str
    rw [← List.map_set, Nat.zero_add, Int.toNat_natCast, List.set_append_right _ _ (by omega), show k - L.length = 0 by omega, show N + 1 - k = (N + 1 - (k + 1)) + 1 by omega, List.replicate_succ, List.set_cons_zero]
    simp
  · have h1 : ¬ (k : Int) < (N : Nat) := h1
    have hk : k = N := by omega
    have hr : c ∉ r := fun h => by have := List.count_pos_iff.2 h; omega
    have hfin : saN c s = L ++ [r] := by rw [g3, saN, sa_not hr]; rfl
    refine ⟨by show (0 : Int) ≤ (k : Nat) ∧ (k : Int) < ((N + 1 : Nat) : Int); omega, ?_⟩
    refine ⟨by show 0 + ((k : Nat) : Int).toNat < ((L ++ List.replicate (N + 1 - k) []).map PV.str).length; rw [List.length_map, hlen]; omega, ?_⟩
    refine ⟨_, wrap_i64 (by omega) (by omega), ?_⟩
    refine ⟨by show (0 : Int) ≤ (k : Int) + 1 ∧ (k : Int) + 1 ≤ ((N + 1 : Nat) : Int); omega, ?_⟩
    refine end1 (strs (saN c s)) rfl ⟨_, rfl, ?_, ?_⟩ rfl
    · show 0 + 0 + (((k : Int) + 1).toNat - 0) ≤ (((L ++ List.replicate (N + 1 - k) []).map PV.str).set (0 + ((k : Nat) : Int).toNat) (PV.str r)).length
      rw [List.length_set, List.length_map, hlen]; omega
    · show (saN c s).map PV.str = ((((L ++ List.replicate (N + 1 - k) []).map PV.str).set (0 + ((k : Nat) : Int).toNat) (PV.str r)).drop (0 + 0)).take (((k : Int) + 1).toNat - 0)
      rw [← List.map_set, Nat.zero_add, Nat.zero_add, Int.toNat_natCast, List.set_append_right _ _ (by omega), show k - L.length = 0 by omega, show N + 1 - k = 1 by omega, hfin]
      show (L ++ [r]).map PV.str = ((L ++ [r]).map PV.str).take _
      rw [List.take_of_length_le (by rw [List.length_map, snoc_len]; omega)]
theorem splitAfter_c (s : List UInt8) (c : UInt8) (hs : s.length ≤ 1000000) : Pure cx 18 [.str s, .str [c]] (· = .ret [strs (saN c s)]) := by
  refine pure_of_vc Tryz.func18 rfl rfl rfl ?_
  refine (genSplit_c s c hs).eq rfl ?_
  exact end1 _ rfl rfl rfl
end Go.Proofs.YtphmmoloegjocaaGreatDoor

/- The statement on what is not as it must be. -/
namespace Go.Proofs.YtphmmoloegjocaaGreatDoor
open Go Y
set_option maxRecDepth 100000
set_option maxHeartbeats 40000000

theorem flat_map_len {α : Type} {f : α → List UInt8} (l : List α) (k : Nat) : ((l.take k).flatMap f).length + ((l.drop k).flatMap f).length = (l.flatMap f).length := by
  rw [← List.length_append, ← List.flatMap_append, List.take_append_drop]
theorem netW_len {n : Nt} (h : DrB n) : (netW n).length ≤ 6000 := by
  have h1 := h.lines
  rw [net_join] at h1
  have := flat_count (f := fun w => joinL [32] w ++ [10]) (l := netW n) fun w _ => by simp
  omega
abbrev linesS (n : Nt) : List (List UInt8) := (netW n).map lineW ++ [[]]
theorem flat_join (W : List (List (List UInt8))) : (W.map lineW).flatten = W.flatMap lineW := by rw [List.flatMap_def]
theorem join_take {n : Nt} {K : Nat} (hK : K ≤ (netW n).length) : Lib.join ((linesS n).take K) [] = ((netW n).take K).flatMap lineW := by
  rw [join_nil, linesS, List.take_append_of_le_length (by rw [List.length_map]; exact hK), ← List.map_take, flat_join]
theorem join_drop {n : Nt} {K : Nat} (hK : K ≤ (netW n).length) : Lib.join ((linesS n).drop K) [] = ((netW n).drop K).flatMap lineW := by
  rw [join_nil, linesS, List.drop_append_of_le_length (by rw [List.length_map]; exact hK), ← List.map_drop, List.flatten_append, flat_join]; simp
theorem formatStops_c (D : D5) (place : UInt16) (which : UInt8) (hD : OkD5 D) : Pure cx 5 [D.pv, .int .u16 (place.toNat : Int), u8 which] (· = .ret [.bool true]) := by
  refine pure_of_vc Tryz.func5 rfl rfl rfl ?_
  refine works_c.eq rfl ?_
  refine (net_c D hD).at fun r hr => ?_
  obtain ⟨n, hn, rfl⟩ := hr
  have hv := hn.valid
  have ht := valid_tw hv
  have hb1 := hn.lines
  have hb2 := hn.nest
  have h1 := lines_c n (valid_big hv)
  rw [linesP, if_pos hv] at h1
  have h2 := nestedE_c n (valid_big hv)
  rw [nestedP, if_pos hv] at h2
  have hpl := place.toNat_lt
  have hwl := which.toNat_lt
  obtain ⟨M, hM⟩ : ∃ M, M = (netW n).length := ⟨_, rfl⟩
  have hM2 := netW_len hn
  have hsa : saN 10 (byLines n) = (netW n).map lineW ++ [[]] := by
    rw [net_join]
    exact sa_lines fun w hw => gw_nl ht hw
  have h3 := splitAfter_c (byLines n) 10 (by omega)
  rw [hsa] at h3
  have hsl : ((netW n).map lineW ++ [[]] : List (List UInt8)).length = M + 1 := by rw [snoc_len, List.length_map, hM]
  obtain ⟨K, hK⟩ : ∃ K, K = place.toNat % (M + 1) := ⟨_, rfl⟩
  have hKM : K < M + 1 := by rw [hK]; exact Nat.mod_lt _ (by omega)
  obtain ⟨b, hb⟩ : ∃ b, b = which.toNat % 6 := ⟨_, rfl⟩
  have hb6 : b < 6 := by rw [hb]; exact Nat.mod_lt _ (by omega)
  have hnl : 0 < (nested n).length := by rw [net_rnd ht]; simp
  obtain ⟨I, hI⟩ : ∃ I, I = place.toNat % (nested n).length := ⟨_, rfl⟩
  have hIl : I < (nested n).length := by rw [hI]; exact Nat.mod_lt _ hnl
  refine h1.eq rfl ?_
  refine h2.eq rfl ?_
  refine And.intro (fun _ => ?_) (fun h => absurd rfl h)
  refine And.intro (fun _ => ?_) (fun h => absurd rfl h)
  refine And.intro (fun h => absurd (show ((nested n).length : Int) = 0 from h) (by omega)) (fun _ => ?_)
  refine h3.eq rfl ?_
  refine ⟨((place.toNat : Nat) : Int), wrap_i64 (by omega) (by omega), ?_⟩
  have e1 : ((place.toNat : Nat) : Int).tmod (((netW n).map lineW ++ [[]]).map PV.str).length = ((K : Nat) : Int) := by rw [List.length_map, hsl, hK]; rfl
  have e2 : ((which.toNat : Nat) : Int).tmod 6 = ((b : Nat) : Int) := by rw [hb]; rfl
  refine ⟨by show ((((netW n).map lineW ++ [[]]).map PV.str).length : Int) ≠ 0; rw [List.length_map, hsl]; omega, ?_⟩
  refine ⟨by decide, ?_⟩
  obtain ⟨w, hw⟩ : ∃ w, w = badL.getD b [] := ⟨_, rfl⟩
  have hwl2 : w.length ≤ 20 := by
    have : ∀ v ∈ badL, v.length ≤ 20 := by decide
    rw [hw]
    exact this _ (getD_memL [] (by show _ < 6; omega))
  refine ⟨_, ⟨⟨by show (0 : Int) ≤ ((which.toNat : Nat) : Int).tmod 6; rw [e2]; omega, by show ((which.toNat : Nat) : Int).tmod 6 < 6; rw [e2]; omega⟩, .str w, ldInP1 (by kernel_rfl) (by show (badL.map PV.str)[(((which.toNat : Nat) : Int).tmod 6).toNat * 1]? = _; rw [e2, hw, Int.toNat_natCast, Nat.mul_one]; exact tcell (l := badL) (by show _ < 6; omega)), rfl⟩, ?_⟩
  have hsl' : (linesS n).length = M + 1 := hsl
  have e3 : ((place.toNat : Nat) : Int).tmod ((nested n).length : Nat) = ((I : Nat) : Int) := by rw [hI]; rfl
  obtain ⟨j, hj1, hj2⟩ := read_cut hv hIl (by omega)
  have hRN : Pure cx 21 [.str (sub (nested n) none (some (((place.toNat : Nat) : Int).tmod ((nested n).length : Nat))))] (· = .ret [znV, i64 (j : Nat), i64 5]) := by
    have e : sub (nested n) none (some (((place.toNat : Nat) : Int).tmod ((nested n).length : Nat))) = (nested n).take I := by rw [e3]; rfl
    have := readNested_p ((nested n).take I) (by rw [List.length_take]; omega)
    rw [readN_res, hj1] at this
    rw [e]; exact this
  have hb4 : which.toNat % 4 < 4 := Nat.mod_lt _ (by omega)
  have e4 : ((which.toNat : Nat) : Int).tmod 4 = ((which.toNat % 4 : Nat) : Int) := rfl
  obtain ⟨v, hv4⟩ : ∃ v, v = tailL.getD (which.toNat % 4) [] := ⟨_, rfl⟩
  have hvl : v.length ≤ 1 := by
    have : ∀ v ∈ tailL, v.length ≤ 1 := by decide
    rw [hv4]
    exact this _ (getD_memL [] (by show _ < 4; omega))
  have hTl := badNest_yes ((nested n ++ [32]) ++ v) ((nested n).length + 1) 5 (by rw [List.length_append, snoc_len]; omega) (by rw [hv4]; exact read_tail hv (by omega) hb4)
  have hfl := flat_map_len (f := lineW) (netW n) K
  have hfb : ((netW n).flatMap lineW).length ≤ 6000 := by have := net_join n; rw [← this]; exact hb1
  have hJ1 : Pure cx 20 [.lst (sub ((linesS n).map PV.str) none (some (((place.toNat : Nat) : Int).tmod ((linesS n).map PV.str).length))), .str []] (· = .ret [.str (((netW n).take K).flatMap lineW)]) := by
    have e : sub ((linesS n).map PV.str) none (some (((place.toNat : Nat) : Int).tmod ((linesS n).map PV.str).length)) = ((linesS n).take K).map PV.str := by
      rw [e1, List.map_take]; rfl
    have := joinB_c ((linesS n).take K) [] (by rw [List.length_take]; omega) (by rw [join_take (by omega)]; omega)
    rw [join_take (by omega)] at this
    rw [e]; exact this
  have hJ2 : Pure cx 20 [.lst (sub ((linesS n).map PV.str) (some (((place.toNat : Nat) : Int).tmod ((linesS n).map PV.str).length)) none), .str []] (· = .ret [.str (((netW n).drop K).flatMap lineW)]) := by
    have e : sub ((linesS n).map PV.str) (some (((place.toNat : Nat) : Int).tmod ((linesS n).map PV.str).length)) none = ((linesS n).drop K).map PV.str := by
      rw [e1, List.map_drop]; rfl
    have := joinB_c ((linesS n).drop K) [] (by rw [List.length_drop]; omega) (by rw [join_drop (by omega)]; omega)
    rw [join_drop (by omega)] at this
    rw [e]; exact this
  refine And.intro (fun h5 => ?_) (fun h5 => ?_)
  · have h5 : ((place.toNat : Nat) : Int).tmod (((netW n).map lineW ++ [[]]).map PV.str).length = 0 := h5
    rw [e1] at h5
    refine ⟨by decide, ?_⟩
    refine And.intro (fun h6 => ?_) (fun h6 => ?_)
    · exact end1 _ rfl rfl rfl
    have h6 : ¬ ((which.toNat : Nat) : Int).tmod 6 = 1 := h6
    rw [e2] at h6
    have hq : K = 0 → b ≠ 1 := fun _ => by omega
    refine VDraw.seq rfl ?_
    refine ⟨by show (0 : Int) ≤ ((place.toNat : Nat) : Int).tmod ((linesS n).map PV.str).length ∧ ((place.toNat : Nat) : Int).tmod ((linesS n).map PV.str).length ≤ (((linesS n).map PV.str).length : Nat); rw [e1, List.length_map, hsl]; omega, ?_⟩
    refine ⟨by show (0 : Int) ≤ ((place.toNat : Nat) : Int).tmod ((linesS n).map PV.str).length ∧ ((place.toNat : Nat) : Int).tmod ((linesS n).map PV.str).length ≤ (((linesS n).map PV.str).length : Nat); rw [e1, List.length_map, hsl]; omega, ?_⟩
    refine ⟨((K + 1 : Nat) : Int), by show _ = IntKind.i64.wrap (((place.toNat : Nat) : Int).tmod ((linesS n).map PV.str).length + 1); rw [e1]; exact wrap_i64 (by omega) (by omega), ?_⟩
    refine hJ1.eq rfl ?_
    refine ⟨by show ((((netW n).take K).flatMap lineW).length + w.length) ≤ 9223372036854775807; omega, ?_⟩
    refine hJ2.eq rfl ?_
    refine ⟨by show ((((netW n).take K).flatMap lineW ++ w).length + (((netW n).drop K).flatMap lineW).length) ≤ 9223372036854775807; rw [List.length_append]; omega, ?_⟩
    have hbad := badLine_yes (((netW n).take K).flatMap lineW ++ w ++ ((netW n).drop K).flatMap lineW) (K + 1) 5 (by rw [List.length_append, List.length_append]; omega) (by rw [hw]; exact read_bad hv (by omega) hb6 hq (by rw [← hw, List.length_append, List.length_append]; omega))
    refine hbad.eq rfl ?_
    refine ⟨((place.toNat : Nat) : Int), wrap_i64 (by omega) (by omega), ?_⟩
    refine ⟨by show ((nested n).length : Int) ≠ 0; omega, ?_⟩
    refine ⟨by show (0 : Int) ≤ ((place.toNat : Nat) : Int).tmod ((nested n).length : Nat) ∧ ((place.toNat : Nat) : Int).tmod ((nested n).length : Nat) ≤ ((nested n).length : Nat); rw [e3]; omega, ?_⟩
    refine hRN.eq rfl ?_
    refine And.intro (fun _ => ?_) (fun h => absurd rfl h)
    refine And.intro (fun h => absurd (show ((j : Nat) : Int) < 0 from h) (by omega)) (fun _ => ?_)
    refine And.intro (fun h => absurd (show ((place.toNat : Nat) : Int).tmod ((nested n).length : Nat) < (j : Nat) from h) (by rw [e3]; omega)) (fun _ => ?_)
    refine And.intro (fun _ => ?_) (fun h => absurd rfl h)
    refine ⟨by show (nested n).length + 1 ≤ 9223372036854775807; omega, ?_⟩
    refine ⟨by decide, ?_⟩
    refine ⟨_, ⟨⟨by show (0 : Int) ≤ ((which.toNat : Nat) : Int).tmod 4; rw [e4]; omega, by show ((which.toNat : Nat) : Int).tmod 4 < 4; rw [e4]; omega⟩, .str v, ldInP1 (by kernel_rfl) (by show (tailL.map PV.str)[(((which.toNat : Nat) : Int).tmod 4).toNat * 1]? = _; rw [e4, hv4, Int.toNat_natCast, Nat.mul_one]; exact tcell (l := tailL) (by show _ < 4; omega)), rfl⟩, ?_⟩
    refine ⟨by show (nested n ++ [32]).length + v.length ≤ 9223372036854775807; rw [snoc_len]; omega, ?_⟩
    refine ⟨(((nested n).length + 1 : Nat) : Int), by rw [Int.natCast_add]; exact wrap_i64 (by omega) (by omega), ?_⟩
    refine hTl.eq rfl ?_
    exact end1 _ rfl rfl rfl
  have h5 : ¬ ((place.toNat : Nat) : Int).tmod (((netW n).map lineW ++ [[]]).map PV.str).length = 0 := h5
  rw [e1] at h5
  have hq : K = 0 → b ≠ 1 := fun _ => by omega
  refine VDraw.seq rfl ?_
  refine ⟨by show (0 : Int) ≤ ((place.toNat : Nat) : Int).tmod ((linesS n).map PV.str).length ∧ ((place.toNat : Nat) : Int).tmod ((linesS n).map PV.str).length ≤ (((linesS n).map PV.str).length : Nat); rw [e1, List.length_map, hsl]; omega, ?_⟩
  refine ⟨by show (0 : Int) ≤ ((place.toNat : Nat) : Int).tmod ((linesS n).map PV.str).length ∧ ((place.toNat : Nat) : Int).tmod ((linesS n).map PV.str).length ≤ (((linesS n).map PV.str).length : Nat); rw [e1, List.length_map, hsl]; omega, ?_⟩
  refine ⟨((K + 1 : Nat) : Int), by show _ = IntKind.i64.wrap (((place.toNat : Nat) : Int).tmod ((linesS n).map PV.str).length + 1); rw [e1]; exact wrap_i64 (by omega) (by omega), ?_⟩
  refine hJ1.eq rfl ?_
  refine ⟨by show ((((netW n).take K).flatMap lineW).length + w.length) ≤ 9223372036854775807; omega, ?_⟩
  refine hJ2.eq rfl ?_
  refine ⟨by show ((((netW n).take K).flatMap lineW ++ w).length + (((netW n).drop K).flatMap lineW).length) ≤ 9223372036854775807; rw [List.length_append]; omega, ?_⟩
  have hbad := badLine_yes (((netW n).take K).flatMap lineW ++ w ++ ((netW n).drop K).flatMap lineW) (K + 1) 5 (by rw [List.length_append, List.length_append]; omega) (by rw [hw]; exact read_bad hv (by omega) hb6 hq (by rw [← hw, List.length_append, List.length_append]; omega))
  refine hbad.eq rfl ?_
  refine ⟨((place.toNat : Nat) : Int), wrap_i64 (by omega) (by omega), ?_⟩
  refine ⟨by show ((nested n).length : Int) ≠ 0; omega, ?_⟩
  refine ⟨by show (0 : Int) ≤ ((place.toNat : Nat) : Int).tmod ((nested n).length : Nat) ∧ ((place.toNat : Nat) : Int).tmod ((nested n).length : Nat) ≤ ((nested n).length : Nat); rw [e3]; omega, ?_⟩
  refine hRN.eq rfl ?_
  refine And.intro (fun _ => ?_) (fun h => absurd rfl h)
  refine And.intro (fun h => absurd (show ((j : Nat) : Int) < 0 from h) (by omega)) (fun _ => ?_)
  refine And.intro (fun h => absurd (show ((place.toNat : Nat) : Int).tmod ((nested n).length : Nat) < (j : Nat) from h) (by rw [e3]; omega)) (fun _ => ?_)
  refine And.intro (fun _ => ?_) (fun h => absurd rfl h)
  refine ⟨by show (nested n).length + 1 ≤ 9223372036854775807; omega, ?_⟩
  refine ⟨by decide, ?_⟩
  refine ⟨_, ⟨⟨by show (0 : Int) ≤ ((which.toNat : Nat) : Int).tmod 4; rw [e4]; omega, by show ((which.toNat : Nat) : Int).tmod 4 < 4; rw [e4]; omega⟩, .str v, ldInP1 (by kernel_rfl) (by show (tailL.map PV.str)[(((which.toNat : Nat) : Int).tmod 4).toNat * 1]? = _; rw [e4, hv4, Int.toNat_natCast, Nat.mul_one]; exact tcell (l := tailL) (by show _ < 4; omega)), rfl⟩, ?_⟩
  refine ⟨by show (nested n ++ [32]).length + v.length ≤ 9223372036854775807; rw [snoc_len]; omega, ?_⟩
  refine ⟨(((nested n).length + 1 : Nat) : Int), by rw [Int.natCast_add]; exact wrap_i64 (by omega) (by omega), ?_⟩
  refine hTl.eq rfl ?_
  exact end1 _ rfl rfl rfl
end Go.Proofs.YtphmmoloegjocaaGreatDoor

/- Arguments and listed variables, read as data. -/
namespace Go.Proofs.YtphmmoloegjocaaGreatDoor.Y
open Go

/-- The parts of a struct or an array, with their offsets. -/
def partsOf (P : Program) (t : TypeId) : Option (List (TypeId × Nat)) :=
  match P.underlying t with
  | some (.struct fs) => some (fs.toList.map fun f => (f.type, f.offset))
  | some (.array k e) => some ((List.range k).map fun i => (e, i * P.cellsOf e))
  | _ => none
def tiles (P : Program) : List (TypeId × Nat) → Nat → Option Nat
  | [], o => some o
  | f :: r, o => if f.2 = o then tiles P r (o + P.cellsOf f.1) else none
theorem tiles_le {P : Program} : ∀ {l : List (TypeId × Nat)} {o n : Nat}, tiles P l o = some n → o ≤ n
  | [], o, n, h => by simp only [tiles, Option.some.injEq] at h; omega
  | f :: r, o, n, h => by
    simp only [tiles] at h
    split at h
    · have := tiles_le h; omega
    · cases h

def basic : TypeDesc → Bool
  | .bool => true
  | .int _ => true
  | .string => true
  | _ => false

/-- Types of plain data: what the readings below cover. -/
def supp (P : Program) : Nat → TypeId → Bool
  | 0, _ => false
  | n + 1, t => match partsOf P t with
    | some l => decide (tiles P l 0 = some (P.cellsOf t)) && l.all fun f => supp P n f.1
    | none => match P.underlying t with
      | some (.slice e) => decide (0 < P.cellsOf e) && supp P n e
      | some d => basic d
      | none => false

def Flds (P : Program) (p : TypeId → List PV → Prop) : List (TypeId × Nat) → List PV → Prop
  | [], xs => xs = []
  | f :: r, xs => ∃ ys zs, xs = ys ++ zs ∧ ys.length = P.cellsOf f.1 ∧ p f.1 ys ∧ Flds P p r zs

/-- The cells of a value of a type. -/
def TyT (P : Program) : Nat → TypeId → List PV → Prop
  | 0, _, _ => False
  | m + 1, t, xs => match partsOf P t with
    | some l => Flds P (TyT P m) l xs
    | none => match P.underlying t with
      | some .bool => ∃ b, xs = [.bool b]
      | some (.int k) => ∃ n, xs = [.int k n] ∧ (Lit.int k n).wf = true
      | some .string => ∃ s, xs = [.str s] ∧ s.length ≤ maxLen
      | some (.slice e) => match Nat.beq (P.cellsOf e) 1 with
        | true => ∃ ys, xs = [.lst ys] ∧ ys.length ≤ maxLen ∧ ∀ y ∈ ys, TyT P m e [y]
        | false => ∃ yss, xs = [.lsts (P.cellsOf e) yss] ∧ yss.length ≤ maxLen ∧ ∀ ys ∈ yss, TyT P m e ys
      | _ => False

section
variable {H : Type} {enc : TypeId × Value → H} {P : Program} {W : World} {sp : Nat → Bool} {held : Bool}

/-- Cells of a block, one after the other. -/
theorem cells_take {a : Addr} {n : Nat} {cs : List Value} (hn : 0 < n) (h : W.cells? 0 a n = some cs) :
    ∃ c t z, W.heap[a.block]? = some (.cells c t z) ∧ a.spot = none ∧ cs.length = n ∧ a.off + n ≤ c.toList.length ∧ cs = (c.toList.drop a.off).take n := by
  unfold World.cells? at h
  rw [if_pos (Nat.zero_le _)] at h
  have hl := mapM_some_length h
  rw [List.length_range] at hl
  have hg : ∀ i, i < n → W.cell? (a.add i) = cs[i]? := fun i hi => mapM_some_get h i i (by simp [hi])
  have h0 := hg 0 hn
  have ha : a.add 0 = a := by simp [Addr.add]
  rw [ha, List.getElem?_eq_getElem (by omega)] at h0
  unfold World.cell? at h0
  split at h0
  · rename_i c t z hb
    have hs : a.spot = none := by
      cases hs : a.spot with
      | none => rfl
      | some _ => simp [hs] at h0
    have hcell : ∀ i, i < n → c[a.off + i]? = cs[i]? := by
      intro i hi
      have := hg i hi
      unfold World.cell? at this
      have hblk : (a.add i).block = a.block := by unfold Addr.add; split <;> rfl
      have hsp : (a.add i).spot = none := by unfold Addr.add; split <;> first | exact hs | rfl
      have hoff : (a.add i).off = a.off + i := by unfold Addr.add; split <;> simp_all
      rw [hblk, hb] at this
      simp only [hsp, hoff] at this
      simpa using this
    have hlen : a.off + n ≤ c.toList.length := by
      have := hcell (n - 1) (by omega)
      rw [List.getElem?_eq_getElem (by omega)] at this
      have := (Array.getElem?_eq_some_iff.1 this).1
      simp
      omega
    refine ⟨c, t, z, hb, hs, hl, hlen, ?_⟩
    refine List.ext_getElem? fun i => ?_
    by_cases hi : i < n
    · rw [← hcell i hi, List.getElem?_take_of_lt hi, List.getElem?_drop]
      simp
    · rw [List.getElem?_eq_none (by omega), List.getElem?_eq_none (by simp; omega)]
  · cases h0

def AllCells (fz : Fzn) (W : World) : Prop := ∀ b c t z, W.heap[b]? = some (.cells c t z) → fz b = some c.toList

/-- What a reading says of the cells. -/
def Rd (P : Program) (fz : Fzn) (m : Nat) (t : TypeId) (cs : List Value) : Prop := ∃ xs, VPL fz xs cs ∧ (∀ u ∈ cs, plainV u = true) ∧ TyT P m t xs

theorem flds_of {fz : Fzn} {m : Nat} {cs : List Value} : ∀ (l : List (TypeId × Nat)) (o : Nat), tiles P l o = some cs.length → (∀ f ∈ l, Rd P fz m f.1 ((cs.drop f.2).take (P.cellsOf f.1))) →
    ∃ xs, VPL fz xs (cs.drop o) ∧ (∀ u ∈ cs.drop o, plainV u = true) ∧ Flds P (TyT P m) l xs
  | [], o, ht, _ => by
    simp only [tiles, Option.some.injEq] at ht
    subst ht
    exact ⟨[], by simp [VPL], by simp, rfl⟩
  | f :: r, o, ht, hr => by
    simp only [tiles] at ht
    split at ht
    · rename_i ho
      have hle := tiles_le ht
      obtain ⟨ys, h1, h2, h3⟩ := hr f (by simp)
      obtain ⟨zs, k1, k2, k3⟩ := flds_of r (o + P.cellsOf f.1) ht fun g hg => hr g (by simp [hg])
      rw [ho] at h1 h2
      have e : cs.drop o = (cs.drop o).take (P.cellsOf f.1) ++ cs.drop (o + P.cellsOf f.1) := by
        rw [← List.drop_drop, List.take_append_drop]
      refine ⟨ys ++ zs, ?_, ?_, ys, zs, rfl, ?_, h3, k3⟩
      · rw [e]; exact VPL_append h1 k1
      · rw [e]; intro u hu; rcases List.mem_append.1 hu with hu | hu
        · exact h2 u hu
        · exact k2 u hu
      · rw [← VPL_length h1, List.length_take, List.length_drop]; omega
    · cases ht

theorem parts_trod {t : TypeId} {l : List (TypeId × Nat)} (hp : partsOf P t = some l) {n : Nat} {cs : List Value} {x : DataW H × List MemPlace} (h : DataW.trod enc P W 0 sp held n t cs = some x) :
    ∃ (xs : List (DataW H × List MemPlace)) (k : Nat), n = k + 1 ∧ x = (.agg (xs.map (·.1)), xs.flatMap (·.2)) ∧ cs.length = P.cellsOf t ∧ xs.length = l.length ∧
      ∀ (i : Nat) (f : TypeId × Nat), l[i]? = some f → DataW.trod enc P W 0 sp held k f.1 ((cs.drop f.2).take (P.cellsOf f.1)) = xs[i]? := by
  unfold partsOf at hp
  split at hp
  · rename_i fs hu
    injection hp with hp
    subst hp
    obtain ⟨xs, k, h1, h2, h3, h4, h5⟩ := DataW.trod_struct hu h
    refine ⟨xs, k, h1, h2, h3, by simpa using h4, fun i f hf => ?_⟩
    rw [List.getElem?_map, Option.map_eq_some_iff] at hf
    obtain ⟨g, hg, rfl⟩ := hf
    exact h5 i g (by simpa using hg)
  · rename_i k' e hu
    injection hp with hp
    subst hp
    obtain ⟨xs, k, h1, h2, h3, h4, h5⟩ := DataW.trod_array hu h
    refine ⟨xs, k, h1, h2, h3, by simpa using h4, fun i f hf => ?_⟩
    rw [List.getElem?_map, Option.map_eq_some_iff] at hf
    obtain ⟨j, hj, rfl⟩ := hf
    have hi := (List.getElem?_eq_some_iff.1 hj)
    obtain ⟨hi, hj⟩ := hi
    simp at hi hj
    subst hj
    exact h5 i hi
  · cases hp

theorem flat_singles {l : List (List PV)} (h : ∀ cs ∈ l, cs.length = 1) : l.flatten.length = l.length ∧ ∀ y ∈ l.flatten, [y] ∈ l := by
  induction l with
  | nil => simp
  | cons x r ih =>
    have hx := h x (by simp)
    obtain ⟨y, rfl⟩ : ∃ y, x = [y] := by
      match x, hx with
      | [y], _ => exact ⟨y, rfl⟩
    obtain ⟨h1, h2⟩ := ih fun c hc => h c (by simp [hc])
    refine ⟨by simp [h1], fun z hz => ?_⟩
    simp at hz
    rcases hz with rfl | hz
    · simp
    · have := h2 z (by simpa using hz)
      simp [this]

/-- A READING OF PLAIN DATA is a value of its type. -/
theorem typed_of_trod {fz : Fzn} (hfz : AllCells fz W) : ∀ (m : Nat) (t : TypeId) (n : Nat) (cs : List Value) (x : DataW H × List MemPlace), supp P m t = true → DataW.trod enc P W 0 sp held n t cs = some x → Rd P fz m t cs
  | 0, _, _, _, _, hs, _ => by simp [supp] at hs
  | m + 1, t, n, cs, x, hs, h => by
    have ih := typed_of_trod hfz m
    simp only [supp] at hs
    cases hp : partsOf P t with
    | some l =>
      simp only [hp, Bool.and_eq_true, decide_eq_true_eq, List.all_eq_true] at hs
      obtain ⟨xs, k, h1, h2, h3, h4, h5⟩ := parts_trod hp h
      obtain ⟨ys, g1, g2, g3⟩ := flds_of (fz := fz) (m := m) (cs := cs) l 0 (by rw [h3]; exact hs.1) fun f hf => by
        obtain ⟨i, hi, rfl⟩ := List.getElem_of_mem hf
        have := h5 i _ (List.getElem?_eq_getElem hi)
        rw [List.getElem?_eq_getElem (by omega)] at this
        exact ih _ _ _ _ (hs.2 _ hf) this
      exact ⟨ys, by simpa using g1, by simpa using g2, by simp only [TyT, hp]; exact g3⟩
    | none =>
      simp only [hp] at hs
      cases hu : P.underlying t with
      | none => simp [hu] at hs
      | some d =>
        simp only [hu] at hs
        cases d with
        | bool =>
          obtain ⟨b, rfl, _⟩ := DataW.trod_bool hu h
          exact ⟨[.bool b], by simp [VPL, VP], by simp [plainV], by simp [TyT, hp, hu]⟩
        | int k =>
          obtain ⟨b, rfl, _, hw⟩ := DataW.trod_int hu h
          exact ⟨[.int k b], by simp [VPL, VP], by simp [plainV], by simp [TyT, hp, hu, hw]⟩
        | string =>
          obtain ⟨⟨⟨s⟩⟩, rfl, _, hw⟩ := DataW.trod_string hu h
          exact ⟨[.str s], by simp [VPL, VP], by simp [plainV], by simp only [TyT, hp, hu]; exact ⟨s, rfl, hw⟩⟩
        | slice e =>
          simp only [Bool.and_eq_true, decide_eq_true_eq] at hs
          obtain ⟨hs0, hse⟩ := hs
          have fin : ∀ (v : Value) (len : Nat) (yss : List (List PV)), len ≤ maxLen → yss.length = len → (∀ ys ∈ yss, ys.length = P.cellsOf e ∧ TyT P m e ys) → plainV v = true →
              (yss = [] → ∃ a c, v = .slice a 0 c) → (yss ≠ [] → ∃ b o c arr us, v = .slice (some ⟨b, o, none⟩) len c ∧ len ≤ c ∧ fz b = some arr ∧ VPLL fz (P.cellsOf e) yss us ∧ Seg arr o us) → Rd P fz (m + 1) t [v] := by
            intro v len yss hml hlen hty hpl hnil hcons
            by_cases h1 : P.cellsOf e = 1
            · have hfl := flat_singles (l := yss) fun c hc => by rw [(hty c hc).1, h1]
              refine ⟨[.lst yss.flatten], ?_, by simpa using hpl, ?_⟩
              · simp only [VPL]
                refine ⟨v, [], rfl, ?_, rfl⟩
                simp only [VP]
                by_cases hy : yss = []
                · exact .inl ⟨by simp [hy], hnil hy⟩
                · obtain ⟨b, o, c, arr, us, k1, k2, k3, k4, k5⟩ := hcons hy
                  exact .inr ⟨b, o, c, arr, us, by rw [hfl.1, hlen]; exact k1, by rw [hfl.1, hlen]; exact k2, k3, (VPLL_flat.1 k4).1, k5⟩
              · simp only [TyT, hp, hu, h1]
                exact ⟨_, rfl, by rw [hfl.1, hlen]; exact hml, fun y hy => (hty _ (hfl.2 y hy)).2⟩
            · refine ⟨[.lsts (P.cellsOf e) yss], ?_, by simpa using hpl, ?_⟩
              · simp only [VPL]
                refine ⟨v, [], rfl, ?_, rfl⟩
                simp only [VP]
                by_cases hy : yss = []
                · exact .inl ⟨hy, hnil hy⟩
                · obtain ⟨b, o, c, arr, us, k1, k2, k3, k4, k5⟩ := hcons hy
                  exact .inr ⟨b, o, c, arr, us, by rw [hlen]; exact k1, by rw [hlen]; exact k2, k3, k4, k5⟩
              · have hb : Nat.beq (P.cellsOf e) 1 = false := beq_ne h1
                simp only [TyT, hp, hu, hb]
                exact ⟨_, rfl, by rw [hlen]; exact hml, fun y hy => (hty _ hy).2⟩
          rcases DataW.trod_slice hu h with ⟨rfl, _⟩ | ⟨a, len, cap, elems, rest, n', rfl, rfl, _, _, hlc, hcm, hel, hE, _, _⟩
          · exact fin _ 0 [] (by simp [maxLen]) rfl (by simp) rfl (fun _ => ⟨none, 0, rfl⟩) (by simp)
          · have hcs : ∀ i, i < len → ∃ cs', W.cells? 0 (a.add (i * P.cellsOf e)) (P.cellsOf e) = some cs' ∧ Rd P fz m e cs' := by
              intro i hi
              have := hE i hi
              rw [List.getElem?_eq_getElem (by omega), Option.bind_eq_some_iff] at this
              obtain ⟨cs', h1, h2⟩ := this
              exact ⟨cs', h1, ih _ _ _ _ hse h2⟩
            by_cases hl0 : len = 0
            · subst hl0
              exact fin _ 0 [] (by simp [maxLen]) rfl (by simp) rfl (fun _ => ⟨_, _, rfl⟩) (by simp)
            · obtain ⟨cs0, c1, _⟩ := hcs 0 (by omega)
              have ha : a.add (0 * P.cellsOf e) = a := by simp [Addr.add]
              rw [ha] at c1
              obtain ⟨c, tt, z, hb, hsp, _, _, _⟩ := cells_take hs0 c1
              have key : ∀ k, k ≤ len → ∃ yss us, yss.length = k ∧ VPLL fz (P.cellsOf e) yss us ∧ (∀ u ∈ us, plainV u = true) ∧ (∀ ys ∈ yss, ys.length = P.cellsOf e ∧ TyT P m e ys) ∧ (k ≠ 0 → a.off + k * P.cellsOf e ≤ c.toList.length) ∧ us = (c.toList.drop a.off).take (k * P.cellsOf e) := by
                intro k
                induction k with
                | zero => intro _; exact ⟨[], [], rfl, by simp [VPLL], by simp, by simp, by simp, by simp⟩
                | succ k ihk =>
                  intro hk
                  obtain ⟨yss, us, k1, k2, k3, k4, k5, k6⟩ := ihk (by omega)
                  obtain ⟨cs', d1, ys, d2, d3, d4⟩ := hcs k (by omega)
                  obtain ⟨c', tt', z', e1, e2, e3, e4, e5⟩ := cells_take hs0 d1
                  have hblk : (a.add (k * P.cellsOf e)).block = a.block := by unfold Addr.add; split <;> rfl
                  have hoff : (a.add (k * P.cellsOf e)).off = a.off + k * P.cellsOf e := by unfold Addr.add; split <;> simp_all
                  rw [hblk, hb] at e1
                  simp only [Option.some.injEq, Obj.cells.injEq] at e1
                  obtain ⟨rfl, _, _⟩ := e1
                  rw [hoff] at e4 e5
                  have hys : ys.length = P.cellsOf e := by rw [← VPL_length d2, e3]
                  have hf := VPLL_flat.1 k2
                  refine ⟨yss ++ [ys], us ++ cs', by simp [k1], VPLL_flat.2 ⟨?_, ?_⟩, ?_, ?_, fun _ => by rw [Nat.succ_mul]; omega, ?_⟩
                  · simpa using VPL_append hf.1 d2
                  · intro q hq; rcases List.mem_append.1 hq with hq | hq
                    · exact hf.2 q hq
                    · simp at hq; subst hq; exact hys
                  · intro u hu; rcases List.mem_append.1 hu with hu | hu
                    · exact k3 u hu
                    · exact d3 u hu
                  · intro q hq; rcases List.mem_append.1 hq with hq | hq
                    · exact k4 q hq
                    · simp at hq; subst hq; exact ⟨hys, d4⟩
                  · rw [k6, e5, Nat.succ_mul, List.take_add, List.drop_drop]
              obtain ⟨yss, us, k1, k2, k3, k4, k5, k6⟩ := key len (Nat.le_refl _)
              have k5 := k5 hl0
              have hne : yss ≠ [] := by intro e; subst e; simp at k1; omega
              refine fin _ len yss (by omega) k1 k4 rfl (fun e => absurd e hne) fun _ => ⟨a.block, a.off, cap, c.toList, us, ?_, hlc, hfz _ _ _ _ hb, k2, ?_⟩
              · obtain ⟨ab, ao, asp⟩ := a; simp only [] at hsp; subst hsp; rfl
              · refine ⟨c.toList.take a.off, c.toList.drop (a.off + len * P.cellsOf e), ?_, ?_, k3⟩
                · rw [k6, List.append_assoc, ← List.drop_drop, List.take_append_drop, List.take_append_drop]
                · rw [List.length_take]; omega
        | _ => simp [basic] at hs

/-! ### Listed variables -/
mutual
def flatD : DataW H → Option (List PV)
  | .lit (.bool b) => some [.bool b]
  | .lit (.int k n) => some [.int k n]
  | .lit (.string s) => some [.str s]
  | .agg ps => flatDL ps
  | _ => none
def flatDL : List (DataW H) → Option (List PV)
  | [] => some []
  | d :: r => match flatD d, flatDL r with
    | some xs, some ys => some (xs ++ ys)
    | _, _ => none
end

end
end Go.Proofs.YtphmmoloegjocaaGreatDoor.Y

/- From contracts on data to the statements of rows. -/
namespace Go.Proofs.YtphmmoloegjocaaGreatDoor.Y
open Go

theorem mapM_mono {α β : Type} {f g : α → Option β} : ∀ {l : List α} {r : List β}, (∀ x ∈ l, ∀ y, f x = some y → g x = some y) → l.mapM f = some r → l.mapM g = some r
  | [], r, _, h => by simpa using h
  | x :: l, r, hfg, h => by
    simp only [List.mapM_cons, Option.bind_eq_bind, Option.bind_eq_some_iff, Option.pure_def, Option.some.injEq] at h ⊢
    obtain ⟨y, h1, ys, h2, h3⟩ := h
    exact ⟨y, hfg x (by simp) y h1, ys, mapM_mono (fun z hz => hfg z (by simp [hz])) h2, h3⟩

/-- All that was there is there as it was. -/
def Kept (W W' : World) : Prop := ∀ (b : Nat) (o : Obj), W.heap[b]? = some o → W'.heap[b]? = some o

section
variable {H : Type} {enc : TypeId × Value → H} {P : Program} {W W' : World} {sp' : Nat → Bool} {held : Bool}

theorem Kept.cell (hk : Kept W W') {a : Addr} {v : Value} (h : W.cell? a = some v) : W'.cell? a = some v := by
  unfold World.cell? at h ⊢
  split at h
  · rename_i c t z hb
    rw [hk _ _ hb]
    exact h
  · cases h
theorem Kept.cells (hk : Kept W W') {a : Addr} {n : Nat} {cs : List Value} (h : W.cells? 0 a n = some cs) : W'.cells? 0 a n = some cs := by
  unfold World.cells? at h ⊢
  rw [if_pos (Nat.zero_le _)] at h ⊢
  exact mapM_mono (fun _ _ _ hx => hk.cell hx) h

theorem trod_kept (hk : Kept W W') (hsp : ∀ b, b < W.heap.size → sp' b = true) : ∀ (m : Nat) (t : TypeId) (n : Nat) (cs : List Value) (x : DataW H × List MemPlace), supp P m t = true → DataW.trod enc P W 0 (fun _ => true) held n t cs = some x → DataW.trod enc P W' 0 sp' held n t cs = some x
  | 0, _, _, _, _, hs, _ => by simp [supp] at hs
  | m + 1, t, 0, cs, x, hs, h => by simp [DataW.trod] at h
  | m + 1, t, n + 1, cs, x, hs, h => by
    have ih := trod_kept hk hsp m
    simp only [supp] at hs
    cases hu : P.underlying t with
    | none =>
      have hp : partsOf P t = none := by simp [partsOf, hu]
      simp [hp, hu] at hs
    | some d =>
      cases d with
      | struct fs =>
        have hp : partsOf P t = some (fs.toList.map fun f => (f.type, f.offset)) := by simp [partsOf, hu]
        simp only [hp, Bool.and_eq_true, List.all_eq_true] at hs
        unfold DataW.trod at h ⊢
        rw [hu] at h ⊢
        simp only [] at h ⊢
        split at h
        · rename_i hl
          rw [if_pos hl]
          rw [Option.map_eq_some_iff] at h ⊢
          obtain ⟨xs, h1, h2⟩ := h
          exact ⟨xs, mapM_mono (fun f hf y hy => ih _ _ _ _ (hs.2 (f.type, f.offset) (List.mem_map_of_mem hf)) hy) h1, h2⟩
        · cases h
      | array k e =>
        have hp : partsOf P t = some ((List.range k).map fun i => (e, i * P.cellsOf e)) := by simp [partsOf, hu]
        simp only [hp, Bool.and_eq_true, List.all_eq_true] at hs
        unfold DataW.trod at h ⊢
        rw [hu] at h ⊢
        simp only [] at h ⊢
        split at h
        · rename_i hl
          rw [if_pos hl]
          rw [Option.map_eq_some_iff] at h ⊢
          obtain ⟨xs, h1, h2⟩ := h
          exact ⟨xs, mapM_mono (fun i hi y hy => ih _ _ _ _ (hs.2 (e, i * P.cellsOf e) (List.mem_map_of_mem hi)) hy) h1, h2⟩
        · cases h
      | bool =>
        obtain ⟨b, rfl, rfl⟩ := DataW.trod_bool hu h
        unfold DataW.trod; rw [hu]
      | int k =>
        obtain ⟨b, rfl, rfl, hw⟩ := DataW.trod_int hu h
        unfold DataW.trod; rw [hu]; simp [hw]
      | string =>
        obtain ⟨s, rfl, rfl, hw⟩ := DataW.trod_string hu h
        unfold DataW.trod; rw [hu]; simp [hw]
      | slice e =>
        have hp : partsOf P t = none := by simp [partsOf, hu]
        simp only [hp, hu, Bool.and_eq_true, decide_eq_true_eq] at hs
        rcases DataW.trod_slice hu h with ⟨rfl, rfl⟩ | ⟨a, len, cap, _, _, _, _, rfl, _⟩
        · unfold DataW.trod; rw [hu]; rfl
        unfold DataW.trod at h ⊢
        rw [hu] at h ⊢
        simp only [if_true] at h ⊢
        split at h
        rotate_left
        · cases h
        rename_i hc
        rw [if_pos hc]
        rw [Option.bind_eq_some_iff] at h ⊢
        obtain ⟨elems, h1, h2⟩ := h
        rw [Option.map_eq_some_iff] at h2
        obtain ⟨rest, h2, h3⟩ := h2
        have el : ∀ i y, (W.cells? 0 (a.add (i * P.cellsOf e)) (P.cellsOf e)).bind (DataW.trod enc P W 0 (fun _ => true) held n e) = some y → (W'.cells? 0 (a.add (i * P.cellsOf e)) (P.cellsOf e)).bind (DataW.trod enc P W' 0 sp' held n e) = some y := by
          intro i y hy
          rw [Option.bind_eq_some_iff] at hy ⊢
          obtain ⟨cs', g1, g2⟩ := hy
          exact ⟨cs', hk.cells g1, ih _ _ _ _ hs.2 g2⟩
        refine ⟨elems, mapM_mono (fun i _ y hy => el i y hy) h1, ?_⟩
        rw [Option.map_eq_some_iff]
        refine ⟨rest, ?_, h3⟩
        by_cases hd : cap - len = 0
        · rw [hd] at h2 ⊢
          simp at h2
          subst h2
          cases sp' a.block <;> simp
        · have hb : a.block < W.heap.size := by
            have hl := mapM_some_length h2
            rw [List.length_range] at hl
            have := mapM_some_get h2 0 0 (by rw [List.getElem?_eq_getElem (by simp; omega)]; simp)
            rw [List.getElem?_eq_getElem (by omega), Option.bind_eq_some_iff] at this
            obtain ⟨cs', g1, _⟩ := this
            obtain ⟨c, t', z, g3, _⟩ := cells_take hs.1 g1
            have hblk : (a.add ((len + 0) * P.cellsOf e)).block = a.block := by unfold Addr.add; split <;> rfl
            rw [hblk] at g3
            exact (Array.getElem?_eq_some_iff.1 g3).1
          rw [if_pos (hsp _ hb)]
          exact mapM_mono (fun i _ y hy => el (len + i) y hy) h2
      | _ =>
        have hp : partsOf P t = none := by simp [partsOf, hu]
        simp [hp, hu, basic] at hs

theorem trodAll_kept (hk : Kept W W') (hsp : ∀ b, b < W.heap.size → sp' b = true) (m : Nat) : ∀ {ts : List TypeId} {vs : List Value} {ds : List (DataW H)} {ps : List MemPlace}, ts.all (supp P m) = true → DataW.TrodAll enc P W 0 (fun _ => true) held ts vs ds ps → DataW.TrodAll enc P W' 0 sp' held ts vs ds ps
  | [], [], [], ps, _, h => h
  | t :: ts, v :: vs, d :: ds, ps, hs, h => by
    simp only [List.all_cons, Bool.and_eq_true] at hs
    obtain ⟨p, q, ⟨fuel, h1⟩, h2, h3⟩ := h
    exact ⟨p, q, ⟨fuel, trod_kept hk hsp m _ _ _ _ hs.1 h1⟩, trodAll_kept hk hsp m hs.2 h2, h3⟩
  | [], [], _ :: _, ps, _, h => by simp [DataW.TrodAll] at h
  | [], _ :: _, _, ps, _, h => by simp [DataW.TrodAll] at h
  | _ :: _, [], _, ps, _, h => by simp [DataW.TrodAll] at h
  | _ :: _, _ :: _, [], ps, _, h => by simp [DataW.TrodAll] at h

/-- An argument of a type. -/
def ArgT (P : Program) (m : Nat) (t : TypeId) (x : PV) : Prop := match partsOf P t with
  | some _ => ∃ xs, x = .agg xs ∧ TyT P m t xs
  | none => TyT P m t [x]
def ArgsT (P : Program) (m : Nat) : List TypeId → List PV → Prop
  | [], xs => xs = []
  | t :: ts, xs => ∃ x r, xs = x :: r ∧ ArgT P m t x ∧ ArgsT P m ts r

def fzOf (W : World) : Fzn := fun b => match W.heap[b]? with
  | some (.cells c _ _) => some c.toList
  | _ => none
theorem fzOf_all (W : World) : AllCells (fzOf W) W := fun b c t z h => by simp [fzOf, h]
theorem fzOf_some {b : Nat} {arr : List Value} (h : fzOf W b = some arr) : ∃ c t z, W.heap[b]? = some (.cells c t z) ∧ arr = c.toList := by
  unfold fzOf at h
  split at h
  · rename_i c t z hb
    injection h with h
    exact ⟨c, t, z, hb, h.symm⟩
  · cases h

theorem arg_of {m : Nat} {base : Nat} {t : TypeId} {v : Value} {d : DataW H} {ps : List MemPlace} (hs : supp P m t = true) (hval : Value.okWide P W .any base t v) (h : DataW.Trod enc P W 0 (fun _ => true) true t v d ps) : ∃ x, VP (fzOf W) x v ∧ ArgT P m t x := by
  obtain ⟨fuel, h⟩ := h
  obtain ⟨xs, h1, h2, h3⟩ := typed_of_trod (fzOf_all W) m t fuel _ _ hs h
  unfold Value.okWide at hval
  cases hp : partsOf P t with
  | some l =>
    have : ∃ cs, v = .agg cs := by
      unfold partsOf at hp
      split at hp
      · rename_i fs hu; simp only [hu] at hval; obtain ⟨cs, h, _⟩ := hval; exact ⟨cs, h⟩
      · rename_i k e hu; simp only [hu] at hval; obtain ⟨cs, h, _⟩ := hval; exact ⟨cs, h⟩
      · cases hp
    obtain ⟨cs, rfl⟩ := this
    exact ⟨.agg xs, by simp only [VP]; exact ⟨cs, rfl, h1⟩, by simp only [ArgT, hp]; exact ⟨xs, rfl, h3⟩⟩
  | none =>
    have hv : v.cells = #[v] := by
      cases m with
      | zero => simp [supp] at hs
      | succ m =>
        simp only [supp, hp] at hs
        cases hu : P.underlying t with
        | none => simp [hu] at hs
        | some d =>
          simp only [hu] at hs hval
          cases d with
          | struct fs => simp [partsOf, hu] at hp
          | array k e => simp [partsOf, hu] at hp
          | bool => cases v <;> simp_all [Cell.okWide, Cell.ok, Value.cells]
          | int k => cases v <;> simp_all [Cell.okWide, Cell.ok, Value.cells]
          | string => cases v <;> simp_all [Cell.okWide, Cell.ok, Value.cells]
          | slice e => cases v <;> simp_all [Cell.okWide, Cell.ok, Value.cells]
          | _ => simp [basic] at hs
    rw [hv] at h1
    obtain ⟨x, rfl, h4⟩ : ∃ x, xs = [x] ∧ VP (fzOf W) x v := by
      match xs, h1 with
      | [], h1 => simp [VPL] at h1
      | x :: r, h1 =>
        simp only [VPL] at h1
        obtain ⟨u, us, e, g1, g2⟩ := h1
        simp only [List.cons.injEq] at e
        obtain ⟨rfl, rfl⟩ := e
        match r, g2 with
        | [], _ => exact ⟨x, rfl, g1⟩
        | y :: r, g2 => simp [VPL] at g2
    exact ⟨x, h4, by simp only [ArgT, hp]; exact h3⟩

theorem args_of {m base : Nat} : ∀ {ts : List TypeId} {vs : List Value} {ds : List (DataW H)} {ps : List MemPlace}, ts.all (supp P m) = true → (∀ (j : Nat) t v, ts[j]? = some t → vs[j]? = some v → Value.okWide P W .any base t v) → DataW.TrodAll enc P W 0 (fun _ => true) true ts vs ds ps →
    ∃ xs, VPL (fzOf W) xs vs ∧ ArgsT P m ts xs ∧ ds.length = ts.length
  | [], [], [], ps, _, _, _ => ⟨[], by simp [VPL], rfl, rfl⟩
  | t :: ts, v :: vs, d :: ds, ps, hs, hv, h => by
    simp only [List.all_cons, Bool.and_eq_true] at hs
    obtain ⟨p, q, h1, h2, h3⟩ := h
    obtain ⟨x, g1, g2⟩ := arg_of hs.1 (hv 0 t v rfl rfl) h1
    obtain ⟨xs, k1, k2, k3⟩ := args_of hs.2 (fun j t v ht hv' => hv (j + 1) t v ht hv') h2
    exact ⟨x :: xs, by simp only [VPL]; exact ⟨v, vs, rfl, g1, k1⟩, ⟨x, xs, rfl, g2, k2⟩, by simp [k3]⟩
  | [], [], _ :: _, ps, _, _, h => by simp [DataW.TrodAll] at h
  | [], _ :: _, _, ps, _, _, h => by simp [DataW.TrodAll] at h
  | _ :: _, [], _, ps, _, _, h => by simp [DataW.TrodAll] at h
  | _ :: _, _ :: _, [], ps, _, _, h => by simp [DataW.TrodAll] at h
end

section
variable {cx : Cx}

/-- A law on data, called in a world. -/
theorem calls_of_pure {H : Type} {enc : TypeId × Value → H} {W : World} {f : FuncId} {fn : Func} {c : Code} {m base : Nat} {args : Array Value} {ds : List (DataW H)} {ps : List MemPlace}
    (hf : cx.P.funcs[f]? = some fn) (hname : (fn.name == "runtime.NumGoroutine") = false) (hb : fn.body = some c) (hs : fn.params.toList.all (supp cx.P m) = true)
    (hpure : ∀ xs, ArgsT cx.P m fn.params.toList xs → Pure cx f xs (· = .ret [.bool true]))
    (hval : ∀ (j : Nat) t v, fn.params[j]? = some t → args[j]? = some v → Value.okWide cx.P W .any base t v)
    (hA : DataW.TrodAll enc cx.P W 0 (fun _ => true) true fn.params.toList args.toList ds ps)
    (hglob : ∀ g cs, gget cx.gt g = some cs → VP (fzOf W) (.fp cs) (.pointer (some ⟨g, 0, none⟩))) :
    Calls cx.P f args W fun e W' => e = .returned (.bool true) ∧ W'.os = W.os ∧ W'.output = W.output ∧ ∀ k, k < W.heap.size → W'.heap[k]? = W.heap[k]? := by
  obtain ⟨xs, h1, h2, _⟩ := args_of hs (fun j t v ht hv => hval j t v (by simpa using ht) (by simpa using hv)) hA
  have hR : R cx ⟨fun _ => none, fzOf W⟩ ⟨0, []⟩ W := by
    refine ⟨hglob, fun _ _ => rfl, fun b arr hb => ?_, fun n o hn => by simp [lget] at hn, fun n o q hn => by simp [lget] at hn, fun n o m p q q' hn => by simp [lget] at hn⟩
    obtain ⟨c, t, z, g1, rfl⟩ := fzOf_some hb
    exact ⟨t, z, g1⟩
  have key : ∀ e w', Post cx ⟨fun _ => none, fzOf W⟩ ⟨0, []⟩ W (EndP (· = .ret [.bool true])) e w' → e = .returned (.bool true) ∧ w'.os = W.os ∧ w'.output = W.output ∧ ∀ k, k < W.heap.size → w'.heap[k]? = W.heap[k]? := by
    intro e w' hP
    obtain ⟨r, Γ', hq, _, hE, _, hT, _⟩ := pure_post hR hP
    subst hq
    obtain ⟨v', rfl, hv⟩ := hE
    simp only [VR, VP] at hv
    subst hv
    exact ⟨rfl, hT.os, hT.output, fun k hk => hT.kept k hk own_nil⟩
  have hrun := run_enter hf hname hb args W
  rcases hpure xs h2 ⟨fun _ => none, fzOf W⟩ W args.toList hR (VRL_p.2 h1) with ⟨_, h4⟩ | ⟨v', w', h4, _⟩
  · exact h4.mono key
  · rw [hrun] at h4
    injection h4 with h4
    cases h4

/-- What a law's row asks behind the call. -/
theorem post_of_kept {H : Type} {enc : TypeId × Value → H} {W W' : World} {fn : Func} {s : ChangeSpec} {m : Nat} {bt : TypeId} {apart fresh handsOn : Bool} {args : Array Value} {ds gs : List (DataW H)} {before : List MemPlace}
    (hs : fn.params.toList.all (supp cx.P m) = true) (hvars : s.vars = []) (hres : fn.resultTypes = #[bt]) (hbt : cx.P.underlying bt = some .bool)
    (hfn : ∀ ds : List (DataW H), ds.length = fn.params.toList.length → s.fn H ds = { results := [.lit (.bool true)], args := ds })
    (hW : DataW.Whole enc cx.P fn.params.toList s.vars apart W args.toList ds gs before) (hlen : ds.length = fn.params.toList.length)
    (hos : W'.os = W.os) (hout : W'.output = W.output) (hkept : ∀ k, k < W.heap.size → W'.heap[k]? = W.heap[k]?) :
    s.post enc cx.P fn apart fresh handsOn false W args (.bool true) W' := by
  have hk : Kept W W' := fun b o hb => by rw [hkept b (Array.getElem?_eq_some_iff.1 hb).1]; exact hb
  have hW' := hW
  obtain ⟨p, q, h1, h2, _, _, _⟩ := hW'
  rw [hvars] at h2
  obtain ⟨rfl, rfl⟩ := Go.ChangeShapes.trodVars_none h2
  have e : s.fn H (ds ++ []) = { results := [.lit (.bool true)], args := ds } := by rw [List.append_nil]; exact hfn ds hlen
  refine ⟨ds, [], before, [], p, [], hW, ?_, ?_, ?_, ?_, fun h => by cases h⟩
  · rw [e, hres]
    exact Go.ChangeShapes.trodAll_mk1 (Go.RowKit.shut_bool hbt true)
  · rw [e]
    exact trodAll_kept hk (fun b hb => by simpa using hb) m hs h1
  · rw [e, hvars]
    rfl
  · refine ⟨hos, hout, fun i hi => ?_⟩
    rw [hkept i hi]
    have := Array.getElem?_eq_getElem hi
    rw [this]
    cases W.heap[i] <;> simp
end
end Go.Proofs.YtphmmoloegjocaaGreatDoor.Y

/- Arguments of the statements: drafts. -/
namespace Go.Proofs.YtphmmoloegjocaaGreatDoor
open Go Y
set_option maxRecDepth 100000
set_option maxHeartbeats 4000000

theorem ty_u8 {m : Nat} {xs : List PV} (h : TyT Tryz.prog (m + 1) 5 xs) : ∃ b : UInt8, xs = [u8 b] := by
  have hp : partsOf Tryz.prog 5 = none := by simp [partsOf, Tryz.underlying5]
  simp only [TyT, hp, Tryz.underlying5] at h
  obtain ⟨n, rfl, hw⟩ := h
  have := bounds_u8 hw
  refine ⟨UInt8.ofNat n.toNat, ?_⟩
  have e : ((UInt8.ofNat n.toNat).toNat : Int) = n := by
    simp
    omega
  rw [u8, e]
theorem lift_list {α : Type} {f : α → PV} {P : α → Prop} {ys : List PV} (h : ∀ y ∈ ys, ∃ a, y = f a ∧ P a) : ∃ zs : List α, ys = zs.map f ∧ ∀ z ∈ zs, P z := by
  induction ys with
  | nil => exact ⟨[], rfl, by simp⟩
  | cons y r ih =>
    obtain ⟨a, rfl, ha⟩ := h y (by simp)
    obtain ⟨zs, rfl, hz⟩ := ih fun z hz => h z (by simp [hz])
    exact ⟨a :: zs, rfl, fun z hm => by rcases List.mem_cons.1 hm with rfl | hm; exact ha; exact hz z hm⟩
theorem ty_bytes {m : Nat} {xs : List PV} (h : TyT Tryz.prog (m + 2) 26 xs) : ∃ bs : List UInt8, xs = [.lst (bs.map u8)] ∧ bs.length ≤ 9223372036854775807 := by
  have hp : partsOf Tryz.prog 26 = none := by simp [partsOf, Tryz.underlying26]
  have hc : Tryz.prog.cellsOf 5 = 1 := by kernel_rfl
  rw [TyT] at h
  simp only [hp, Tryz.underlying26, hc] at h
  obtain ⟨ys, rfl, hl, hy⟩ := h
  obtain ⟨bs, rfl, _⟩ := lift_list (f := u8) (P := fun _ => True) fun y hy' => by
    obtain ⟨b, hb⟩ := ty_u8 (hy y hy')
    simp at hb
    exact ⟨b, hb, trivial⟩
  exact ⟨bs, rfl, by rw [List.length_map] at hl; exact hl⟩
theorem lift_lists {α : Type} {f : α → List PV} {P : α → Prop} {ys : List (List PV)} (h : ∀ y ∈ ys, ∃ a, y = f a ∧ P a) : ∃ zs : List α, ys = zs.map f ∧ ∀ z ∈ zs, P z := by
  induction ys with
  | nil => exact ⟨[], rfl, by simp⟩
  | cons y r ih =>
    obtain ⟨a, rfl, ha⟩ := h y (by simp)
    obtain ⟨zs, rfl, hz⟩ := ih fun z hz => h z (by simp [hz])
    exact ⟨a :: zs, rfl, fun z hm => by rcases List.mem_cons.1 hm with rfl | hm; exact ha; exact hz z hm⟩
theorem ty_piece {m : Nat} {xs : List PV} (h : TyT Tryz.prog (m + 3) 67 xs) : ∃ p : Pc, xs = p.cells ∧ p.w.length ≤ 9223372036854775807 := by
  have hp : partsOf Tryz.prog 67 = some [(5, 0), (5, 1), (26, 2)] := by kernel_rfl
  rw [TyT] at h
  simp only [hp] at h
  obtain ⟨x1, _, rfl, _, h1, x2, _, rfl, _, h2, x3, _, rfl, _, h3, rfl⟩ := h
  obtain ⟨a, rfl⟩ := ty_u8 h1
  obtain ⟨b, rfl⟩ := ty_u8 h2
  obtain ⟨c, rfl, hc⟩ := ty_bytes h3
  exact ⟨⟨a, b, c⟩, rfl, hc⟩
theorem ty_pieces {m : Nat} {xs : List PV} (h : TyT Tryz.prog (m + 4) 25 xs) : ∃ l : List Pc, xs = [.lsts 3 (l.map Pc.cells)] ∧ l.length ≤ 9223372036854775807 ∧ ∀ p ∈ l, p.w.length ≤ 9223372036854775807 := by
  have hp : partsOf Tryz.prog 25 = none := by simp [partsOf, Tryz.underlying25]
  have hc : Tryz.prog.cellsOf 67 = 3 := by kernel_rfl
  rw [TyT] at h
  simp only [hp, Tryz.underlying25, hc] at h
  obtain ⟨ys, rfl, hn, hy⟩ := h
  obtain ⟨l, rfl, hl⟩ := lift_lists (f := Pc.cells) (P := fun p => p.w.length ≤ 9223372036854775807) fun y hy' => ty_piece (hy y hy')
  rw [List.length_map] at hn
  exact ⟨l, rfl, hn, hl⟩
theorem ty_draft5 {m : Nat} {xs : List PV} (h : TyT Tryz.prog (m + 5) 28 xs) : ∃ D : D5, xs = D.cells ∧ OkD5 D := by
  have hp : partsOf Tryz.prog 28 = some [(5, 0), (25, 1), (26, 2)] := by kernel_rfl
  rw [TyT] at h
  simp only [hp] at h
  obtain ⟨x1, _, rfl, _, h1, x2, _, rfl, _, h2, x3, _, rfl, _, h3, rfl⟩ := h
  obtain ⟨a, rfl⟩ := ty_u8 h1
  obtain ⟨b, rfl, hb1, hb2⟩ := ty_pieces h2
  obtain ⟨c, rfl, hc⟩ := ty_bytes h3
  exact ⟨⟨a, b, c⟩, rfl, ⟨hb1, hc, hb2⟩⟩
theorem arg_plain {t : TypeId} {m : Nat} {x : PV} (hp : partsOf Tryz.prog t = none) (h : ArgT Tryz.prog m t x) : TyT Tryz.prog m t [x] := by
  simpa only [ArgT, hp] using h
theorem arg_draft5 {m : Nat} {x : PV} (h : ArgT Tryz.prog (m + 5) 28 x) : ∃ D : D5, x = D.pv ∧ OkD5 D := by
  have hp : partsOf Tryz.prog 28 = some [(5, 0), (25, 1), (26, 2)] := by kernel_rfl
  simp only [ArgT, hp] at h
  obtain ⟨xs, rfl, h⟩ := h
  obtain ⟨w, rfl, hw⟩ := ty_draft5 h
  exact ⟨w, rfl, hw⟩
end Go.Proofs.YtphmmoloegjocaaGreatDoor

/- Arguments of the statements: networks, changes. -/
namespace Go.Proofs.YtphmmoloegjocaaGreatDoor
open Go Y
set_option maxRecDepth 100000
set_option maxHeartbeats 4000000

theorem ty_u16 {m : Nat} {xs : List PV} (h : TyT Tryz.prog (m + 1) 39 xs) : ∃ b : UInt16, xs = [.int .u16 (b.toNat : Int)] := by
  have hp : partsOf Tryz.prog 39 = none := by simp [partsOf, Tryz.underlying39]
  simp only [TyT, hp, Tryz.underlying39] at h
  obtain ⟨n, rfl, hw⟩ := h
  have := bounds_u16 hw
  refine ⟨UInt16.ofNat n.toNat, ?_⟩
  have e : ((UInt16.ofNat n.toNat).toNat : Int) = n := by
    simp
    omega
  rw [e]
/-- A change of a network. -/
structure B5 where
  what : UInt8
  place : UInt8
  row : UInt8
  n : Int
abbrev B5.cells (B : B5) : List PV := [u8 B.what, u8 B.place, u8 B.row, i64 B.n]
abbrev B5.pv (B : B5) : PV := .agg B.cells
end Go.Proofs.YtphmmoloegjocaaGreatDoor

/- The listed tables, as the rows of format ask. -/
namespace Go.Proofs.YtphmmoloegjocaaGreatDoor
open Go Y
set_option maxRecDepth 100000

theorem own : ownKnob Tryz.prog.godebug = none := by kernel_rfl
abbrev laidD : List (String × DataW Unit) := [("math/bits.deBruijn32tab", Rows.laid_math_bits_deBruijn32tab), ("math/bits.deBruijn64tab", Rows.laid_math_bits_deBruijn64tab), ("internal/strconv.uint64pow10", Rows.laid_internal_strconv_uint64pow10), ("unicode/utf8.acceptRanges", Rows.laid_unicode_utf8_acceptRanges), ("unicode/utf8.first", Rows.laid_unicode_utf8_first)]
theorem door_metD (os : Os) (args : Array Value) : laidMetH Tryz.prog laidD ((World.laidAll Tryz.prog os laidD).forCall (fun _ _ => 0) ⟨#[], args, []⟩).memory := by
  rw [MakeChecks.laidMetH_plain _ _ _ (by kernel_rfl)]
  exact laidMet_laidAll _ (by kernel_rfl) (by kernel_rfl)
theorem glob_okD {W : World} (_ : laidMetH Tryz.prog laidD W) : ∀ g cs, gget cx.gt g = some cs → VP (fzOf W) (.fp cs) (.pointer (some ⟨g, 0, none⟩)) := fun _ _ h => by cases h
end Go.Proofs.YtphmmoloegjocaaGreatDoor

/- FormatStops: the row and the card. What is not as it must be is reported where it stands: lines, and nested texts that are cut off or have something behind them; for all drafts and places. Conditions: those of the card. -/
namespace Go.Proofs.YtphmmoloegjocaaGreatDoor
open Go Y
set_option maxRecDepth 100000

theorem formatStops_pure : ∀ xs, ArgsT Tryz.prog 8 Tryz.f5.params.toList xs → Pure cx 5 xs (· = .ret [.bool true]) := by
  intro xs h
  rw [Tryz.params5] at h
  obtain ⟨x0, _, rfl, h0, x1, _, rfl, h1, x2, _, rfl, h2, rfl⟩ := h
  obtain ⟨v0, rfl, g0⟩ := arg_draft5 h0
  obtain ⟨v1, e1⟩ := ty_u16 (arg_plain (by simp [partsOf, Tryz.underlying39]) h1)
  injection e1 with e1
  subst e1
  obtain ⟨v2, e2⟩ := ty_u8 (arg_plain (by simp [partsOf, Tryz.underlying5]) h2)
  injection e2 with e2
  subst e2
  exact formatStops_c v0 v1 v2 g0
theorem formatStops_lifted (os : Os) (started : os.Started) (H : Type) (enc : TypeId × Value → H) :
    ReturnsInHanded {} Tryz.checked os 5 .any (fun w args => (Rows.formatStopsSpec.pre enc Tryz.prog Tryz.f5 [] false w args ∧ laidMetH Tryz.prog laidD w) ∧ sizedMet enc Tryz.prog Tryz.f5 (OpenSpec.ofChange Rows.formatStopsSpec) false w args)
      (Rows.formatStopsSpec.post enc Tryz.prog Tryz.f5 false true false false) := by
  refine returnsInHanded_of_change_and (C := Tryz.checked) (X := fun w _ => laidMetH Tryz.prog laidD w) (fun _ _ _ hh h => h.of_heap hh) own started (by kernel_rfl) Tryz.func5
    (ChangeSpec.witness_shaped (enc := enc) (C := Tryz.checked) (os := os) (X := fun w _ => laidMetH Tryz.prog laidD w) false (World.laidAll Tryz.prog os laidD) #[.agg #[.int .u8 0, .slice none 0 0, .slice none 0 0], .int .u16 0, .int .u8 0] 8 (World.laidAll_os _ _ _) (World.shaped_of_ZipB (by kernel_rfl) (by kernel_rfl)) (by kernel_rfl) (by kernel_rfl) (by kernel_rfl) (door_metD os _)) ?_
  intro W base args ds gs before hval hW _ _ hL _
  obtain ⟨p, q, hA, hV, _⟩ := id hW
  have hs : Tryz.f5.params.toList.all (supp Tryz.prog 8) = true := by kernel_rfl
  obtain ⟨_, _, _, hlen⟩ := args_of hs (fun j t v ht hv => hval j t v (by simpa using ht) (by simpa using hv)) hA
  refine (calls_of_pure (cx := cx) Tryz.func5 (by kernel_rfl) rfl hs formatStops_pure hval hA (glob_okD hL)).mono fun e W' ⟨he, h1, h2, h3⟩ => ?_
  subst he
  exact ⟨_, rfl, post_of_kept (cx := cx) (m := 8) hs rfl (by kernel_rfl) Tryz.underlying4 (fun ds h => by
    rw [Tryz.params5] at h
    match ds, h with
    | [_, _, _], _ => rfl) hW hlen h1 h2 h3⟩

theorem formatStops_holds : Rows.FormatStopsSaid :=
  OpenClaim.holds_of_wide 5 Tryz.f5 rfl rfl rfl rfl rfl rfl rfl ⟨rfl, rfl, rfl, rfl, rfl⟩ rfl rfl rfl rfl rfl (by kernel_rfl) Tryz.func5 (by kernel_rfl)
    (of_decide_eq_true (by kernel_rfl)) (by unfold Func.isWrapper; first | (rw [if_pos (by decide +kernel)]; kernel_rfl) | (rw [if_neg (by decide +kernel)]; exact ⟨rfl, rfl⟩))
    (fun os started H enc _ => formatStops_lifted os started H enc)

theorem formatStops_card : Rows.FormatStopsCardSaid :=
  Claim7.holds_tied_plain_at .later [] [.data, .data, .data, .data, .pinned] true (true, "05df7281f202b8135faad0929ba83131a8abc96c8d0575467d8e0ee31e71e4e4") true
    formatStops_holds (fun _ h => by cases h) (by kernel_rfl) (fun _ h => by cases h) formatStops_row_tie rfl ⟨rfl, rfl⟩ (by kernel_rfl) rfl
    (fun f fn hf hfn => by
      obtain rfl : f = 5 := Option.some.inj ((show Tryz.prog.funcNamed "haruspex/haruspexlaw41.FormatStops" = some 5 by kernel_rfl).symm.trans hf) |>.symm
      obtain rfl : fn = Tryz.f5 := (Option.some.inj (Tryz.func5.symm.trans hfn)).symm
      exact ⟨by kernel_rfl, fun j t ht => by
        have hall : (Tryz.f5.params.toList.all fun u => !Tryz.prog.wantsStandIn u) = true := by kernel_rfl
        exact (show Tryz.prog.wantsStandIn t = false by simpa using List.all_eq_true.1 hall t (by simpa using Array.mem_of_getElem? ht))⟩)
    (by kernel_rfl)
#print axioms formatStops_card
end Go.Proofs.YtphmmoloegjocaaGreatDoor
