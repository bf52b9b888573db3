/- FormatTurns: the row and the card. Turning a form gives the other one, and turning that gives it back; for all drafts. Conditions: those of the card. -/
import Derived.ChangeArms
import Derived.OpenShut
import Derived.WideHanded
import Derived.ChangeSame
import Derived.ProofKit
import Derived.LaidMore
import Derived.LaidLaws
import Derived.Stop.Joined
import Derived.MakeChecks
import Derived.Test.YtphmmoloegjocaaDoorRows
import Derived.Lay
import Derived.Test.YtphmmoloegjocaaDoorCards
import Derived.Test.YtphmmoloegjocaaDoorTie
import Derived.SevenTiedAt
import Derived.Test.YtphmmoloegjocaaDoorQ4
/- Reading nested texts: a form's text, also with other blanks; texts that are cut off (plain). -/
namespace Go.Proofs.YtphmmoloegjocaaDoor
open Go Y
set_option maxRecDepth 100000
set_option maxHeartbeats 4000000

/-! ### The words that stand at a place -/
def At (s : List UInt8) : Nat → List (List UInt8) → Nat → Prop
  | p, [], q => p = q
  | p, w :: ts, q => tok s p = w ∧ At s (te s p) ts q
theorem at_app {s : List UInt8} : ∀ {a b : List (List UInt8)} {p q : Nat}, At s p (a ++ b) q → ∃ m, At s p a m ∧ At s m b q
  | [], b, p, q, h => ⟨p, rfl, h⟩
  | w :: a, b, p, q, h => by
    obtain ⟨h1, h2⟩ := h
    obtain ⟨m, h3, h4⟩ := at_app h2
    exact ⟨m, ⟨h1, h3⟩, h4⟩
theorem at_len {s : List UInt8} : ∀ {ts : List (List UInt8)} {p q : Nat}, p ≤ s.length → At s p ts q → (∀ w ∈ ts, w ≠ []) → p + ts.length ≤ q ∧ q ≤ s.length
  | [], p, q, hp, h, _ => by
    have h : p = q := h
    simp only [List.length_nil]; omega
  | w :: ts, p, q, hp, h, hne => by
    obtain ⟨h1, h2⟩ := h
    have h3 := te_lt hp (by rw [h1]; exact hne w (by simp))
    have h4 := at_len (te_le hp).2 h2 fun v hv => hne v (by simp [hv])
    rw [List.length_cons]; omega
theorem then_run {α β : Type} (a : α) (p : Nat) (k : α → Nat → Rd β) : Rd.then (.inr (a, p)) k = k a p := rfl
theorem dec_close {x : Int} (h0 : 0 ≤ x) (h : x < 100) : dec x ≠ kClose := fun e => by
  have := (dec_num h0 h).1
  rw [e] at this
  exact absurd this (by decide)
theorem num_at {s : List UInt8} {p : Nat} {x : Int} (h0 : 0 ≤ x) (h : x < 100) (e : tok s p = dec x) : numP s p = .inr (x, te s p) := by
  have hd := dec_num h0 h
  rw [numP, e, if_pos hd.1, hd.2]
theorem must_at {s w : List UInt8} {p : Nat} (e : tok s p = w) : mustP s w p = .inr ((), te s p) := by rw [mustP, if_pos e]
theorem nums_at {s : List UInt8} : ∀ {l : List Int} {F p q : Nat} {acc : List Int}, two l → l.length < F → At s p (l.map dec) q → tok s q = kClose → numsP s F acc p = .inr (acc ++ l, nx s q)
  | [], F + 1, p, q, acc, _, _, ha, hq => by
    have ha : p = q := ha
    rw [numsP, ha, if_pos hq, List.append_nil]
  | x :: l, F + 1, p, q, acc, h, hl, ha, hq => by
    obtain ⟨h1, h2⟩ := ha
    have hx := h x (by simp)
    rw [numsP, if_neg (by rw [h1]; exact dec_close hx.1 hx.2), num_at hx.1 hx.2 h1]
    show numsP s F (acc ++ [x]) (te s p) = _
    rw [nums_at (fun y hy => h y (by simp [hy])) (by simpa using hl) h2 hq]
    simp
def lstT (l : List Int) : List (List UInt8) := kOpen :: (l.map dec ++ [kClose])
theorem lst_at {s : List UInt8} {l : List Int} {F p q : Nat} (h : two l) (hl : l.length < F) (ha : At s p (lstT l) q) : lstP s F p = .inr (l, q) := by
  obtain ⟨h1, h2⟩ := ha
  obtain ⟨m, h3, h4, h5⟩ := at_app h2
  have h5 : te s m = q := h5
  rw [lstP, must_at h1, then_run, nums_at h hl h3 h4, then_run, must_nx, must_at h4, then_run, h5]; rfl
theorem row_at {s : List UInt8} {l : List Int} {F p q : Nat} (h : two l) (hne : l ≠ []) (hl : l.length < F) (ha : At s p (lstT l) q) : rowRd s F p = .inr (l, q) := by
  cases l with
  | nil => exact absurd rfl hne
  | cons x l =>
    obtain ⟨h1, h2, h2'⟩ := ha
    obtain ⟨m, h3, h4, h5⟩ := at_app h2'
    have h5 : te s m = q := h5
    have hx := h x (by simp)
    rw [rowRd, must_at h1, then_run, num_at hx.1 hx.2 h2, then_run, nums_at (fun y hy => h y (by simp [hy])) (by rw [List.length_cons] at hl; omega) h3 h4, then_run, must_nx, must_at h4, then_run, h5]; rfl
theorem rows_atN {s : List UInt8} {F : Nat} : ∀ {rs : List (List Int)} {f p q : Nat} {acc : List (List Int)}, (∀ r ∈ rs, two r ∧ r ≠ [] ∧ r.length < F) → rs.length < f → At s p (rs.flatMap lstT) q → tok s q = kClose → rowsP s F f acc p = .inr (acc ++ rs, nx s q)
  | [], f + 1, p, q, acc, _, _, ha, hq => by
    have ha : p = q := ha
    rw [rowsP, ha, if_pos hq, List.append_nil]
  | r :: rs, f + 1, p, q, acc, h, hl, ha, hq => by
    rw [List.flatMap_cons] at ha
    obtain ⟨m, h1, h2⟩ := at_app ha
    obtain ⟨k1, k2, k3⟩ := h r (by simp)
    rw [rowsP, if_neg (by rw [h1.1]; decide), row_at k1 k2 k3 h1]
    show rowsP s F f (acc ++ [r]) m = _
    rw [rows_atN (fun y hy => h y (by simp [hy])) (by simpa using hl) h2 hq]
    simp
def nodeT (x : Nd) : List (List UInt8) := kOpen :: kNode :: dec x.card :: (lstT x.parents ++ (x.rows.flatMap lstT ++ [kClose]))
structure OkF (F : Nat) (x : Nd) : Prop where
  card : 0 ≤ x.card ∧ x.card < 100
  par : two x.parents
  row : ∀ r ∈ x.rows, two r ∧ r ≠ [] ∧ r.length < F
  pl : x.parents.length < F
  rl : x.rows.length < F
theorem node_at {s : List UInt8} {x : Nd} {F p q : Nat} (h : OkF F x) (ha : At s p (nodeT x) q) : nodeRd s F p = .inr (x, q) := by
  obtain ⟨h1, h2, h3, h4⟩ := ha
  obtain ⟨m, h5, h6⟩ := at_app h4
  obtain ⟨k, h7, h8, h9⟩ := at_app h6
  have h9 : te s k = q := h9
  rw [nodeRd, must_at h1, then_run, must_at h2, then_run, num_at h.card.1 h.card.2 h3, then_run, lst_at h.par h.pl h5, then_run, rows_atN h.row h.rl h7 h8, then_run, must_nx, must_at h8, then_run, h9]; rfl
theorem nodes_at {s : List UInt8} {F : Nat} : ∀ {l : List Nd} {f p q : Nat} {acc : List Nd}, (∀ x ∈ l, OkF F x) → l.length < f → At s p (l.flatMap nodeT) q → tok s q = kClose → nodesP s F f acc p = .inr (acc ++ l, nx s q)
  | [], f + 1, p, q, acc, _, _, ha, hq => by
    have ha : p = q := ha
    rw [nodesP, ha, if_pos hq, List.append_nil]
  | x :: l, f + 1, p, q, acc, h, hl, ha, hq => by
    rw [List.flatMap_cons] at ha
    obtain ⟨m, h1, h2⟩ := at_app ha
    rw [nodesP, if_neg (by rw [h1.1]; decide), node_at (h x (by simp)) h1]
    show nodesP s F f (acc ++ [x]) m = _
    rw [nodes_at (fun y hy => h y (by simp [hy])) (by simpa using hl) h2 hq]
    simp
def netT (n : Nt) : List (List UInt8) := kOpen :: kNet :: dec n.grain :: (n.nodes.flatMap nodeT ++ [kClose])
theorem net_at {s : List UInt8} {n : Nt} {F q : Nat} (hg : 0 ≤ n.grain ∧ n.grain < 100) (h : ∀ x ∈ n.nodes, OkF F x) (hl : n.nodes.length < F) (ha : At s 0 (netT n) q) : netP s F = if tok s q = [] then .inr (n, q) else .inl (nx s q) := by
  obtain ⟨h1, h2, h3, h4⟩ := ha
  obtain ⟨m, h5, h6, h7⟩ := at_app h4
  have h7 : te s m = q := h7
  rw [netP, must_at h1, then_run, must_at h2, then_run, num_at hg.1 hg.2 h3, then_run, nodes_at h hl h5 h6, then_run, must_nx, must_at h6, then_run, h7]; rfl

/-! ### The words are not empty, and count -/
theorem lstT_ne (l : List Int) : ∀ w ∈ lstT l, w ≠ [] := by
  intro w hw
  simp only [lstT, List.mem_cons, List.mem_append, List.mem_map, List.not_mem_nil, or_false] at hw
  rcases hw with rfl | ⟨x, _, rfl⟩ | rfl
  · simp
  · exact dec_ne x
  · simp
theorem nodeT_ne (x : Nd) : ∀ w ∈ nodeT x, w ≠ [] := by
  intro w hw
  simp only [nodeT, List.mem_cons, List.mem_append, List.mem_flatMap, List.not_mem_nil, or_false] at hw
  rcases hw with rfl | rfl | rfl | h | ⟨r, _, h⟩ | rfl
  · simp
  · simp
  · exact dec_ne _
  · exact lstT_ne _ w h
  · exact lstT_ne _ w h
  · simp
theorem netT_ne (n : Nt) : ∀ w ∈ netT n, w ≠ [] := by
  intro w hw
  simp only [netT, List.mem_cons, List.mem_append, List.mem_flatMap, List.not_mem_nil, or_false] at hw
  rcases hw with rfl | rfl | rfl | ⟨x, _, h⟩ | rfl
  · simp
  · simp
  · exact dec_ne _
  · exact nodeT_ne x w h
  · simp
theorem flat_ge {α β : Type} {f : α → List β} {l : List α} {x : α} (h : x ∈ l) : (f x).length ≤ (l.flatMap f).length := by
  induction l with
  | nil => simp at h
  | cons y l ih =>
    rw [List.flatMap_cons, List.length_append]
    rcases List.mem_cons.1 h with rfl | h
    · omega
    · have := ih h; omega
theorem flat_count {α β : Type} {f : α → List β} {l : List α} (h : ∀ x ∈ l, 1 ≤ (f x).length) : l.length ≤ (l.flatMap f).length := by
  induction l with
  | nil => simp
  | cons y l ih =>
    rw [List.flatMap_cons, List.length_append, List.length_cons]
    have := ih fun x hx => h x (by simp [hx])
    have := h y (by simp)
    omega
theorem netT_big {n : Nt} (h : Tw n) {F : Nat} (hF : (netT n).length < F) : n.nodes.length < F ∧ ∀ x ∈ n.nodes, OkF F x := by
  have h1 : (netT n).length = (n.nodes.flatMap nodeT).length + 4 := by simp [netT]
  have h2 := flat_count (f := nodeT) (l := n.nodes) fun x _ => by simp [nodeT]
  refine ⟨by omega, fun x hx => ?_⟩
  have h3 := flat_ge (f := nodeT) hx
  have h4 : (nodeT x).length = (x.parents.length + 2) + (x.rows.flatMap lstT).length + 4 := by simp [nodeT, lstT]; omega
  have h5 := flat_count (f := lstT) (l := x.rows) fun r _ => by simp [lstT]
  refine ⟨h.card x hx, h.par x hx, fun r hr => ⟨(h.row x hx r hr).1, (h.row x hx r hr).2, ?_⟩, by omega, by omega⟩
  have h6 := flat_ge (f := lstT) hr
  have h7 : (lstT r).length = r.length + 2 := by simp [lstT]
  omega

/-! ### From texts to words -/
def okT (w r : List UInt8) : Prop := w = kOpen ∨ w = kClose ∨ (w ≠ [] ∧ (∀ b ∈ w, isWd b = true) ∧ ∀ b r', r = b :: r' → isWd b = false)
def Rn : List (List UInt8) → List UInt8 → List UInt8 → Prop
  | [], u, v => u = v
  | w :: ts, u, v => ∃ g r, u = g ++ (w ++ r) ∧ (∀ b ∈ g, isBl b = true) ∧ okT w r ∧ Rn ts r v
theorem tw_all {f : UInt8 → Bool} : ∀ {g r : List UInt8}, (∀ b ∈ g, f b = true) → (∀ b r', r = b :: r' → f b = false) → (g ++ r).takeWhile f = g
  | [], r, _, h => by
    cases r with
    | nil => rfl
    | cons b r => rw [List.nil_append, List.takeWhile_cons, h b r rfl]; rfl
  | a :: g, r, hg, h => by rw [List.cons_append, List.takeWhile_cons, if_pos (hg a (by simp)), tw_all (fun b hb => hg b (by simp [hb])) h]
theorem bl_wd {b : UInt8} (h : isWd b = true) : isBl b = false := by
  simp only [isWd, Bool.and_eq_true, Bool.not_eq_true'] at h
  rw [isBl, h.1.1.1, h.1.1.2]; rfl
theorem tok_at {s g w r : List UInt8} {p : Nat} (hp : p ≤ s.length) (e : s.drop p = g ++ (w ++ r)) (hg : ∀ b ∈ g, isBl b = true) (hw : okT w r) : tok s p = w ∧ te s p ≤ s.length ∧ s.drop (te s p) = r ∧ nx s p = p + g.length := by
  have hwb : ∀ b r', w ++ r = b :: r' → isBl b = false := by
    rcases hw with rfl | rfl | ⟨h1, h2, _⟩
    · intro b r' h; cases h; rfl
    · intro b r' h; cases h; rfl
    · intro b r' h
      cases w with
      | nil => exact absurd rfl h1
      | cons c w => cases h; exact bl_wd (h2 b (by simp))
  have hn : nx s p = p + g.length := by rw [nx, scanF, e, tw_all hg hwb]
  have hd : s.drop (nx s p) = w ++ r := by rw [hn, ← List.drop_drop, e, List.drop_append_of_le_length (Nat.le_refl _), List.drop_length, List.nil_append]
  have hl : (s.drop p).length = (g ++ (w ++ r)).length := by rw [e]
  rw [List.length_drop, List.length_append, List.length_append] at hl
  have ht : te s p = nx s p + w.length := by
    rcases hw with rfl | rfl | ⟨h1, h2, h3⟩
    · have hs : scanF isWd s (nx s p) = nx s p := by rw [scanF, hd]; rfl
      have : (kOpen : List UInt8).length = 1 := rfl
      rw [te, hs, if_pos ⟨rfl, by omega⟩]; rfl
    · have hs : scanF isWd s (nx s p) = nx s p := by rw [scanF, hd]; rfl
      have : (kClose : List UInt8).length = 1 := rfl
      rw [te, hs, if_pos ⟨rfl, by omega⟩]; rfl
    · have hs : scanF isWd s (nx s p) = nx s p + w.length := by rw [scanF, hd, tw_all h2 h3]
      have := List.length_pos_iff.2 h1
      rw [te, hs, if_neg (by omega)]
  refine ⟨?_, by omega, ?_, hn⟩
  · rw [tok, hd, ht, show nx s p + w.length - nx s p = w.length by omega, List.take_append_of_le_length (Nat.le_refl _), List.take_length]
  · rw [ht, ← List.drop_drop, hd, List.drop_append_of_le_length (Nat.le_refl _), List.drop_length, List.nil_append]
theorem at_rn {s : List UInt8} : ∀ {ts : List (List UInt8)} {p : Nat} {v : List UInt8}, p ≤ s.length → Rn ts (s.drop p) v → ∃ q, At s p ts q ∧ s.drop q = v ∧ q ≤ s.length
  | [], p, v, hp, h => ⟨p, rfl, h, hp⟩
  | w :: ts, p, v, hp, h => by
    obtain ⟨g, r, e, hg, hw, hr⟩ := h
    obtain ⟨h1, h2, h3, _⟩ := tok_at hp e hg hw
    obtain ⟨q, k1, k2, k3⟩ := at_rn h2 (by rw [h3]; exact hr)
    exact ⟨q, ⟨h1, k1⟩, k2, k3⟩
theorem tok_end {s : List UInt8} {q : Nat} (hq : q ≤ s.length) (h : ∀ b ∈ s.drop q, isBl b = true) : tok s q = [] ∧ nx s q = s.length := by
  have hn : nx s q = s.length := by
    have := tw_all (r := []) h (fun b r' h => by cases h)
    rw [List.append_nil] at this
    rw [nx, scanF, this, List.length_drop]; omega
  refine ⟨?_, hn⟩
  rw [tok, hn, List.drop_length, List.take_nil]
/-- A text in which a network's words stand is read as it. -/
theorem readN_of {s z : List UInt8} {n : Nt} (hl : s.length ≤ 40000) (hv : validP n) (h : Rn (netT n) s z) (hz : ∀ b ∈ z, isBl b = true) : readNR s = .inr n := by
  have ht := valid_tw hv
  obtain ⟨q, h1, h2, h3⟩ := at_rn (Nat.zero_le _) (by rw [List.drop_zero]; exact h)
  have h4 := at_len (Nat.zero_le _) h1 (netT_ne n)
  obtain ⟨h5, h6⟩ := netT_big ht (F := s.length + 1) (by omega)
  rw [readNR, if_neg (by omega), net_at ht.g h6 h5 h1, if_pos (tok_end h3 (by rw [h2]; exact hz)).1]
  exact if_pos hv
/-! ### Texts made of words and what stands between them -/
def rnd (sep : List UInt8 → List UInt8 → List UInt8) : List UInt8 → List (List UInt8) → List UInt8
  | _, [] => []
  | w, v :: ts => sep w v ++ (v ++ rnd sep v ts)
theorem rnd_app (sep : List UInt8 → List UInt8 → List UInt8) : ∀ (a b : List (List UInt8)) (w : List UInt8), rnd sep w (a ++ b) = rnd sep w a ++ rnd sep (a.getLastD w) b
  | [], b, w => rfl
  | v :: a, b, w => by
    rw [List.cons_append, rnd, rnd, rnd_app sep a b v, List.append_assoc, List.append_assoc]
    cases a <;> rfl
def isP (w : List UInt8) : Bool := decide (w = kOpen) || decide (w = kClose)
/-- Words of octets that can stand in words, and parentheses. -/
def Gt (w : List UInt8) : Prop := isP w = true ∨ (isP w = false ∧ w ≠ [] ∧ ∀ b ∈ w, isWd b = true)
theorem rn_rnd {sep : List UInt8 → List UInt8 → List UInt8} (hs : ∀ w v, ∀ b ∈ sep w v, isBl b = true) (hne : ∀ w v, isP w = false → isP v = false → sep w v ≠ []) {z : List UInt8} (hz : ∀ b r, z = b :: r → isWd b = false) :
    ∀ (ts : List (List UInt8)) (w : List UInt8), (∀ v ∈ ts, Gt v) → Rn ts (rnd sep w ts ++ z) z
  | [], w, _ => rfl
  | v :: ts, w, h => by
    refine ⟨sep w v, rnd sep v ts ++ z, by rw [rnd, List.append_assoc, List.append_assoc], hs w v, ?_, rn_rnd hs hne hz ts v fun x hx => h x (by simp [hx])⟩
    rcases h v (by simp) with hv | ⟨hv, h1, h2⟩
    · simp only [isP, Bool.or_eq_true, decide_eq_true_eq] at hv
      rcases hv with hv | hv
      · exact .inl hv
      · exact .inr (.inl hv)
    · refine .inr (.inr ⟨h1, h2, fun b r' e => ?_⟩)
      cases ts with
      | nil => exact hz b r' e
      | cons x ts =>
        rw [rnd, List.append_assoc] at e
        rcases hsx : sep v x with _ | ⟨c, g⟩
        · rw [hsx, List.nil_append] at e
          rcases h x (by simp) with hx | ⟨hx, _, _⟩
          · simp only [isP, Bool.or_eq_true, decide_eq_true_eq] at hx
            rcases hx with rfl | rfl
            · cases e; rfl
            · cases e; rfl
          · exact absurd hsx (hne v x hv hx)
        · rw [hsx] at e
          cases e
          have := hs v x b (by rw [hsx]; simp)
          cases hb : isWd b with
          | false => rfl
          | true => rw [bl_wd hb] at this; cases this
def sep0 (w v : List UInt8) : List UInt8 := if w = kOpen ∨ v = kClose then [] else [32]
theorem rnd_nums : ∀ (l : List Int) (w : List UInt8), w ≠ kOpen → (∀ x ∈ l, 0 ≤ x ∧ x < 100) → rnd sep0 w (l.map dec) = numsN l ∧ (l.map dec).getLastD w ≠ kOpen
  | [], w, hw, _ => ⟨rfl, hw⟩
  | x :: l, w, hw, h => by
    have hx := h x (by simp)
    have hd : dec x ≠ kOpen := fun e => by
      have := (dec_num hx.1 hx.2).1
      rw [e] at this
      exact absurd this (by decide)
    obtain ⟨h1, h2⟩ := rnd_nums l (dec x) hd fun y hy => h y (by simp [hy])
    refine ⟨?_, ?_⟩
    · rw [List.map_cons, rnd, h1, sep0, if_neg (by rintro (e | e); exact hw e; exact dec_close hx.1 hx.2 e), numsN, numsN, List.flatMap_cons]; rfl
    · rw [List.map_cons]
      cases l with
      | nil => exact hd
      | cons y l => exact h2
theorem rnd_lst {l : List Int} {w : List UInt8} (hw : w ≠ kOpen) (h : two l) : rnd sep0 w (lstT l) = 32 :: listN l := by
  rw [lstT, rnd, sep0, if_neg (by rintro (e | e); exact hw e; exact absurd e (by decide)), listN]
  show 32 :: 40 :: rnd sep0 kOpen (l.map dec ++ [kClose]) = _
  congr 2
  cases l with
  | nil => rfl
  | cons x l =>
    have hx := h x (by simp)
    have hd : dec x ≠ kOpen := fun e => by
      have := (dec_num hx.1 hx.2).1
      rw [e] at this
      exact absurd this (by decide)
    obtain ⟨h1, h2⟩ := rnd_nums l (dec x) hd fun y hy => h y (by simp [hy])
    rw [List.map_cons, List.cons_append, rnd, rnd_app, h1, sep0, if_pos (.inl rfl), List.nil_append]
    show dec x ++ (numsN l ++ rnd sep0 _ [kClose]) = _
    rw [rnd, sep0, if_pos (.inr rfl)]
    show dec x ++ (numsN l ++ kClose) = _
    simp [numsN]
theorem getLast_app {α : Type} (a b : List α) (w : α) : (a ++ b).getLastD w = b.getLastD (a.getLastD w) := by
  cases b with
  | nil => rw [List.append_nil]; rfl
  | cons x b => simp [List.getLastD_eq_getLast?]
theorem lstT_last (l : List Int) (w : List UInt8) : (lstT l).getLastD w = kClose := by rw [lstT, ← List.cons_append, getLast_app]; rfl
theorem rnd_lsts : ∀ (rs : List (List Int)) (w : List UInt8), w ≠ kOpen → (∀ r ∈ rs, two r) → rnd sep0 w (rs.flatMap lstT) = (rs.flatMap fun r => 32 :: listN r) ∧ (rs.flatMap lstT).getLastD w ≠ kOpen
  | [], w, hw, _ => ⟨rfl, hw⟩
  | r :: rs, w, hw, h => by
    obtain ⟨h1, h2⟩ := rnd_lsts rs kClose (by decide) fun y hy => h y (by simp [hy])
    refine ⟨?_, ?_⟩
    · rw [List.flatMap_cons, rnd_app, rnd_lst hw (h r (by simp)), lstT_last, h1, List.flatMap_cons]
    · rw [List.flatMap_cons, getLast_app, lstT_last]; exact h2
theorem nodeT_last (x : Nd) (w : List UInt8) : (nodeT x).getLastD w = kClose := by
  rw [nodeT, ← List.append_assoc, ← List.cons_append, ← List.cons_append, ← List.cons_append, getLast_app]; rfl
theorem rnd_node {x : Nd} {w : List UInt8} (hw : w ≠ kOpen) (hc : 0 ≤ x.card ∧ x.card < 100) (hp : two x.parents) (hr : ∀ r ∈ x.rows, two r) : rnd sep0 w (nodeT x) = 32 :: nodeNest x := by
  have hd : dec x.card ≠ kOpen := fun e => by
    have := (dec_num hc.1 hc.2).1
    rw [e] at this
    exact absurd this (by decide)
  obtain ⟨h1, h2⟩ := rnd_lsts x.rows kClose (by decide) hr
  rw [nodeT, rnd, sep0, if_neg (by rintro (e | e); exact hw e; exact absurd e (by decide)), rnd, sep0, if_pos (.inl rfl), rnd, sep0, if_neg (by rintro (e | e); exact absurd e (by decide); exact dec_close hc.1 hc.2 e), rnd_app, rnd_lst hd hp, lstT_last, rnd_app, h1, rnd, sep0, if_pos (.inr rfl), nodeNest]
  simp [rnd]
theorem rnd_nodes : ∀ (l : List Nd) (w : List UInt8), w ≠ kOpen → (∀ x ∈ l, (0 ≤ x.card ∧ x.card < 100) ∧ two x.parents ∧ ∀ r ∈ x.rows, two r) → rnd sep0 w (l.flatMap nodeT) = (l.flatMap fun x => 32 :: nodeNest x) ∧ (l.flatMap nodeT).getLastD w ≠ kOpen
  | [], w, hw, _ => ⟨rfl, hw⟩
  | x :: l, w, hw, h => by
    obtain ⟨h1, h2⟩ := rnd_nodes l kClose (by decide) fun y hy => h y (by simp [hy])
    obtain ⟨k1, k2, k3⟩ := h x (by simp)
    refine ⟨?_, ?_⟩
    · rw [List.flatMap_cons, rnd_app, rnd_node hw k1 k2 k3, nodeT_last, h1, List.flatMap_cons]
    · rw [List.flatMap_cons, getLast_app, nodeT_last]; exact h2
/-- The words behind the first parenthesis. -/
def netT1 (n : Nt) : List (List UInt8) := kNet :: dec n.grain :: (n.nodes.flatMap nodeT ++ [kClose])
theorem net_rnd {n : Nt} (h : Tw n) : nested n = 40 :: rnd sep0 kOpen (netT1 n) := by
  obtain ⟨h1, h2⟩ := rnd_nodes n.nodes (dec n.grain) (fun e => by
    have := (dec_num h.g.1 h.g.2).1
    rw [e] at this
    exact absurd this (by decide)) fun x hx => ⟨h.card x hx, h.par x hx, fun r hr => (h.row x hx r hr).1⟩
  rw [netT1, rnd, sep0, if_pos (.inl rfl), rnd, sep0, if_neg (by rintro (e | e); exact absurd e (by decide); exact dec_close h.g.1 h.g.2 e), rnd_app, h1, rnd, sep0, if_pos (.inr rfl), nested]
  simp [rnd]
theorem gt_dec {x : Int} (h0 : 0 ≤ x) (h : x < 100) : Gt (dec x) := by
  have hn := dec_num h0 h
  have hk : isP (dec x) = false := by
    cases e : isP (dec x) with
    | false => rfl
    | true =>
      simp only [isP, Bool.or_eq_true, decide_eq_true_eq] at e
      rcases e with e | e
      · rw [e] at hn; exact absurd hn.1 (by decide)
      · rw [e] at hn; exact absurd hn.1 (by decide)
  refine .inr ⟨hk, dec_ne x, fun b hb => ?_⟩
  have := num_all hn.1 b hb
  rw [isDg, decide_eq_true_eq] at this
  rw [isWd, beq_false_of_ne (by omega), beq_false_of_ne (by omega), beq_false_of_ne (by omega), beq_false_of_ne (by omega)]; rfl
theorem gt_lst {l : List Int} (h : two l) : ∀ w ∈ lstT l, Gt w := by
  intro w hw
  simp only [lstT, List.mem_cons, List.mem_append, List.mem_map, List.not_mem_nil, or_false] at hw
  rcases hw with rfl | ⟨x, hx, rfl⟩ | rfl
  · exact .inl rfl
  · exact gt_dec (h x hx).1 (h x hx).2
  · exact .inl rfl
theorem gt_net {n : Nt} (h : Tw n) : ∀ w ∈ netT1 n, Gt w := by
  intro w hw
  simp only [netT1, nodeT, List.mem_cons, List.mem_append, List.mem_flatMap, List.not_mem_nil, or_false] at hw
  rcases hw with rfl | rfl | ⟨x, hx, rfl | rfl | rfl | hw | ⟨r, hr, hw⟩ | rfl⟩ | rfl
  · exact .inr ⟨rfl, by decide, by decide⟩
  · exact gt_dec h.g.1 h.g.2
  · exact .inl rfl
  · exact .inr ⟨rfl, by decide, by decide⟩
  · exact gt_dec (h.card x hx).1 (h.card x hx).2
  · exact gt_lst (h.par x hx) w hw
  · exact gt_lst (h.row x hx r hr).1 w hw
  · exact .inl rfl
  · exact .inl rfl
/-- Any text of a network's words with blanks between them. -/
theorem rn_net {n : Nt} (h : Tw n) {sep : List UInt8 → List UInt8 → List UInt8} (hs : ∀ w v, ∀ b ∈ sep w v, isBl b = true) (hne : ∀ w v, isP w = false → isP v = false → sep w v ≠ []) {g z : List UInt8} (hg : ∀ b ∈ g, isBl b = true) (hz : ∀ b r, z = b :: r → isWd b = false) : Rn (netT n) (g ++ 40 :: (rnd sep kOpen (netT1 n) ++ z)) z :=
  ⟨g, rnd sep kOpen (netT1 n) ++ z, rfl, hg, .inl rfl, rn_rnd hs hne hz _ _ (gt_net h)⟩
theorem sep0_bl (w v : List UInt8) : ∀ b ∈ sep0 w v, isBl b = true := by
  intro b hb
  rw [sep0] at hb
  split at hb
  · simp at hb
  · simp only [List.mem_singleton] at hb; subst hb; rfl
theorem isP_no {w : List UInt8} (h : isP w = false) : w ≠ kOpen ∧ w ≠ kClose := by
  simp only [isP, Bool.or_eq_false_iff, decide_eq_false_iff_not] at h
  exact h
theorem sep0_ne (w v : List UInt8) (hw : isP w = false) (hv : isP v = false) : sep0 w v ≠ [] := by
  rw [sep0, if_neg (by rintro (e | e); exact (isP_no hw).1 e; exact (isP_no hv).2 e)]; simp
end Go.Proofs.YtphmmoloegjocaaDoor

/- Forms of networks, read back (plain). -/
namespace Go.Proofs.YtphmmoloegjocaaDoor
open Go Y
set_option maxRecDepth 100000
set_option maxHeartbeats 4000000

theorem netW_ok {n : Nt} (h : Tw n) : ∀ w ∈ netW n, (∀ v ∈ w, Gw v) ∧ passW w = false := by
  have hk : ∀ v ∈ [kNet, kNode, kRow, kFrom], Gw v := by
    intro v hv
    simp only [List.mem_cons, List.not_mem_nil, or_false] at hv
    rcases hv with rfl | rfl | rfl | rfl <;> exact ⟨by decide, by decide, by decide⟩
  intro w hw
  simp only [netW, blockW, List.mem_cons, List.mem_flatMap, List.mem_map] at hw
  rcases hw with rfl | ⟨x, hx, rfl | ⟨r, hr, rfl⟩⟩
  · refine ⟨fun v hv => ?_, rfl⟩
    simp only [List.mem_cons, List.not_mem_nil, or_false] at hv
    rcases hv with rfl | rfl
    · exact hk _ (by simp)
    · exact gw_dec h.g.1 h.g.2
  · refine ⟨fun v hv => ?_, ?_⟩
    · simp only [nodeW, List.mem_cons] at hv
      rcases hv with rfl | rfl | hv
      · exact hk _ (by simp)
      · exact gw_dec (h.card x hx).1 (h.card x hx).2
      · split at hv
        · simp at hv
        · simp only [List.mem_cons, List.mem_map] at hv
          rcases hv with rfl | ⟨p, hp, rfl⟩
          · exact hk _ (by simp)
          · exact gw_dec (h.par x hx p hp).1 (h.par x hx p hp).2
    · rfl
  · refine ⟨fun v hv => ?_, ?_⟩
    · simp only [rowW, List.mem_cons, List.mem_map] at hv
      rcases hv with rfl | ⟨p, hp, rfl⟩
      · exact hk _ (by simp)
      · exact gw_dec ((h.row x hx r hr).1 p hp).1 ((h.row x hx r hr).1 p hp).2
    · rfl
/-- Lines with other blanks between the words, behind them, and lines that are passed over. -/
theorem keep_form {n : Nt} (h : Tw n) {sep g B : List UInt8} (hs : ∀ b ∈ sep, b = 32) (hne : sep ≠ []) (hg : ∀ b ∈ g, b = 32) (hB : ∀ r, keep (B ++ r) = keep r) : keep ((netW n).flatMap fun w => (joinL sep w ++ g) ++ 10 :: B) = netW n := by
  have h32 : ∀ l : List UInt8, (∀ b ∈ l, b = 32) → 10 ∉ l := fun l hl hm => absurd (hl 10 hm) (by decide)
  have := keep_flat (A := fun w => joinL sep w ++ g) (B := B) hB (W := netW n) (fun w hw => by
    obtain ⟨h1, h2⟩ := netW_ok h w hw
    refine ⟨fun hm => ?_, words_join hs hne hg h1, h2⟩
    rcases List.mem_append.1 hm with hm | hm
    · exact join_nl (h32 sep hs) h1 hm
    · exact h32 g hg hm) []
  rw [List.append_nil] at this
  rw [this]
  show netW n ++ [] = _
  rw [List.append_nil]
theorem keep_lines {n : Nt} (h : Tw n) : keep (byLines n) = netW n := by
  rw [net_join]
  have := keep_form h (sep := [32]) (g := []) (B := []) (by simp) (by simp) (by simp) (fun r => rfl)
  simp only [List.append_nil] at this
  exact this
theorem keep_nl2 (r : List UInt8) : keep (10 :: r) = keep r := keep_line (u := []) (r := r) (by simp)
theorem rn_nested {n : Nt} (h : Tw n) {g z : List UInt8} (hg : ∀ b ∈ g, isBl b = true) (hz : ∀ b r, z = b :: r → isWd b = false) : Rn (netT n) (g ++ (nested n ++ z)) z := by
  rw [net_rnd h]
  exact rn_net h sep0_bl sep0_ne hg hz
theorem turn_lines {n : Nt} (hv : validP n) (hl : (byLines n).length ≤ 39000) : turnV (10 :: 10 :: byLines n) = [.str (nested n), i64 0] := by
  have ht : tok (10 :: 10 :: byLines n) 0 = kNet := by
    refine (tok_at (g := [10, 10]) (w := kNet) (r := 32 :: (dec n.grain ++ [10] ++ n.nodes.flatMap nodeLines)) (Nat.zero_le _) ?_ (by decide) (.inr (.inr ⟨by decide, by decide, fun b r' e => by cases e; rfl⟩))).1
    rw [List.drop_zero, byLines]; simp
  have hr : readLR (10 :: 10 :: byLines n) = .inr n := readL_of (by simp only [List.length_cons]; omega) hv (by rw [keep_nl2, keep_nl2, keep_lines (valid_tw hv)])
  rw [turnV, if_neg (fun h => by rw [ht] at h; exact absurd h.2 (by decide)), hr]
theorem turn_nested {n : Nt} (hv : validP n) (hl : (nested n).length ≤ 39000) : turnV (32 :: 10 :: 32 :: nested n) = [.str (byLines n), i64 0] := by
  have hb := net_rnd (valid_tw hv)
  have ht : tok (32 :: 10 :: 32 :: nested n) 0 = kOpen := by
    refine (tok_at (g := [32, 10, 32]) (w := kOpen) (r := rnd sep0 kOpen (netT1 n)) (Nat.zero_le _) ?_ (by decide) (.inl rfl)).1
    rw [List.drop_zero, hb]; rfl
  have hr : readNR (32 :: 10 :: 32 :: nested n) = .inr n := by
    have := rn_nested (valid_tw hv) (g := [32, 10, 32]) (z := []) (by decide) (by simp)
    rw [List.append_nil] at this
    exact readN_of (by simp only [List.length_cons]; omega) hv this (by simp)
  rw [turnV, if_pos ⟨by simp only [List.length_cons]; omega, ht⟩, hr]
theorem DrB.sm {n : Nt} (h : DrB n) : SmT n := valid_sm h.valid
theorem DrB.rows {n : Nt} (h : DrB n) {x : Nd} (hx : x ∈ n.nodes) : x.rows.length ≤ 64 := by
  have hp3 := h.par x hx
  obtain ⟨v, hv, rfl⟩ := mem_getD nd0 hx
  have hp := h.valid.placed _ hx
  have h1 := (h.valid.node v hv).1
  have hok := atN_ok (l := cardsN n) (ps := (n.nodes.getD v nd0).parents) (fun c hc' => by obtain ⟨y, hy, rfl⟩ := List.mem_map.1 hc'; exact h.valid.cards y hy) (by rw [cardsN, List.length_map]; exact list_mem hp)
  have hal : (atN (cardsN n) (n.nodes.getD v nd0).parents).length = (n.nodes.getD v nd0).parents.length := List.length_map ..
  have h3 := prod_take hok _ (Nat.le_refl _)
  rw [take_all (Nat.le_refl _)] at h3
  have h4 : (4 : Int) ^ (atN (cardsN n) (n.nodes.getD v nd0).parents).length ≤ 64 := by
    have : ∀ i ≤ 3, (4 : Int) ^ i ≤ 64 := by decide
    exact this _ (by omega)
  have h5 : prodN (pcardsN n v) = prodN (atN (cardsN n) (n.nodes.getD v nd0).parents) := rfl
  omega
theorem DrB.lines {n : Nt} (h : DrB n) : (byLines n).length ≤ 6000 := by
  have hs := h.sm
  have h1 := flat_len (f := nodeLines) (B := 1100) (l := n.nodes) fun x hx => by
    have h2 := hs.head_len hx
    have h3 := flat_len (f := rowLine) (B := 16) (l := x.rows) fun r hr => hs.row_len hx hr
    have h4 := h.rows hx
    rw [nodeLines, List.length_append]
    have : 16 * x.rows.length ≤ 16 * 64 := Nat.mul_le_mul_left _ h4
    omega
  have h2 := h.five
  have h3 : 1100 * n.nodes.length ≤ 1100 * 5 := Nat.mul_le_mul_left _ h2
  have h4 := dec_len n.grain
  rw [byLines, List.length_append, List.length_append, List.length_append]
  simp only [List.length_cons, List.length_nil]
  omega
theorem DrB.nest {n : Nt} (h : DrB n) : (nested n).length ≤ 6000 := by
  have hs := h.sm
  have h1 := flat_len (f := fun x => 32 :: nodeNest x) (B := 1100) (l := n.nodes) fun x hx => by
    have h2 := list_len41 x.parents
    have h3 := flat_len (f := fun r => 32 :: listN r) (B := 15) (l := x.rows) fun r hr => by
      have h2 := list_len41 r
      have h3 := (hs.row x hx r hr).2.2
      simp only [List.length_cons]; omega
    have h4 := h.rows hx
    have h5 := h.par x hx
    have h6 := dec_len x.card
    have : 15 * x.rows.length ≤ 15 * 64 := Nat.mul_le_mul_left _ h4
    simp only [nodeNest, List.length_cons, List.length_append, List.length_nil]
    omega
  have h2 := h.five
  have h3 : 1100 * n.nodes.length ≤ 1100 * 5 := Nat.mul_le_mul_left _ h2
  have h4 := dec_len n.grain
  simp only [nested, List.length_cons, List.length_append, List.length_nil]
  omega
end Go.Proofs.YtphmmoloegjocaaDoor

/- The statement on turning. -/
namespace Go.Proofs.YtphmmoloegjocaaDoor
open Go Y
set_option maxRecDepth 100000
set_option maxHeartbeats 40000000

theorem formatTurns_c (D : D5) (hD : OkD5 D) : Pure cx 3 [D.pv] (· = .ret [.bool true]) := by
  refine pure_of_vc Tryd.func3 rfl rfl rfl ?_
  refine works_c.eq rfl ?_
  refine (net_c D hD).at fun r hr => ?_
  obtain ⟨n, hn, rfl⟩ := hr
  have hv := hn.valid
  have hb1 := hn.lines
  have hb2 := hn.nest
  have h1 := lines_c n (valid_big hv)
  rw [linesP, if_pos hv] at h1
  have h2 := nestedE_c n (valid_big hv)
  rw [nestedP, if_pos hv] at h2
  have h3 := turn_p (10 :: 10 :: byLines n) (by simp only [List.length_cons]; omega)
  rw [turn_lines hv (by omega)] at h3
  have h4 := turn_p (32 :: 10 :: 32 :: nested n) (by simp only [List.length_cons]; omega)
  rw [turn_nested hv (by omega)] at h4
  refine h1.eq rfl ?_
  refine h2.eq rfl ?_
  refine ⟨by show 2 + (byLines n).length ≤ 9223372036854775807; omega, ?_⟩
  refine h3.eq rfl ?_
  refine ⟨by show 3 + (nested n).length ≤ 9223372036854775807; omega, ?_⟩
  refine h4.eq rfl ?_
  refine And.intro (fun _ => ?_) (fun h => absurd rfl h)
  refine And.intro (fun _ => ?_) (fun h => absurd rfl h)
  refine And.intro (fun _ => ?_) (fun h => absurd rfl h)
  refine And.intro (fun _ => ?_) (fun h => absurd rfl h)
  refine And.intro (fun _ => ?_) (fun h => absurd rfl h)
  refine And.intro (fun _ => ?_) (fun h => absurd rfl h)
  exact end1 _ rfl rfl rfl
end Go.Proofs.YtphmmoloegjocaaDoor

/- Arguments and listed variables, read as data. -/
namespace Go.Proofs.YtphmmoloegjocaaDoor.Y
open Go

/-- The parts of a struct or an array, with their offsets. -/
def partsOf (P : Program) (t : TypeId) : Option (List (TypeId × Nat)) :=
  match P.underlying t with
  | some (.struct fs) => some (fs.toList.map fun f => (f.type, f.offset))
  | some (.array k e) => some ((List.range k).map fun i => (e, i * P.cellsOf e))
  | _ => none
def tiles (P : Program) : List (TypeId × Nat) → Nat → Option Nat
  | [], o => some o
  | f :: r, o => if f.2 = o then tiles P r (o + P.cellsOf f.1) else none
theorem tiles_le {P : Program} : ∀ {l : List (TypeId × Nat)} {o n : Nat}, tiles P l o = some n → o ≤ n
  | [], o, n, h => by simp only [tiles, Option.some.injEq] at h; omega
  | f :: r, o, n, h => by
    simp only [tiles] at h
    split at h
    · have := tiles_le h; omega
    · cases h

def basic : TypeDesc → Bool
  | .bool => true
  | .int _ => true
  | .string => true
  | _ => false

/-- Types of plain data: what the readings below cover. -/
def supp (P : Program) : Nat → TypeId → Bool
  | 0, _ => false
  | n + 1, t => match partsOf P t with
    | some l => decide (tiles P l 0 = some (P.cellsOf t)) && l.all fun f => supp P n f.1
    | none => match P.underlying t with
      | some (.slice e) => decide (0 < P.cellsOf e) && supp P n e
      | some d => basic d
      | none => false

def Flds (P : Program) (p : TypeId → List PV → Prop) : List (TypeId × Nat) → List PV → Prop
  | [], xs => xs = []
  | f :: r, xs => ∃ ys zs, xs = ys ++ zs ∧ ys.length = P.cellsOf f.1 ∧ p f.1 ys ∧ Flds P p r zs

/-- The cells of a value of a type. -/
def TyT (P : Program) : Nat → TypeId → List PV → Prop
  | 0, _, _ => False
  | m + 1, t, xs => match partsOf P t with
    | some l => Flds P (TyT P m) l xs
    | none => match P.underlying t with
      | some .bool => ∃ b, xs = [.bool b]
      | some (.int k) => ∃ n, xs = [.int k n] ∧ (Lit.int k n).wf = true
      | some .string => ∃ s, xs = [.str s] ∧ s.length ≤ maxLen
      | some (.slice e) => match Nat.beq (P.cellsOf e) 1 with
        | true => ∃ ys, xs = [.lst ys] ∧ ys.length ≤ maxLen ∧ ∀ y ∈ ys, TyT P m e [y]
        | false => ∃ yss, xs = [.lsts (P.cellsOf e) yss] ∧ yss.length ≤ maxLen ∧ ∀ ys ∈ yss, TyT P m e ys
      | _ => False

section
variable {H : Type} {enc : TypeId × Value → H} {P : Program} {W : World} {sp : Nat → Bool} {held : Bool}

/-- Cells of a block, one after the other. -/
theorem cells_take {a : Addr} {n : Nat} {cs : List Value} (hn : 0 < n) (h : W.cells? 0 a n = some cs) :
    ∃ c t z, W.heap[a.block]? = some (.cells c t z) ∧ a.spot = none ∧ cs.length = n ∧ a.off + n ≤ c.toList.length ∧ cs = (c.toList.drop a.off).take n := by
  unfold World.cells? at h
  rw [if_pos (Nat.zero_le _)] at h
  have hl := mapM_some_length h
  rw [List.length_range] at hl
  have hg : ∀ i, i < n → W.cell? (a.add i) = cs[i]? := fun i hi => mapM_some_get h i i (by simp [hi])
  have h0 := hg 0 hn
  have ha : a.add 0 = a := by simp [Addr.add]
  rw [ha, List.getElem?_eq_getElem (by omega)] at h0
  unfold World.cell? at h0
  split at h0
  · rename_i c t z hb
    have hs : a.spot = none := by
      cases hs : a.spot with
      | none => rfl
      | some _ => simp [hs] at h0
    have hcell : ∀ i, i < n → c[a.off + i]? = cs[i]? := by
      intro i hi
      have := hg i hi
      unfold World.cell? at this
      have hblk : (a.add i).block = a.block := by unfold Addr.add; split <;> rfl
      have hsp : (a.add i).spot = none := by unfold Addr.add; split <;> first | exact hs | rfl
      have hoff : (a.add i).off = a.off + i := by unfold Addr.add; split <;> simp_all
      rw [hblk, hb] at this
      simp only [hsp, hoff] at this
      simpa using this
    have hlen : a.off + n ≤ c.toList.length := by
      have := hcell (n - 1) (by omega)
      rw [List.getElem?_eq_getElem (by omega)] at this
      have := (Array.getElem?_eq_some_iff.1 this).1
      simp
      omega
    refine ⟨c, t, z, hb, hs, hl, hlen, ?_⟩
    refine List.ext_getElem? fun i => ?_
    by_cases hi : i < n
    · rw [← hcell i hi, List.getElem?_take_of_lt hi, List.getElem?_drop]
      simp
    · rw [List.getElem?_eq_none (by omega), List.getElem?_eq_none (by simp; omega)]
  · cases h0

def AllCells (fz : Fzn) (W : World) : Prop := ∀ b c t z, W.heap[b]? = some (.cells c t z) → fz b = some c.toList

/-- What a reading says of the cells. -/
def Rd (P : Program) (fz : Fzn) (m : Nat) (t : TypeId) (cs : List Value) : Prop := ∃ xs, VPL fz xs cs ∧ (∀ u ∈ cs, plainV u = true) ∧ TyT P m t xs

theorem flds_of {fz : Fzn} {m : Nat} {cs : List Value} : ∀ (l : List (TypeId × Nat)) (o : Nat), tiles P l o = some cs.length → (∀ f ∈ l, Rd P fz m f.1 ((cs.drop f.2).take (P.cellsOf f.1))) →
    ∃ xs, VPL fz xs (cs.drop o) ∧ (∀ u ∈ cs.drop o, plainV u = true) ∧ Flds P (TyT P m) l xs
  | [], o, ht, _ => by
    simp only [tiles, Option.some.injEq] at ht
    subst ht
    exact ⟨[], by simp [VPL], by simp, rfl⟩
  | f :: r, o, ht, hr => by
    simp only [tiles] at ht
    split at ht
    · rename_i ho
      have hle := tiles_le ht
      obtain ⟨ys, h1, h2, h3⟩ := hr f (by simp)
      obtain ⟨zs, k1, k2, k3⟩ := flds_of r (o + P.cellsOf f.1) ht fun g hg => hr g (by simp [hg])
      rw [ho] at h1 h2
      have e : cs.drop o = (cs.drop o).take (P.cellsOf f.1) ++ cs.drop (o + P.cellsOf f.1) := by
        rw [← List.drop_drop, List.take_append_drop]
      refine ⟨ys ++ zs, ?_, ?_, ys, zs, rfl, ?_, h3, k3⟩
      · rw [e]; exact VPL_append h1 k1
      · rw [e]; intro u hu; rcases List.mem_append.1 hu with hu | hu
        · exact h2 u hu
        · exact k2 u hu
      · rw [← VPL_length h1, List.length_take, List.length_drop]; omega
    · cases ht

theorem parts_trod {t : TypeId} {l : List (TypeId × Nat)} (hp : partsOf P t = some l) {n : Nat} {cs : List Value} {x : DataW H × List MemPlace} (h : DataW.trod enc P W 0 sp held n t cs = some x) :
    ∃ (xs : List (DataW H × List MemPlace)) (k : Nat), n = k + 1 ∧ x = (.agg (xs.map (·.1)), xs.flatMap (·.2)) ∧ cs.length = P.cellsOf t ∧ xs.length = l.length ∧
      ∀ (i : Nat) (f : TypeId × Nat), l[i]? = some f → DataW.trod enc P W 0 sp held k f.1 ((cs.drop f.2).take (P.cellsOf f.1)) = xs[i]? := by
  unfold partsOf at hp
  split at hp
  · rename_i fs hu
    injection hp with hp
    subst hp
    obtain ⟨xs, k, h1, h2, h3, h4, h5⟩ := DataW.trod_struct hu h
    refine ⟨xs, k, h1, h2, h3, by simpa using h4, fun i f hf => ?_⟩
    rw [List.getElem?_map, Option.map_eq_some_iff] at hf
    obtain ⟨g, hg, rfl⟩ := hf
    exact h5 i g (by simpa using hg)
  · rename_i k' e hu
    injection hp with hp
    subst hp
    obtain ⟨xs, k, h1, h2, h3, h4, h5⟩ := DataW.trod_array hu h
    refine ⟨xs, k, h1, h2, h3, by simpa using h4, fun i f hf => ?_⟩
    rw [List.getElem?_map, Option.map_eq_some_iff] at hf
    obtain ⟨j, hj, rfl⟩ := hf
    have hi := (List.getElem?_eq_some_iff.1 hj)
    obtain ⟨hi, hj⟩ := hi
    simp at hi hj
    subst hj
    exact h5 i hi
  · cases hp

theorem flat_singles {l : List (List PV)} (h : ∀ cs ∈ l, cs.length = 1) : l.flatten.length = l.length ∧ ∀ y ∈ l.flatten, [y] ∈ l := by
  induction l with
  | nil => simp
  | cons x r ih =>
    have hx := h x (by simp)
    obtain ⟨y, rfl⟩ : ∃ y, x = [y] := by
      match x, hx with
      | [y], _ => exact ⟨y, rfl⟩
    obtain ⟨h1, h2⟩ := ih fun c hc => h c (by simp [hc])
    refine ⟨by simp [h1], fun z hz => ?_⟩
    simp at hz
    rcases hz with rfl | hz
    · simp
    · have := h2 z (by simpa using hz)
      simp [this]

/-- A READING OF PLAIN DATA is a value of its type. -/
theorem typed_of_trod {fz : Fzn} (hfz : AllCells fz W) : ∀ (m : Nat) (t : TypeId) (n : Nat) (cs : List Value) (x : DataW H × List MemPlace), supp P m t = true → DataW.trod enc P W 0 sp held n t cs = some x → Rd P fz m t cs
  | 0, _, _, _, _, hs, _ => by simp [supp] at hs
  | m + 1, t, n, cs, x, hs, h => by
    have ih := typed_of_trod hfz m
    simp only [supp] at hs
    cases hp : partsOf P t with
    | some l =>
      simp only [hp, Bool.and_eq_true, decide_eq_true_eq, List.all_eq_true] at hs
      obtain ⟨xs, k, h1, h2, h3, h4, h5⟩ := parts_trod hp h
      obtain ⟨ys, g1, g2, g3⟩ := flds_of (fz := fz) (m := m) (cs := cs) l 0 (by rw [h3]; exact hs.1) fun f hf => by
        obtain ⟨i, hi, rfl⟩ := List.getElem_of_mem hf
        have := h5 i _ (List.getElem?_eq_getElem hi)
        rw [List.getElem?_eq_getElem (by omega)] at this
        exact ih _ _ _ _ (hs.2 _ hf) this
      exact ⟨ys, by simpa using g1, by simpa using g2, by simp only [TyT, hp]; exact g3⟩
    | none =>
      simp only [hp] at hs
      cases hu : P.underlying t with
      | none => simp [hu] at hs
      | some d =>
        simp only [hu] at hs
        cases d with
        | bool =>
          obtain ⟨b, rfl, _⟩ := DataW.trod_bool hu h
          exact ⟨[.bool b], by simp [VPL, VP], by simp [plainV], by simp [TyT, hp, hu]⟩
        | int k =>
          obtain ⟨b, rfl, _, hw⟩ := DataW.trod_int hu h
          exact ⟨[.int k b], by simp [VPL, VP], by simp [plainV], by simp [TyT, hp, hu, hw]⟩
        | string =>
          obtain ⟨⟨⟨s⟩⟩, rfl, _, hw⟩ := DataW.trod_string hu h
          exact ⟨[.str s], by simp [VPL, VP], by simp [plainV], by simp only [TyT, hp, hu]; exact ⟨s, rfl, hw⟩⟩
        | slice e =>
          simp only [Bool.and_eq_true, decide_eq_true_eq] at hs
          obtain ⟨hs0, hse⟩ := hs
          have fin : ∀ (v : Value) (len : Nat) (yss : List (List PV)), len ≤ maxLen → yss.length = len → (∀ ys ∈ yss, ys.length = P.cellsOf e ∧ TyT P m e ys) → plainV v = true →
              (yss = [] → ∃ a c, v = .slice a 0 c) → (yss ≠ [] → ∃ b o c arr us, v = .slice (some ⟨b, o, none⟩) len c ∧ len ≤ c ∧ fz b = some arr ∧ VPLL fz (P.cellsOf e) yss us ∧ Seg arr o us) → Rd P fz (m + 1) t [v] := by
            intro v len yss hml hlen hty hpl hnil hcons
            by_cases h1 : P.cellsOf e = 1
            · have hfl := flat_singles (l := yss) fun c hc => by rw [(hty c hc).1, h1]
              refine ⟨[.lst yss.flatten], ?_, by simpa using hpl, ?_⟩
              · simp only [VPL]
                refine ⟨v, [], rfl, ?_, rfl⟩
                simp only [VP]
                by_cases hy : yss = []
                · exact .inl ⟨by simp [hy], hnil hy⟩
                · obtain ⟨b, o, c, arr, us, k1, k2, k3, k4, k5⟩ := hcons hy
                  exact .inr ⟨b, o, c, arr, us, by rw [hfl.1, hlen]; exact k1, by rw [hfl.1, hlen]; exact k2, k3, (VPLL_flat.1 k4).1, k5⟩
              · simp only [TyT, hp, hu, h1]
                exact ⟨_, rfl, by rw [hfl.1, hlen]; exact hml, fun y hy => (hty _ (hfl.2 y hy)).2⟩
            · refine ⟨[.lsts (P.cellsOf e) yss], ?_, by simpa using hpl, ?_⟩
              · simp only [VPL]
                refine ⟨v, [], rfl, ?_, rfl⟩
                simp only [VP]
                by_cases hy : yss = []
                · exact .inl ⟨hy, hnil hy⟩
                · obtain ⟨b, o, c, arr, us, k1, k2, k3, k4, k5⟩ := hcons hy
                  exact .inr ⟨b, o, c, arr, us, by rw [hlen]; exact k1, by rw [hlen]; exact k2, k3, k4, k5⟩
              · have hb : Nat.beq (P.cellsOf e) 1 = false := beq_ne h1
                simp only [TyT, hp, hu, hb]
                exact ⟨_, rfl, by rw [hlen]; exact hml, fun y hy => (hty _ hy).2⟩
          rcases DataW.trod_slice hu h with ⟨rfl, _⟩ | ⟨a, len, cap, elems, rest, n', rfl, rfl, _, _, hlc, hcm, hel, hE, _, _⟩
          · exact fin _ 0 [] (by simp [maxLen]) rfl (by simp) rfl (fun _ => ⟨none, 0, rfl⟩) (by simp)
          · have hcs : ∀ i, i < len → ∃ cs', W.cells? 0 (a.add (i * P.cellsOf e)) (P.cellsOf e) = some cs' ∧ Rd P fz m e cs' := by
              intro i hi
              have := hE i hi
              rw [List.getElem?_eq_getElem (by omega), Option.bind_eq_some_iff] at this
              obtain ⟨cs', h1, h2⟩ := this
              exact ⟨cs', h1, ih _ _ _ _ hse h2⟩
            by_cases hl0 : len = 0
            · subst hl0
              exact fin _ 0 [] (by simp [maxLen]) rfl (by simp) rfl (fun _ => ⟨_, _, rfl⟩) (by simp)
            · obtain ⟨cs0, c1, _⟩ := hcs 0 (by omega)
              have ha : a.add (0 * P.cellsOf e) = a := by simp [Addr.add]
              rw [ha] at c1
              obtain ⟨c, tt, z, hb, hsp, _, _, _⟩ := cells_take hs0 c1
              have key : ∀ k, k ≤ len → ∃ yss us, yss.length = k ∧ VPLL fz (P.cellsOf e) yss us ∧ (∀ u ∈ us, plainV u = true) ∧ (∀ ys ∈ yss, ys.length = P.cellsOf e ∧ TyT P m e ys) ∧ (k ≠ 0 → a.off + k * P.cellsOf e ≤ c.toList.length) ∧ us = (c.toList.drop a.off).take (k * P.cellsOf e) := by
                intro k
                induction k with
                | zero => intro _; exact ⟨[], [], rfl, by simp [VPLL], by simp, by simp, by simp, by simp⟩
                | succ k ihk =>
                  intro hk
                  obtain ⟨yss, us, k1, k2, k3, k4, k5, k6⟩ := ihk (by omega)
                  obtain ⟨cs', d1, ys, d2, d3, d4⟩ := hcs k (by omega)
                  obtain ⟨c', tt', z', e1, e2, e3, e4, e5⟩ := cells_take hs0 d1
                  have hblk : (a.add (k * P.cellsOf e)).block = a.block := by unfold Addr.add; split <;> rfl
                  have hoff : (a.add (k * P.cellsOf e)).off = a.off + k * P.cellsOf e := by unfold Addr.add; split <;> simp_all
                  rw [hblk, hb] at e1
                  simp only [Option.some.injEq, Obj.cells.injEq] at e1
                  obtain ⟨rfl, _, _⟩ := e1
                  rw [hoff] at e4 e5
                  have hys : ys.length = P.cellsOf e := by rw [← VPL_length d2, e3]
                  have hf := VPLL_flat.1 k2
                  refine ⟨yss ++ [ys], us ++ cs', by simp [k1], VPLL_flat.2 ⟨?_, ?_⟩, ?_, ?_, fun _ => by rw [Nat.succ_mul]; omega, ?_⟩
                  · simpa using VPL_append hf.1 d2
                  · intro q hq; rcases List.mem_append.1 hq with hq | hq
                    · exact hf.2 q hq
                    · simp at hq; subst hq; exact hys
                  · intro u hu; rcases List.mem_append.1 hu with hu | hu
                    · exact k3 u hu
                    · exact d3 u hu
                  · intro q hq; rcases List.mem_append.1 hq with hq | hq
                    · exact k4 q hq
                    · simp at hq; subst hq; exact ⟨hys, d4⟩
                  · rw [k6, e5, Nat.succ_mul, List.take_add, List.drop_drop]
              obtain ⟨yss, us, k1, k2, k3, k4, k5, k6⟩ := key len (Nat.le_refl _)
              have k5 := k5 hl0
              have hne : yss ≠ [] := by intro e; subst e; simp at k1; omega
              refine fin _ len yss (by omega) k1 k4 rfl (fun e => absurd e hne) fun _ => ⟨a.block, a.off, cap, c.toList, us, ?_, hlc, hfz _ _ _ _ hb, k2, ?_⟩
              · obtain ⟨ab, ao, asp⟩ := a; simp only [] at hsp; subst hsp; rfl
              · refine ⟨c.toList.take a.off, c.toList.drop (a.off + len * P.cellsOf e), ?_, ?_, k3⟩
                · rw [k6, List.append_assoc, ← List.drop_drop, List.take_append_drop, List.take_append_drop]
                · rw [List.length_take]; omega
        | _ => simp [basic] at hs

/-! ### Listed variables -/
mutual
def flatD : DataW H → Option (List PV)
  | .lit (.bool b) => some [.bool b]
  | .lit (.int k n) => some [.int k n]
  | .lit (.string s) => some [.str s]
  | .agg ps => flatDL ps
  | _ => none
def flatDL : List (DataW H) → Option (List PV)
  | [] => some []
  | d :: r => match flatD d, flatDL r with
    | some xs, some ys => some (xs ++ ys)
    | _, _ => none
end

end
end Go.Proofs.YtphmmoloegjocaaDoor.Y

/- From contracts on data to the statements of rows. -/
namespace Go.Proofs.YtphmmoloegjocaaDoor.Y
open Go

theorem mapM_mono {α β : Type} {f g : α → Option β} : ∀ {l : List α} {r : List β}, (∀ x ∈ l, ∀ y, f x = some y → g x = some y) → l.mapM f = some r → l.mapM g = some r
  | [], r, _, h => by simpa using h
  | x :: l, r, hfg, h => by
    simp only [List.mapM_cons, Option.bind_eq_bind, Option.bind_eq_some_iff, Option.pure_def, Option.some.injEq] at h ⊢
    obtain ⟨y, h1, ys, h2, h3⟩ := h
    exact ⟨y, hfg x (by simp) y h1, ys, mapM_mono (fun z hz => hfg z (by simp [hz])) h2, h3⟩

/-- All that was there is there as it was. -/
def Kept (W W' : World) : Prop := ∀ (b : Nat) (o : Obj), W.heap[b]? = some o → W'.heap[b]? = some o

section
variable {H : Type} {enc : TypeId × Value → H} {P : Program} {W W' : World} {sp' : Nat → Bool} {held : Bool}

theorem Kept.cell (hk : Kept W W') {a : Addr} {v : Value} (h : W.cell? a = some v) : W'.cell? a = some v := by
  unfold World.cell? at h ⊢
  split at h
  · rename_i c t z hb
    rw [hk _ _ hb]
    exact h
  · cases h
theorem Kept.cells (hk : Kept W W') {a : Addr} {n : Nat} {cs : List Value} (h : W.cells? 0 a n = some cs) : W'.cells? 0 a n = some cs := by
  unfold World.cells? at h ⊢
  rw [if_pos (Nat.zero_le _)] at h ⊢
  exact mapM_mono (fun _ _ _ hx => hk.cell hx) h

theorem trod_kept (hk : Kept W W') (hsp : ∀ b, b < W.heap.size → sp' b = true) : ∀ (m : Nat) (t : TypeId) (n : Nat) (cs : List Value) (x : DataW H × List MemPlace), supp P m t = true → DataW.trod enc P W 0 (fun _ => true) held n t cs = some x → DataW.trod enc P W' 0 sp' held n t cs = some x
  | 0, _, _, _, _, hs, _ => by simp [supp] at hs
  | m + 1, t, 0, cs, x, hs, h => by simp [DataW.trod] at h
  | m + 1, t, n + 1, cs, x, hs, h => by
    have ih := trod_kept hk hsp m
    simp only [supp] at hs
    cases hu : P.underlying t with
    | none =>
      have hp : partsOf P t = none := by simp [partsOf, hu]
      simp [hp, hu] at hs
    | some d =>
      cases d with
      | struct fs =>
        have hp : partsOf P t = some (fs.toList.map fun f => (f.type, f.offset)) := by simp [partsOf, hu]
        simp only [hp, Bool.and_eq_true, List.all_eq_true] at hs
        unfold DataW.trod at h ⊢
        rw [hu] at h ⊢
        simp only [] at h ⊢
        split at h
        · rename_i hl
          rw [if_pos hl]
          rw [Option.map_eq_some_iff] at h ⊢
          obtain ⟨xs, h1, h2⟩ := h
          exact ⟨xs, mapM_mono (fun f hf y hy => ih _ _ _ _ (hs.2 (f.type, f.offset) (List.mem_map_of_mem hf)) hy) h1, h2⟩
        · cases h
      | array k e =>
        have hp : partsOf P t = some ((List.range k).map fun i => (e, i * P.cellsOf e)) := by simp [partsOf, hu]
        simp only [hp, Bool.and_eq_true, List.all_eq_true] at hs
        unfold DataW.trod at h ⊢
        rw [hu] at h ⊢
        simp only [] at h ⊢
        split at h
        · rename_i hl
          rw [if_pos hl]
          rw [Option.map_eq_some_iff] at h ⊢
          obtain ⟨xs, h1, h2⟩ := h
          exact ⟨xs, mapM_mono (fun i hi y hy => ih _ _ _ _ (hs.2 (e, i * P.cellsOf e) (List.mem_map_of_mem hi)) hy) h1, h2⟩
        · cases h
      | bool =>
        obtain ⟨b, rfl, rfl⟩ := DataW.trod_bool hu h
        unfold DataW.trod; rw [hu]
      | int k =>
        obtain ⟨b, rfl, rfl, hw⟩ := DataW.trod_int hu h
        unfold DataW.trod; rw [hu]; simp [hw]
      | string =>
        obtain ⟨s, rfl, rfl, hw⟩ := DataW.trod_string hu h
        unfold DataW.trod; rw [hu]; simp [hw]
      | slice e =>
        have hp : partsOf P t = none := by simp [partsOf, hu]
        simp only [hp, hu, Bool.and_eq_true, decide_eq_true_eq] at hs
        rcases DataW.trod_slice hu h with ⟨rfl, rfl⟩ | ⟨a, len, cap, _, _, _, _, rfl, _⟩
        · unfold DataW.trod; rw [hu]; rfl
        unfold DataW.trod at h ⊢
        rw [hu] at h ⊢
        simp only [if_true] at h ⊢
        split at h
        rotate_left
        · cases h
        rename_i hc
        rw [if_pos hc]
        rw [Option.bind_eq_some_iff] at h ⊢
        obtain ⟨elems, h1, h2⟩ := h
        rw [Option.map_eq_some_iff] at h2
        obtain ⟨rest, h2, h3⟩ := h2
        have el : ∀ i y, (W.cells? 0 (a.add (i * P.cellsOf e)) (P.cellsOf e)).bind (DataW.trod enc P W 0 (fun _ => true) held n e) = some y → (W'.cells? 0 (a.add (i * P.cellsOf e)) (P.cellsOf e)).bind (DataW.trod enc P W' 0 sp' held n e) = some y := by
          intro i y hy
          rw [Option.bind_eq_some_iff] at hy ⊢
          obtain ⟨cs', g1, g2⟩ := hy
          exact ⟨cs', hk.cells g1, ih _ _ _ _ hs.2 g2⟩
        refine ⟨elems, mapM_mono (fun i _ y hy => el i y hy) h1, ?_⟩
        rw [Option.map_eq_some_iff]
        refine ⟨rest, ?_, h3⟩
        by_cases hd : cap - len = 0
        · rw [hd] at h2 ⊢
          simp at h2
          subst h2
          cases sp' a.block <;> simp
        · have hb : a.block < W.heap.size := by
            have hl := mapM_some_length h2
            rw [List.length_range] at hl
            have := mapM_some_get h2 0 0 (by rw [List.getElem?_eq_getElem (by simp; omega)]; simp)
            rw [List.getElem?_eq_getElem (by omega), Option.bind_eq_some_iff] at this
            obtain ⟨cs', g1, _⟩ := this
            obtain ⟨c, t', z, g3, _⟩ := cells_take hs.1 g1
            have hblk : (a.add ((len + 0) * P.cellsOf e)).block = a.block := by unfold Addr.add; split <;> rfl
            rw [hblk] at g3
            exact (Array.getElem?_eq_some_iff.1 g3).1
          rw [if_pos (hsp _ hb)]
          exact mapM_mono (fun i _ y hy => el (len + i) y hy) h2
      | _ =>
        have hp : partsOf P t = none := by simp [partsOf, hu]
        simp [hp, hu, basic] at hs

theorem trodAll_kept (hk : Kept W W') (hsp : ∀ b, b < W.heap.size → sp' b = true) (m : Nat) : ∀ {ts : List TypeId} {vs : List Value} {ds : List (DataW H)} {ps : List MemPlace}, ts.all (supp P m) = true → DataW.TrodAll enc P W 0 (fun _ => true) held ts vs ds ps → DataW.TrodAll enc P W' 0 sp' held ts vs ds ps
  | [], [], [], ps, _, h => h
  | t :: ts, v :: vs, d :: ds, ps, hs, h => by
    simp only [List.all_cons, Bool.and_eq_true] at hs
    obtain ⟨p, q, ⟨fuel, h1⟩, h2, h3⟩ := h
    exact ⟨p, q, ⟨fuel, trod_kept hk hsp m _ _ _ _ hs.1 h1⟩, trodAll_kept hk hsp m hs.2 h2, h3⟩
  | [], [], _ :: _, ps, _, h => by simp [DataW.TrodAll] at h
  | [], _ :: _, _, ps, _, h => by simp [DataW.TrodAll] at h
  | _ :: _, [], _, ps, _, h => by simp [DataW.TrodAll] at h
  | _ :: _, _ :: _, [], ps, _, h => by simp [DataW.TrodAll] at h

/-- An argument of a type. -/
def ArgT (P : Program) (m : Nat) (t : TypeId) (x : PV) : Prop := match partsOf P t with
  | some _ => ∃ xs, x = .agg xs ∧ TyT P m t xs
  | none => TyT P m t [x]
def ArgsT (P : Program) (m : Nat) : List TypeId → List PV → Prop
  | [], xs => xs = []
  | t :: ts, xs => ∃ x r, xs = x :: r ∧ ArgT P m t x ∧ ArgsT P m ts r

def fzOf (W : World) : Fzn := fun b => match W.heap[b]? with
  | some (.cells c _ _) => some c.toList
  | _ => none
theorem fzOf_all (W : World) : AllCells (fzOf W) W := fun b c t z h => by simp [fzOf, h]
theorem fzOf_some {b : Nat} {arr : List Value} (h : fzOf W b = some arr) : ∃ c t z, W.heap[b]? = some (.cells c t z) ∧ arr = c.toList := by
  unfold fzOf at h
  split at h
  · rename_i c t z hb
    injection h with h
    exact ⟨c, t, z, hb, h.symm⟩
  · cases h

theorem arg_of {m : Nat} {base : Nat} {t : TypeId} {v : Value} {d : DataW H} {ps : List MemPlace} (hs : supp P m t = true) (hval : Value.okWide P W .any base t v) (h : DataW.Trod enc P W 0 (fun _ => true) true t v d ps) : ∃ x, VP (fzOf W) x v ∧ ArgT P m t x := by
  obtain ⟨fuel, h⟩ := h
  obtain ⟨xs, h1, h2, h3⟩ := typed_of_trod (fzOf_all W) m t fuel _ _ hs h
  unfold Value.okWide at hval
  cases hp : partsOf P t with
  | some l =>
    have : ∃ cs, v = .agg cs := by
      unfold partsOf at hp
      split at hp
      · rename_i fs hu; simp only [hu] at hval; obtain ⟨cs, h, _⟩ := hval; exact ⟨cs, h⟩
      · rename_i k e hu; simp only [hu] at hval; obtain ⟨cs, h, _⟩ := hval; exact ⟨cs, h⟩
      · cases hp
    obtain ⟨cs, rfl⟩ := this
    exact ⟨.agg xs, by simp only [VP]; exact ⟨cs, rfl, h1⟩, by simp only [ArgT, hp]; exact ⟨xs, rfl, h3⟩⟩
  | none =>
    have hv : v.cells = #[v] := by
      cases m with
      | zero => simp [supp] at hs
      | succ m =>
        simp only [supp, hp] at hs
        cases hu : P.underlying t with
        | none => simp [hu] at hs
        | some d =>
          simp only [hu] at hs hval
          cases d with
          | struct fs => simp [partsOf, hu] at hp
          | array k e => simp [partsOf, hu] at hp
          | bool => cases v <;> simp_all [Cell.okWide, Cell.ok, Value.cells]
          | int k => cases v <;> simp_all [Cell.okWide, Cell.ok, Value.cells]
          | string => cases v <;> simp_all [Cell.okWide, Cell.ok, Value.cells]
          | slice e => cases v <;> simp_all [Cell.okWide, Cell.ok, Value.cells]
          | _ => simp [basic] at hs
    rw [hv] at h1
    obtain ⟨x, rfl, h4⟩ : ∃ x, xs = [x] ∧ VP (fzOf W) x v := by
      match xs, h1 with
      | [], h1 => simp [VPL] at h1
      | x :: r, h1 =>
        simp only [VPL] at h1
        obtain ⟨u, us, e, g1, g2⟩ := h1
        simp only [List.cons.injEq] at e
        obtain ⟨rfl, rfl⟩ := e
        match r, g2 with
        | [], _ => exact ⟨x, rfl, g1⟩
        | y :: r, g2 => simp [VPL] at g2
    exact ⟨x, h4, by simp only [ArgT, hp]; exact h3⟩

theorem args_of {m base : Nat} : ∀ {ts : List TypeId} {vs : List Value} {ds : List (DataW H)} {ps : List MemPlace}, ts.all (supp P m) = true → (∀ (j : Nat) t v, ts[j]? = some t → vs[j]? = some v → Value.okWide P W .any base t v) → DataW.TrodAll enc P W 0 (fun _ => true) true ts vs ds ps →
    ∃ xs, VPL (fzOf W) xs vs ∧ ArgsT P m ts xs ∧ ds.length = ts.length
  | [], [], [], ps, _, _, _ => ⟨[], by simp [VPL], rfl, rfl⟩
  | t :: ts, v :: vs, d :: ds, ps, hs, hv, h => by
    simp only [List.all_cons, Bool.and_eq_true] at hs
    obtain ⟨p, q, h1, h2, h3⟩ := h
    obtain ⟨x, g1, g2⟩ := arg_of hs.1 (hv 0 t v rfl rfl) h1
    obtain ⟨xs, k1, k2, k3⟩ := args_of hs.2 (fun j t v ht hv' => hv (j + 1) t v ht hv') h2
    exact ⟨x :: xs, by simp only [VPL]; exact ⟨v, vs, rfl, g1, k1⟩, ⟨x, xs, rfl, g2, k2⟩, by simp [k3]⟩
  | [], [], _ :: _, ps, _, _, h => by simp [DataW.TrodAll] at h
  | [], _ :: _, _, ps, _, _, h => by simp [DataW.TrodAll] at h
  | _ :: _, [], _, ps, _, _, h => by simp [DataW.TrodAll] at h
  | _ :: _, _ :: _, [], ps, _, _, h => by simp [DataW.TrodAll] at h
end

section
variable {cx : Cx}

/-- A law on data, called in a world. -/
theorem calls_of_pure {H : Type} {enc : TypeId × Value → H} {W : World} {f : FuncId} {fn : Func} {c : Code} {m base : Nat} {args : Array Value} {ds : List (DataW H)} {ps : List MemPlace}
    (hf : cx.P.funcs[f]? = some fn) (hname : (fn.name == "runtime.NumGoroutine") = false) (hb : fn.body = some c) (hs : fn.params.toList.all (supp cx.P m) = true)
    (hpure : ∀ xs, ArgsT cx.P m fn.params.toList xs → Pure cx f xs (· = .ret [.bool true]))
    (hval : ∀ (j : Nat) t v, fn.params[j]? = some t → args[j]? = some v → Value.okWide cx.P W .any base t v)
    (hA : DataW.TrodAll enc cx.P W 0 (fun _ => true) true fn.params.toList args.toList ds ps)
    (hglob : ∀ g cs, gget cx.gt g = some cs → VP (fzOf W) (.fp cs) (.pointer (some ⟨g, 0, none⟩))) :
    Calls cx.P f args W fun e W' => e = .returned (.bool true) ∧ W'.os = W.os ∧ W'.output = W.output ∧ ∀ k, k < W.heap.size → W'.heap[k]? = W.heap[k]? := by
  obtain ⟨xs, h1, h2, _⟩ := args_of hs (fun j t v ht hv => hval j t v (by simpa using ht) (by simpa using hv)) hA
  have hR : R cx ⟨fun _ => none, fzOf W⟩ ⟨0, []⟩ W := by
    refine ⟨hglob, fun _ _ => rfl, fun b arr hb => ?_, fun n o hn => by simp [lget] at hn, fun n o q hn => by simp [lget] at hn, fun n o m p q q' hn => by simp [lget] at hn⟩
    obtain ⟨c, t, z, g1, rfl⟩ := fzOf_some hb
    exact ⟨t, z, g1⟩
  have key : ∀ e w', Post cx ⟨fun _ => none, fzOf W⟩ ⟨0, []⟩ W (EndP (· = .ret [.bool true])) e w' → e = .returned (.bool true) ∧ w'.os = W.os ∧ w'.output = W.output ∧ ∀ k, k < W.heap.size → w'.heap[k]? = W.heap[k]? := by
    intro e w' hP
    obtain ⟨r, Γ', hq, _, hE, _, hT, _⟩ := pure_post hR hP
    subst hq
    obtain ⟨v', rfl, hv⟩ := hE
    simp only [VR, VP] at hv
    subst hv
    exact ⟨rfl, hT.os, hT.output, fun k hk => hT.kept k hk own_nil⟩
  have hrun := run_enter hf hname hb args W
  rcases hpure xs h2 ⟨fun _ => none, fzOf W⟩ W args.toList hR (VRL_p.2 h1) with ⟨_, h4⟩ | ⟨v', w', h4, _⟩
  · exact h4.mono key
  · rw [hrun] at h4
    injection h4 with h4
    cases h4

/-- What a law's row asks behind the call. -/
theorem post_of_kept {H : Type} {enc : TypeId × Value → H} {W W' : World} {fn : Func} {s : ChangeSpec} {m : Nat} {bt : TypeId} {apart fresh handsOn : Bool} {args : Array Value} {ds gs : List (DataW H)} {before : List MemPlace}
    (hs : fn.params.toList.all (supp cx.P m) = true) (hvars : s.vars = []) (hres : fn.resultTypes = #[bt]) (hbt : cx.P.underlying bt = some .bool)
    (hfn : ∀ ds : List (DataW H), ds.length = fn.params.toList.length → s.fn H ds = { results := [.lit (.bool true)], args := ds })
    (hW : DataW.Whole enc cx.P fn.params.toList s.vars apart W args.toList ds gs before) (hlen : ds.length = fn.params.toList.length)
    (hos : W'.os = W.os) (hout : W'.output = W.output) (hkept : ∀ k, k < W.heap.size → W'.heap[k]? = W.heap[k]?) :
    s.post enc cx.P fn apart fresh handsOn false W args (.bool true) W' := by
  have hk : Kept W W' := fun b o hb => by rw [hkept b (Array.getElem?_eq_some_iff.1 hb).1]; exact hb
  have hW' := hW
  obtain ⟨p, q, h1, h2, _, _, _⟩ := hW'
  rw [hvars] at h2
  obtain ⟨rfl, rfl⟩ := Go.ChangeShapes.trodVars_none h2
  have e : s.fn H (ds ++ []) = { results := [.lit (.bool true)], args := ds } := by rw [List.append_nil]; exact hfn ds hlen
  refine ⟨ds, [], before, [], p, [], hW, ?_, ?_, ?_, ?_, fun h => by cases h⟩
  · rw [e, hres]
    exact Go.ChangeShapes.trodAll_mk1 (Go.RowKit.shut_bool hbt true)
  · rw [e]
    exact trodAll_kept hk (fun b hb => by simpa using hb) m hs h1
  · rw [e, hvars]
    rfl
  · refine ⟨hos, hout, fun i hi => ?_⟩
    rw [hkept i hi]
    have := Array.getElem?_eq_getElem hi
    rw [this]
    cases W.heap[i] <;> simp
end
end Go.Proofs.YtphmmoloegjocaaDoor.Y

/- Arguments of the statements: drafts. -/
namespace Go.Proofs.YtphmmoloegjocaaDoor
open Go Y
set_option maxRecDepth 100000
set_option maxHeartbeats 4000000

theorem ty_u8 {m : Nat} {xs : List PV} (h : TyT Tryd.prog (m + 1) 5 xs) : ∃ b : UInt8, xs = [u8 b] := by
  have hp : partsOf Tryd.prog 5 = none := by simp [partsOf, Tryd.underlying5]
  simp only [TyT, hp, Tryd.underlying5] at h
  obtain ⟨n, rfl, hw⟩ := h
  have := bounds_u8 hw
  refine ⟨UInt8.ofNat n.toNat, ?_⟩
  have e : ((UInt8.ofNat n.toNat).toNat : Int) = n := by
    simp
    omega
  rw [u8, e]
theorem lift_list {α : Type} {f : α → PV} {P : α → Prop} {ys : List PV} (h : ∀ y ∈ ys, ∃ a, y = f a ∧ P a) : ∃ zs : List α, ys = zs.map f ∧ ∀ z ∈ zs, P z := by
  induction ys with
  | nil => exact ⟨[], rfl, by simp⟩
  | cons y r ih =>
    obtain ⟨a, rfl, ha⟩ := h y (by simp)
    obtain ⟨zs, rfl, hz⟩ := ih fun z hz => h z (by simp [hz])
    exact ⟨a :: zs, rfl, fun z hm => by rcases List.mem_cons.1 hm with rfl | hm; exact ha; exact hz z hm⟩
theorem ty_bytes {m : Nat} {xs : List PV} (h : TyT Tryd.prog (m + 2) 23 xs) : ∃ bs : List UInt8, xs = [.lst (bs.map u8)] ∧ bs.length ≤ 9223372036854775807 := by
  have hp : partsOf Tryd.prog 23 = none := by simp [partsOf, Tryd.underlying23]
  have hc : Tryd.prog.cellsOf 5 = 1 := by kernel_rfl
  rw [TyT] at h
  simp only [hp, Tryd.underlying23, hc] at h
  obtain ⟨ys, rfl, hl, hy⟩ := h
  obtain ⟨bs, rfl, _⟩ := lift_list (f := u8) (P := fun _ => True) fun y hy' => by
    obtain ⟨b, hb⟩ := ty_u8 (hy y hy')
    simp at hb
    exact ⟨b, hb, trivial⟩
  exact ⟨bs, rfl, by rw [List.length_map] at hl; exact hl⟩
theorem lift_lists {α : Type} {f : α → List PV} {P : α → Prop} {ys : List (List PV)} (h : ∀ y ∈ ys, ∃ a, y = f a ∧ P a) : ∃ zs : List α, ys = zs.map f ∧ ∀ z ∈ zs, P z := by
  induction ys with
  | nil => exact ⟨[], rfl, by simp⟩
  | cons y r ih =>
    obtain ⟨a, rfl, ha⟩ := h y (by simp)
    obtain ⟨zs, rfl, hz⟩ := ih fun z hz => h z (by simp [hz])
    exact ⟨a :: zs, rfl, fun z hm => by rcases List.mem_cons.1 hm with rfl | hm; exact ha; exact hz z hm⟩
theorem ty_piece {m : Nat} {xs : List PV} (h : TyT Tryd.prog (m + 3) 49 xs) : ∃ p : Pc, xs = p.cells ∧ p.w.length ≤ 9223372036854775807 := by
  have hp : partsOf Tryd.prog 49 = some [(5, 0), (5, 1), (23, 2)] := by kernel_rfl
  rw [TyT] at h
  simp only [hp] at h
  obtain ⟨x1, _, rfl, _, h1, x2, _, rfl, _, h2, x3, _, rfl, _, h3, rfl⟩ := h
  obtain ⟨a, rfl⟩ := ty_u8 h1
  obtain ⟨b, rfl⟩ := ty_u8 h2
  obtain ⟨c, rfl, hc⟩ := ty_bytes h3
  exact ⟨⟨a, b, c⟩, rfl, hc⟩
theorem ty_pieces {m : Nat} {xs : List PV} (h : TyT Tryd.prog (m + 4) 22 xs) : ∃ l : List Pc, xs = [.lsts 3 (l.map Pc.cells)] ∧ l.length ≤ 9223372036854775807 ∧ ∀ p ∈ l, p.w.length ≤ 9223372036854775807 := by
  have hp : partsOf Tryd.prog 22 = none := by simp [partsOf, Tryd.underlying22]
  have hc : Tryd.prog.cellsOf 49 = 3 := by kernel_rfl
  rw [TyT] at h
  simp only [hp, Tryd.underlying22, hc] at h
  obtain ⟨ys, rfl, hn, hy⟩ := h
  obtain ⟨l, rfl, hl⟩ := lift_lists (f := Pc.cells) (P := fun p => p.w.length ≤ 9223372036854775807) fun y hy' => ty_piece (hy y hy')
  rw [List.length_map] at hn
  exact ⟨l, rfl, hn, hl⟩
theorem ty_draft5 {m : Nat} {xs : List PV} (h : TyT Tryd.prog (m + 5) 25 xs) : ∃ D : D5, xs = D.cells ∧ OkD5 D := by
  have hp : partsOf Tryd.prog 25 = some [(5, 0), (22, 1), (23, 2)] := by kernel_rfl
  rw [TyT] at h
  simp only [hp] at h
  obtain ⟨x1, _, rfl, _, h1, x2, _, rfl, _, h2, x3, _, rfl, _, h3, rfl⟩ := h
  obtain ⟨a, rfl⟩ := ty_u8 h1
  obtain ⟨b, rfl, hb1, hb2⟩ := ty_pieces h2
  obtain ⟨c, rfl, hc⟩ := ty_bytes h3
  exact ⟨⟨a, b, c⟩, rfl, ⟨hb1, hc, hb2⟩⟩
theorem arg_draft5 {m : Nat} {x : PV} (h : ArgT Tryd.prog (m + 5) 25 x) : ∃ D : D5, x = D.pv ∧ OkD5 D := by
  have hp : partsOf Tryd.prog 25 = some [(5, 0), (22, 1), (23, 2)] := by kernel_rfl
  simp only [ArgT, hp] at h
  obtain ⟨xs, rfl, h⟩ := h
  obtain ⟨w, rfl, hw⟩ := ty_draft5 h
  exact ⟨w, rfl, hw⟩
end Go.Proofs.YtphmmoloegjocaaDoor

/- The listed tables, as the rows of format ask. -/
namespace Go.Proofs.YtphmmoloegjocaaDoor
open Go Y
set_option maxRecDepth 100000

theorem own : ownKnob Tryd.prog.godebug = none := by kernel_rfl
abbrev laidD : List (String × DataW Unit) := [("math/bits.deBruijn32tab", Rows.laid_math_bits_deBruijn32tab), ("math/bits.deBruijn64tab", Rows.laid_math_bits_deBruijn64tab), ("internal/strconv.uint64pow10", Rows.laid_internal_strconv_uint64pow10), ("unicode/utf8.acceptRanges", Rows.laid_unicode_utf8_acceptRanges), ("unicode/utf8.first", Rows.laid_unicode_utf8_first)]
theorem door_metD (os : Os) (args : Array Value) : laidMetH Tryd.prog laidD ((World.laidAll Tryd.prog os laidD).forCall (fun _ _ => 0) ⟨#[], args, []⟩).memory := by
  rw [MakeChecks.laidMetH_plain _ _ _ (by kernel_rfl)]
  exact laidMet_laidAll _ (by kernel_rfl) (by kernel_rfl)
theorem glob_okD {W : World} (_ : laidMetH Tryd.prog laidD W) : ∀ g cs, gget cx.gt g = some cs → VP (fzOf W) (.fp cs) (.pointer (some ⟨g, 0, none⟩)) := fun _ _ h => by cases h
end Go.Proofs.YtphmmoloegjocaaDoor

/- FormatTurns: the row and the card. Turning a form gives the other one, and turning that gives it back; for all drafts. Conditions: those of the card. -/
namespace Go.Proofs.YtphmmoloegjocaaDoor
open Go Y
set_option maxRecDepth 100000

theorem formatTurns_pure : ∀ xs, ArgsT Tryd.prog 8 Tryd.f3.params.toList xs → Pure cx 3 xs (· = .ret [.bool true]) := by
  intro xs h
  rw [Tryd.params3] at h
  obtain ⟨x0, _, rfl, h0, rfl⟩ := h
  obtain ⟨v0, rfl, g0⟩ := arg_draft5 h0
  exact formatTurns_c v0 g0
theorem formatTurns_lifted (os : Os) (started : os.Started) (H : Type) (enc : TypeId × Value → H) :
    ReturnsInHanded {} Tryd.checked os 3 .any (fun w args => (Rows.formatTurnsSpec.pre enc Tryd.prog Tryd.f3 [] false w args ∧ laidMetH Tryd.prog laidD w) ∧ sizedMet enc Tryd.prog Tryd.f3 (OpenSpec.ofChange Rows.formatTurnsSpec) false w args)
      (Rows.formatTurnsSpec.post enc Tryd.prog Tryd.f3 false true false false) := by
  refine returnsInHanded_of_change_and (C := Tryd.checked) (X := fun w _ => laidMetH Tryd.prog laidD w) (fun _ _ _ hh h => h.of_heap hh) own started (by kernel_rfl) Tryd.func3
    (ChangeSpec.witness_shaped (enc := enc) (C := Tryd.checked) (os := os) (X := fun w _ => laidMetH Tryd.prog laidD w) false (World.laidAll Tryd.prog os laidD) #[.agg #[.int .u8 0, .slice none 0 0, .slice none 0 0]] 8 (World.laidAll_os _ _ _) (World.shaped_of_ZipB (by kernel_rfl) (by kernel_rfl)) (by kernel_rfl) (by kernel_rfl) (by kernel_rfl) (door_metD os _)) ?_
  intro W base args ds gs before hval hW _ _ hL _
  obtain ⟨p, q, hA, hV, _⟩ := id hW
  have hs : Tryd.f3.params.toList.all (supp Tryd.prog 8) = true := by kernel_rfl
  obtain ⟨_, _, _, hlen⟩ := args_of hs (fun j t v ht hv => hval j t v (by simpa using ht) (by simpa using hv)) hA
  refine (calls_of_pure (cx := cx) Tryd.func3 (by kernel_rfl) rfl hs formatTurns_pure hval hA (glob_okD hL)).mono fun e W' ⟨he, h1, h2, h3⟩ => ?_
  subst he
  exact ⟨_, rfl, post_of_kept (cx := cx) (m := 8) hs rfl (by kernel_rfl) Tryd.underlying4 (fun ds h => by
    rw [Tryd.params3] at h
    match ds, h with
    | [_], _ => rfl) hW hlen h1 h2 h3⟩

theorem formatTurns_holds : Rows.FormatTurnsSaid :=
  OpenClaim.holds_of_wide 3 Tryd.f3 rfl rfl rfl rfl rfl rfl rfl ⟨rfl, rfl, rfl, rfl, rfl⟩ rfl rfl rfl rfl rfl (by kernel_rfl) Tryd.func3 (by kernel_rfl)
    (of_decide_eq_true (by kernel_rfl)) (by unfold Func.isWrapper; first | (rw [if_pos (by decide +kernel)]; kernel_rfl) | (rw [if_neg (by decide +kernel)]; exact ⟨rfl, rfl⟩))
    (fun os started H enc _ => formatTurns_lifted os started H enc)

theorem formatTurns_card : Rows.FormatTurnsCardSaid :=
  Claim7.holds_tied_plain_at .later [] [.data, .data, .data, .data, .pinned] true (true, "76287dd29b3369f2ec6c009232b851bb19cb6bfec78e149d8180913282343bc5") true
    formatTurns_holds (fun _ h => by cases h) (by kernel_rfl) (fun _ h => by cases h) formatTurns_row_tie rfl ⟨rfl, rfl⟩ (by kernel_rfl) rfl
    (fun f fn hf hfn => by
      obtain rfl : f = 3 := Option.some.inj ((show Tryd.prog.funcNamed "haruspex/haruspexlaw41.FormatTurns" = some 3 by kernel_rfl).symm.trans hf) |>.symm
      obtain rfl : fn = Tryd.f3 := (Option.some.inj (Tryd.func3.symm.trans hfn)).symm
      exact ⟨by kernel_rfl, fun j t ht => by
        have hall : (Tryd.f3.params.toList.all fun u => !Tryd.prog.wantsStandIn u) = true := by kernel_rfl
        exact (show Tryd.prog.wantsStandIn t = false by simpa using List.all_eq_true.1 hall t (by simpa using Array.mem_of_getElem? ht))⟩)
    (by kernel_rfl)
#print axioms formatTurns_card
end Go.Proofs.YtphmmoloegjocaaDoor
