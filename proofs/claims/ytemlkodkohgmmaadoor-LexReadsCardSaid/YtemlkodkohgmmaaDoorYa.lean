/- Abstract values: data without names, values with names; their relation to the real ones; the abstract heap. -/
import Derived.WalkKit
import Derived.RangeFuncIn
namespace Go.Proofs.YtemlkodkohgmmaaDoor.Y
open Go

/-- Data: values that refer to memory that nobody writes any more. 'fp': a pointer to such cells; 'lst', 'lsts': slices of one-cell elements, of elements with several cells. -/
inductive PV where
  | bool (b : Bool)
  | int (k : IntKind) (n : Int)
  | str (s : List UInt8)
  | nilp
  | fp (cs : List PV)
  | nils
  | lst (xs : List PV)
  | lsts (s : Nat) (xss : List (List PV))
  | nilm
  | fn (f : Fn) (first cap : List PV)
  | nilFn
  | iface (t : TypeId) (v : PV)
  | nilIface
  | agg (cs : List PV)

/-- Values that may name objects of the abstract heap. -/
inductive AV where
  | p (v : PV)
  | ptr (n i f : Nat)
  | ptd (n i f : Nat)
  | sl (n s off len : Nat)
  | mp (n : Nat)
  | fn (f : Fn) (first cap : List AV)
  | iface (t : TypeId) (v : AV)
  | agg (cs : List AV)
  | tup (vs : List AV)
  | anyp
  | junk

/-- The value of one cell. -/
def plainV : Value → Bool
  | .agg _ | .tuple _ => false
  | _ => true

/-- Some cells of a block. -/
def Seg (arr : List Value) (o : Nat) (us : List Value) : Prop := ∃ pre post, arr = pre ++ us ++ post ∧ pre.length = o ∧ ∀ u ∈ us, plainV u = true

abbrev Fzn := Nat → Option (List Value)

def fnOK : Fn → Bool
  | .yield _ => false
  | _ => true

mutual
def VP (fz : Fzn) : PV → Value → Prop
  | .bool b, v' => v' = .bool b
  | .int k n, v' => v' = .int k n
  | .str s, v' => v' = .string ⟨⟨s⟩⟩
  | .nilp, v' => v' = .pointer none
  | .fp cs, v' => ∃ b o arr us, v' = .pointer (some ⟨b, o, none⟩) ∧ fz b = some arr ∧ VPL fz cs us ∧ Seg arr o us
  | .nils, v' => v' = .slice none 0 0
  | .lst xs, v' => (xs = [] ∧ ∃ a c, v' = .slice a 0 c) ∨ ∃ b o c arr us, v' = .slice (some ⟨b, o, none⟩) xs.length c ∧ xs.length ≤ c ∧ fz b = some arr ∧ VPL fz xs us ∧ Seg arr o us
  | .lsts s xss, v' => (xss = [] ∧ ∃ a c, v' = .slice a 0 c) ∨ ∃ b o c arr us, v' = .slice (some ⟨b, o, none⟩) xss.length c ∧ xss.length ≤ c ∧ fz b = some arr ∧ VPLL fz s xss us ∧ Seg arr o us
  | .nilm, v' => v' = .map none
  | .fn f first cap, v' => fnOK f = true ∧ ∃ first' cap', v' = .func f first' cap' ∧ VPL fz first first'.toList ∧ VPL fz cap cap'.toList
  | .nilFn, v' => v' = .nilFunc
  | .iface t v, v' => ∃ u, v' = .iface t u ∧ VP fz v u
  | .nilIface, v' => v' = .nilIface
  | .agg cs, v' => ∃ cs', v' = .agg cs' ∧ VPL fz cs cs'.toList
def VPL (fz : Fzn) : List PV → List Value → Prop
  | [], us => us = []
  | x :: xs, us => ∃ u us', us = u :: us' ∧ VP fz x u ∧ VPL fz xs us'
def VPLL (fz : Fzn) (s : Nat) : List (List PV) → List Value → Prop
  | [], us => us = []
  | cs :: xss, us => ∃ us1 us2, us = us1 ++ us2 ∧ us1.length = s ∧ VPL fz cs us1 ∧ VPLL fz s xss us2
end

def Fzn.le (a b : Fzn) : Prop := ∀ n x, a n = some x → b n = some x
theorem Fzn.le_refl (a : Fzn) : a.le a := fun _ _ h => h
theorem Fzn.le_trans {a b c : Fzn} (h : a.le b) (k : b.le c) : a.le c := fun n x e => k n x (h n x e)

mutual
theorem VP_mono {a b : Fzn} (h : a.le b) : ∀ (v : PV) (v' : Value), VP a v v' → VP b v v'
  | .bool _, _, hv => by simpa only [VP] using hv
  | .int _ _, _, hv => by simpa only [VP] using hv
  | .str _, _, hv => by simpa only [VP] using hv
  | .nilp, _, hv => by simpa only [VP] using hv
  | .fp cs, _, hv => by
    simp only [VP] at hv ⊢
    obtain ⟨b', o, arr, us, h1, h2, h3, h4⟩ := hv
    exact ⟨b', o, arr, us, h1, h _ _ h2, VPL_mono h cs us h3, h4⟩
  | .nils, _, hv => by simpa only [VP] using hv
  | .lst xs, _, hv => by
    simp only [VP] at hv ⊢
    rcases hv with hv | ⟨b', o, c, arr, us, h1, hc, h2, h3, h4⟩
    · exact .inl hv
    · exact .inr ⟨b', o, c, arr, us, h1, hc, h _ _ h2, VPL_mono h xs us h3, h4⟩
  | .lsts s xss, _, hv => by
    simp only [VP] at hv ⊢
    rcases hv with hv | ⟨b', o, c, arr, us, h1, hc, h2, h3, h4⟩
    · exact .inl hv
    · exact .inr ⟨b', o, c, arr, us, h1, hc, h _ _ h2, VPLL_mono h s xss us h3, h4⟩
  | .nilm, _, hv => by simpa only [VP] using hv
  | .fn _ fs cs, _, hv => by
    simp only [VP] at hv ⊢
    obtain ⟨h0, fs', cs', h1, h2, h3⟩ := hv
    exact ⟨h0, fs', cs', h1, VPL_mono h fs _ h2, VPL_mono h cs _ h3⟩
  | .nilFn, _, hv => by simpa only [VP] using hv
  | .iface _ v, _, hv => by
    simp only [VP] at hv ⊢
    obtain ⟨u, h1, h2⟩ := hv
    exact ⟨u, h1, VP_mono h v u h2⟩
  | .nilIface, _, hv => by simpa only [VP] using hv
  | .agg cs, _, hv => by
    simp only [VP] at hv ⊢
    obtain ⟨u, h1, h2⟩ := hv
    exact ⟨u, h1, VPL_mono h cs _ h2⟩
theorem VPL_mono {a b : Fzn} (h : a.le b) : ∀ (v : List PV) (v' : List Value), VPL a v v' → VPL b v v'
  | [], _, hv => by simpa only [VPL] using hv
  | x :: xs, _, hv => by
    simp only [VPL] at hv ⊢
    obtain ⟨u, us, h1, h2, h3⟩ := hv
    exact ⟨u, us, h1, VP_mono h x u h2, VPL_mono h xs us h3⟩
theorem VPLL_mono {a b : Fzn} (h : a.le b) (s : Nat) : ∀ (v : List (List PV)) (v' : List Value), VPLL a s v v' → VPLL b s v v'
  | [], _, hv => by simpa only [VPLL] using hv
  | x :: xs, _, hv => by
    simp only [VPLL] at hv ⊢
    obtain ⟨u, us, h1, hl, h2, h3⟩ := hv
    exact ⟨u, us, h1, hl, VPL_mono h x u h2, VPLL_mono h s xs us h3⟩
end

/-- Where a name lies: its block, the cells of an element, how many elements the block holds; 'nl': it is a nil slice, without a block. -/
structure Pl where
  blk : Nat
  s : Nat
  tc : Nat
  nl : Bool

structure Gm where
  nm : Nat → Option Pl
  fz : Fzn

structure Gm.le (a b : Gm) : Prop where
  nm : ∀ n q, a.nm n = some q → b.nm n = some q
  fz : a.fz.le b.fz
theorem Gm.le_refl (a : Gm) : a.le a := ⟨fun _ _ h => h, Fzn.le_refl _⟩
theorem Gm.le_trans {a b c : Gm} (h : a.le b) (k : b.le c) : a.le c := ⟨fun n q e => k.nm n q (h.nm n q e), Fzn.le_trans h.fz k.fz⟩

def FR (Γ : Gm) : Fn → Fn → Prop
  | .yield l, f' => ∃ q, Γ.nm l = some q ∧ f' = .yield q.blk
  | f, f' => f' = f

def PtrR (Γ : Gm) (n i f : Nat) (v' : Value) : Prop := ∃ q, Γ.nm n = some q ∧ q.nl = false ∧ v' = .pointer (some ⟨q.blk, i * q.s + f, none⟩)
def SlR (Γ : Gm) (n s off len : Nat) (v' : Value) : Prop := ∃ q, Γ.nm n = some q ∧ q.s = s ∧
  ((q.nl = true ∧ off = 0 ∧ len = 0 ∧ v' = .slice none 0 0) ∨
   (q.nl = false ∧ off + len ≤ q.tc ∧ ∃ o, v' = .slice (some ⟨q.blk, o, none⟩) len (q.tc - off) ∧ (o = off * q.s ∨ off = q.tc)))

mutual
def VR (Γ : Gm) : AV → Value → Prop
  | .p v, v' => VP Γ.fz v v'
  | .ptr n i f, v' => PtrR Γ n i f v'
  | .ptd n i f, v' => PtrR Γ n i f v'
  | .sl n s off len, v' => SlR Γ n s off len v'
  | .mp n, v' => ∃ q, Γ.nm n = some q ∧ v' = .map (some q.blk)
  | .fn f first cap, v' => ∃ f' first' cap', v' = .func f' first' cap' ∧ FR Γ f f' ∧ VRL Γ first first'.toList ∧ VRL Γ cap cap'.toList
  | .iface t v, v' => ∃ u, v' = .iface t u ∧ VR Γ v u
  | .agg cs, v' => ∃ cs', v' = .agg cs' ∧ VRL Γ cs cs'.toList
  | .tup vs, v' => ∃ vs', v' = .tuple vs' ∧ VRL Γ vs vs'.toList
  | .anyp, v' => ∃ a, v' = .pointer a
  | .junk, _ => True
def VRL (Γ : Gm) : List AV → List Value → Prop
  | [], us => us = []
  | x :: xs, us => ∃ u us', us = u :: us' ∧ VR Γ x u ∧ VRL Γ xs us'
end

theorem FR_mono {a b : Gm} (h : a.le b) {f f' : Fn} (hf : FR a f f') : FR b f f' := by
  cases f <;> simp only [FR] at hf ⊢ <;> first | exact hf | (obtain ⟨q, h1, h2⟩ := hf; exact ⟨q, h.nm _ _ h1, h2⟩)
theorem PtrR_mono {a b : Gm} (h : a.le b) {n i f : Nat} {v : Value} (hv : PtrR a n i f v) : PtrR b n i f v := by
  obtain ⟨q, h1, h2⟩ := hv; exact ⟨q, h.nm _ _ h1, h2⟩
theorem SlR_mono {a b : Gm} (h : a.le b) {n s i f : Nat} {v : Value} (hv : SlR a n s i f v) : SlR b n s i f v := by
  obtain ⟨q, h1, h2⟩ := hv; exact ⟨q, h.nm _ _ h1, h2⟩

mutual
theorem VR_mono {a b : Gm} (h : a.le b) : ∀ (v : AV) (v' : Value), VR a v v' → VR b v v'
  | .p v, v', hv => by simp only [VR] at hv ⊢; exact VP_mono h.fz v v' hv
  | .ptr _ _ _, _, hv => by simp only [VR] at hv ⊢; exact PtrR_mono h hv
  | .ptd _ _ _, _, hv => by simp only [VR] at hv ⊢; exact PtrR_mono h hv
  | .sl _ _ _ _, _, hv => by simp only [VR] at hv ⊢; exact SlR_mono h hv
  | .mp _, _, hv => by
    simp only [VR] at hv ⊢
    obtain ⟨q, h1, h2⟩ := hv; exact ⟨q, h.nm _ _ h1, h2⟩
  | .fn _ fs cs, _, hv => by
    simp only [VR] at hv ⊢
    obtain ⟨f', fs', cs', h1, h2, h3, h4⟩ := hv
    exact ⟨f', fs', cs', h1, FR_mono h h2, VRL_mono h fs _ h3, VRL_mono h cs _ h4⟩
  | .iface _ v, _, hv => by
    simp only [VR] at hv ⊢
    obtain ⟨u, h1, h2⟩ := hv
    exact ⟨u, h1, VR_mono h v u h2⟩
  | .agg cs, _, hv => by
    simp only [VR] at hv ⊢
    obtain ⟨u, h1, h2⟩ := hv
    exact ⟨u, h1, VRL_mono h cs _ h2⟩
  | .tup cs, _, hv => by
    simp only [VR] at hv ⊢
    obtain ⟨u, h1, h2⟩ := hv
    exact ⟨u, h1, VRL_mono h cs _ h2⟩
  | .anyp, _, hv => by simpa only [VR] using hv
  | .junk, _, _ => by simp only [VR]
theorem VRL_mono {a b : Gm} (h : a.le b) : ∀ (v : List AV) (v' : List Value), VRL a v v' → VRL b v v'
  | [], _, hv => by simpa only [VRL] using hv
  | x :: xs, _, hv => by
    simp only [VRL] at hv ⊢
    obtain ⟨u, us, h1, h2, h3⟩ := hv
    exact ⟨u, us, h1, VR_mono h x u h2, VRL_mono h xs us h3⟩
end

/-! ### Lists -/
theorem VRL_length {Γ : Gm} : ∀ {l : List AV} {l' : List Value}, VRL Γ l l' → l'.length = l.length
  | [], _, h => by simp only [VRL] at h; rw [h]; rfl
  | v :: vs, _, h => by
    simp only [VRL] at h
    obtain ⟨u, us, rfl, _, h3⟩ := h
    simp [VRL_length h3]
theorem VPL_length {fz : Fzn} : ∀ {l : List PV} {l' : List Value}, VPL fz l l' → l'.length = l.length
  | [], _, h => by simp only [VPL] at h; rw [h]; rfl
  | v :: vs, _, h => by
    simp only [VPL] at h
    obtain ⟨u, us, rfl, _, h3⟩ := h
    simp [VPL_length h3]
theorem VRL_get {Γ : Gm} : ∀ {l : List AV} {l' : List Value}, VRL Γ l l' → ∀ {i : Nat} {v : AV}, l[i]? = some v → ∃ v', l'[i]? = some v' ∧ VR Γ v v'
  | [], _, _, i, v, hi => by simp at hi
  | x :: xs, _, h, i, v, hi => by
    simp only [VRL] at h
    obtain ⟨u, us, rfl, h2, h3⟩ := h
    cases i with
    | zero => simp at hi; subst hi; exact ⟨u, by simp, h2⟩
    | succ i => simp at hi; obtain ⟨v', h4, h5⟩ := VRL_get h3 hi; exact ⟨v', by simpa using h4, h5⟩
theorem VPL_get {fz : Fzn} : ∀ {l : List PV} {l' : List Value}, VPL fz l l' → ∀ {i : Nat} {v : PV}, l[i]? = some v → ∃ v', l'[i]? = some v' ∧ VP fz v v'
  | [], _, _, i, v, hi => by simp at hi
  | x :: xs, _, h, i, v, hi => by
    simp only [VPL] at h
    obtain ⟨u, us, rfl, h2, h3⟩ := h
    cases i with
    | zero => simp at hi; subst hi; exact ⟨u, by simp, h2⟩
    | succ i => simp at hi; obtain ⟨v', h4, h5⟩ := VPL_get h3 hi; exact ⟨v', by simpa using h4, h5⟩
theorem VRL_mk {Γ : Gm} : ∀ {l : List AV} {l' : List Value}, l'.length = l.length → (∀ (i : Nat) (v : AV), l[i]? = some v → ∃ v', l'[i]? = some v' ∧ VR Γ v v') → VRL Γ l l'
  | [], l', hl, _ => by simp only [VRL]; exact List.eq_nil_of_length_eq_zero (by simpa using hl)
  | x :: xs, [], hl, _ => by simp at hl
  | x :: xs, y :: ys, hl, h => by
    simp only [VRL]
    refine ⟨y, ys, rfl, ?_, VRL_mk (by simpa using hl) fun i v hi => ?_⟩
    · obtain ⟨v', h1, h2⟩ := h 0 x (by simp)
      simp at h1; subst h1; exact h2
    · have := h (i + 1) v (by simpa using hi)
      simpa using this
theorem VRL_append {Γ : Gm} {a b : List AV} {a' b' : List Value} (h : VRL Γ a a') (k : VRL Γ b b') : VRL Γ (a ++ b) (a' ++ b') := by
  induction a generalizing a' with
  | nil => simp only [VRL] at h; subst h; simpa using k
  | cons x xs ih =>
    simp only [VRL] at h
    obtain ⟨u, us, rfl, h2, h3⟩ := h
    simp only [List.cons_append, VRL]
    exact ⟨u, us ++ b', rfl, h2, ih h3⟩
theorem VPL_append {fz : Fzn} {a b : List PV} {a' b' : List Value} (h : VPL fz a a') (k : VPL fz b b') : VPL fz (a ++ b) (a' ++ b') := by
  induction a generalizing a' with
  | nil => simp only [VPL] at h; subst h; simpa using k
  | cons x xs ih =>
    simp only [VPL] at h
    obtain ⟨u, us, rfl, h2, h3⟩ := h
    simp only [List.cons_append, VPL]
    exact ⟨u, us ++ b', rfl, h2, ih h3⟩
theorem VRL_take {Γ : Gm} : ∀ {l : List AV} {l' : List Value} (n : Nat), VRL Γ l l' → VRL Γ (l.take n) (l'.take n)
  | _, _, 0, _ => by simp [VRL]
  | [], _, n + 1, h => by simp only [VRL] at h; subst h; simp [VRL]
  | x :: xs, _, n + 1, h => by
    simp only [VRL] at h
    obtain ⟨u, us, rfl, h2, h3⟩ := h
    simp only [List.take_succ_cons, VRL]
    exact ⟨u, _, rfl, h2, VRL_take n h3⟩
theorem VRL_drop {Γ : Gm} : ∀ {l : List AV} {l' : List Value} (n : Nat), VRL Γ l l' → VRL Γ (l.drop n) (l'.drop n)
  | _, _, 0, h => by simpa using h
  | [], _, n + 1, h => by simp only [VRL] at h; subst h; simp [VRL]
  | x :: xs, _, n + 1, h => by
    simp only [VRL] at h
    obtain ⟨u, us, rfl, h2, h3⟩ := h
    simpa using VRL_drop n h3
theorem VPL_take {fz : Fzn} : ∀ {l : List PV} {l' : List Value} (n : Nat), VPL fz l l' → VPL fz (l.take n) (l'.take n)
  | _, _, 0, _ => by simp [VPL]
  | [], _, n + 1, h => by simp only [VPL] at h; subst h; simp [VPL]
  | x :: xs, _, n + 1, h => by
    simp only [VPL] at h
    obtain ⟨u, us, rfl, h2, h3⟩ := h
    simp only [List.take_succ_cons, VPL]
    exact ⟨u, _, rfl, h2, VPL_take n h3⟩
theorem VPL_drop {fz : Fzn} : ∀ {l : List PV} {l' : List Value} (n : Nat), VPL fz l l' → VPL fz (l.drop n) (l'.drop n)
  | _, _, 0, h => by simpa using h
  | [], _, n + 1, h => by simp only [VPL] at h; subst h; simp [VPL]
  | x :: xs, _, n + 1, h => by
    simp only [VPL] at h
    obtain ⟨u, us, rfl, h2, h3⟩ := h
    simpa using VPL_drop n h3

theorem VRL_p {Γ : Gm} : ∀ {l : List PV} {l' : List Value}, VRL Γ (l.map .p) l' ↔ VPL Γ.fz l l'
  | [], _ => by simp [VRL, VPL]
  | x :: xs, _ => by
    simp only [List.map_cons, VRL, VPL, VR]
    constructor
    · rintro ⟨u, us, h1, h2, h3⟩; exact ⟨u, us, h1, h2, VRL_p.1 h3⟩
    · rintro ⟨u, us, h1, h2, h3⟩; exact ⟨u, us, h1, h2, VRL_p.2 h3⟩

/-- Elements of several cells, as cells. -/
theorem VPLL_flat {fz : Fzn} {s : Nat} : ∀ {l : List (List PV)} {l' : List Value}, VPLL fz s l l' ↔ (VPL fz l.flatten l' ∧ ∀ cs ∈ l, cs.length = s)
  | [], l' => by simp [VPLL, VPL]
  | cs :: l, l' => by
    simp only [VPLL, List.flatten_cons]
    constructor
    · rintro ⟨us1, us2, rfl, h1, h2, h3⟩
      obtain ⟨h4, h5⟩ := VPLL_flat.1 h3
      refine ⟨VPL_append h2 h4, fun c hc => ?_⟩
      rcases List.mem_cons.1 hc with rfl | hc
      · rw [← VPL_length h2]; exact h1
      · exact h5 c hc
    · rintro ⟨h1, h2⟩
      have hl := h2 cs (by simp)
      have ha : VPL fz cs (l'.take cs.length) := by simpa using VPL_take cs.length h1
      have hb : VPL fz l.flatten (l'.drop cs.length) := by simpa using VPL_drop cs.length h1
      exact ⟨_, _, (List.take_append_drop cs.length l').symm, by rw [VPL_length ha]; exact hl, ha, VPLL_flat.2 ⟨hb, fun c hc => h2 c (by simp [hc])⟩⟩

theorem VR_junk (Γ : Gm) (v : Value) : VR Γ .junk v := by simp only [VR]
theorem VR_undef (Γ : Gm) : VR Γ (.tup []) undef := by simp only [VR]; exact ⟨#[], rfl, rfl⟩

theorem VRL_map {Γ : Gm} {α : Type} {f : α → AV} {g : α → Value} (h : ∀ x, VR Γ (f x) (g x)) : ∀ l : List α, VRL Γ (l.map f) (l.map g)
  | [] => rfl
  | x :: l => by
    simp only [List.map_cons, VRL]
    exact ⟨_, _, rfl, h x, VRL_map h l⟩

/-! ### Constants -/
mutual
def absV : Value → Option PV
  | .bool b => some (.bool b)
  | .int k n => some (.int k n)
  | .string ⟨⟨s⟩⟩ => some (.str s)
  | .pointer none => some .nilp
  | .slice none 0 0 => some .nils
  | .map none => some .nilm
  | .func (.func f) ⟨fs⟩ ⟨cs⟩ => match absL fs, absL cs with
    | some a, some b => some (.fn (.func f) a b)
    | _, _ => none
  | .nilFunc => some .nilFn
  | .iface t v => match absV v with
    | some a => some (.iface t a)
    | none => none
  | .nilIface => some .nilIface
  | .agg ⟨cs⟩ => match absL cs with
    | some a => some (.agg a)
    | none => none
  | _ => none
def absL : List Value → Option (List PV)
  | [] => some []
  | v :: vs => match absV v, absL vs with
    | some a, some b => some (a :: b)
    | _, _ => none
end

mutual
theorem VP_abs (fz : Fzn) : ∀ (v : Value) (x : PV), absV v = some x → VP fz x v
  | .bool _, x, h => by simp only [absV, Option.some.injEq] at h; subst h; simp only [VP]
  | .int _ _, x, h => by simp only [absV, Option.some.injEq] at h; subst h; simp only [VP]
  | .float _ _, x, h => by simp [absV] at h
  | .complex _ _ _, x, h => by simp [absV] at h
  | .string ⟨⟨s⟩⟩, x, h => by simp only [absV, Option.some.injEq] at h; subst h; simp only [VP]
  | .pointer none, x, h => by simp only [absV, Option.some.injEq] at h; subst h; simp only [VP]
  | .pointer (some _), x, h => by simp [absV] at h
  | .slice a n c, x, h => by
    cases a with
    | some a => simp [absV] at h
    | none =>
      cases n with
      | succ n => simp [absV] at h
      | zero =>
        cases c with
        | succ n => simp [absV] at h
        | zero => simp only [absV, Option.some.injEq] at h; subst h; simp only [VP]
  | .map none, x, h => by simp only [absV, Option.some.injEq] at h; subst h; simp only [VP]
  | .map (some _), x, h => by simp [absV] at h
  | .chan _, x, h => by simp [absV] at h
  | .func f ⟨fs⟩ ⟨cs⟩, x, h => by
    cases f <;> simp only [absV, reduceCtorEq] at h
    split at h
    · rename_i a b ha hb
      simp only [Option.some.injEq] at h
      subst h
      simp only [VP]
      exact ⟨rfl, ⟨fs⟩, ⟨cs⟩, rfl, VPL_abs fz fs a ha, VPL_abs fz cs b hb⟩
    · cases h
  | .nilFunc, x, h => by simp only [absV, Option.some.injEq] at h; subst h; simp only [VP]
  | .iface t v, x, h => by
    simp only [absV] at h
    split at h
    · rename_i a ha
      simp only [Option.some.injEq] at h
      subst h
      simp only [VP]
      exact ⟨v, rfl, VP_abs fz v a ha⟩
    · cases h
  | .nilIface, x, h => by simp only [absV, Option.some.injEq] at h; subst h; simp only [VP]
  | .agg ⟨cs⟩, x, h => by
    simp only [absV] at h
    split at h
    · rename_i a ha
      simp only [Option.some.injEq] at h
      subst h
      simp only [VP]
      exact ⟨⟨cs⟩, rfl, VPL_abs fz cs a ha⟩
    · cases h
  | .tuple _, x, h => by simp [absV] at h
theorem VPL_abs (fz : Fzn) : ∀ (v : List Value) (x : List PV), absL v = some x → VPL fz x v
  | [], x, h => by simp only [absL, Option.some.injEq] at h; subst h; simp only [VPL]
  | v :: vs, x, h => by
    simp only [absL] at h
    split at h
    · rename_i a b ha hb
      simp only [Option.some.injEq] at h
      subst h
      simp only [VPL]
      exact ⟨v, vs, rfl, VP_abs fz v a ha, VPL_abs fz vs b hb⟩
    · cases h
end

/-- Data or not. -/
def allP : List AV → Option (List PV)
  | [] => some []
  | .p v :: r => match allP r with
    | some l => some (v :: l)
    | none => none
  | _ :: _ => none
theorem allP_some : ∀ {l : List AV} {r : List PV}, allP l = some r → l = r.map .p
  | [], r, h => by simp only [allP, Option.some.injEq] at h; subst h; rfl
  | x :: l, r, h => by
    cases x <;> simp only [allP, reduceCtorEq] at h
    split at h
    · rename_i l' hl
      simp only [Option.some.injEq] at h
      subst h
      rw [allP_some hl]; rfl
    · cases h

def mkAgg (cs : List AV) : AV := match allP cs with
  | some ps => .p (.agg ps)
  | none => .agg cs
theorem VR_mkAgg {Γ : Gm} {cs : List AV} {v' : Value} : VR Γ (mkAgg cs) v' ↔ VR Γ (.agg cs) v' := by
  unfold mkAgg
  split
  · rename_i ps h
    rw [allP_some h]
    simp only [VR, VP]
    constructor
    · rintro ⟨cs', h1, h2⟩; exact ⟨cs', h1, VRL_p.2 h2⟩
    · rintro ⟨cs', h1, h2⟩; exact ⟨cs', h1, VRL_p.1 h2⟩
  · exact Iff.rfl
def mkIf (t : TypeId) : AV → AV
  | .p v => .p (.iface t v)
  | v => .iface t v
theorem VR_mkIf {Γ : Gm} {t : TypeId} {v : AV} {v' : Value} : VR Γ (mkIf t v) v' ↔ VR Γ (.iface t v) v' := by
  cases v <;> simp only [mkIf, VR, VP]
def mkFn (f : Fn) (a b : List AV) : AV := match fnOK f, allP a, allP b with
  | true, some a, some b => .p (.fn f a b)
  | _, _, _ => .fn f a b
theorem FR_ok {Γ : Gm} {f f' : Fn} (h : fnOK f = true) : FR Γ f f' ↔ f' = f := by cases f <;> simp_all [fnOK, FR]
theorem VR_mkFn {Γ : Gm} {f : Fn} {a b : List AV} {v' : Value} : VR Γ (mkFn f a b) v' ↔ VR Γ (.fn f a b) v' := by
  unfold mkFn
  split
  · rename_i a' b' hf ha hb
    rw [allP_some ha, allP_some hb]
    simp only [VR, VP]
    constructor
    · rintro ⟨_, fs', cs', h1, h2, h3⟩; exact ⟨f, fs', cs', h1, (FR_ok hf).2 rfl, VRL_p.2 h2, VRL_p.2 h3⟩
    · rintro ⟨f', fs', cs', h1, hr, h2, h3⟩; rw [FR_ok hf] at hr; subst hr; exact ⟨hf, fs', cs', h1, VRL_p.1 h2, VRL_p.1 h3⟩
  · exact Iff.rfl

/-! ### The abstract heap -/
/-- What an object holds: one variable's cells; one-cell data; data of several cells; one-cell values; the record of a range over a function; the block for its deferred calls. -/
inductive Cn where
  | bx (cs : List AV)
  | pu (xs : List PV)
  | pus (xss : List (List PV))
  | mx (xs : List AV)
  | lp (st : LoopState) (pend : Option Code) (lim N : Nat) (σ : Nat → AV) (params : List Tmp) (assign body : Code) (dn : Nat)
  | df

/-- 'fr': nobody writes it any more. -/
structure AObj where
  t : TypeId
  fr : Bool
  c : Cn

structure Hp where
  next : Nat
  l : List (Nat × AObj)

def lget : List (Nat × AObj) → Nat → Option AObj
  | [], _ => none
  | (k, o) :: r, n => match Nat.beq k n with
    | true => some o
    | false => lget r n
def lset : List (Nat × AObj) → Nat → AObj → List (Nat × AObj)
  | [], _, _ => []
  | (k, o) :: r, n, x => match Nat.beq k n with
    | true => (k, x) :: r
    | false => (k, o) :: lset r n x
def ldel : List (Nat × AObj) → Nat → List (Nat × AObj)
  | [], _ => []
  | (k, o) :: r, n => match Nat.beq k n with
    | true => ldel r n
    | false => (k, o) :: ldel r n

theorem beq_refl' (n : Nat) : Nat.beq n n = true := by simp
theorem beq_ne {n m : Nat} (h : n ≠ m) : Nat.beq n m = false := by
  rw [Bool.eq_false_iff]; intro e; exact h (Nat.eq_of_beq_eq_true e)

theorem lget_cons_same {n : Nat} {o : AObj} {l : List (Nat × AObj)} : lget ((n, o) :: l) n = some o := by simp [lget]
theorem lget_cons_ne {n m : Nat} {o : AObj} {l : List (Nat × AObj)} (h : n ≠ m) : lget ((n, o) :: l) m = lget l m := by
  simp only [lget, beq_ne h]
theorem lget_lset_same {l : List (Nat × AObj)} {n : Nat} {o x : AObj} (h : lget l n = some o) : lget (lset l n x) n = some x := by
  induction l with
  | nil => simp [lget] at h
  | cons p r ih =>
    obtain ⟨k, y⟩ := p
    by_cases hk : k = n
    · subst hk; simp [lset, lget]
    · rw [lget_cons_ne hk] at h
      simp only [lset, beq_ne hk]
      rw [lget_cons_ne hk]
      exact ih h
theorem lget_lset_other {l : List (Nat × AObj)} {n m : Nat} {x : AObj} (h : m ≠ n) : lget (lset l n x) m = lget l m := by
  induction l with
  | nil => rfl
  | cons p r ih =>
    obtain ⟨k, y⟩ := p
    by_cases hk : k = n
    · subst hk
      simp only [lset, beq_refl']
      rw [lget_cons_ne (Ne.symm h), lget_cons_ne (Ne.symm h)]
    · simp only [lset, beq_ne hk]
      by_cases hm : k = m
      · subst hm; simp [lget]
      · rw [lget_cons_ne hm, lget_cons_ne hm, ih]
theorem lget_ldel {l : List (Nat × AObj)} {n m : Nat} {o : AObj} : lget (ldel l n) m = some o ↔ m ≠ n ∧ lget l m = some o := by
  induction l with
  | nil => simp [ldel, lget]
  | cons p r ih =>
    obtain ⟨k, y⟩ := p
    by_cases hk : k = n
    · subst hk
      simp only [ldel, beq_refl']
      rw [ih]
      by_cases hm : k = m
      · subst hm; simp
      · rw [lget_cons_ne hm]
    · simp only [ldel, beq_ne hk]
      by_cases hm : k = m
      · subst hm; simp [lget, hk]
      · rw [lget_cons_ne hm, lget_cons_ne hm, ih]
theorem lget_mem {l : List (Nat × AObj)} {n : Nat} {o : AObj} (h : lget l n = some o) : (n, o) ∈ l := by
  induction l with
  | nil => simp [lget] at h
  | cons p r ih =>
    obtain ⟨k, x⟩ := p
    by_cases e : k = n
    · subst e; rw [lget_cons_same] at h; injection h with h; subst h; simp
    · rw [lget_cons_ne e] at h; exact List.mem_cons_of_mem _ (ih h)

/-- The program, and its package-level tables. -/
structure Cx where
  P : Program
  gt : List (Nat × List PV)

def gget : List (Nat × List PV) → Nat → Option (List PV)
  | [], _ => none
  | (k, o) :: r, n => match Nat.beq k n with
    | true => some o
    | false => gget r n

def szOf (P : Program) (t : TypeId) : Option Nat := (P.info? t).map (·.size)

/-- None of the cells is frozen. -/
def Free (fz : Nat × Nat) (n : Nat) : Prop := fz.2 ≤ fz.1 ∨ n ≤ fz.1

def flat : Cn → List AV
  | .bx cs => cs
  | .pu xs => xs.map .p
  | .pus xss => xss.flatten.map .p
  | .mx xs => xs
  | _ => []

/-- The elements have so many cells. -/
def Sized (s tc : Nat) : Cn → Prop
  | .bx cs => cs.length = s ∧ tc = 1
  | .pu _ => s = 1
  | .pus xss => ∀ cs ∈ xss, cs.length = s
  | .mx _ => s = 1
  | _ => False
def Empt : Cn → Prop
  | .pu xs => xs = []
  | .pus xs => xs = []
  | .mx xs => xs = []
  | _ => False

/-- The names below a limit. -/
def Gm.cut (Γ : Gm) (l : Nat) : Gm := ⟨fun m => match Nat.blt m l with | true => Γ.nm m | false => none, Γ.fz⟩
theorem Gm.cut_le (Γ : Gm) (l : Nat) : (Γ.cut l).le Γ := by
  refine ⟨fun n q h => ?_, Fzn.le_refl _⟩
  simp only [Gm.cut] at h
  split at h
  · exact h
  · cases h
theorem Gm.cut_mono {a b : Gm} (h : a.le b) (l : Nat) : (a.cut l).le (b.cut l) := by
  refine ⟨fun n q h1 => ?_, h.fz⟩
  simp only [Gm.cut] at h1 ⊢
  split at h1
  · exact h.nm _ _ h1
  · cases h1

/-- The cells of an object lie in their block. -/
def CellsR (P : Program) (Γ : Gm) (w : World) (q : Pl) (o : AObj) : Prop :=
  ∃ us rest z, w.heap[q.blk]? = some (.cells ⟨us ++ rest⟩ o.t z) ∧ Free z (us ++ rest).length ∧ szOf P o.t = some q.s ∧ 0 < q.s ∧ (us ++ rest).length = q.tc * q.s ∧
    VRL Γ (flat o.c) us ∧ (∀ u ∈ us, plainV u = true) ∧ Sized q.s q.tc o.c ∧ (o.fr = true → Γ.fz q.blk = some (us ++ rest))

def isCells : Cn → Bool
  | .lp .. => false
  | .df => false
  | _ => true

def ObjR (P : Program) (Γ : Gm) (w : World) (q : Pl) (o : AObj) : Prop :=
  match o.c with
  | .lp st pend lim N σ ps as bd dn => q.nl = false ∧ o.fr = false ∧ ∃ fn tm qd, (P.funcs[fn]?).isSome = true ∧ w.heap[q.blk]? = some (.loop { state := st, pending := pend, fn := fn, tmps := tm, params := ⟨ps⟩, assign := as, body := bd, defers := qd.blk }) ∧ (tm.size = N ∧ ∀ t, VR (Γ.cut lim) (σ t) (tm.getD t undef)) ∧ Γ.nm dn = some qd
  | .df => q.nl = false ∧ o.fr = false ∧ w.heap[q.blk]? = some (.deferred (some []))
  | c => (q.nl = true ∧ Empt c ∧ Sized q.s q.tc c) ∨ (q.nl = false ∧ CellsR P Γ w q o)

theorem ObjR_cells {P : Program} {Γ : Gm} {w : World} {q : Pl} {o : AObj} (h : isCells o.c = true) : ObjR P Γ w q o ↔ ((q.nl = true ∧ Empt o.c ∧ Sized q.s q.tc o.c) ∨ (q.nl = false ∧ CellsR P Γ w q o)) := by
  obtain ⟨t, fr, c⟩ := o
  cases c <;> simp_all [ObjR, isCells]

/-- The blocks that the heap owns. -/
def Own (Γ : Gm) (H : Hp) (k : Nat) : Prop := ∃ n o q, lget H.l n = some o ∧ o.fr = false ∧ Γ.nm n = some q ∧ q.nl = false ∧ q.blk = k

structure R (C : Cx) (Γ : Gm) (H : Hp) (w : World) : Prop where
  glob : ∀ g cs, gget C.gt g = some cs → VP Γ.fz (.fp cs) (.pointer (some ⟨g, 0, none⟩))
  fresh : ∀ n, H.next ≤ n → Γ.nm n = none
  fzok : ∀ b arr, Γ.fz b = some arr → ∃ t z, w.heap[b]? = some (.cells ⟨arr⟩ t z)
  objs : ∀ n o, lget H.l n = some o → ∃ q, Γ.nm n = some q ∧ ObjR C.P Γ w q o
  own : ∀ n o q, lget H.l n = some o → o.fr = false → Γ.nm n = some q → q.nl = false → Γ.fz q.blk = none
  apart : ∀ n o m p q q', lget H.l n = some o → lget H.l m = some p → n ≠ m → Γ.nm n = some q → Γ.nm m = some q' → o.fr = false → q.nl = false → q'.nl = false → q.blk ≠ q'.blk

/-- From one state to a later one. -/
structure Tr (Γ : Gm) (H : Hp) (w : World) (Γ' : Gm) (H' : Hp) (w' : World) : Prop where
  os : w'.os = w.os
  tape : w'.tape = w.tape
  output : w'.output = w.output
  size : w.heap.size ≤ w'.heap.size
  kept : ∀ k, k < w.heap.size → ¬ Own Γ H k → w'.heap[k]? = w.heap[k]?
  prov : ∀ k, Own Γ' H' k → w.heap.size ≤ k ∨ Own Γ H k
  fz : Γ.fz.le Γ'.fz
  fzprov : ∀ k a, Γ'.fz k = some a → Γ.fz k = some a ∨ w.heap.size ≤ k ∨ Own Γ H k

theorem Tr.refl (Γ : Gm) (H : Hp) (w : World) : Tr Γ H w Γ H w := ⟨rfl, rfl, rfl, Nat.le_refl _, fun _ _ _ => rfl, fun _ h => .inr h, Fzn.le_refl _, fun _ _ h => .inl h⟩
theorem Tr.trans {Γ Γ1 Γ2 : Gm} {H H1 H2 : Hp} {w w1 w2 : World} (h : Tr Γ H w Γ1 H1 w1) (k : Tr Γ1 H1 w1 Γ2 H2 w2) : Tr Γ H w Γ2 H2 w2 := by
  refine ⟨k.os.trans h.os, k.tape.trans h.tape, k.output.trans h.output, Nat.le_trans h.size k.size, fun j hj hn => ?_, fun j hj => ?_, Fzn.le_trans h.fz k.fz, fun j a hj => ?_⟩
  · rw [k.kept j (Nat.lt_of_lt_of_le hj h.size) (fun ho => ?_), h.kept j hj hn]
    rcases h.prov j ho with h1 | h1
    · omega
    · exact hn h1
  · rcases k.prov j hj with h1 | h1
    · exact .inl (Nat.le_trans h.size h1)
    · exact h.prov j h1
  · rcases k.fzprov j a hj with h1 | h1 | h1
    · exact h.fzprov j a h1
    · exact .inr (.inl (Nat.le_trans h.size h1))
    · exact .inr (h.prov j h1)

theorem R.drew {C : Cx} {Γ : Gm} {H : Hp} {w : World} (h : R C Γ H w) : R C Γ H { w with drawn := w.drawn + 1 } :=
  ⟨h.glob, h.fresh, h.fzok, h.objs, h.own, h.apart⟩
theorem Tr.drew (Γ : Gm) (H : Hp) (w : World) : Tr Γ H w Γ H { w with drawn := w.drawn + 1 } := ⟨rfl, rfl, rfl, Nat.le_refl _, fun _ _ _ => rfl, fun _ h => .inr h, Fzn.le_refl _, fun _ _ h => .inl h⟩

def Gm.put (Γ : Gm) (n : Nat) (q : Pl) : Gm := ⟨fun m => match Nat.beq m n with | true => some q | false => Γ.nm m, Γ.fz⟩
theorem Gm.put_same (Γ : Gm) (n : Nat) (q : Pl) : (Γ.put n q).nm n = some q := by simp [Gm.put]
theorem Gm.put_other (Γ : Gm) {n m : Nat} (q : Pl) (h : m ≠ n) : (Γ.put n q).nm m = Γ.nm m := by simp only [Gm.put, beq_ne h]
theorem Gm.le_put {Γ : Gm} {n : Nat} {q : Pl} (h : Γ.nm n = none) : Γ.le (Γ.put n q) := by
  refine ⟨fun m q' hm => ?_, Fzn.le_refl _⟩
  by_cases e : m = n
  · subst e; rw [h] at hm; cases hm
  · rw [Gm.put_other _ _ e]; exact hm

theorem lget_lt {C : Cx} {Γ : Gm} {H : Hp} {w : World} (h : R C Γ H w) {n : Nat} {o : AObj} (hn : lget H.l n = some o) : n < H.next := by
  obtain ⟨q, hq, _⟩ := h.objs n o hn
  rcases Nat.lt_or_ge n H.next with h1 | h1
  · exact h1
  · rw [h.fresh n h1] at hq; cases hq

theorem ObjR.blk_lt {P : Program} {Γ : Gm} {w : World} {q : Pl} {o : AObj} (h : ObjR P Γ w q o) (hn : q.nl = false) : q.blk < w.heap.size := by
  have key : ∀ x, w.heap[q.blk]? = some x → q.blk < w.heap.size := fun x hx => (Array.getElem?_eq_some_iff.1 hx).1
  by_cases hc : isCells o.c = true
  · rcases (ObjR_cells hc).1 h with ⟨h1, _⟩ | ⟨_, us, rest, z, h1, _⟩
    · rw [h1] at hn; cases hn
    · exact key _ h1
  · obtain ⟨t, fr, c⟩ := o
    cases c <;> simp only [isCells, not_true_eq_false, Bool.false_eq_true, not_false_eq_true] at hc
    · simp only [ObjR] at h
      obtain ⟨_, _, _, _, _, _, h1, _⟩ := h
      exact key _ h1
    · simp only [ObjR] at h
      exact key _ h.2.2

theorem Own.blk_lt {C : Cx} {Γ : Gm} {H : Hp} {w : World} (h : R C Γ H w) {k : Nat} (ho : Own Γ H k) : k < w.heap.size := by
  obtain ⟨n, o, q, h1, h2, h3, h4, rfl⟩ := ho
  obtain ⟨q', hq', h5⟩ := h.objs n o h1
  rw [h3] at hq'
  injection hq' with e
  subst e
  exact h5.blk_lt h4

theorem fz_lt {C : Cx} {Γ : Gm} {H : Hp} {w : World} (h : R C Γ H w) {k : Nat} {a : List Value} (ho : Γ.fz k = some a) : k < w.heap.size := by
  obtain ⟨t, z, h1⟩ := h.fzok k a ho
  exact (Array.getElem?_eq_some_iff.1 h1).1

/-- The heap with a new object. -/
def Hp.push (H : Hp) (o : AObj) : Hp := ⟨H.next + 1, (H.next, o) :: H.l⟩

theorem ObjR.ext {P : Program} {Γ Γ' : Gm} {w w' : World} {q : Pl} {o : AObj} (h : ObjR P Γ w q o) (hb : Γ.le Γ')
    (hk : q.nl = false → w'.heap[q.blk]? = w.heap[q.blk]?) : ObjR P Γ' w' q o := by
  by_cases hc : isCells o.c = true
  · rw [ObjR_cells hc] at h ⊢
    rcases h with h | ⟨h0, us, rest, z, h1, h2, h3, h3', h4, h5, h6, h7, h8⟩
    · exact .inl h
    · exact .inr ⟨h0, us, rest, z, by rw [hk h0]; exact h1, h2, h3, h3', h4, VRL_mono hb _ _ h5, h6, h7, fun e => hb.fz _ _ (h8 e)⟩
  · obtain ⟨t, fr, c⟩ := o
    cases c <;> simp only [isCells, not_true_eq_false, Bool.false_eq_true, not_false_eq_true] at hc
    · simp only [ObjR] at h ⊢
      obtain ⟨h0, h0', fn, tm, qd, hfn, h1, h2, h3⟩ := h
      exact ⟨h0, h0', fn, tm, qd, hfn, by rw [hk h0]; exact h1, ⟨h2.1, fun t => VR_mono (Gm.cut_mono hb _) _ _ (h2.2 t)⟩, hb.nm _ _ h3⟩
    · simp only [ObjR] at h ⊢
      exact ⟨h.1, h.2.1, by rw [hk h.1]; exact h.2.2⟩
end Go.Proofs.YtemlkodkohgmmaaDoor.Y
