/- Part 5 of the proof: Yzd Yze Va Si Sk Vb Ob Oc Od Oe Of Og Vc Vd Ve Ra Rb Rc Rd Vf Vg Jg Jh Ji Jj Jk Jl Gb Gc Gd -/
import Derived.Shelf.Strings.Builder1
import Derived.Shelf.Strings.Builder2
import Derived.Shelf.Small.Bits
import Derived.Shelf.Strings.BuilderF
import Derived.Shelf.Utf8.RuneCount
import Derived.Shelf.Strconv.Itoa0
import Derived.Shelf.Strconv.Itoa1
import Derived.Shelf.LaysM
import Derived.Shelf.Strconv.Itoa2
import Derived.Shelf.Strconv.Itoa3
import Derived.Shelf.Strings.Search1
import Derived.Shelf.Strings.Search2
import Derived.Shelf.Strings.Search3
import Derived.Shelf.Strings.Count
import Derived.Shelf.Strings.Shaped
import Derived.Shelf.Sort.Plain
import Derived.Shelf.Strings.Prefix
import Derived.Shelf.Strings.Split
import Derived.Shelf.Strings.Replace
import Derived.Shelf.Strings.SplitShaped
import Derived.Shelf.Unicode.Decode
import Derived.Shelf.Strings.RuneCount
import Derived.Shelf.Bits.Mul64
import Derived.Shelf.Strings.Repeat
import Derived.Shelf.Unicode.DecodeSlow
import Derived.Shelf.Unicode.DecodeAny
import Derived.Ground.Names2Prog
import Derived.Shelf.Slices.CompactI
import Derived.Shelf.Slices.SearchI
import Derived.Shelf.Slices.Cells
import Derived.Shelf.Slices.In.SortNone
import Derived.Test.YtohfoaplnjcihaaGreatDoorProg
import Derived.Below
import Derived.Test.YtohfoaplnjcihaaGreatDoorQ4
namespace Go.Proofs.YtohfoaplnjcihaaGreatDoor.Y
open Go
section
variable {C : Cx}
theorem holdsD_of_vc {f : FuncId} {fn : Func} {c : Code} {args : List AV} {u : Md} {H : Hp} {Q : AE → Md → Hp → Prop} (hf : C.P.funcs[f]? = some fn) (hname : (fn.name == "runtime.NumGoroutine") = false) (hb : fn.body = some c)
  (hN : (Nat.ble args.length fn.ntmps && dataM u) = true)
  (hv : vc C none H.next fn.ntmps c (sets (fun _ => und) (argS 0 args)) [] H (FinD C fn.results.toList H.next u Q)) : HoldsD C f args u H Q := by
 intro Γ w args' m hR hA hM
 simp only [Bool.and_eq_true] at hN
 obtain ⟨n1, hdata⟩ := hN
 refine ⟨run_enter hf hname hb _ _, trivial, fun c₀ cs hu _ => ?_⟩
 let b : Frame := { (default : Frame) with fn := f, kind := .deferred, roundOf := none }
 have hbf : (C.P.funcs[b.fn]?).isSome = true := by show (C.P.funcs[f]?).isSome = true; rw [hf]; rfl
 have henter : Frame.enter C.P f ⟨args'⟩ .deferred = b.atR { tmps := (⟨args'⟩ : Array Value) ++ Array.replicate (fn.ntmps - args'.length) undef, defers := [] } [.code c] := by
  simp [Frame.enter, Frame.atR, hf, hb, b]
 have hc : ({ c₀ with mode := m } : Frame) = c₀ := by subst hu; rfl
 have hS := entry_SR (n := fn.ntmps) hA (Nat.le_of_ble_eq_true n1)
 obtain ⟨e2, a2, w2, ⟨e, σ2, ds2, H2, Γ2, hQ2, hX2, hS2, hL2⟩, harr2⟩ := vc_sound (rn := none) (n0 := H.next) hbf c _ [] H _ Γ _ w (Nat.le_refl _) rfl hR hS hv [] (c₀ :: cs)
 have hle := hL2.le hR
 have hmr2 := MR_mono hle hM
 unfold FinD at hQ2
 split at hQ2 <;> try exact hQ2.elim
 have hdf := hS2.df
 simp only [DRL] at hdf
 rw [← henter] at harr2
 have ret : ∀ (fr : Frame), fr = { b.atR a2 [] with mode := .returning } ∨ (∃ todo, fr = { b.atR a2 todo with mode := .returning }) → resV C σ2 H2 fn.results.toList (fun vs => EndN H.next (fun e H' => Q e u H') (.returned (tupA vs)) H2) →
   StepsIn (Machine.fenced C.P (Fz none)) C.P (lone (Frame.enter C.P f ⟨args'⟩ .deferred) (c₀ :: cs) w) (lone fr (c₀ :: cs) w2) →
   ∃ e u' w' fr, PostD C Γ H w Q e u' w' ∧ ComesIn (Machine.fenced C.P (Fz none)) C.P (lone (Frame.enter C.P f ⟨args'⟩ .deferred) (c₀ :: cs) w) (lone fr ({ c₀ with mode := u' } :: cs) w') e ∧ fr.kind = .deferred ∧ fr.fn = f ∧ fr.going C.P w' e := by
  intro fr hfr hr hs
  obtain ⟨vs, vs', k1, k2, k3⟩ := resV_sound hL2.1 hS2 hr
  refine ⟨.returned (tup vs'), m, w2, fr, PostD_gc hdata k1 ⟨_, rfl, VR_tup k2⟩ hmr2 hL2, by rw [hc]; exact hs, ?_, ?_, ?_⟩
  ·rcases hfr with rfl | ⟨todo, rfl⟩ <;> rfl
  ·rcases hfr with rfl | ⟨todo, rfl⟩ <;> rfl
  ·rcases hfr with rfl | ⟨todo, rfl⟩ <;> exact ⟨rfl, hdf, fn, hf, run_results k3⟩
 cases e with
 | normal =>
  simp only [XR] at hX2; subst hX2
  exact ret _ (.inl rfl) hQ2 (StepsIn.trans harr2 (.one (fenced_any _) (stepR_end rfl)))
 | ret =>
  simp only [XR] at hX2; subst hX2
  obtain ⟨todo, hs⟩ := harr2.1 rfl
  exact ret _ (.inr ⟨todo, rfl⟩) hQ2 hs
 | panic ch =>
  simp only [XR] at hX2
  obtain ⟨ch', rfl, hp⟩ := hX2
  obtain ⟨todo, hs⟩ := harr2
  exact ⟨.panicked ch', m, w2, _, PostD_gc hdata hQ2 ⟨ch', rfl, hp⟩ hmr2 hL2, by rw [hc]; exact hs, rfl, rfl, rfl, hdf, fn, hf⟩
 | exit i => exact hQ2.elim
 | goto i => exact hQ2.elim
end
end Go.Proofs.YtohfoaplnjcihaaGreatDoor.Y
namespace Go.Proofs.YtohfoaplnjcihaaGreatDoor.Y
open Go
section
variable {C : Cx}
theorem HoldsD.useT {g : FuncId} {args0 args : List AV} {n0 : Nat} {L0 : List (Nat × AObj)} {H : Hp} {Q0 : AE → Hp → Prop} {Q1 : AE → Md → Hp → Prop} (h : HoldsD C g args0 .ret ⟨n0, L0⟩ fun e u H' => u = .ret ∧ Q0 e H') (fs : List Nat) (ps : List (Nat × Nat))
  (hb : (marksOK H.l fs && (List.range n0).all (fun n => Nat.blt (look ps n) H.next) && injOn (rmap 0 ps n0 H.next) [] L0) = true)
  (hH : SeeH (rmap 0 ps n0 H.next) [] (marks H.l fs) 0 L0) (hA0 : SeeL (rmap 0 ps n0 H.next) [] (marks H.l fs) args args0)
  (hQ1 : ∀ e0 H0', Q0 e0 H0' → nodupK H0'.l = true ∧ ∃ e H2, renE (rmap 0 ps n0 H.next) e0 = e ∧ mrg (rmap 0 ps n0 H.next) n0 L0 (H.mrk fs) H0' = H2 ∧ Q1 e .ret H2) : HoldsD C g args .ret H Q1 := by
 have hQ : ∀ e0 H0', Q0 e0 H0' → nodupK H0'.l = true ∧ (fun e H2 => Q1 e .ret H2) (renE (rmap 0 ps n0 H.next) e0) (mrg (rmap 0 ps n0 H.next) n0 L0 (H.mrk fs) H0') := fun e0 H0' hq => by
  obtain ⟨h1, e, H2, rfl, rfl, h2⟩ := hQ1 e0 H0' hq
  exact ⟨h1, h2⟩
 obtain ⟨Q, hQd⟩ : ∃ Q : AE → Hp → Prop, Q = fun e H2 => Q1 e .ret H2 := ⟨_, rfl⟩
 rw [← hQd] at hQ
 intro Γ0 w args' m hR0 hA hM
 simp only [Bool.and_eq_true] at hb
 obtain ⟨⟨b1, b2⟩, b3⟩ := hb
 obtain ⟨Γ, e1, hLm⟩ := hR0.mark b1
 have hR := hLm.1
 have hA := VRL_mono (hLm.le hR0) _ _ hA
 have hlt : ∀ n, n < n0 → rmap 0 ps n0 H.next n < H.next := by
  intro n hn
  unfold rmap
  rw [show Nat.blt n 0 = false from rfl]
  rw [show Nat.blt n n0 = true by simpa using hn]
  have := List.all_eq_true.1 b2 n (List.mem_range.2 hn)
  simpa using this
 have hge : ∀ n, n0 ≤ n → rmap 0 ps n0 H.next n = n - n0 + H.next := fun n hn => rmap_new (Nat.zero_le _) hn
 have hsee := R.see (H1 := ⟨n0, L0⟩) (ρ := rmap 0 ps n0 H.next) (ni := []) (n0 := 0) hR hH (injOn_spec b3) rfl (fun n h => by omega) (Nat.zero_le _) (fun n h => by rw [hge n h]; show H.next ≤ _; omega)
 have hA1 := SeeL_sound hR _ _ _ hA0 hA
 have key : ∀ e w', Post C (Γ.see (rmap 0 ps n0 H.next) []) ⟨n0, L0⟩ w Q0 e w' → Post C Γ (H.mrk fs) w Q e w' := by
  rintro e' w' ⟨e0, H0', Γc, h1, h2, hL⟩
  obtain ⟨hnd, hq⟩ := hQ e0 H0' h1
  obtain ⟨h3, h4, h5, h6⟩ := hL
  simp only at h4 h5
  let Γ' : Gm := ⟨fun m => if m < H.next then Γ.nm m else Γc.nm (m - H.next + n0), Γc.fz⟩
  have hnm : ∀ n, Γ'.nm (rmap 0 ps n0 H.next n) = Γc.nm n := by
   intro n
   by_cases hn : n < n0
   ·simp only [Γ', if_pos (hlt n hn)]
    rw [h4 n hn]
    rfl
   ·have hn' := hge n (by omega)
    simp only [Γ']
    rw [hn', if_neg (by omega)]
    congr 1
    omega
  have hle : Γ.le Γ' := by
   refine ⟨fun n q hq => ?_, h6.fz⟩
   have hn : n < H.next := by
    rcases Nat.lt_or_ge n H.next with h1 | h1
    ·exact h1
    ·rw [hR.fresh n h1] at hq; cases hq
   simp only [Γ', if_pos hn]
   exact hq
  have hOwn0 : ∀ k, Own (Γ.see (rmap 0 ps n0 H.next) []) ⟨n0, L0⟩ k → Own Γ (H.mrk fs) k := fun k hk => by
   rcases hsee.2.2.2.prov k hk with h1 | h1
   ·exact absurd (Own.blk_lt hsee.1 hk) (by omega)
   ·exact h1
  -- an owned block of the callee's is not one of the frame
  have hframe : ∀ m o q, imgs (rmap 0 ps n0 H.next) L0 m = false → lget (H.mrk fs).l m = some o → Γ.nm m = some q → q.nl = false → q.blk < w.heap.size ∧ ¬ Own (Γ.see (rmap 0 ps n0 H.next) []) ⟨n0, L0⟩ q.blk := by
   intro m o q hno hm hq hnl
   obtain ⟨q', e1, e2⟩ := hR.objs m o hm
   rw [hq] at e1; injection e1 with e1; subst e1
   refine ⟨e2.blk_lt hnl, ?_⟩
   rintro ⟨n, o0, q0, k1, k2, k3, k4, k5⟩
   have hso := SeeH_get hH k1
   unfold SeeO at hso
   simp only [niGet] at hso
   obtain ⟨oc, j1, j2, j3, j4⟩ := hso
   have hne := imgs_spec hno (lget_mem k1)
   exact hR.apart _ oc m o q0 q j1 hm hne k3 hq (by rw [j3]; exact k2) k4 hnl k5
  have hwh : ∀ m o, lget (mrg (rmap 0 ps n0 H.next) n0 L0 (H.mrk fs) H0').l m = some o → (∃ n o', m = rmap 0 ps n0 H.next n ∧ lget H0'.l n = some o' ∧ isCells o'.c = true ∧ o = renO (rmap 0 ps n0 H.next) o') ∨ (imgs (rmap 0 ps n0 H.next) L0 m = false ∧ lget (H.mrk fs).l m = some o) := by
   intro m o hm
   rcases lget_append hm with h1 | h1
   ·obtain ⟨n, o', k1, k2, k3, k4⟩ := mem_renH h1
    exact .inl ⟨n, o', k3, nodupK_get hnd k1, k2, k4⟩
   ·exact .inr (lget_rest h1)
  have hfrq : ∀ m o q, imgs (rmap 0 ps n0 H.next) L0 m = false → lget (H.mrk fs).l m = some o → Γ'.nm m = some q → Γ.nm m = some q := by
   intro m o q _ hm hq
   obtain ⟨q', e1, _⟩ := hR.objs m o hm
   have := hle.nm _ _ e1
   rw [hq] at this
   rw [this]; exact e1
  -- a block of the callee's that the heap owns, or that is not written any more, is none of an owned object of the frame
  have hblk : ∀ n o' qc m o q, lget H0'.l n = some o' → Γc.nm n = some qc → qc.nl = false → imgs (rmap 0 ps n0 H.next) L0 m = false → lget (H.mrk fs).l m = some o → Γ.nm m = some q → q.nl = false → (o'.fr = false ∨ o.fr = false) → isCells o'.c = true → qc.blk ≠ q.blk := by
   intro n o' qc m o q k1 k2 k3 k4 k5 k6 k7 k8 k9 e
   obtain ⟨l1, l2⟩ := hframe m o q k4 k5 k6 k7
   cases hfr : o'.fr with
   | false =>
    rcases h6.prov qc.blk ⟨n, o', qc, k1, hfr, k2, k3, rfl⟩ with c1 | c1
    ·omega
    ·exact l2 (e ▸ c1)
   | true =>
    have hof : o.fr = false := by
     rcases k8 with k8 | k8
     ·rw [hfr] at k8; cases k8
     ·exact k8
    obtain ⟨qx, x1, x2⟩ := h3.objs n o' k1
    rw [k2] at x1; injection x1 with x1; subst x1
    rcases (ObjR_cells k9).1 x2 with ⟨y, _⟩ | ⟨_, us, rr, z, g1, g2, g3, g3', g4, g5, g6, g7, g8⟩
    ·rw [k3] at y; cases y
    ·rcases h6.fzprov _ _ (g8 hfr) with c1 | c1 | c1
     ·have c1' : Γ.fz qc.blk = some _ := c1
      rw [e, hR.own m o q k5 hof k6 k7] at c1'
      cases c1'
     ·omega
     ·exact l2 (e ▸ c1)
  refine ⟨_, _, Γ', hq, ER_ren hnm rfl h2, ⟨h3.glob, fun n hn => ?_, h3.fzok, fun m o hm => ?_, fun m o q hm hf hq1 hnl => ?_, fun m o m' o' q q' hm hm' hne hq1 hq2 hf hnl hnl' => ?_⟩, fun m hm => by have hm : m < H.next := hm; simp only [Γ', if_pos hm], by show H.next ≤ H.next + _; omega, ⟨h6.os, h6.tape, h6.output, h6.size, fun k hk hno => h6.kept k hk (fun e => hno (hOwn0 k e)), fun k hk => ?_, h6.fz, fun k a hk => ?_⟩⟩
  ·have hn : H.next + (H0'.next - n0) ≤ n := hn
   simp only [Γ', if_neg (show ¬ n < H.next by omega)]
   exact h3.fresh _ (by omega)
  ·rcases hwh m o hm with ⟨n, o', rfl, k2, k3, rfl⟩ | ⟨k1, k2⟩
   ·obtain ⟨q, x1, x2⟩ := h3.objs n o' k2
    exact ⟨q, by rw [hnm]; exact x1, renO_sound hnm rfl k3 x2⟩
   ·obtain ⟨q, x1, x2⟩ := hR.objs m o k2
    refine ⟨q, hle.nm _ _ x1, x2.ext hle fun hnl => ?_⟩
    obtain ⟨l1, l2⟩ := hframe m o q k1 k2 x1 hnl
    exact h6.kept _ l1 l2
  ·rcases hwh m o hm with ⟨n, o', rfl, k2, k3, rfl⟩ | ⟨k1, k2⟩
   ·rw [hnm] at hq1
    exact h3.own n o' q k2 hf hq1 hnl
   ·have hq2 := hfrq m o q k1 k2 hq1
    have h0 := hR.own m o q k2 hf hq2 hnl
    obtain ⟨l1, l2⟩ := hframe m o q k1 k2 hq2 hnl
    cases hx : Γc.fz q.blk with
    | none => rfl
    | some a =>
     rcases h6.fzprov _ _ hx with c1 | c1 | c1
     ·have c1' : Γ.fz q.blk = some _ := c1
      rw [h0] at c1'; cases c1'
     ·omega
     ·exact (l2 c1).elim
  ·rcases hwh m o hm with ⟨n, o1, rfl, k2, k3, rfl⟩ | ⟨k1, k2⟩
   ·rw [hnm] at hq1
    rcases hwh m' o' hm' with ⟨n', o2, rfl, j2, j3, rfl⟩ | ⟨j1, j2⟩
    ·rw [hnm] at hq2
     exact h3.apart n o1 n' o2 q q' k2 j2 (fun e => hne (by rw [e])) hq1 hq2 hf hnl hnl'
    ·exact hblk n o1 q m' o' q' k2 hq1 hnl j1 j2 (hfrq _ _ _ j1 j2 hq2) hnl' (.inl hf) k3
   ·have hq1' := hfrq m o q k1 k2 hq1
    rcases hwh m' o' hm' with ⟨n', o2, rfl, j2, j3, rfl⟩ | ⟨j1, j2⟩
    ·rw [hnm] at hq2
     exact Ne.symm (hblk n' o2 q' m o q j2 hq2 hnl' k1 k2 hq1' hnl (.inr hf) j3)
    ·exact hR.apart m o m' o' q q' k2 j2 hne hq1' (hfrq _ _ _ j1 j2 hq2) hf hnl hnl'
  ·obtain ⟨m, o, q, k1, k2, k3, k4, rfl⟩ := hk
   rcases hwh m o k1 with ⟨n, o1, rfl, j2, j3, rfl⟩ | ⟨j1, j2⟩
   ·rw [hnm] at k3
    rcases h6.prov q.blk ⟨n, o1, q, j2, k2, k3, k4, rfl⟩ with c1 | c1
    ·exact .inl c1
    ·exact .inr (hOwn0 _ c1)
   ·exact .inr ⟨m, o, q, j2, k2, hfrq _ _ _ j1 j2 k3, k4, rfl⟩
  ·rcases h6.fzprov k a hk with c1 | c1 | c1
   ·exact .inl c1
   ·exact .inr (.inl c1)
   ·exact .inr (.inr (hOwn0 _ c1))
 have fin : ∀ e w', Post C (Γ.see (rmap 0 ps n0 H.next) []) ⟨n0, L0⟩ w Q0 e w' → Post C Γ0 H w Q e w' := by
  intro e w' hP
  obtain ⟨e0, H', Γ', k1, k2, k3⟩ := key e w' hP
  exact ⟨e0, H', Γ', k1, k2, hLm.trans (k3.mono hLm.2.2.1)⟩
 have hM : m = .returning := hM
 subst hM
 obtain ⟨h1, h2⟩ := h _ w args' .returning hsee.1 hA1 rfl
 refine ⟨h1, h2.mono fun e' m' w' hP => ?_⟩
 obtain ⟨e0, u, H', Γ', ⟨rfl, k1⟩, k2, k3, k4⟩ := hP
 have k3 : m' = .returning := k3
 subst k3
 obtain ⟨e1, H1, Γ1, j1, j2, j3⟩ := fin e' w' ⟨e0, H', Γ', k1, k2, k4⟩
 rw [hQd] at j1
 exact ⟨e1, .ret, H1, Γ1, j1, j2, rfl, j3⟩
end
end Go.Proofs.YtohfoaplnjcihaaGreatDoor.Y
namespace Go.Proofs.YtohfoaplnjcihaaGreatDoor
open Go Y
set_option maxRecDepth 100000
set_option maxHeartbeats 4000000
abbrev TWr : TypeId := 108
structure Wst where
 s : List UInt8
 n : Nat
 b : Bool
def Wst.sz (st : Wst) : Nat := st.n + st.s.length
def put1 (st : Wst) (x : List UInt8) : Wst := ⟨(st.s ++ (if st.b then [32] else [])) ++ x, st.n + 1, true⟩
def puts (st : Wst) (l : Toks) : Wst := l.foldl put1 st
def endW (st : Wst) : Wst := ⟨st.s ++ [10], st.n, false⟩
def wt : Toks → Nat
 | [] => 0
 | x :: l => x.length + 2 + wt l
theorem wt_app : ∀ a b : Toks, wt (a ++ b) = wt a + wt b
 | [], b => by simp [wt]
 | x :: a, b => by rw [List.cons_append, wt, wt, wt_app a b]; omega
theorem put1_sz (st : Wst) (x : List UInt8) : (put1 st x).sz ≤ st.sz + (x.length + 2) := by
 have h3 : (if st.b = true then [32] else [] : List UInt8).length ≤ 1 := by cases st.b <;> simp
 show st.n + 1 + ((st.s ++ (if st.b then [32] else [])) ++ x).length ≤ st.n + st.s.length + _
 rw [List.length_append, List.length_append]; omega
theorem puts_nil (st : Wst) : puts st [] = st := rfl
theorem puts_cons (st : Wst) (x : List UInt8) (l : Toks) : puts st (x :: l) = puts (put1 st x) l := rfl
theorem puts_app (st : Wst) (a b : Toks) : puts st (a ++ b) = puts (puts st a) b := List.foldl_append
theorem puts_sz : ∀ (l : Toks) (st : Wst), (puts st l).sz ≤ st.sz + wt l
 | [], st => Nat.le_refl _
 | x :: l, st => by
  have h1 := puts_sz l (put1 st x)
  have h2 := put1_sz st x
  rw [puts_cons, wt]; omega
theorem puts_spW : ∀ (l : Toks) (st : Wst), (puts st l).s = st.s ++ spW st.b l ∧ (puts st l).n = st.n + l.length ∧ (puts st l).b = (st.b || decide (l ≠ []))
 | [], st => by simp [puts_nil, spW]
 | x :: l, st => by
  obtain ⟨h1, h2, h3⟩ := puts_spW l (put1 st x)
  refine ⟨?_, ?_, ?_⟩
  ·rw [puts_cons, h1, spW]; simp [put1]
  ·rw [puts_cons, h2]; simp [put1]; omega
  ·rw [puts_cons, h3]; simp [put1]
def wOu (u : Bool) (k : Nat) (st : Wst) : AObj := ⟨TWr, false, .bx [au u, .sl k 1 0 st.s.length, .p (i64 st.n), .p (.bool st.b)]⟩
abbrev wO (k : Nat) (st : Wst) : AObj := ⟨TWr, false, .bx [.ptr 0 0 0, .sl k 1 0 st.s.length, .p (i64 st.n), .p (.bool st.b)]⟩
def bO (s : List UInt8) : AObj := ⟨5, false, .pu (s.map ub)⟩
abbrev wH (u : Bool) (st : Wst) : Hp := ⟨2, [(1, bO st.s), (0, wOu u 1 st)]⟩
abbrev wH' (st : Wst) : Hp := ⟨3, [(2, bO st.s), (0, wO 2 st)]⟩
theorem lies_w : liesAt cx.P cx.P.depth TWr 1 0 TB 1 = true := by kernel_rfl
theorem conv_w (cs : List AV) (lk : Nat → Option AObj) (h : lk 0 = some ⟨TWr, false, .bx cs⟩) : popConv cx.P 214 104 (.ptr 0 0 0) lk = .val (.ptr 0 0 0) := by
 have h1 : cx.P.underlying 214 = some .unsafePointer := rfl
 have h2 : cx.P.underlying 104 = some (.pointer TB) := rfl
 obtain ⟨z, h3⟩ : ∃ z, szOf cx.P TB = some (z + 1) := ⟨_, rfl⟩
 unfold popConv
 rw [h1, h2]
 simp only []
 rw [h, h3]
 simp [lies_w]
theorem copyW_c (u : Bool) (v a b : AV) : HoldsG cx 108 [.ptr 0 0 0] ⟨2, [(0, ⟨TWr, false, .bx [au u, v, a, b]⟩)]⟩ fun e H' => e = .returned und ∧ H' = ⟨2, [(0, ⟨TWr, false, .bx [.ptr 0 0 0, v, a, b]⟩)]⟩ := by
 refine holds_of_vc Tryz.func108 rfl rfl rfl ?_
 cases u
 ·refine noEscape_c ?_
  conv => whnf
  generalize hz : pop cx.P (.convert _ _ _) _ _ = z
  rw [show z = .val (.ptr 0 0 0) from hz.symm.trans (conv_w [.p .nilp, v, a, b] (lget [(0, ⟨TWr, false, .bx [.p .nilp, v, a, b]⟩)]) rfl)]
  exact ⟨rfl, rfl⟩
 ·exact ⟨rfl, rfl⟩
def wB (st : Wst) (x : List UInt8) : Wst := ⟨st.s ++ x, st.n, st.b⟩
theorem byteW_c (u : Bool) (st : Wst) (b : UInt8) (hx : st.sz ≤ 100000000) : HoldsG cx 73 [.ptr 0 0 0, .p (u8 b)] (wH u st) fun e H' => e = .returned (.p .nilIface) ∧ H' = wH' (wB st [b]) := by
 obtain ⟨s, n, g⟩ := st
 have hx : n + s.length ≤ 100000000 := hx
 refine holdsN_of_vc Tryz.func73 rfl rfl rfl ?_
 refine (copyW_c u (.sl 1 1 0 s.length) (.p (i64 n)) (.p (.bool g))).useE [] [] rfl ?_ ?_ ?_
 ·cases u <;> (exact sk)
 ·(exact sk)
 ·refine ⟨by show 0 + 1 ≤ _; simp, [ub b], rfl, ?_⟩
  refine ⟨by show 0 + s.length ≤ (s.map ub).length; simp, s.map ub, takeUb s, by show (s.length + 1) * 1 ≤ _; omega, (s ++ [b]).map ub, by simp, ?_⟩
  exact ⟨[], [(2, 3)], [], .returned (.p .nilIface), ⟨3, [(2, bO (s ++ [b])), (0, ⟨TWr, false, .bx [.ptr 0 0 0, .sl 2 1 0 (s.length + 1), .p (i64 n), .p (.bool g)]⟩)]⟩, rfl, ⟨_, rfl, rfl⟩, sk, rfl, by simp [wH', wB, wO]⟩
theorem strW_c (u : Bool) (st : Wst) (x : List UInt8) (hx : st.sz ≤ 100000000) (hs : x.length ≤ 100000000) : HoldsG cx 64 [.ptr 0 0 0, vS x] (wH u st) fun e H' => e = .returned (.tup [.p (i64 x.length), .p .nilIface]) ∧ H' = wH' (wB st x) := by
 obtain ⟨s, n, g⟩ := st
 have hx : n + s.length ≤ 100000000 := hx
 refine holdsN_of_vc Tryz.func64 rfl rfl rfl ?_
 refine (copyW_c u (.sl 1 1 0 s.length) (.p (i64 n)) (.p (.bool g))).useE [] [] rfl ?_ ?_ ?_
 ·cases u <;> (exact sk)
 ·(exact sk)
 ·refine ⟨by show 0 + s.length ≤ (s.map ub).length; simp, s.map ub, takeUb s, by show (s.length + x.length) * 1 ≤ _; omega, (s ++ x).map ub, by simp, ?_⟩
  exact ⟨[], [(2, 2)], [], .returned (.tup [.p (i64 x.length), .p .nilIface]), ⟨3, [(2, bO (s ++ x)), (0, ⟨TWr, false, .bx [.ptr 0 0 0, .sl 2 1 0 (s.length + x.length), .p (i64 n), .p (.bool g)]⟩)]⟩, rfl, ⟨_, rfl, _, rfl, sk⟩, sk, rfl, by simp [wH', wB, wO]⟩
def WQ (st : Wst) (e : AE) (H' : Hp) : Prop := e = .returned und ∧ H' = wH' st
theorem end_h (st : Wst) (hx : st.sz ≤ 100000000) : HoldsG cx 43 [.ptr 0 0 0] (wH true st) (WQ (endW st)) := by
 refine holdsN_of_vc Tryz.func43 rfl rfl rfl ?_
 refine (byteW_c true st 10 hx).holds.useT [] [] rfl (sk) (sk) fun e0 H0 hq => ?_
 obtain ⟨rfl, rfl⟩ := hq
 refine ⟨rfl, _, ⟨3, [(2, bO (st.s ++ [10])), (0, wO 2 (wB st [10]))]⟩, rfl, rfl, ?_⟩
 exact ⟨[], [], [], .returned und, wH' (endW st), rfl, sk, sk, rfl, rfl⟩
theorem skcell {l : Toks} {k : Nat} (h : k < l.length) : (l.map PV.str)[k]? = some (.str (l.getD k [])) := by
 rw [List.getElem?_map, List.getElem?_eq_getElem h, List.getD_eq_getElem?_getD, List.getElem?_eq_getElem h]; rfl
theorem wt_take {l : Toks} {k : Nat} (h : k < l.length) : wt (l.take k) + (l.getD k []).length + 2 ≤ wt l := by
 have e : l = l.take k ++ l.getD k [] :: l.drop (k + 1) := by
  rw [List.getD_eq_getElem?_getD, List.getElem?_eq_getElem h]
  show l = l.take k ++ l[k] :: l.drop (k + 1)
  rw [← List.drop_eq_getElem_cons h, List.take_append_drop]
 conv => rhs; rw [e]
 rw [wt_app, wt]; omega
theorem len_wt : ∀ l : Toks, l.length ≤ wt l
 | [] => Nat.le_refl _
 | x :: l => by have := len_wt l; rw [wt, List.length_cons]; omega
def sU (l : Toks) : AObj := ⟨TStr, false, .pu (l.map PV.str)⟩
theorem put_h (u : Bool) (st : Wst) (l : Toks) (h0 : 0 < l.length) (hb : st.sz + wt l ≤ 100000000) : HoldsG cx 70 [.ptr 0 0 0, .sl 2 1 0 l.length] ⟨3, [(2, sU l), (1, bO st.s), (0, wOu u 1 st)]⟩ fun e H' => e = .returned und ∧ H' = ⟨4, [(3, bO (puts st l).s), (0, wO 3 (puts st l))]⟩ := by
 refine holdsN_of_vc Tryz.func70 rfl rfl rfl ?_
 refine ⟨Wst × Nat × Bool, fun x => [(0, .ptr 0 0 0), (6, .sl 2 1 0 l.length), (7, .p (i64 l.length)), (8, .p (i64 x.2.1))], fun x => ⟨4, [(2, sU l), (3, bO x.1.s), (0, wOu x.2.2 3 x.1)]⟩, fun x => x.2.1 ≤ l.length ∧ (0 < x.2.1 → x.2.2 = true) ∧ x.1 = puts st (l.take x.2.1), fun x => l.length - x.2.1, ?_, ?_⟩
 ·exact ⟨(st, 0, u), ⟨by simp, fun h => absurd h (by simp), rfl⟩, ent_of [] [(3, 1)] [] rfl (sk) (by cases u <;> (exact sk)) rfl⟩
 rintro ⟨⟨s, n, b⟩, k, u⟩ ⟨k1, k2, k3⟩
 simp only [] at k1 k2 k3
 have hsz := puts_sz (l.take k) st
 rw [← k3] at hsz
 have hsz : n + s.length ≤ st.sz + wt (l.take k) := hsz
 by_cases hk : k < l.length
 rotate_left
 ·have hu := k2 (by omega)
  subst hu
  have e : puts st l = ⟨s, n, b⟩ := by rw [k3, take_all (by omega)]
  refine And.intro (fun h => absurd (show (k : Int) < (l.length : Nat) from h) (by omega)) (fun _ => ?_)
  rw [e]
  exact ⟨[], [(3, 3)], [], .returned und, ⟨4, [(3, bO s), (0, wO 3 ⟨s, n, b⟩)]⟩, rfl, sk, sk, rfl, rfl⟩
 have hw := wt_take hk
 have hlw := len_wt l
 have e : puts st (l.take (k + 1)) = put1 ⟨s, n, b⟩ (l.getD k []) := by rw [take_succ_getD [] hk, puts_app, ← k3]; rfl
 obtain ⟨x, hx⟩ : ∃ x, x = l.getD k [] := ⟨_, rfl⟩
 have hc : (l.map PV.str)[0 + ((k : Nat) : Int).toNat]? = some (.str (l.getD k [])) := by rw [Int.toNat_natCast, Nat.zero_add]; exact skcell hk
 rw [← hx] at e hw hc
 clear k2 k3
 cases b
 ·refine And.intro (fun _ => ?_) (fun h => absurd (show (k : Int) < (l.length : Nat) by omega) h)
  refine ⟨by omega, _, ⟨.str x, hc, rfl⟩, ?_⟩
  refine (strW_c u ⟨s, n, true⟩ x (by show n + s.length ≤ _; omega) (by omega)).holds.useT [] [(1, 3)] rfl (by cases u <;> (exact sk)) (sk) fun e0 H0 hq => ?_
  obtain ⟨rfl, rfl⟩ := hq
  refine ⟨rfl, _, ⟨5, [(4, bO (s ++ x)), (0, wO 4 (wB ⟨s, n, true⟩ x)), (2, sU l)]⟩, rfl, rfl, ?_⟩
  refine ⟨((n : Nat) : Int) + 1, wrap_i64 (by omega) (by omega), ?_⟩
  refine ⟨((k : Nat) : Int) + 1, wrap_i64 (by omega) (by omega), ?_⟩
  exact ⟨(⟨s ++ x, n + 1, true⟩, k + 1, true), ⟨hk, fun _ => rfl, by rw [e]; simp [put1]⟩, ent_of [] [(3, 4)] [] rfl (sk) (sk) rfl, by show l.length - (k + 1) < l.length - k; omega⟩
 ·refine And.intro (fun _ => ?_) (fun h => absurd (show (k : Int) < (l.length : Nat) by omega) h)
  refine ⟨by omega, _, ⟨.str x, hc, rfl⟩, ?_⟩
  refine (byteW_c u ⟨s, n, true⟩ 32 (by show n + s.length ≤ _; omega)).holds.useT [] [(1, 3)] rfl (by cases u <;> (exact sk)) (sk) fun e0 H0 hq => ?_
  obtain ⟨rfl, rfl⟩ := hq
  refine ⟨rfl, _, ⟨5, [(4, bO (s ++ [32])), (0, wO 4 (wB ⟨s, n, true⟩ [32])), (2, sU l)]⟩, rfl, rfl, ?_⟩
  refine (strW_c true ⟨s ++ [32], n, true⟩ x (by show n + (s ++ [32]).length ≤ _; simp; omega) (by omega)).holds.useT [] [(1, 4)] rfl (sk) (sk) fun e0 H0 hq => ?_
  obtain ⟨rfl, rfl⟩ := hq
  refine ⟨rfl, _, ⟨6, [(5, bO ((s ++ [32]) ++ x)), (0, wO 5 (wB ⟨s ++ [32], n, true⟩ x)), (2, sU l)]⟩, rfl, rfl, ?_⟩
  refine ⟨((n : Nat) : Int) + 1, wrap_i64 (by omega) (by omega), ?_⟩
  refine ⟨((k : Nat) : Int) + 1, wrap_i64 (by omega) (by omega), ?_⟩
  exact ⟨(⟨(s ++ [32]) ++ x, n + 1, true⟩, k + 1, true), ⟨hk, fun _ => rfl, by rw [e]; simp [put1]⟩, ent_of [] [(3, 5)] [] rfl (sk) (sk) rfl, by show l.length - (k + 1) < l.length - k; omega⟩
theorem putd_h (u : Bool) (st : Wst) (l : Toks) (h0 : 0 < l.length) (hb : st.sz + wt l ≤ 100000000) : HoldsD cx 70 [.ptr 0 0 0, .sl 2 1 0 l.length] .ret ⟨3, [(2, sU l), (1, bO st.s), (0, wOu u 1 st)]⟩ fun e m H' => m = .ret ∧ (e = .returned und ∧ H' = ⟨4, [(3, bO (puts st l).s), (0, wO 3 (puts st l))]⟩) := by
 refine holdsD_of_vc Tryz.func70 rfl rfl rfl ?_
 refine ⟨Wst × Nat × Bool, fun x => [(0, .ptr 0 0 0), (6, .sl 2 1 0 l.length), (7, .p (i64 l.length)), (8, .p (i64 x.2.1))], fun x => ⟨4, [(2, sU l), (3, bO x.1.s), (0, wOu x.2.2 3 x.1)]⟩, fun x => x.2.1 ≤ l.length ∧ (0 < x.2.1 → x.2.2 = true) ∧ x.1 = puts st (l.take x.2.1), fun x => l.length - x.2.1, ?_, ?_⟩
 ·exact ⟨(st, 0, u), ⟨by simp, fun h => absurd h (by simp), rfl⟩, ent_of [] [(3, 1)] [] rfl (sk) (by cases u <;> (exact sk)) rfl⟩
 rintro ⟨⟨s, n, b⟩, k, u⟩ ⟨k1, k2, k3⟩
 simp only [] at k1 k2 k3
 have hsz := puts_sz (l.take k) st
 rw [← k3] at hsz
 have hsz : n + s.length ≤ st.sz + wt (l.take k) := hsz
 by_cases hk : k < l.length
 rotate_left
 ·have hu := k2 (by omega)
  subst hu
  have e : puts st l = ⟨s, n, b⟩ := by rw [k3, take_all (by omega)]
  refine And.intro (fun h => absurd (show (k : Int) < (l.length : Nat) from h) (by omega)) (fun _ => ?_)
  rw [e]
  exact ⟨[], [(3, 3)], [], .returned und, ⟨4, [(3, bO s), (0, wO 3 ⟨s, n, b⟩)]⟩, rfl, sk, sk, rfl, rfl, rfl⟩
 have hw := wt_take hk
 have hlw := len_wt l
 have e : puts st (l.take (k + 1)) = put1 ⟨s, n, b⟩ (l.getD k []) := by rw [take_succ_getD [] hk, puts_app, ← k3]; rfl
 obtain ⟨x, hx⟩ : ∃ x, x = l.getD k [] := ⟨_, rfl⟩
 have hc : (l.map PV.str)[0 + ((k : Nat) : Int).toNat]? = some (.str (l.getD k [])) := by rw [Int.toNat_natCast, Nat.zero_add]; exact skcell hk
 rw [← hx] at e hw hc
 clear k2 k3
 cases b
 ·refine And.intro (fun _ => ?_) (fun h => absurd (show (k : Int) < (l.length : Nat) by omega) h)
  refine ⟨by omega, _, ⟨.str x, hc, rfl⟩, ?_⟩
  refine (strW_c u ⟨s, n, true⟩ x (by show n + s.length ≤ _; omega) (by omega)).holds.useT [] [(1, 3)] rfl (by cases u <;> (exact sk)) (sk) fun e0 H0 hq => ?_
  obtain ⟨rfl, rfl⟩ := hq
  refine ⟨rfl, _, ⟨5, [(4, bO (s ++ x)), (0, wO 4 (wB ⟨s, n, true⟩ x)), (2, sU l)]⟩, rfl, rfl, ?_⟩
  refine ⟨((n : Nat) : Int) + 1, wrap_i64 (by omega) (by omega), ?_⟩
  refine ⟨((k : Nat) : Int) + 1, wrap_i64 (by omega) (by omega), ?_⟩
  exact ⟨(⟨s ++ x, n + 1, true⟩, k + 1, true), ⟨hk, fun _ => rfl, by rw [e]; simp [put1]⟩, ent_of [] [(3, 4)] [] rfl (sk) (sk) rfl, by show l.length - (k + 1) < l.length - k; omega⟩
 ·refine And.intro (fun _ => ?_) (fun h => absurd (show (k : Int) < (l.length : Nat) by omega) h)
  refine ⟨by omega, _, ⟨.str x, hc, rfl⟩, ?_⟩
  refine (byteW_c u ⟨s, n, true⟩ 32 (by show n + s.length ≤ _; omega)).holds.useT [] [(1, 3)] rfl (by cases u <;> (exact sk)) (sk) fun e0 H0 hq => ?_
  obtain ⟨rfl, rfl⟩ := hq
  refine ⟨rfl, _, ⟨5, [(4, bO (s ++ [32])), (0, wO 4 (wB ⟨s, n, true⟩ [32])), (2, sU l)]⟩, rfl, rfl, ?_⟩
  refine (strW_c true ⟨s ++ [32], n, true⟩ x (by show n + (s ++ [32]).length ≤ _; simp; omega) (by omega)).holds.useT [] [(1, 4)] rfl (sk) (sk) fun e0 H0 hq => ?_
  obtain ⟨rfl, rfl⟩ := hq
  refine ⟨rfl, _, ⟨6, [(5, bO ((s ++ [32]) ++ x)), (0, wO 5 (wB ⟨s ++ [32], n, true⟩ x)), (2, sU l)]⟩, rfl, rfl, ?_⟩
  refine ⟨((n : Nat) : Int) + 1, wrap_i64 (by omega) (by omega), ?_⟩
  refine ⟨((k : Nat) : Int) + 1, wrap_i64 (by omega) (by omega), ?_⟩
  exact ⟨(⟨(s ++ [32]) ++ x, n + 1, true⟩, k + 1, true), ⟨hk, fun _ => rfl, by rw [e]; simp [put1]⟩, ent_of [] [(3, 5)] [] rfl (sk) (sk) rfl, by show l.length - (k + 1) < l.length - k; omega⟩
end Go.Proofs.YtohfoaplnjcihaaGreatDoor
namespace Go.Proofs
open Go.Shelf
def Tryz.laysM171_ren : Go.Shelf.Ren := ⟨fun | 171 => 69 | 243 => 113 | 246 => 157 | 283 => 181 | 284 => 182 | 285 => 183 | 286 => 184 | 129 => 198 | 317 => 197 | 318 => 199 | 319 => 200 | 320 => 201 | 337 => 204 | 338 => 205 | n => n, fun | 3 => 3 | 9 => 9 | 2 => 2 | 4 => 4 | 171 => 233 | 0 => 0 | 53 => 190 | 37 => 40 | 5 => 5 | 173 => 236 | 212 => 245 | 51 => 187 | 20 => 20 | 213 => 246 | 46 => 144 | 232 => 252 | 233 => 253 | n => n, fun | 17 => 5 | 18 => 6 | 19 => 7 | n => n⟩
theorem Tryz.laysM171 : Go.Proofs.LaysM.n171 Tryz.prog Tryz.laysM171_ren := {
 mixed := by kernel_rfl
 f129 := Tryz.func198.trans (congrArg some (by kernel_rfl))
 f171 := Tryz.func69.trans (congrArg some (by kernel_rfl))
 f243 := Tryz.func113.trans (congrArg some (by kernel_rfl))
 f246 := Tryz.func157.trans (congrArg some (by kernel_rfl))
 f283 := Tryz.func181.trans (congrArg some (by kernel_rfl))
 f284 := Tryz.func182.trans (congrArg some (by kernel_rfl))
 f285 := Tryz.func183.trans (congrArg some (by kernel_rfl))
 f286 := Tryz.func184.trans (congrArg some (by kernel_rfl))
 f317 := Tryz.func197.trans (congrArg some (by kernel_rfl))
 f318 := Tryz.func199.trans (congrArg some (by kernel_rfl))
 f319 := Tryz.func200.trans (congrArg some (by kernel_rfl))
 f320 := Tryz.func201.trans (congrArg some (by kernel_rfl))
 f337 := Tryz.func204.trans (congrArg some (by kernel_rfl))
 f338 := Tryz.func205.trans (congrArg some (by kernel_rfl))
 t0 := Tryz.underlying0
 a0 := Tryz.isAgg0
 z0 := Tryz.sizeOf0
 v0 := Tryz.zeroValue0
 t2 := Tryz.underlying2
 a2 := Tryz.isAgg2
 z2 := Tryz.sizeOf2
 v2 := Tryz.zeroValue2
 t3 := Tryz.underlying3
 a3 := Tryz.isAgg3
 z3 := Tryz.sizeOf3
 v3 := Tryz.zeroValue3
 t4 := Tryz.underlying4
 a4 := Tryz.isAgg4
 z4 := Tryz.sizeOf4
 v4 := Tryz.zeroValue4
 t5 := Tryz.underlying5
 a5 := Tryz.isAgg5
 z5 := Tryz.sizeOf5
 v5 := Tryz.zeroValue5
 t9 := Tryz.underlying9
 a9 := Tryz.isAgg9
 z9 := Tryz.sizeOf9
 v9 := Tryz.zeroValue9
 t20 := Tryz.underlying20
 a20 := Tryz.isAgg20
 z20 := Tryz.sizeOf20
 v20 := Tryz.zeroValue20
 t37 := Tryz.underlying40
 a37 := Tryz.isAgg40
 z37 := Tryz.sizeOf40
 v37 := Tryz.zeroValue40
 t46 := Tryz.underlying144
 a46 := Tryz.isAgg144
 z46 := Tryz.sizeOf144
 v46 := Tryz.zeroValue144
 t51 := Tryz.underlying187
 a51 := Tryz.isAgg187
 z51 := Tryz.sizeOf187
 v51 := Tryz.zeroValue187
 t53 := Tryz.underlying190
 a53 := Tryz.isAgg190
 z53 := Tryz.sizeOf190
 v53 := Tryz.zeroValue190
 t171 := Tryz.underlying233
 a171 := Tryz.isAgg233
 z171 := Tryz.sizeOf233
 v171 := Tryz.zeroValue233
 t173 := Tryz.underlying236
 a173 := Tryz.isAgg236
 z173 := Tryz.sizeOf236
 v173 := Tryz.zeroValue236
 t212 := Tryz.underlying245
 a212 := Tryz.isAgg245
 z212 := Tryz.sizeOf245
 v212 := Tryz.zeroValue245
 t213 := Tryz.underlying246
 a213 := Tryz.isAgg246
 z213 := Tryz.sizeOf246
 t232 := Tryz.underlying252
 a232 := Tryz.isAgg252
 z232 := Tryz.sizeOf252
 v232 := Tryz.zeroValue252
 t233 := Tryz.underlying253
 a233 := Tryz.isAgg253
 z233 := Tryz.sizeOf253
 v233 := Tryz.zeroValue253
 g17 := by kernel_rfl
 g18 := by kernel_rfl
 g19 := by kernel_rfl
 i0 := by kernel_rfl
 i2 := by kernel_rfl
 i3 := by kernel_rfl
 i4 := by kernel_rfl
 i5 := by kernel_rfl
 i9 := by kernel_rfl
 i20 := by kernel_rfl
 i37 := by kernel_rfl
 i46 := by kernel_rfl
 i51 := by kernel_rfl
 i53 := by kernel_rfl
 i171 := by kernel_rfl
 i173 := by kernel_rfl
 i212 := by kernel_rfl
 i232 := by kernel_rfl
 i233 := by kernel_rfl
 m17 := by kernel_rfl
 m18 := by kernel_rfl
 m19 := by kernel_rfl }
open Go.RowKit Go.Sort Go.Lib in
theorem Tryz.strconv_Itoa (n : Int) (h0 : -9223372036854775808 ≤ n) (h1 : n ≤ 9223372036854775807) (w : World) (htab : Lib.TabIs Tryz.prog w "internal/strconv.uint64pow10" .u64 Lib.pow10Tab) :
  Calls Tryz.prog 69 #[.int .i64 n] w fun e w' => e = .returned (.string ⟨(Lib.itoa n).toArray⟩) ∧ ∃ k os, w' = grow (w.drewN k) os := Any.strconv_Itoa Tryz.laysM171 n h0 h1 w htab
end Go.Proofs
namespace Go.Proofs.YtohfoaplnjcihaaGreatDoor
open Go Y RowKit
set_option maxRecDepth 100000
set_option maxHeartbeats 4000000
theorem later_below {Γ : Gm} {w w' : World} (hR : R cx Γ ⟨0, []⟩ w) (hb : Below w.heap.size w w') : Later cx 0 Γ ⟨0, []⟩ w Γ ⟨0, []⟩ w' := by
 have hfz : ∀ b arr, Γ.fz b = some arr → ∃ t z, w'.heap[b]? = some (.cells ⟨arr⟩ t z) := by
  intro b arr h
  obtain ⟨t, z, e⟩ := hR.fzok b arr h
  have hlt : b < w.heap.size := by
   rcases Nat.lt_or_ge b w.heap.size with h1 | h1
   ·exact h1
   ·rw [Array.getElem?_eq_none h1] at e; cases e
  exact ⟨t, z, by rw [hb.block b hlt]; exact e⟩
 refine ⟨⟨hR.glob, hR.fresh, hfz, fun n o hn => by simp [lget] at hn, fun n o q hn => by simp [lget] at hn, fun n o m p q q' hn => by simp [lget] at hn⟩, Ext.refl _ _, Nat.le_refl _, ⟨hb.os, hb.tape, hb.output, hb.size, fun k hk _ => hb.block k hk, fun k hk => .inr hk, Fzn.le_refl _, fun k a h => .inl h⟩⟩
theorem pure_below {g : FuncId} {fn : Func} {c : Code} {args : List PV} {x : PV} (hf : cx.P.funcs[g]? = some fn) (hname : (fn.name == "runtime.NumGoroutine") = false) (hbd : fn.body = some c) (hx : Res [] 5 (.p x) x)
  (h : ∀ (Γ : Gm) (w : World) (args' : List Value), R cx Γ ⟨0, []⟩ w → VRL Γ (args.map .p) args' → ∃ v', VP Γ.fz x v' ∧ Calls cx.P g ⟨args'⟩ w fun e w' => e = .returned v' ∧ Below w.heap.size w w') : Pure cx g args (· = .ret [x]) := by
 intro Γ w args' hR hA
 obtain ⟨v', h1, h2⟩ := h Γ w args' hR hA
 refine .inl ⟨run_enter hf hname hbd _ _, h2.mono fun e w' ⟨he, hw⟩ => ?_⟩
 subst he
 exact ⟨.returned (.p x), ⟨0, []⟩, Γ, ⟨.ret [x], ⟨rfl, _, rfl, hx⟩, rfl⟩, ⟨v', rfl, h1⟩, later_below hR hw⟩
theorem vpl_tab {fz : Fzn} {k : IntKind} : ∀ (l : List Int) (us : List Value), VPL fz (l.map fun z => PV.int k z) us → us = l.map fun z => Value.int k z
 | [], us, h => by simpa only [List.map, VPL] using h
 | z :: l, us, h => by
  simp only [List.map, VPL, VP] at h
  obtain ⟨u, us', rfl, rfl, h⟩ := h
  rw [vpl_tab l us' h]; rfl
theorem pow10_is {Γ : Gm} {w : World} (hR : R cx Γ ⟨0, []⟩ w) : Lib.TabIs Tryz.prog w "internal/strconv.uint64pow10" .u64 Lib.pow10Tab := by
 obtain ⟨h, arr', ha, hlen⟩ := hR.glob 5 (pow10L.map fun z => PV.int .u64 z) rfl
 simp only [VP] at h
 obtain ⟨b, o, arr, us, h1, h2, h5, pre, post, h3, h4, _⟩ := h
 injection h1 with h1
 injection h1 with h1
 injection h1 with hb ho
 subst hb ho
 have hus := vpl_tab _ _ h5
 have hp : pre = [] := List.eq_nil_of_length_eq_zero h4
 subst hp
 have e1 : arr' = arr := by rw [ha] at h2; injection h2
 subst e1
 have hpost : post = [] := by
  apply List.eq_nil_of_length_eq_zero
  rw [h3, hus] at hlen
  simp only [List.length_append, List.length_map, List.length_nil] at hlen
  omega
 subst hpost
 obtain ⟨t, z, e⟩ := hR.fzok _ _ h2
 have hg : Tryz.prog.globalNamed "internal/strconv.uint64pow10" = some 5 := by kernel_rfl
 unfold Lib.TabIs World.var?
 rw [hg]
 simp only [Option.bind, e, h3, hus, List.nil_append, List.append_nil]
 rfl
theorem ten_of : ∀ n, n < 10 → UInt8.ofNat (48 + n) = tenL.getD n 0 := by decide
theorem dec_dig : ∀ (f n : Nat), n < 10 ^ (f + 1) → Lib.decDigits n = digN (f + 1) n
 | f, n, h => by
  rw [Lib.decDigits, digN]
  by_cases c : n < 10
  ·rw [dif_pos c, if_pos c, ten_of n c]
  ·rw [dif_neg c, if_neg c]
   obtain ⟨g, rfl⟩ : ∃ g, f = g + 1 := by
    cases f with
    | zero => exfalso; omega
    | succ g => exact ⟨g, rfl⟩
   rw [dec_dig g (n / 10) (by rw [Nat.pow_succ] at h; omega), ten_of (n % 10) (by omega)]
theorem itoa_c (n : Int) (h : natB n = true) : Pure cx 69 [i64 n] (· = .ret [.str (digT n)]) := by
 simp only [natB, Bool.and_eq_true, decide_eq_true_eq] at h
 refine pure_below Tryz.func69 rfl rfl rfl fun Γ w args' hR hA => ?_
 simp only [List.map, VRL, VR, VP] at hA
 obtain ⟨a, as', rfl, rfl, rfl⟩ := hA
 have e : Lib.itoa n = digT n := by
  rw [Lib.itoa, if_neg (by omega), dec_dig 3 n.toNat (by show n.toNat < 10000; omega)]; rfl
 have hi := Tryz.strconv_Itoa n (by omega) (by omega) w (pow10_is hR)
 rw [e] at hi
 refine ⟨_, rfl, hi.mono fun e w' ⟨h1, k, os, h2⟩ => ⟨h1, ?_⟩⟩
 subst h2
 exact ⟨rfl, rfl, rfl, by show w.heap.size ≤ (w.heap ++ os).size; rw [Array.size_append]; omega, fun j hj => by show (w.heap ++ os)[j]? = _; rw [Array.getElem?_append_left hj]⟩
end Go.Proofs.YtohfoaplnjcihaaGreatDoor
namespace Go.Proofs.YtohfoaplnjcihaaGreatDoor
open Go Y
set_option maxRecDepth 100000
set_option maxHeartbeats 4000000
theorem ref_w (st : Wst) (r : Rf) (hr : refB r = true) (hb : st.sz + wt (refT r) ≤ 100000000) : HoldsG cx 114 [.ptr 0 0 0, .p r.pv] (wH true st) (WQ (puts st (refT r))) := by
 obtain ⟨nm, m, pl, n⟩ := r
 rw [refB, Bool.and_eq_true] at hr
 obtain ⟨hn, hr⟩ := hr
 simp only [] at hr hn
 by_cases h3 : m = 3
 ·subst h3
  have e : refT ⟨nm, 3, pl, n⟩ = ([] ++ [nm]) ++ [tLB, tAll, tRB] := rfl
  rw [e] at hb ⊢
  refine holdsN_of_vc Tryz.func114 rfl rfl rfl ?_
  refine (put_h true (puts st ([])) ([nm]) (by simp) (by have hz := puts_sz ([]) st; simp only [wt_app, wt] at hb hz ⊢; omega)).holds.useT [] [(2, 3)] rfl (sk) (sk) fun e0 H0 hq => ?_
  rw [← puts_app] at hq
  obtain ⟨rfl, rfl⟩ := hq
  refine ⟨rfl, _, ⟨5, ((4, bO (puts st ([] ++ [nm])).s) :: (0, wO 4 (puts st ([] ++ [nm]))) :: [(2, rO ⟨nm, 3, pl, n⟩)])⟩, rfl, rfl, ?_⟩
  refine And.intro (fun h => absurd (show (3 : Int) = 1 from h) (by decide)) (fun _ => ?_)
  refine And.intro (fun h => absurd (show (3 : Int) = 2 from h) (by decide)) (fun _ => ?_)
  refine And.intro (fun _ => ?_) (fun h => absurd rfl h)
  refine (put_h true (puts st ([] ++ [nm])) ([tLB, tAll, tRB]) (by simp) (by have hz := puts_sz ([] ++ [nm]) st; simp only [wt_app, wt] at hb hz ⊢; omega)).holds.useT [] [(1, 4), (2, 5)] rfl (sk) (sk) fun e0 H0 hq => ?_
  rw [← puts_app] at hq
  obtain ⟨rfl, rfl⟩ := hq
  refine ⟨rfl, _, ⟨7, ((6, bO (puts st ([] ++ [nm] ++ [tLB, tAll, tRB])).s) :: (0, wO 6 (puts st ([] ++ [nm] ++ [tLB, tAll, tRB]))) :: [(2, rO ⟨nm, 3, pl, n⟩)])⟩, rfl, rfl, ?_⟩
  exact ⟨[], [(2, 6)], [], .returned und, _, rfl, sk, sk, rfl, rfl⟩
 by_cases h2 : m = 2
 ·subst h2
  have hr : (decide (pl = []) && natB n) = true := hr
  simp only [Bool.and_eq_true] at hr
  have e : refT ⟨nm, 2, pl, n⟩ = ([] ++ [nm]) ++ [tLB, digT n, tRB] := rfl
  rw [e] at hb ⊢
  refine holdsN_of_vc Tryz.func114 rfl rfl rfl ?_
  refine (put_h true (puts st ([])) ([nm]) (by simp) (by have hz := puts_sz ([]) st; simp only [wt_app, wt] at hb hz ⊢; omega)).holds.useT [] [(2, 3)] rfl (sk) (sk) fun e0 H0 hq => ?_
  rw [← puts_app] at hq
  obtain ⟨rfl, rfl⟩ := hq
  refine ⟨rfl, _, ⟨5, ((4, bO (puts st ([] ++ [nm])).s) :: (0, wO 4 (puts st ([] ++ [nm]))) :: [(2, rO ⟨nm, 2, pl, n⟩)])⟩, rfl, rfl, ?_⟩
  refine And.intro (fun h => absurd (show (2 : Int) = 1 from h) (by decide)) (fun _ => ?_)
  refine And.intro (fun _ => ?_) (fun h => absurd rfl h)
  refine (itoa_c n hr.2).eq rfl ?_
  refine (put_h true (puts st ([] ++ [nm])) ([tLB, digT n, tRB]) (by simp) (by have hz := puts_sz ([] ++ [nm]) st; simp only [wt_app, wt] at hb hz ⊢; omega)).holds.useT [] [(1, 4), (2, 5)] rfl (sk) (sk) fun e0 H0 hq => ?_
  rw [← puts_app] at hq
  obtain ⟨rfl, rfl⟩ := hq
  refine ⟨rfl, _, ⟨7, ((6, bO (puts st ([] ++ [nm] ++ [tLB, digT n, tRB])).s) :: (0, wO 6 (puts st ([] ++ [nm] ++ [tLB, digT n, tRB]))) :: [(2, rO ⟨nm, 2, pl, n⟩)])⟩, rfl, rfl, ?_⟩
  exact ⟨[], [(2, 6)], [], .returned und, _, rfl, sk, sk, rfl, rfl⟩
 by_cases h1 : m = 1
 ·subst h1
  have hr : (nameN pl && natB n) = true := hr
  simp only [Bool.and_eq_true] at hr
  by_cases h0 : 0 < n
  ·have e : refT ⟨nm, 1, pl, n⟩ = ((([] ++ [nm]) ++ [tLB, pl]) ++ [tPlus, digT n]) ++ [tRB] := by simp [refT, tailT, h0]
   rw [e] at hb ⊢
   refine holdsN_of_vc Tryz.func114 rfl rfl rfl ?_
   refine (put_h true (puts st ([])) ([nm]) (by simp) (by have hz := puts_sz ([]) st; simp only [wt_app, wt] at hb hz ⊢; omega)).holds.useT [] [(2, 3)] rfl (sk) (sk) fun e0 H0 hq => ?_
   rw [← puts_app] at hq
   obtain ⟨rfl, rfl⟩ := hq
   refine ⟨rfl, _, ⟨5, ((4, bO (puts st ([] ++ [nm])).s) :: (0, wO 4 (puts st ([] ++ [nm]))) :: [(2, rO ⟨nm, 1, pl, n⟩)])⟩, rfl, rfl, ?_⟩
   refine And.intro (fun _ => ?_) (fun h => absurd rfl h)
   refine (put_h true (puts st ([] ++ [nm])) ([tLB, pl]) (by simp) (by have hz := puts_sz ([] ++ [nm]) st; simp only [wt_app, wt] at hb hz ⊢; omega)).holds.useT [] [(1, 4), (2, 5)] rfl (sk) (sk) fun e0 H0 hq => ?_
   rw [← puts_app] at hq
   obtain ⟨rfl, rfl⟩ := hq
   refine ⟨rfl, _, ⟨7, ((6, bO (puts st ([] ++ [nm] ++ [tLB, pl])).s) :: (0, wO 6 (puts st ([] ++ [nm] ++ [tLB, pl]))) :: [(2, rO ⟨nm, 1, pl, n⟩)])⟩, rfl, rfl, ?_⟩
   refine And.intro (fun _ => ?_) (fun h => absurd h0 h)
   refine (itoa_c n hr.2).eq rfl ?_
   refine (put_h true (puts st (([] ++ [nm]) ++ [tLB, pl])) ([tPlus, digT n]) (by simp) (by have hz := puts_sz (([] ++ [nm]) ++ [tLB, pl]) st; simp only [wt_app, wt] at hb hz ⊢; omega)).holds.useT [] [(1, 6), (2, 7)] rfl (sk) (sk) fun e0 H0 hq => ?_
   rw [← puts_app] at hq
   obtain ⟨rfl, rfl⟩ := hq
   refine ⟨rfl, _, ⟨9, ((8, bO (puts st (([] ++ [nm]) ++ [tLB, pl] ++ [tPlus, digT n])).s) :: (0, wO 8 (puts st (([] ++ [nm]) ++ [tLB, pl] ++ [tPlus, digT n]))) :: [(2, rO ⟨nm, 1, pl, n⟩)])⟩, rfl, rfl, ?_⟩
   refine (put_h true (puts st ((([] ++ [nm]) ++ [tLB, pl]) ++ [tPlus, digT n])) ([tRB]) (by simp) (by have hz := puts_sz ((([] ++ [nm]) ++ [tLB, pl]) ++ [tPlus, digT n]) st; simp only [wt_app, wt] at hb hz ⊢; omega)).holds.useT [] [(1, 8), (2, 9)] rfl (sk) (sk) fun e0 H0 hq => ?_
   rw [← puts_app] at hq
   obtain ⟨rfl, rfl⟩ := hq
   refine ⟨rfl, _, ⟨11, ((10, bO (puts st ((([] ++ [nm]) ++ [tLB, pl]) ++ [tPlus, digT n] ++ [tRB])).s) :: (0, wO 10 (puts st ((([] ++ [nm]) ++ [tLB, pl]) ++ [tPlus, digT n] ++ [tRB]))) :: [(2, rO ⟨nm, 1, pl, n⟩)])⟩, rfl, rfl, ?_⟩
   exact ⟨[], [(2, 10)], [], .returned und, _, rfl, sk, sk, rfl, rfl⟩
  ·have e : refT ⟨nm, 1, pl, n⟩ = (([] ++ [nm]) ++ [tLB, pl]) ++ [tRB] := by simp [refT, tailT, h0]
   rw [e] at hb ⊢
   refine holdsN_of_vc Tryz.func114 rfl rfl rfl ?_
   refine (put_h true (puts st ([])) ([nm]) (by simp) (by have hz := puts_sz ([]) st; simp only [wt_app, wt] at hb hz ⊢; omega)).holds.useT [] [(2, 3)] rfl (sk) (sk) fun e0 H0 hq => ?_
   rw [← puts_app] at hq
   obtain ⟨rfl, rfl⟩ := hq
   refine ⟨rfl, _, ⟨5, ((4, bO (puts st ([] ++ [nm])).s) :: (0, wO 4 (puts st ([] ++ [nm]))) :: [(2, rO ⟨nm, 1, pl, n⟩)])⟩, rfl, rfl, ?_⟩
   refine And.intro (fun _ => ?_) (fun h => absurd rfl h)
   refine (put_h true (puts st ([] ++ [nm])) ([tLB, pl]) (by simp) (by have hz := puts_sz ([] ++ [nm]) st; simp only [wt_app, wt] at hb hz ⊢; omega)).holds.useT [] [(1, 4), (2, 5)] rfl (sk) (sk) fun e0 H0 hq => ?_
   rw [← puts_app] at hq
   obtain ⟨rfl, rfl⟩ := hq
   refine ⟨rfl, _, ⟨7, ((6, bO (puts st ([] ++ [nm] ++ [tLB, pl])).s) :: (0, wO 6 (puts st ([] ++ [nm] ++ [tLB, pl]))) :: [(2, rO ⟨nm, 1, pl, n⟩)])⟩, rfl, rfl, ?_⟩
   refine And.intro (fun h => absurd h h0) (fun _ => ?_)
   refine (put_h true (puts st (([] ++ [nm]) ++ [tLB, pl])) ([tRB]) (by simp) (by have hz := puts_sz (([] ++ [nm]) ++ [tLB, pl]) st; simp only [wt_app, wt] at hb hz ⊢; omega)).holds.useT [] [(1, 6), (2, 7)] rfl (sk) (sk) fun e0 H0 hq => ?_
   rw [← puts_app] at hq
   obtain ⟨rfl, rfl⟩ := hq
   refine ⟨rfl, _, ⟨9, ((8, bO (puts st (([] ++ [nm]) ++ [tLB, pl] ++ [tRB])).s) :: (0, wO 8 (puts st (([] ++ [nm]) ++ [tLB, pl] ++ [tRB]))) :: [(2, rO ⟨nm, 1, pl, n⟩)])⟩, rfl, rfl, ?_⟩
   exact ⟨[], [(2, 8)], [], .returned und, _, rfl, sk, sk, rfl, rfl⟩
 ·have e : refT ⟨nm, m, pl, n⟩ = [] ++ [nm] := by simp [refT, tailT, h1, h2, h3]
  rw [e] at hb ⊢
  refine holdsN_of_vc Tryz.func114 rfl rfl rfl ?_
  refine (put_h true (puts st ([])) ([nm]) (by simp) (by have hz := puts_sz ([]) st; simp only [wt_app, wt] at hb hz ⊢; omega)).holds.useT [] [(2, 3)] rfl (sk) (sk) fun e0 H0 hq => ?_
  rw [← puts_app] at hq
  obtain ⟨rfl, rfl⟩ := hq
  refine ⟨rfl, _, ⟨5, ((4, bO (puts st ([] ++ [nm])).s) :: (0, wO 4 (puts st ([] ++ [nm]))) :: [(2, rO ⟨nm, m, pl, n⟩)])⟩, rfl, rfl, ?_⟩
  refine And.intro (fun h => absurd h h1) (fun _ => ?_)
  refine And.intro (fun h => absurd h h2) (fun _ => ?_)
  refine And.intro (fun h => absurd h h3) (fun _ => ?_)
  exact ⟨[], [(2, 4)], [], .returned und, _, rfl, sk, sk, rfl, rfl⟩
theorem sep_take {α : Type} {f : α → Toks} {l : List α} {k : Nat} (d : α) (h : k < l.length) : sepT f (l.take (k + 1)) = sepT f (l.take k) ++ ((if k = 0 then [] else [tComma]) ++ f (l.getD k d)) := by
 rw [take_succ_getD d h]
 cases k with
 | zero => simp [sepT]
 | succ k =>
  rw [if_neg (by omega)]
  cases l with
  | nil => simp at h
  | cons a l => simp [sepT]
theorem sep_wt {α : Type} {f : α → Toks} (l : List α) (k : Nat) : wt (sepT f (l.take k)) ≤ wt (sepT f l) := by
 cases l with
 | nil => simp
 | cons a l =>
  cases k with
  | zero => exact Nat.zero_le _
  | succ k =>
   have e : l.flatMap (fun b => tComma :: f b) = (l.take k).flatMap (fun b => tComma :: f b) ++ (l.drop k).flatMap fun b => tComma :: f b := by rw [← List.flatMap_append, List.take_append_drop]
   rw [List.take_succ_cons, sepT, sepT, e, wt_app, wt_app, wt_app]
   omega
theorem refs_take {key : List UInt8} {l : List Rf} {k : Nat} (h : k < l.length) : refsT key (l.take (k + 1)) = (refsT key (l.take k) ++ [if k = 0 then key else tComma]) ++ refT (l.getD k rf0) := by
 have hs := sep_take (f := refT) rf0 h
 have hn : l.take (k + 1) ≠ [] := fun e => by have := congrArg List.length e; rw [List.length_take, List.length_nil] at this; omega
 rw [refsT, if_neg hn, hs]
 by_cases c : k = 0
 ·subst c; simp [refsT, sepT]
 ·have hn : l.take k ≠ [] := fun e => by have := congrArg List.length e; rw [List.length_take, List.length_nil] at this; omega
  rw [refsT, if_neg hn, if_neg c, if_neg c]; simp
theorem refs_wt {key : List UInt8} (l : List Rf) (k : Nat) : wt (refsT key (l.take k)) ≤ wt (refsT key l) := by
 unfold refsT
 split
 ·exact Nat.zero_le _
 ·rename_i h
  rw [if_neg (fun e => h (by rw [e]; simp))]
  have := sep_wt (f := refT) l k
  simp only [wt]; omega
theorem refs_w (st : Wst) (key : List UInt8) (l : List Rf) (hv : ∀ r ∈ l, refB r = true) (hl : l.length ≤ 8) (hb0 : st.sz + wt (refsT key l) ≤ 100000000) : HoldsG cx 71 [.ptr 0 0 0, .p (.str key), .p (rfl_ l)] (wH true st) (WQ (puts st (refsT key l))) := by
 have hm : (l.map Rf.cells).length = l.length := List.length_map ..
 refine holdsN_of_vc Tryz.func71 rfl rfl rfl ?_
 refine ⟨Toks × Nat, fun x => [(0, .ptr 0 0 0), (1, .p (.str key)), (8, .p (rfl_ l)), (9, .p (i64 (l.map Rf.cells).length)), (10, .p (i64 x.2))], fun x => wH' (puts st x.1), fun x => x.2 ≤ l.length ∧ x.1 = refsT key (l.take x.2), fun x => l.length - x.2, ?_, ?_⟩
 ·exact ⟨([], 0), ⟨Nat.zero_le _, rfl⟩, ent_of [] [(2, 1)] [] rfl (sk) (sk) rfl⟩
 rintro ⟨P, k⟩ ⟨k1, k2⟩
 simp only [] at k1 k2
 (first | refine brLt (fun m1 => ?_) (fun m1 => ?_) | refine brLe (fun m1 => ?_) (fun m1 => ?_) | refine brEq (fun m1 => ?_) (fun m1 => ?_))
 rotate_left
 ·have m1 : ¬ (k : Int) < ((l.map Rf.cells).length : Nat) := m1
  rw [hm] at m1
  have e : l.take k = l := take_all (by omega)
  rw [e] at k2
  exact ⟨[], [(2, 2)], [], .returned und, wH' (puts st P), rfl, sk, sk, rfl, by rw [k2]⟩
 have m1 : (k : Int) < ((l.map Rf.cells).length : Nat) := m1
 rw [hm] at m1
 have hk : k < l.length := by omega
 have hr := hv _ (getD_memL rf0 hk)
 have et := refs_take (key := key) hk
 have hw := refs_wt (key := key) l (k + 1)
 have hcell := rcell hk
 generalize l.getD k rf0 = r at hr et hcell
 rw [et, ← k2] at hw
 rw [← k2] at et
 clear k2
 have hb : st.sz + wt ((P ++ [if k = 0 then key else tComma]) ++ refT r) ≤ 100000000 := by omega
 refine ⟨_, ⟨by omega, r.cells, hcell, rfl⟩, ?_⟩
 by_cases c : k = 0
 ·rw [if_pos c] at hb et
  refine And.intro (fun _ => ?_) (fun h => absurd (show (k : Int) = 0 by omega) h)
  refine (put_h true (puts st (P)) ([key]) (by simp) (by have hz := puts_sz (P) st; simp only [wt_app, wt] at hb hz ⊢; omega)).holds.useT [] [(1, 2), (2, 4)] rfl (sk) (sk) fun e0 H0 hq => ?_
  rw [← puts_app] at hq
  obtain ⟨rfl, rfl⟩ := hq
  refine ⟨rfl, _, ⟨6, ((5, bO (puts st (P ++ [key])).s) :: (0, wO 5 (puts st (P ++ [key]))) :: [(3, rO r)])⟩, rfl, rfl, ?_⟩
  refine (ref_w (puts st (P ++ [key])) r hr (by have hz := puts_sz (P ++ [key]) st; simp only [wt_app, wt] at hb hz ⊢; omega)).holds.useT [] [(1, 5)] rfl (sk) (sk) fun e0 H0 hq => ?_
  unfold WQ at hq
  rw [← puts_app] at hq
  obtain ⟨rfl, rfl⟩ := hq
  refine ⟨rfl, _, ⟨7, ((6, bO (puts st ((P ++ [key]) ++ refT r)).s) :: (0, wO 6 (puts st ((P ++ [key]) ++ refT r))) :: [(3, rO r)])⟩, rfl, rfl, ?_⟩
  refine ⟨_, wrap_i64 (by omega) (by omega), ?_⟩
  exact ⟨((P ++ [key]) ++ refT r, k + 1), ⟨hk, et.symm⟩, ent_of [] [(2, 6)] [] rfl (sk) (sk) rfl, by show l.length - (k + 1) < l.length - k; omega⟩
 ·rw [if_neg c] at hb et
  refine And.intro (fun h => absurd (show (k : Int) = 0 from h) (by omega)) (fun _ => ?_)
  refine (put_h true (puts st (P)) ([tComma]) (by simp) (by have hz := puts_sz (P) st; simp only [wt_app, wt] at hb hz ⊢; omega)).holds.useT [] [(1, 2), (2, 4)] rfl (sk) (sk) fun e0 H0 hq => ?_
  rw [← puts_app] at hq
  obtain ⟨rfl, rfl⟩ := hq
  refine ⟨rfl, _, ⟨6, ((5, bO (puts st (P ++ [tComma])).s) :: (0, wO 5 (puts st (P ++ [tComma]))) :: [(3, rO r)])⟩, rfl, rfl, ?_⟩
  refine (ref_w (puts st (P ++ [tComma])) r hr (by have hz := puts_sz (P ++ [tComma]) st; simp only [wt_app, wt] at hb hz ⊢; omega)).holds.useT [] [(1, 5)] rfl (sk) (sk) fun e0 H0 hq => ?_
  unfold WQ at hq
  rw [← puts_app] at hq
  obtain ⟨rfl, rfl⟩ := hq
  refine ⟨rfl, _, ⟨7, ((6, bO (puts st ((P ++ [tComma]) ++ refT r)).s) :: (0, wO 6 (puts st ((P ++ [tComma]) ++ refT r))) :: [(3, rO r)])⟩, rfl, rfl, ?_⟩
  refine ⟨_, wrap_i64 (by omega) (by omega), ?_⟩
  exact ⟨((P ++ [tComma]) ++ refT r, k + 1), ⟨hk, et.symm⟩, ent_of [] [(2, 6)] [] rfl (sk) (sk) rfl, by show l.length - (k + 1) < l.length - k; omega⟩
end Go.Proofs.YtohfoaplnjcihaaGreatDoor
namespace Go.Proofs.YtohfoaplnjcihaaGreatDoor
open Go Y
set_option maxRecDepth 100000
set_option maxHeartbeats 4000000
theorem ten_val : ∀ n, n < 10 → (tenL.getD n 0).toNat = 48 + n := by decide
structure DigOK (t : List UInt8) (n : Nat) (f : Nat) : Prop where
 ne : t ≠ []
 len : t.length ≤ f
 dig : ∀ c ∈ t, 48 ≤ c.toNat ∧ c.toNat ≤ 57
 zero : n = 0 → t = [48]
 head : 0 < n → (t.headD 0).toNat ≠ 48
 val : valD t = n
theorem dig_ok : ∀ (f n : Nat), n < 10 ^ (f + 1) → DigOK (digN (f + 1) n) n (f + 1)
 | f, n, h => by
  rw [digN]
  by_cases c : n < 10
  ·rw [if_pos c]
   have hv := ten_val n c
   refine ⟨by simp, by simp, fun x hx => ?_, fun e => by subst e; rfl, fun e => ?_, ?_⟩
   ·rw [List.mem_singleton.1 hx]; omega
   ·show (tenL.getD n 0).toNat ≠ 48; omega
   ·show 10 * (0 : Int) + (((tenL.getD n 0).toNat : Int) - 48) = n; omega
  ·rw [if_neg c]
   obtain ⟨g, rfl⟩ : ∃ g, f = g + 1 := by
    cases f with
    | zero => exfalso; omega
    | succ g => exact ⟨g, rfl⟩
   have ih := dig_ok g (n / 10) (by rw [Nat.pow_succ] at h; omega)
   have hv := ten_val (n % 10) (by omega)
   refine ⟨by simp, by have := ih.len; simp only [List.length_append, List.length_singleton]; omega, fun x hx => ?_, fun e => by omega, fun _ => ?_, ?_⟩
   ·rcases List.mem_append.1 hx with hx | hx
    ·exact ih.dig x hx
    ·rw [List.mem_singleton.1 hx]; omega
   ·have hh := ih.head (by omega)
    have hne := ih.ne
    cases hd : digN (g + 1) (n / 10) with
    | nil => exact absurd hd hne
    | cons x r => rw [hd] at hh; exact hh
   ·rw [valD_snoc, ih.val]; omega
theorem digT_num {n : Int} (h : natB n = true) : numN (digT n) = true ∧ valD (digT n) = n := by
 simp only [natB, Bool.and_eq_true, decide_eq_true_eq] at h
 have hd := dig_ok 3 n.toNat (by show n.toNat < 10000; omega)
 refine ⟨?_, by rw [digT, hd.val]; omega⟩
 unfold numN digT
 simp only [Bool.and_eq_true, decide_eq_true_eq, Bool.or_eq_true]
 refine ⟨⟨⟨hd.ne, hd.len⟩, spanN_all.2 fun c hc => ?_⟩, ?_⟩
 ·have := hd.dig c hc
  simp only [isDig, Bool.and_eq_true, decide_eq_true_eq]; exact this
 ·by_cases c : n.toNat = 0
  ·exact .inl (hd.zero c)
  ·exact .inr (hd.head (by omega))
def AtW (ws : List Wd) : Nat → Toks → Prop
 | _, [] => True
 | q, t :: r => txt ws q = t ∧ AtW ws (q + 1) r
theorem name_ne {t s : List UInt8} (h : nameN t = true) (hs : s ∈ keysL ++ marksL) : t ≠ s := by
 intro e
 subst e
 have key : ∀ s ∈ keysL ++ marksL, nameN s = false := by decide
 rw [key t hs] at h
 cases h
theorem num_ne {t s : List UInt8} (h : numN t = true) (hs : s ∈ keysL ++ marksL) : t ≠ s := by
 intro e
 subst e
 have key : ∀ s ∈ keysL ++ marksL, numN s = false := by decide
 rw [key t hs] at h
 cases h
section
variable {ws : List Wd} (hg : GoodW ws)
include hg
end
end Go.Proofs.YtohfoaplnjcihaaGreatDoor
namespace Go.Proofs.YtohfoaplnjcihaaGreatDoor
open Go Y
set_option maxRecDepth 100000
set_option maxHeartbeats 4000000
theorem incB_at {l : List Int} : ∀ (f k : Nat), incB l f k = true → ∀ i, k ≤ i → i < k + f → natB (l.getD i 0) = true ∧ (i = 0 ∨ l.getD (i - 1) 0 < l.getD i 0)
 | 0, k, _, i, h1, h2 => absurd h2 (by omega)
 | f + 1, k, h, i, h1, h2 => by
  rw [incB] at h
  simp only [Bool.and_eq_true, Bool.or_eq_true, decide_eq_true_eq] at h
  by_cases c : i = k
  ·subst c
   exact h.1
  ·exact incB_at f (k + 1) h.2 i (by omega) (by omega)
theorem setB_facts {l : List Int} (h : setB l = true) : l ≠ [] ∧ (∀ n ∈ l, natB n = true) ∧ setN l = l := by
 simp only [setB, Bool.and_eq_true, decide_eq_true_eq] at h
 obtain ⟨⟨h1, h2⟩, h3⟩ := h
 have hi := incB_at l.length 0 h3
 refine ⟨fun e => by rw [e] at h1; simp at h1, fun n hn => ?_, ?_⟩
 ·obtain ⟨i, hi1, rfl⟩ := List.getElem_of_mem hn
  have := (hi i (by omega) (by omega)).1
  rw [List.getD_eq_getElem?_getD, List.getElem?_eq_getElem hi1] at this
  exact this
 ·have hinc : Inc l := by
   rw [Inc, List.pairwise_iff_getElem]
   have key : ∀ (d i : Nat), i + d + 1 < l.length → l.getD i 0 < l.getD (i + d + 1) 0 := by
    intro d
    induction d with
    | zero =>
     intro i hd
     have := (hi (i + 0 + 1) (by omega) (by omega)).2
     rcases this with h | h
     ·omega
     ·exact h
    | succ d ih =>
     intro i hd
     have a := ih i (by omega)
     have := (hi (i + (d + 1) + 1) (by omega) (by omega)).2
     rcases this with h | h
     ·omega
     ·rw [show i + (d + 1) + 1 - 1 = i + d + 1 by omega] at h
      omega
   intro i j hi1 hj hij
   have := key (j - i - 1) i (by omega)
   rw [show i + (j - i - 1) + 1 = j by omega, List.getD_eq_getElem?_getD, List.getElem?_eq_getElem hi1, List.getD_eq_getElem?_getD, List.getElem?_eq_getElem hj] at this
   exact this
  have hs := set_fold l [] List.Pairwise.nil
  refine inc_ext hs.1 hinc fun y => ?_
  rw [setN] at *
  rw [hs.2]
  simp
def HeadOK (t : List UInt8) : Prop := nameN t = true ∨ t = tNot ∨ t = tLP ∨ t = tCount
structure CB (ws : List Wd) (c : Cd) : Prop where
 neg : ∀ F q, 4 * (ws.length - q) + 2 ≤ F → AtW ws q (withinT 3 c) → negR ws F q = .inr (c, q + (withinT 3 c).length)
 conj : ∀ F q, 4 * (ws.length - q) + 3 ≤ F → AtW ws q (withinT 2 c) → ∃ f, 4 * (ws.length - (q + (withinT 2 c).length)) + 1 ≤ f ∧ conjR ws F q = andR ws f c (q + (withinT 2 c).length)
 cond : ∀ F q, 4 * (ws.length - q) + 4 ≤ F → AtW ws q (withinT 1 c) → ¬ txt ws (q + (withinT 1 c).length) = tAnd → ∃ f, 4 * (ws.length - (q + (withinT 1 c).length)) + 1 ≤ f ∧ condR ws F q = orR ws f c (q + (withinT 1 c).length)
 head : ∃ t r, condT c = t :: r ∧ HeadOK t
section
variable {ws : List Wd} (hg : GoodW ws)
end
end Go.Proofs.YtohfoaplnjcihaaGreatDoor
namespace Go.Proofs.YtohfoaplnjcihaaGreatDoor
open Go Y
set_option maxRecDepth 100000
set_option maxHeartbeats 4000000
theorem foldM_mem {f : Nat → Cd → Option Nat} : ∀ {ar : List Cd} {l k : Nat}, ar.foldlM f l = some k → ∀ c ∈ ar, ∃ a b, f a c = some b
 | [], _, _, _, c, hc => by simp at hc
 | x :: ar, l, k, h, c, hc => by
  rw [List.foldlM_cons] at h
  cases hx : f l x with
  | none => rw [hx] at h; cases h
  | some m =>
   rw [hx] at h
   rcases List.mem_cons.1 hc with rfl | hc
   ·exact ⟨l, m, hx⟩
   ·exact foldM_mem (ar := ar) h c hc
theorem plain_zero {n rel val : Int} {r : Rf} {st : List Int} (h : plainB n rel val r st = true) : n = 0 ∧ rel = 0 ∧ val = 0 ∧ r = rf0 ∧ st = [] := by
 simp only [plainB, Bool.and_eq_true, decide_eq_true_eq] at h
 exact ⟨h.1.1.1.1, h.1.1.1.2, h.1.1.2, h.1.2, h.2⟩
theorem len2 {α : Type} {l : List α} (h : l.length = 2) : ∃ a b, l = [a, b] := by
 rcases l with _ | ⟨a, _ | ⟨b, _ | ⟨c, l⟩⟩⟩
 ·cases h
 ·cases h
 ·exact ⟨a, b, rfl⟩
 ·simp only [List.length_cons] at h; omega
theorem len1 {α : Type} {l : List α} (h : l.length = 1) : ∃ a, l = [a] := by
 rcases l with _ | ⟨a, _ | ⟨b, l⟩⟩
 ·cases h
 ·exact ⟨a, rfl⟩
 ·simp only [List.length_cons] at h; omega
inductive Sh (P : Cd → Prop) : Cd → Prop
 | leaf (op n rel val : Int) (r : Rf) (st : List Int) (h7 : ¬ op = 7) (h8 : ¬ op = 8) (h9 : ¬ op = 9) (h : leafB op n rel val r st = true) : Sh P (.mk op n rel val r st [])
 | neg (a : Cd) (h : P a) : Sh P (.mk 7 0 0 0 rf0 [] [a])
 | conj (a b : Cd) (ha : P a) (hb : P b) : Sh P (.mk 8 0 0 0 rf0 [] [a, b])
 | disj (a b : Cd) (ha : P a) (hb : P b) : Sh P (.mk 9 0 0 0 rf0 [] [a, b])
theorem cond_shape {d : Nat} {c : Cd} {left k : Nat} (h : condV (d + 1) c left = some k) : Sh (fun a => ∃ l k, condV d a l = some k) c := by
 obtain ⟨op, n, rel, val, r, st, ar⟩ := c
 rw [condV] at h
 split at h
 ·cases h
 ·split at h
  ·rename_i hh
   have hm := foldM_mem h
   unfold headB at hh
   split at hh
   ·rename_i h0
    simp only [Bool.and_eq_true, decide_eq_true_eq] at hh
    have : ar = [] := List.length_eq_zero_iff.1 hh.2
    subst this
    unfold argsN at h0
    refine .leaf op n rel val r st ?_ ?_ ?_ hh.1
    ·rintro rfl; cases h0
    ·rintro rfl; cases h0
    ·rintro rfl; cases h0
   ·rename_i h0
    simp only [Bool.and_eq_true, decide_eq_true_eq] at hh
    obtain ⟨hk, hp⟩ := hh
    obtain ⟨rfl, rfl, rfl, rfl, rfl⟩ := plain_zero hp
    unfold argsN at h0 hk
    by_cases c7 : op = 7
    ·subst c7
     obtain ⟨a, rfl⟩ := len1 hk
     exact .neg a (hm a (by simp))
    ·rw [if_neg c7] at h0 hk
     by_cases c8 : op = 8
     ·subst c8
      obtain ⟨a, b, rfl⟩ := len2 hk
      exact .conj a b (hm a (by simp)) (hm b (by simp))
     ·by_cases c9 : op = 9
      ·subst c9
       obtain ⟨a, b, rfl⟩ := len2 hk
       exact .disj a b (hm a (by simp)) (hm b (by simp))
      ·rw [if_neg (by omega)] at h0
       exact absurd rfl h0
  ·cases h
theorem Sh.mono {P Q : Cd → Prop} {c : Cd} (h : Sh P c) (hpq : ∀ a, P a → Q a) : Sh Q c := by
 cases h with
 | leaf op n rel val r st h7 h8 h9 h => exact .leaf op n rel val r st h7 h8 h9 h
 | neg a h => exact .neg a (hpq a h)
 | conj a b ha hb => exact .conj a b (hpq a ha) (hpq b hb)
 | disj a b ha hb => exact .disj a b (hpq a ha) (hpq b hb)
theorem condT_leaf {op n rel val : Int} {r : Rf} {st : List Int} (h7 : ¬ op = 7) (h8 : ¬ op = 8) (h9 : ¬ op = 9) : condT (.mk op n rel val r st []) = leafT op n rel val r st := by
 rw [condT, joinT, if_neg h9, if_neg h8, if_neg h7]
theorem condT_neg (a : Cd) : condT (.mk 7 0 0 0 rf0 [] [a]) = tNot :: withinT 3 a := by
 rw [condT, condTs, condTs]; rfl
theorem condT_conj (a b : Cd) : condT (.mk 8 0 0 0 rf0 [] [a, b]) = withinT 2 a ++ tAnd :: withinT 3 b := by
 rw [condT, condTs, condTs, condTs]; rfl
theorem condT_disj (a b : Cd) : condT (.mk 9 0 0 0 rf0 [] [a, b]) = withinT 1 a ++ tOr :: withinT 2 b := by
 rw [condT, condTs, condTs, condTs]; rfl
theorem lvl_leaf {op : Int} (h7 : ¬ op = 7) (h8 : ¬ op = 8) (h9 : ¬ op = 9) : lvl op = 4 := by rw [lvl, if_neg h9, if_neg h8, if_neg h7]
theorem within_at {k : Nat} {c : Cd} (h : ¬ lvl c.op < k) : withinT k c = condT c := if_neg h
section
variable {ws : List Wd} (hg : GoodW ws)
include hg
end
end Go.Proofs.YtohfoaplnjcihaaGreatDoor
namespace Go.Proofs.YtohfoaplnjcihaaGreatDoor
open Go Y
set_option maxRecDepth 100000
set_option maxHeartbeats 4000000
theorem nums_facts {l : List Int} (h : numsB l = true) : l ≠ [] ∧ l.length ≤ 8 ∧ ∀ n ∈ l, wgtB n = true := by
 simp only [numsB, Bool.and_eq_true, decide_eq_true_eq, List.all_eq_true] at h
 exact ⟨fun e => by rw [e] at h; exact absurd h.1.1 (by decide), h.1.2, h.2⟩
section
variable {ws : List Wd} (hg : GoodW ws)
include hg
end
end Go.Proofs.YtohfoaplnjcihaaGreatDoor
namespace Go.Proofs.YtohfoaplnjcihaaGreatDoor
open Go Y
set_option maxRecDepth 100000
set_option maxHeartbeats 4000000
abbrev Pcs := List (List UInt8 × List UInt8)
def rendG (l : Pcs) : List UInt8 := l.flatMap fun x => x.1 ++ x.2
structure GapOK (g : List UInt8) : Prop where
 sep : ∃ c r, g = c :: r ∧ isSep c
 skip : ∀ r, stopB r = true → Skips g r
def TokOK (t : List UInt8) : Prop := ∃ k, rightN k t = true
def kindT (t : List UInt8) : Int := (oneN t).1
def wordsAt : Nat × Nat → List UInt8 → Pcs → List Wd
 | _, _, [] => []
 | p, g0, (w, g) :: r => ⟨kindT w, w, (advs p g0).1, (advs p g0).2⟩ :: wordsAt ((advs p g0).1, (advs p g0).2 + w.length) g r
theorem wordsAt_text : ∀ (p : Nat × Nat) (g0 : List UInt8) (l : Pcs), (wordsAt p g0 l).map Wd.text = l.map Prod.fst
 | _, _, [] => rfl
 | p, g0, (w, g) :: r => by rw [wordsAt, List.map_cons, wordsAt_text]; rfl
theorem wordsAt_len (p : Nat × Nat) (g0 : List UInt8) (l : Pcs) : (wordsAt p g0 l).length = l.length := by
 rw [← List.length_map (f := Wd.text), wordsAt_text, List.length_map]
theorem kindT_right {t : List UInt8} (h : TokOK t) : rightN (kindT t) t = true := by
 obtain ⟨k, h⟩ := h
 have := (right_one h).1
 rw [kindT, this]; exact h
def lastG : List UInt8 → Pcs → List UInt8
 | g, [] => g
 | _, x :: r => lastG x.2 r
theorem lastG_ok : ∀ {g : List UInt8} {l : Pcs}, (g = [] ∨ GapOK g) → (∀ x ∈ l, GapOK x.2) → lastG g l = [] ∨ GapOK (lastG g l)
 | _, [], h, _ => h
 | _, x :: r, _, hl => by
  show lastG x.2 r = [] ∨ GapOK (lastG x.2 r)
  exact lastG_ok (.inr (hl x (List.mem_cons_self ..))) fun y hy => hl y (List.mem_cons_of_mem _ hy)
theorem fol_gap {g r : List UInt8} (h : GapOK g) : Fol [] (g ++ r) := by
 obtain ⟨c, t, rfl, hc⟩ := h.sep
 exact Fol.bl [] c (t ++ r) hc
theorem skips_of {g r : List UInt8} (h : g = [] ∨ GapOK g) (hr : stopB r = true) : Skips g r := by
 rcases h with rfl | h
 ·exact fun f _ => skip_stop hr f
 ·exact h.skip r hr
theorem tok_stop {t g r : List UInt8} (ht : TokOK t) (h : GapOK g) : oneN (t ++ (g ++ r)) = (kindT t, t) ∧ stopB (t ++ (g ++ r)) = true := by
 have hk := kindT_right ht
 obtain ⟨k1, k2⟩ := right_one hk
 have hne : t ≠ [] := by
  have := (right_len hk).1
  intro e; subst e; simp at this
 refine ⟨one_fol hk (by rw [List.append_nil]; exact k1) (fol_gap h), stop_fol hne (by rw [List.append_nil]; exact k2) (fol_gap h)⟩
theorem lay_of : ∀ (l : Pcs) (p : Nat × Nat) (g0 more : List UInt8), (g0 = [] ∨ GapOK g0) → (∀ x ∈ l, TokOK x.1 ∧ GapOK x.2) → ∃ T, g0 ++ (rendG l ++ more) = T ++ (lastG g0 l ++ more) ∧ Lay p T (wordsAt p g0 l) (lastG g0 l ++ more)
 | [], p, g0, more, _, _ => ⟨[], rfl, Lay.nil p _⟩
 | (w, g) :: r, p, g0, more, h0, hl => by
  obtain ⟨hw, hgp⟩ := hl (w, g) (List.mem_cons_self ..)
  obtain ⟨T, e, hL⟩ := lay_of r ((advs p g0).1, (advs p g0).2 + w.length) g more (.inr hgp) fun x hx => hl x (List.mem_cons_of_mem _ hx)
  have e2 : rendG ((w, g) :: r) = w ++ (g ++ rendG r) := by rw [rendG, List.flatMap_cons]; simp [rendG]
  refine ⟨g0 ++ (w ++ T), ?_, ?_⟩
  ·rw [e2]
   show g0 ++ (w ++ (g ++ rendG r) ++ more) = g0 ++ (w ++ T) ++ (lastG g r ++ more)
   rw [List.append_assoc, List.append_assoc, List.append_assoc, List.append_assoc, ← e]
  ·have hs := tok_stop (r := rendG r ++ more) hw hgp
   rw [e] at hs
   exact Lay.cons (w := ⟨kindT w, w, (advs p g0).1, (advs p g0).2⟩) (skips_of h0 hs.2) hs.1 (kindT_right hw) rfl rfl rfl hL
theorem readR_rend {l : Pcs} {g0 : List UInt8} (h0 : g0 = [] ∨ GapOK g0) (hl : ∀ x ∈ l, TokOK x.1 ∧ GapOK x.2) (hn : l.length ≤ 1500) : readR (g0 ++ rendG l) = .ok (wordsAt (1, 1) g0 l) := by
 obtain ⟨T, e, hL⟩ := lay_of l (1, 1) g0 [] h0 hl
 rw [List.append_nil, List.append_nil] at e
 rw [List.append_nil] at hL
 have hlen := hL.len
 have hw := wordsAt_len (1, 1) g0 l
 have := read_lay hL [] [] (T.length + (lastG g0 l).length - (wordsAt (1, 1) g0 l).length + 1) rfl (by simpa [hw] using hn)
 simp only [List.nil_append, List.length_nil] at this
 rw [e, readR, List.length_append, show T.length + (lastG g0 l).length + 1 = T.length + (lastG g0 l).length - (wordsAt (1, 1) g0 l).length + 1 + (wordsAt (1, 1) g0 l).length by omega, this, readN]
 have hs := skips_of (lastG_ok h0 fun x hx => (hl x hx).2) (show stopB [] = true from rfl) (T ++ lastG g0 l).length (by simp)
 rw [List.append_nil] at hs
 rw [List.drop_left, hs]
 show readB _ _ _ _ = _
 rw [readB, if_pos (by rw [List.length_append]; exact Nat.le_refl _)]
theorem gap_blank {g : List UInt8} (h : g ≠ []) (hb : ∀ c ∈ g, isBl c) : GapOK g := by
 cases g with
 | nil => exact absurd rfl h
 | cons c r => exact ⟨⟨c, r, rfl, .inl (hb c (List.mem_cons_self ..))⟩, fun r' hr => skips_blank hr hb⟩
theorem gap_sp : GapOK [32] := gap_blank (by simp) (fun c hc => by rw [List.mem_singleton.1 hc]; exact .inl rfl)
theorem gap_nl : GapOK [10] := gap_blank (by simp) (fun c hc => by rw [List.mem_singleton.1 hc]; exact .inr rfl)
def pieceG (e : List UInt8) : Toks → Pcs
 | [] => []
 | [w] => [(w, e)]
 | w :: v :: r => (w, [32]) :: pieceG e (v :: r)
theorem piece_rend (e : List UInt8) : ∀ {x : Toks}, x ≠ [] → rendG (pieceG e x) = spW false x ++ e
 | [], h => absurd rfl h
 | [w], _ => by simp [pieceG, rendG, spW]
 | w :: v :: r, _ => by
  have ih := piece_rend e (x := v :: r) (by simp)
  rw [pieceG, rendG, List.flatMap_cons]
  show w ++ [32] ++ rendG (pieceG e (v :: r)) = _
  rw [ih]
  simp [spW]
theorem piece_text (e : List UInt8) : ∀ x : Toks, (pieceG e x).map Prod.fst = x
 | [] => rfl
 | [w] => rfl
 | w :: v :: r => by rw [pieceG, List.map_cons, piece_text e (v :: r)]
theorem piece_ok {e : List UInt8} (he : GapOK e) : ∀ {x : Toks}, (∀ t ∈ x, TokOK t) → ∀ y ∈ pieceG e x, TokOK y.1 ∧ GapOK y.2
 | [], _, y, hy => by simp [pieceG] at hy
 | [w], h, y, hy => by
  simp only [pieceG, List.mem_singleton] at hy
  subst hy
  exact ⟨h w (by simp), he⟩
 | w :: v :: r, h, y, hy => by
  rw [pieceG] at hy
  rcases List.mem_cons.1 hy with rfl | hy
  ·exact ⟨h w (by simp), gap_sp⟩
  ·exact piece_ok he (fun t ht => h t (List.mem_cons_of_mem _ ht)) y hy
def progG (e : List UInt8) (ds : List De) : Pcs := ds.flatMap fun d => pieceG e (declT d)
def textG (e : List UInt8) (ds : List De) : List UInt8 := ds.flatMap fun d => spW false (declT d) ++ e
theorem decl_ne (d : De) : declT d ≠ [] := by rw [declT]; simp
theorem progG_rend (e : List UInt8) : ∀ ds : List De, rendG (progG e ds) = textG e ds
 | [] => rfl
 | d :: ds => by
  have ih := progG_rend e ds
  rw [progG, List.flatMap_cons, textG, List.flatMap_cons]
  show rendG (pieceG e (declT d) ++ progG e ds) = _ ++ textG e ds
  rw [← ih, rendG, List.flatMap_append]
  show rendG (pieceG e (declT d)) ++ rendG (progG e ds) = _
  rw [piece_rend e (decl_ne d)]
theorem progG_text (e : List UInt8) : ∀ ds : List De, (progG e ds).map Prod.fst = ds.flatMap declT
 | [] => rfl
 | d :: ds => by
  have ih := progG_text e ds
  rw [progG, List.flatMap_cons, List.map_append, piece_text, List.flatMap_cons]
  show declT d ++ (progG e ds).map Prod.fst = _
  rw [ih]
theorem flat_len : ∀ ds : List De, (ds.flatMap declT).length = cntT ds
 | [] => rfl
 | d :: ds => by rw [List.flatMap_cons, List.length_append, flat_len ds]; rfl
def AllT (x : Toks) : Prop := ∀ t ∈ x, TokOK t
theorem allT_nil : AllT [] := fun t h => by simp at h
theorem allT_cons {t : List UInt8} {x : Toks} (h : TokOK t) (hx : AllT x) : AllT (t :: x) := fun u hu => by
 rcases List.mem_cons.1 hu with rfl | hu
 ·exact h
 ·exact hx u hu
theorem allT_app {x y : Toks} (hx : AllT x) (hy : AllT y) : AllT (x ++ y) := fun u hu => by
 rcases List.mem_append.1 hu with hu | hu
 ·exact hx u hu
 ·exact hy u hu
theorem tok_name {t : List UInt8} (h : nameN t = true) : TokOK t := ⟨1, h⟩
theorem tok_dig {n : Int} (h : natB n = true) : TokOK (digT n) := ⟨3, (digT_num h).1⟩
theorem tok_fix : ∀ t ∈ keysL ++ marksL, TokOK t := by
 intro t ht
 rcases List.mem_append.1 ht with h | h
 ·exact ⟨2, (by decide : ∀ t ∈ keysL, rightN 2 t = true) t h⟩
 ·exact ⟨4, (by decide : ∀ t ∈ marksL, rightN 4 t = true) t h⟩
theorem fixT {x : Toks} (h : ∀ t ∈ x, t ∈ keysL ++ marksL) : AllT x := fun t ht => tok_fix t (h t ht)
theorem ref_toks {r : Rf} (h : refB r = true) : AllT (refT r) ∧ (refT r).length ≤ 6 := by
 obtain ⟨nm, m, pl, n⟩ := r
 rw [refB, Bool.and_eq_true] at h
 obtain ⟨hn, h⟩ := h
 simp only [] at h hn
 have k1 : TokOK tLB := tok_fix _ (by decide)
 have k2 : TokOK tRB := tok_fix _ (by decide)
 have k3 : TokOK tAll := tok_fix _ (by decide)
 have k4 : TokOK tPlus := tok_fix _ (by decide)
 suffices hs : AllT (tailT ⟨nm, m, pl, n⟩) ∧ (tailT ⟨nm, m, pl, n⟩).length ≤ 5 by
  exact ⟨allT_cons (tok_name hn) hs.1, by show _ + 1 ≤ 6; omega⟩
 unfold tailT
 simp only []
 split
 ·exact ⟨allT_cons k1 (allT_cons k3 (allT_cons k2 allT_nil)), by simp⟩
 ·rename_i h3
  split
  ·rename_i h2
   rw [if_neg (by omega), if_neg (by omega), if_pos h2, Bool.and_eq_true] at h
   exact ⟨allT_cons k1 (allT_cons (tok_dig h.2) (allT_cons k2 allT_nil)), by simp⟩
  ·split
   ·rename_i h1
    rw [if_neg (by omega), if_pos h1, Bool.and_eq_true] at h
    split
    ·exact ⟨allT_cons k1 (allT_cons (tok_name h.1) (allT_cons k4 (allT_cons (tok_dig h.2) (allT_cons k2 allT_nil)))), by simp⟩
    ·exact ⟨allT_cons k1 (allT_cons (tok_name h.1) (allT_cons k2 allT_nil)), by simp⟩
   ·exact ⟨allT_nil, by simp⟩
theorem flat_toks {α : Type} {f : α → Toks} {b : Nat} : ∀ {l : List α}, (∀ a ∈ l, AllT (f a) ∧ (f a).length ≤ b) → AllT (l.flatMap f) ∧ (l.flatMap f).length ≤ b * l.length
 | [], _ => ⟨allT_nil, by simp⟩
 | a :: l, h => by
  have h1 := h a (List.mem_cons_self ..)
  have h2 := flat_toks (f := f) (b := b) (l := l) fun x hx => h x (List.mem_cons_of_mem _ hx)
  rw [List.flatMap_cons]
  refine ⟨allT_app h1.1 h2.1, ?_⟩
  rw [List.length_append, List.length_cons, Nat.mul_succ]
  omega
theorem sep_toks {α : Type} {f : α → Toks} {b : Nat} {l : List α} (h : ∀ a ∈ l, AllT (f a) ∧ (f a).length ≤ b) : AllT (sepT f l) ∧ (sepT f l).length ≤ (b + 1) * l.length := by
 cases l with
 | nil => exact ⟨allT_nil, by simp [sepT]⟩
 | cons a l =>
  have h1 := h a (List.mem_cons_self ..)
  have h2 := flat_toks (f := fun x => tComma :: f x) (b := b + 1) (l := l) fun x hx => ⟨allT_cons (tok_fix _ (by decide)) (h x (List.mem_cons_of_mem _ hx)).1, by have := (h x (List.mem_cons_of_mem _ hx)).2; simp only [List.length_cons]; omega⟩
  rw [sepT]
  refine ⟨allT_app h1.1 h2.1, ?_⟩
  rw [List.length_append, List.length_cons, Nat.mul_succ]
  omega
theorem rel_tok (k : Int) : TokOK (relT k) := by
 refine tok_fix _ ?_
 unfold relT
 split
 ·decide
 ·split
  ·decide
  ·split <;> decide
theorem leaf_toks {op n rel val : Int} {r : Rf} {st : List Int} (hb : leafB op n rel val r st = true) : AllT (leafT op n rel val r st) ∧ (leafT op n rel val r st).length ≤ 25 := by
 unfold leafB at hb
 unfold leafT
 by_cases c6 : op = 6
 ·rw [if_neg (by omega), if_neg (by omega), if_pos c6] at hb
  simp only [Bool.and_eq_true, decide_eq_true_eq] at hb
  obtain ⟨⟨⟨⟨⟨⟨b1, b2⟩, b3⟩, b4⟩, b5⟩, b6⟩, b7⟩ := hb
  rw [if_pos c6]
  have hr := ref_toks b1
  refine ⟨allT_app (fixT (by decide)) (allT_app hr.1 (allT_cons (tok_fix _ (by decide)) (allT_cons (tok_dig b4) (allT_cons (tok_fix _ (by decide)) (allT_cons (rel_tok rel) (allT_cons (tok_dig b3) allT_nil)))))), ?_⟩
  simp only [List.length_append, List.length_cons, List.length_nil]; omega
 ·rw [if_neg c6]
  by_cases c5 : op = 5
  ·rw [if_neg (by omega), if_pos c5] at hb
   simp only [Bool.and_eq_true, decide_eq_true_eq] at hb
   obtain ⟨⟨⟨⟨b1, b2⟩, b3⟩, b4⟩, b5⟩ := hb
   rw [if_pos c5]
   have hr := ref_toks b1
   have hset := setB_facts b5
   have hl8 : st.length ≤ 8 := by
    simp only [setB, Bool.and_eq_true, decide_eq_true_eq] at b5
    exact b5.1.2
   have hs := sep_toks (f := fun n => [digT n]) (b := 1) (l := st) fun a ha => ⟨allT_cons (tok_dig (hset.2.1 a ha)) allT_nil, by simp⟩
   refine ⟨allT_app hr.1 (allT_app (fixT (by decide)) (allT_app hs.1 (fixT (by decide)))), ?_⟩
   simp only [List.length_append, List.length_cons, List.length_nil]; omega
  ·rw [if_neg c5]
   by_cases c1 : op = 1 ∨ op = 2 ∨ op = 3 ∨ op = 4
   ·rw [if_pos c1] at hb
    simp only [Bool.and_eq_true, decide_eq_true_eq] at hb
    have hr := ref_toks hb.1.1.1.1
    refine ⟨allT_app hr.1 (allT_cons (rel_tok op) (allT_cons (tok_dig hb.1.1.1.2) allT_nil)), ?_⟩
    simp only [List.length_append, List.length_cons, List.length_nil]; omega
   ·rw [if_neg c1, if_neg c5, if_neg c6] at hb
    cases hb
inductive ShN (P : Nat → Cd → Nat → Prop) : Nat → Cd → Nat → Prop
 | leaf (op n rel val : Int) (r : Rf) (st : List Int) (l : Nat) (h7 : ¬ op = 7) (h8 : ¬ op = 8) (h9 : ¬ op = 9) (h : leafB op n rel val r st = true) : ShN P (l + 1) (.mk op n rel val r st []) l
 | neg (a : Cd) (l k : Nat) (h : P l a k) : ShN P (l + 1) (.mk 7 0 0 0 rf0 [] [a]) k
 | conj (a b : Cd) (l m k : Nat) (ha : P l a m) (hb : P m b k) : ShN P (l + 1) (.mk 8 0 0 0 rf0 [] [a, b]) k
 | disj (a b : Cd) (l m k : Nat) (ha : P l a m) (hb : P m b k) : ShN P (l + 1) (.mk 9 0 0 0 rf0 [] [a, b]) k
theorem cond_shapeN {d : Nat} {c : Cd} {left k : Nat} (h : condV (d + 1) c left = some k) : ShN (fun l a k => condV d a l = some k) left c k := by
 obtain ⟨op, n, rel, val, r, st, ar⟩ := c
 rw [condV] at h
 split at h
 ·cases h
 ·rename_i hl0
  obtain ⟨l, rfl⟩ : ∃ l, left = l + 1 := ⟨left - 1, by omega⟩
  rw [Nat.add_sub_cancel] at h
  split at h
  ·rename_i hh
   unfold headB at hh
   split at hh
   ·rename_i h0
    simp only [Bool.and_eq_true, decide_eq_true_eq] at hh
    have : ar = [] := List.length_eq_zero_iff.1 hh.2
    subst this
    unfold argsN at h0
    injection h with h
    have h : l = k := h
    subst h
    refine .leaf op n rel val r st l ?_ ?_ ?_ hh.1
    ·rintro rfl; cases h0
    ·rintro rfl; cases h0
    ·rintro rfl; cases h0
   ·rename_i h0
    simp only [Bool.and_eq_true, decide_eq_true_eq] at hh
    obtain ⟨hk, hp⟩ := hh
    obtain ⟨rfl, rfl, rfl, rfl, rfl⟩ := plain_zero hp
    have two : ∀ {a b : Cd}, [a, b].foldlM (fun l c => condV d c l) l = some k → ∃ m, condV d a l = some m ∧ condV d b m = some k := fun {a b} h => by
     rw [List.foldlM_cons] at h
     cases h1 : condV d a l with
     | none => rw [h1] at h; cases h
     | some m =>
      rw [h1] at h
      have h : [b].foldlM (fun l c => condV d c l) m = some k := h
      rw [List.foldlM_cons] at h
      cases h2 : condV d b m with
      | none => rw [h2] at h; cases h
      | some m2 =>
       rw [h2] at h
       exact ⟨m, rfl, by rw [h2]; exact h⟩
    unfold argsN at h0 hk
    by_cases c7 : op = 7
    ·subst c7
     obtain ⟨a, rfl⟩ := len1 hk
     rw [List.foldlM_cons] at h
     cases h1 : condV d a l with
     | none => rw [h1] at h; cases h
     | some m =>
      rw [h1] at h
      exact .neg a l k (by rw [h1]; exact h)
    ·rw [if_neg c7] at h0 hk
     by_cases c8 : op = 8
     ·subst c8
      obtain ⟨a, b, rfl⟩ := len2 hk
      obtain ⟨m, h1, h2⟩ := two h
      exact .conj a b l m k h1 h2
     ·by_cases c9 : op = 9
      ·subst c9
       obtain ⟨a, b, rfl⟩ := len2 hk
       obtain ⟨m, h1, h2⟩ := two h
       exact .disj a b l m k h1 h2
      ·rw [if_neg (by omega)] at h0
       exact absurd rfl h0
  ·cases h
theorem within_toks {k : Nat} {c : Cd} (h : AllT (condT c)) : AllT (withinT k c) ∧ (withinT k c).length ≤ (condT c).length + 2 := by
 by_cases hl : lvl c.op < k
 ·rw [withinT, inT, if_pos hl]
  exact ⟨allT_cons (tok_fix _ (by decide)) (allT_app h (fixT (by decide))), by simp⟩
 ·rw [within_at hl]
  exact ⟨h, by omega⟩
theorem cond_toks : ∀ (d : Nat) (c : Cd) (left k : Nat), condV d c left = some k → AllT (condT c) ∧ (condT c).length + 2 + 28 * k ≤ 28 * left
 | 0, _, _, _, h => by cases h
 | d + 1, c, left, k, h => by
  cases cond_shapeN h with
  | leaf op n rel val r st l h7 h8 h9 hb =>
   rw [condT_leaf h7 h8 h9]
   have := leaf_toks hb
   exact ⟨this.1, by omega⟩
  | neg a l k ha =>
   have ia := cond_toks d a l k ha
   have wa := within_toks (k := 3) ia.1
   rw [condT_neg]
   exact ⟨allT_cons (tok_fix _ (by decide)) wa.1, by simp only [List.length_cons]; omega⟩
  | conj a b l m k ha hb =>
   have ia := cond_toks d a l m ha
   have ib := cond_toks d b m k hb
   have wa := within_toks (k := 2) ia.1
   have wb := within_toks (k := 3) ib.1
   rw [condT_conj]
   exact ⟨allT_app wa.1 (allT_cons (tok_fix _ (by decide)) wb.1), by simp only [List.length_append, List.length_cons]; omega⟩
  | disj a b l m k ha hb =>
   have ia := cond_toks d a l m ha
   have ib := cond_toks d b m k hb
   have wa := within_toks (k := 1) ia.1
   have wb := within_toks (k := 2) ib.1
   rw [condT_disj]
   exact ⟨allT_app wa.1 (allT_cons (tok_fix _ (by decide)) wb.1), by simp only [List.length_append, List.length_cons]; omega⟩
theorem int_toks {n : Int} (h : wgtB n = true) : AllT (intT n) ∧ (intT n).length ≤ 2 := by
 simp only [wgtB, Bool.and_eq_true, decide_eq_true_eq] at h
 unfold intT
 split
 ·exact ⟨allT_cons (tok_fix _ (by decide)) (allT_cons (tok_dig (by simp only [natB, Bool.and_eq_true, decide_eq_true_eq]; omega)) allT_nil), by simp⟩
 ·exact ⟨allT_cons (tok_dig (by simp only [natB, Bool.and_eq_true, decide_eq_true_eq]; omega)) allT_nil, by simp⟩
theorem nums_toks {l : List Int} (h : numsB l = true) : AllT (numsT l) ∧ (numsT l).length ≤ 16 := by
 obtain ⟨h1, h2, h3⟩ := nums_facts h
 have := flat_toks (f := intT) (b := 2) (l := l) fun a ha => int_toks (h3 a ha)
 exact ⟨this.1, by have h4 := this.2; unfold numsT; omega⟩
theorem cases_toks : ∀ {l : List Cs}, casesT l = true → AllT (casesTx l) ∧ (casesTx l).length ≤ 858 * l.length
 | [], _ => ⟨allT_nil, by simp [casesTx]⟩
 | [c], h => by
  simp only [casesT, Bool.and_eq_true] at h
  have hn := nums_toks h.1
  rw [casesTx]
  exact ⟨allT_cons (tok_fix _ (by decide)) (allT_cons (tok_fix _ (by decide)) hn.1), by simp only [List.length_cons, List.length_nil]; omega⟩
 | c :: d :: r, h => by
  simp only [casesT, Bool.and_eq_true] at h
  obtain ⟨⟨hn, hc⟩, hr⟩ := h
  have hn := nums_toks hn
  obtain ⟨k, hk⟩ := Option.isSome_iff_exists.1 hc
  have hc := cond_toks 8 c.cond 30 k hk
  have ih := cases_toks (l := d :: r) hr
  rw [casesTx]
  refine ⟨allT_app hc.1 (allT_cons (tok_fix _ (by decide)) (allT_app hn.1 (allT_cons (tok_fix _ (by decide)) ih.1))), ?_⟩
  have := ih.2
  simp only [List.length_append, List.length_cons] at this ⊢
  omega
theorem rule_toks {l : List Cs} (h : casesB l = true) : AllT (ruleT l) ∧ (ruleT l).length ≤ 10300 := by
 simp only [casesB, Bool.and_eq_true, decide_eq_true_eq] at h
 obtain ⟨⟨h1, h2⟩, h3⟩ := h
 have := cases_toks h3
 refine ⟨allT_cons (tok_fix _ (by decide)) (allT_app this.1 (fixT (by decide))), ?_⟩
 rw [ruleT]
 simp only [List.length_append, List.length_cons, List.length_nil]
 have h4 := this.2
 omega
theorem refs_toks {key : List UInt8} {l : List Rf} (hk : key ∈ keysL ++ marksL) (h : ∀ r ∈ l, refB r = true) (hl : l.length ≤ 8) : AllT (refsT key l) ∧ (refsT key l).length ≤ 60 := by
 unfold refsT
 split
 ·exact ⟨allT_nil, by simp⟩
 ·have := sep_toks (f := refT) (b := 6) (l := l) fun a ha => ref_toks (h a ha)
  exact ⟨allT_cons (tok_fix _ hk) this.1, by have h2 := this.2; simp only [List.length_cons]; omega⟩
theorem decl_toks {d : De} (hv : declB d = true) : AllT (declT d) ∧ (declT d).length ≤ 10400 := by
 obtain ⟨k, n, nm, pl, rs, cs⟩ := d
 simp only [declB, Bool.and_eq_true, decide_eq_true_eq, List.all_eq_true] at hv
 obtain ⟨⟨⟨v1, v2⟩, v3⟩, v4⟩ := hv
 suffices hs : AllT (headT ⟨k, n, nm, pl, rs, cs⟩) ∧ (headT ⟨k, n, nm, pl, rs, cs⟩).length ≤ 10399 by
  exact ⟨allT_app hs.1 (fixT (by decide)), by rw [declT, List.length_append]; simp only [List.length_cons, List.length_nil]; omega⟩
 unfold kindB at v4
 unfold headT
 simp only [] at v4 ⊢
 have hd := tok_dig v1
 by_cases c1 : k = 1
 ·rw [if_pos c1]
  exact ⟨allT_cons (tok_fix _ (by decide)) (allT_cons hd allT_nil), by simp⟩
 rw [if_neg c1] at v4 ⊢
 by_cases c2 : k = 2
 ·rw [if_pos c2] at v4 ⊢
  simp only [Bool.and_eq_true, decide_eq_true_eq] at v4
  exact ⟨allT_cons (tok_fix _ (by decide)) (allT_cons (tok_name v4.1.1.1) (allT_cons (tok_fix _ (by decide)) (allT_cons hd allT_nil))), by simp⟩
 rw [if_neg c2] at v4 ⊢
 by_cases c3 : k = 3
 ·rw [if_pos c3] at v4 ⊢
  simp only [Bool.and_eq_true, Bool.or_eq_true, decide_eq_true_eq] at v4
  obtain ⟨⟨v0, v5⟩, v6⟩ := v4
  have hr := refs_toks (key := tFrom) (by decide) v3 v2
  have hc := rule_toks v6
  have hp : AllT (if pl = [] then [] else [tLB, pl, tRB]) ∧ (if pl = [] then [] else [tLB, pl, tRB] : Toks).length ≤ 3 := by
   split
   ·exact ⟨allT_nil, by simp⟩
   ·rename_i h
    exact ⟨allT_cons (tok_fix _ (by decide)) (allT_cons (tok_name (v5.resolve_left h)) (fixT (by decide))), by simp⟩
  refine ⟨allT_app (allT_cons (tok_fix _ (by decide)) (allT_cons (tok_name v0) allT_nil)) (allT_app hp.1 (allT_app (allT_cons (tok_fix _ (by decide)) (allT_cons hd allT_nil)) (allT_app hr.1 (allT_cons (tok_fix _ (by decide)) hc.1)))), ?_⟩
  have h1 := hp.2
  have h2 := hr.2
  have h3 := hc.2
  simp only [List.length_append, List.length_cons, List.length_nil] at h1 ⊢
  omega
 rw [if_neg c3] at v4 ⊢
 by_cases c4 : k = 4
 ·rw [if_pos c4] at v4 ⊢
  simp only [Bool.and_eq_true, decide_eq_true_eq] at v4
  have hr := refs_toks (key := tSeeing) (by decide) v3 v2
  refine ⟨allT_app (allT_cons (tok_fix _ (by decide)) (allT_cons (tok_name v4.1.1) (allT_cons (tok_fix _ (by decide)) (allT_cons hd allT_nil)))) hr.1, ?_⟩
  have h2 := hr.2
  simp only [List.length_append, List.length_cons, List.length_nil]; omega
 rw [if_neg c4] at v4 ⊢
 by_cases c5 : k = 5
 ·rw [if_pos c5] at v4 ⊢
  simp only [Bool.and_eq_true, decide_eq_true_eq] at v4
  have hr := refs_toks (key := tFrom) (by decide) v3 v2
  have hc := rule_toks v4.2
  refine ⟨allT_cons (tok_fix _ (by decide)) (allT_app hr.1 (allT_cons (tok_fix _ (by decide)) hc.1)), ?_⟩
  have h2 := hr.2
  have h3 := hc.2
  simp only [List.length_append, List.length_cons]; omega
 ·rw [if_neg c5]
  exact ⟨allT_nil, by simp⟩
theorem tok_len {t : List UInt8} (h : TokOK t) : 1 ≤ t.length ∧ t.length ≤ 10 := by
 obtain ⟨k, h⟩ := h
 exact right_len h
theorem spW_len : ∀ {x : Toks} (b : Bool), AllT x → (spW b x).length ≤ 11 * x.length
 | [], _, _ => by simp [spW]
 | t :: x, b, h => by
  have h1 := tok_len (h t (List.mem_cons_self ..))
  have h2 := spW_len (x := x) true fun u hu => h u (List.mem_cons_of_mem _ hu)
  have h3 : (if b = true then [32] else [] : List UInt8).length ≤ 1 := by cases b <;> simp
  rw [spW, List.length_append, List.length_append, List.length_cons]
  omega
theorem progG_ok {e : List UInt8} {ds : List De} (he : GapOK e) (hv : ∀ d ∈ ds, declB d = true) : ∀ x ∈ progG e ds, TokOK x.1 ∧ GapOK x.2 := by
 intro x hx
 obtain ⟨d, hd, hx⟩ := List.mem_flatMap.1 hx
 exact piece_ok he (decl_toks (hv d hd)).1 x hx
theorem valid_decl {ds : List De} (h : validB ds = true) : ds.length ≤ 30 ∧ ∀ d ∈ ds, declB d = true := by
 simp only [validB, Bool.and_eq_true, decide_eq_true_eq, List.all_eq_true] at h
 exact h
theorem progG_len (e : List UInt8) (ds : List De) : (progG e ds).length = cntT ds := by
 rw [← List.length_map (f := Prod.fst), progG_text, flat_len]
theorem relw_c (k : Int) : Pure cx 185 [i64 k] (· = .ret [.str (relT k)]) := by
 refine pure_of_vc Tryz.func185 rfl rfl rfl ?_
 (first | refine brLt (fun h1 => ?_) (fun h1 => ?_) | refine brLe (fun h1 => ?_) (fun h1 => ?_) | refine brEq (fun h1 => ?_) (fun h1 => ?_))
 ·have h1 : k = 1 := h1
  exact end1 _ rfl rfl (by rw [relT, if_pos h1])
 have h1 : ¬ k = 1 := h1
 (first | refine brLt (fun h2 => ?_) (fun h2 => ?_) | refine brLe (fun h2 => ?_) (fun h2 => ?_) | refine brEq (fun h2 => ?_) (fun h2 => ?_))
 ·have h2 : k = 2 := h2
  exact end1 _ rfl rfl (by rw [relT, if_neg h1, if_pos h2])
 have h2 : ¬ k = 2 := h2
 (first | refine brLt (fun h3 => ?_) (fun h3 => ?_) | refine brLe (fun h3 => ?_) (fun h3 => ?_) | refine brEq (fun h3 => ?_) (fun h3 => ?_))
 ·have h3 : k = 3 := h3
  exact end1 _ rfl rfl (by rw [relT, if_neg h1, if_neg h2, if_pos h3])
 have h3 : ¬ k = 3 := h3
 exact end1 _ rfl rfl (by rw [relT, if_neg h1, if_neg h2, if_neg h3])
theorem leafB_all {op n rel val : Int} {r : Rf} {st : List Int} (hb : leafB op n rel val r st = true) : refB r = true ∧ (op = 6 → natB n = true ∧ natB val = true) ∧ (op = 5 → setB st = true) ∧ (¬ op = 5 → ¬ op = 6 → natB n = true) := by
 unfold leafB at hb
 by_cases c6 : op = 6
 ·rw [if_neg (by omega), if_neg (by omega), if_pos c6] at hb
  simp only [Bool.and_eq_true, decide_eq_true_eq] at hb
  obtain ⟨⟨⟨⟨⟨⟨b1, b2⟩, b3⟩, b4⟩, b5⟩, b6⟩, b7⟩ := hb
  exact ⟨b1, fun _ => ⟨b3, b4⟩, fun h => by omega, fun _ h => absurd c6 h⟩
 ·by_cases c5 : op = 5
  ·rw [if_neg (by omega), if_pos c5] at hb
   simp only [Bool.and_eq_true, decide_eq_true_eq] at hb
   obtain ⟨⟨⟨⟨b1, b2⟩, b3⟩, b4⟩, b5⟩ := hb
   exact ⟨b1, fun h => absurd h c6, fun _ => b5, fun h => absurd c5 h⟩
  ·by_cases c1 : op = 1 ∨ op = 2 ∨ op = 3 ∨ op = 4
   ·rw [if_pos c1] at hb
    simp only [Bool.and_eq_true, decide_eq_true_eq] at hb
    exact ⟨hb.1.1.1.1, fun h => absurd h c6, fun h => absurd h c5, fun _ _ => hb.1.1.1.2⟩
   ·rw [if_neg c1, if_neg c5, if_neg c6] at hb
    cases hb
abbrev setP (r : Rf) (l : List Int) : Toks := (refT r ++ [tIn, tLC]) ++ sepT (fun n => [digT n]) l
theorem test_w (st : Wst) (op n rel val : Int) (r : Rf) (s : List Int) (hv : leafB op n rel val r s = true) (hb0 : st.sz + wt (leafT op n rel val r s) ≤ 100000000) : HoldsG cx 158 [.ptr 0 0 0, .p (Cd.mk op n rel val r s []).pv] (wH true st) (WQ (puts st (leafT op n rel val r s))) := by
 obtain ⟨f1, f2, f3, f4⟩ := leafB_all hv
 by_cases h6 : op = 6
 ·subst h6
  obtain ⟨g1, g2⟩ := f2 rfl
  have e : leafT 6 n rel val r s = (([] ++ [tCount, tLP]) ++ refT r) ++ [tEq, digT val, tRP, relT rel, digT n] := by
   rw [leafT, if_pos rfl]; simp
  rw [e] at hb0 ⊢
  have hb := hb0
  refine holdsN_of_vc Tryz.func158 rfl rfl rfl ?_
  refine And.intro (fun _ => ?_) (fun h => absurd rfl h)
  refine (put_h true (puts st ([])) ([tCount, tLP]) (by simp) (by have hz := puts_sz ([]) st; simp only [wt_app, wt] at hb hz ⊢; omega)).holds.useT [] [(2, 3)] rfl (sk) (sk) fun e0 H0 hq => ?_
  rw [← puts_app] at hq
  obtain ⟨rfl, rfl⟩ := hq
  refine ⟨rfl, _, ⟨5, ((4, bO (puts st ([] ++ [tCount, tLP])).s) :: (0, wO 4 (puts st ([] ++ [tCount, tLP]))) :: [(2, cO ((Cd.mk 6 n rel val r s []).cells.map .p))])⟩, rfl, rfl, ?_⟩
  refine (ref_w (puts st ([] ++ [tCount, tLP])) r f1 (by have hz := puts_sz ([] ++ [tCount, tLP]) st; simp only [wt_app, wt] at hb hz ⊢; omega)).holds.useT [] [(1, 4)] rfl (sk) (sk) fun e0 H0 hq => ?_
  unfold WQ at hq
  rw [← puts_app] at hq
  obtain ⟨rfl, rfl⟩ := hq
  refine ⟨rfl, _, ⟨6, ((5, bO (puts st (([] ++ [tCount, tLP]) ++ refT r)).s) :: (0, wO 5 (puts st (([] ++ [tCount, tLP]) ++ refT r))) :: [(2, cO ((Cd.mk 6 n rel val r s []).cells.map .p))])⟩, rfl, rfl, ?_⟩
  refine VDraw.seq rfl ?_
  refine (itoa_c val g2).eq rfl ?_
  refine ⟨sk, ?_⟩
  refine (relw_c rel).eq rfl ?_
  refine ⟨sk, ?_⟩
  refine (itoa_c n g1).eq rfl ?_
  refine (put_h true (puts st (([] ++ [tCount, tLP]) ++ refT r)) ([tEq, digT val, tRP, relT rel, digT n]) (by simp) (by have hz := puts_sz (([] ++ [tCount, tLP]) ++ refT r) st; simp only [wt_app, wt] at hb hz ⊢; omega)).holds.useT [] [(1, 5), (2, 6)] rfl (sk) (sk) fun e0 H0 hq => ?_
  rw [← puts_app] at hq
  obtain ⟨rfl, rfl⟩ := hq
  refine ⟨rfl, _, ⟨8, ((7, bO (puts st (([] ++ [tCount, tLP]) ++ refT r ++ [tEq, digT val, tRP, relT rel, digT n])).s) :: (0, wO 7 (puts st (([] ++ [tCount, tLP]) ++ refT r ++ [tEq, digT val, tRP, relT rel, digT n]))) :: [(2, cO ((Cd.mk 6 n rel val r s []).cells.map .p))])⟩, rfl, rfl, ?_⟩
  exact ⟨[], [(2, 7)], [], .returned und, _, rfl, sk, sk, rfl, rfl⟩
 by_cases h5 : op = 5
 ·subst h5
  obtain ⟨s1, s2, s3⟩ := setB_facts (f3 rfl)
  have s8 : s.length ≤ 8 := by
   have := f3 rfl
   simp only [setB, Bool.and_eq_true, decide_eq_true_eq] at this
   exact this.1.2
  have hm : (s.map i64).length = s.length := List.length_map ..
  have e : leafT 5 n rel val r s = setP r s ++ [tRC] := by
   rw [leafT, if_neg (by decide), if_pos rfl]; simp [setP]
  rw [e] at hb0 ⊢
  refine holdsN_of_vc Tryz.func158 rfl rfl rfl ?_
  refine And.intro (fun h => absurd (show (5 : Int) = 6 from h) (by decide)) (fun _ => ?_)
  refine And.intro (fun _ => ?_) (fun h => absurd rfl h)
  have hb : st.sz + wt (([] ++ refT r) ++ [tIn, tLC]) ≤ 100000000 := by simp only [setP, wt_app, wt] at hb0 ⊢; omega
  refine (ref_w (puts st []) r f1 (by show st.sz + _ ≤ _; simp only [wt_app, wt] at hb ⊢; omega)).holds.useT [] [] rfl (sk) (sk) fun e0 H0 hq => ?_
  unfold WQ at hq
  rw [← puts_app] at hq
  obtain ⟨rfl, rfl⟩ := hq
  refine ⟨rfl, _, ⟨4, ((3, bO (puts st ([] ++ refT r)).s) :: (0, wO 3 (puts st ([] ++ refT r))) :: [(2, cO ((Cd.mk 5 n rel val r s []).cells.map .p))])⟩, rfl, rfl, ?_⟩
  refine (put_h true (puts st ([] ++ refT r)) ([tIn, tLC]) (by simp) (by have hz := puts_sz ([] ++ refT r) st; simp only [wt_app, wt] at hb hz ⊢; omega)).holds.useT [] [(1, 3), (2, 4)] rfl (sk) (sk) fun e0 H0 hq => ?_
  rw [← puts_app] at hq
  obtain ⟨rfl, rfl⟩ := hq
  refine ⟨rfl, _, ⟨6, ((5, bO (puts st ([] ++ refT r ++ [tIn, tLC])).s) :: (0, wO 5 (puts st ([] ++ refT r ++ [tIn, tLC]))) :: [(2, cO ((Cd.mk 5 n rel val r s []).cells.map .p))])⟩, rfl, rfl, ?_⟩
  refine ⟨Toks × Nat, fun x => [(0, .ptr 0 0 0), (55, .p (ints s)), (56, .p (i64 (s.map i64).length)), (57, .p (i64 x.2))], fun x => wH' (puts st x.1), fun x => x.2 ≤ s.length ∧ x.1 = setP r (s.take x.2), fun x => s.length - x.2, ?_, ?_⟩
  ·exact ⟨(([] ++ refT r) ++ [tIn, tLC], 0), ⟨Nat.zero_le _, by simp [setP, sepT]⟩, ent_of [] [(2, 5)] [] rfl (sk) (sk) rfl⟩
  clear hb
  rintro ⟨P, k⟩ ⟨k1, k2⟩
  simp only [] at k1 k2
  (first | refine brLt (fun m1 => ?_) (fun m1 => ?_) | refine brLe (fun m1 => ?_) (fun m1 => ?_) | refine brEq (fun m1 => ?_) (fun m1 => ?_))
  rotate_left
  ·have m1 : ¬ (k : Int) < ((s.map i64).length : Nat) := m1
   rw [hm] at m1
   have e : s.take k = s := take_all (by omega)
   rw [e] at k2
   rw [← k2] at hb0
   have hb := hb0
   refine (put_h true (puts st (P)) ([tRC]) (by simp) (by have hz := puts_sz (P) st; simp only [wt_app, wt] at hb hz ⊢; omega)).holds.useT [] [(1, 2), (2, 3)] rfl (sk) (sk) fun e0 H0 hq => ?_
   rw [← puts_app] at hq
   obtain ⟨rfl, rfl⟩ := hq
   refine ⟨rfl, _, ⟨5, ((4, bO (puts st (P ++ [tRC])).s) :: (0, wO 4 (puts st (P ++ [tRC]))) :: [])⟩, rfl, rfl, ?_⟩
   exact ⟨[], [(2, 4)], [], .returned und, wH' (puts st (P ++ [tRC])), rfl, sk, sk, rfl, by rw [k2]⟩
  have m1 : (k : Int) < ((s.map i64).length : Nat) := m1
  rw [hm] at m1
  have hk : k < s.length := by omega
  have hn := s2 _ (getD_memL 0 hk)
  have hw := sep_wt (f := fun n => [digT n]) s (k + 1)
  have hcell := icell hk
  have et : setP r (s.take (k + 1)) = setP r (s.take k) ++ ((if k = 0 then [] else [tComma]) ++ [digT (s.getD k 0)]) := by
   rw [setP, sep_take 0 hk]; simp [setP]
  have hb : st.sz + wt (setP r (s.take (k + 1))) ≤ 100000000 := by
   simp only [setP, wt_app, wt] at hb0 hw ⊢; omega
  rw [et] at hb
  rw [← k2] at et hb
  clear k2
  generalize s.getD k 0 = x at hn hcell et hb
  refine ⟨_, ⟨by omega, i64 x, hcell, rfl⟩, ?_⟩
  by_cases c : k = 0
  ·rw [if_pos c] at et hb
   refine And.intro (fun h => absurd (show (0 : Int) < (k : Nat) from h) (by omega)) (fun _ => ?_)
   refine (itoa_c x hn).eq rfl ?_
   have hb : st.sz + wt (P ++ [digT x]) ≤ 100000000 := hb
   refine (put_h true (puts st (P)) ([digT x]) (by simp) (by have hz := puts_sz (P) st; simp only [wt_app, wt] at hb hz ⊢; omega)).holds.useT [] [(1, 2), (2, 3)] rfl (sk) (sk) fun e0 H0 hq => ?_
   rw [← puts_app] at hq
   obtain ⟨rfl, rfl⟩ := hq
   refine ⟨rfl, _, ⟨5, ((4, bO (puts st (P ++ [digT x])).s) :: (0, wO 4 (puts st (P ++ [digT x]))) :: [])⟩, rfl, rfl, ?_⟩
   refine ⟨_, wrap_i64 (by omega) (by omega), ?_⟩
   exact ⟨(P ++ [digT x], k + 1), ⟨hk, et.symm⟩, ent_of [] [(2, 4)] [] rfl (sk) (sk) rfl, by show s.length - (k + 1) < s.length - k; omega⟩
  ·rw [if_neg c] at et hb
   rw [← List.append_assoc] at et hb
   refine And.intro (fun _ => ?_) (fun h => absurd (show (0 : Int) < (k : Nat) by omega) h)
   refine (put_h true (puts st (P)) ([tComma]) (by simp) (by have hz := puts_sz (P) st; simp only [wt_app, wt] at hb hz ⊢; omega)).holds.useT [] [(1, 2), (2, 3)] rfl (sk) (sk) fun e0 H0 hq => ?_
   rw [← puts_app] at hq
   obtain ⟨rfl, rfl⟩ := hq
   refine ⟨rfl, _, ⟨5, ((4, bO (puts st (P ++ [tComma])).s) :: (0, wO 4 (puts st (P ++ [tComma]))) :: [])⟩, rfl, rfl, ?_⟩
   refine (itoa_c x hn).eq rfl ?_
   refine (put_h true (puts st (P ++ [tComma])) ([digT x]) (by simp) (by have hz := puts_sz (P ++ [tComma]) st; simp only [wt_app, wt] at hb hz ⊢; omega)).holds.useT [] [(1, 4), (2, 5)] rfl (sk) (sk) fun e0 H0 hq => ?_
   rw [← puts_app] at hq
   obtain ⟨rfl, rfl⟩ := hq
   refine ⟨rfl, _, ⟨7, ((6, bO (puts st (P ++ [tComma] ++ [digT x])).s) :: (0, wO 6 (puts st (P ++ [tComma] ++ [digT x]))) :: [])⟩, rfl, rfl, ?_⟩
   refine ⟨_, wrap_i64 (by omega) (by omega), ?_⟩
   exact ⟨((P ++ [tComma]) ++ [digT x], k + 1), ⟨hk, et.symm⟩, ent_of [] [(2, 6)] [] rfl (sk) (sk) rfl, by show s.length - (k + 1) < s.length - k; omega⟩
 ·have e : leafT op n rel val r s = ([] ++ refT r) ++ [relT op, digT n] := by
   rw [leafT, if_neg h6, if_neg h5]; rfl
  have g1 := f4 h5 h6
  rw [e] at hb0 ⊢
  have hb := hb0
  refine holdsN_of_vc Tryz.func158 rfl rfl rfl ?_
  refine And.intro (fun h => absurd h h6) (fun _ => ?_)
  refine And.intro (fun h => absurd h h5) (fun _ => ?_)
  refine (ref_w (puts st []) r f1 (by show st.sz + _ ≤ _; simp only [wt_app, wt] at hb ⊢; omega)).holds.useT [] [] rfl (sk) (sk) fun e0 H0 hq => ?_
  unfold WQ at hq
  rw [← puts_app] at hq
  obtain ⟨rfl, rfl⟩ := hq
  refine ⟨rfl, _, ⟨4, ((3, bO (puts st ([] ++ refT r)).s) :: (0, wO 3 (puts st ([] ++ refT r))) :: [(2, cO ((Cd.mk op n rel val r s []).cells.map .p))])⟩, rfl, rfl, ?_⟩
  refine VDraw.seq rfl ?_
  refine (relw_c op).eq rfl ?_
  refine ⟨sk, ?_⟩
  refine (itoa_c n g1).eq rfl ?_
  refine (put_h true (puts st ([] ++ refT r)) ([relT op, digT n]) (by simp) (by have hz := puts_sz ([] ++ refT r) st; simp only [wt_app, wt] at hb hz ⊢; omega)).holds.useT [] [(1, 3), (2, 4)] rfl (sk) (sk) fun e0 H0 hq => ?_
  rw [← puts_app] at hq
  obtain ⟨rfl, rfl⟩ := hq
  refine ⟨rfl, _, ⟨6, ((5, bO (puts st ([] ++ refT r ++ [relT op, digT n])).s) :: (0, wO 5 (puts st ([] ++ refT r ++ [relT op, digT n]))) :: [(2, cO ((Cd.mk op n rel val r s []).cells.map .p))])⟩, rfl, rfl, ?_⟩
  exact ⟨[], [(2, 5)], [], .returned und, _, rfl, sk, sk, rfl, rfl⟩
theorem within_par {k : Nat} {c : Cd} (h : lvl c.op < k) : withinT k c = tLP :: (condT c ++ [tRP]) := if_pos h
def CwOK (d : Nat) : Prop := ∀ (c : Cd), (∃ l k, condV d c l = some k) → ∀ (st : Wst) (L : Nat), L ≤ 2 → st.sz + wt (withinT (L + 1) c) ≤ 100000000 → HoldsG cx 115 [.ptr 0 0 0, .p c.pv, .p (i64 L)] (wH true st) (WQ (puts st (withinT (L + 1) c)))
abbrev ccO (c : Cd) : AObj := cO (c.cells.map .p)
theorem cond_wStep {d : Nat} (ih : CwOK d) : CwOK (d + 1) := by
 intro c ⟨l, k, hv⟩ st L hL hb
 cases cond_shape hv with
 | leaf op n rel val r s h7 h8 h9 hl =>
  have hX : withinT (L + 1) (.mk op n rel val r s []) = [] ++ leafT op n rel val r s := by
   rw [within_at (by show ¬ lvl op < L + 1; rw [lvl_leaf h7 h8 h9]; omega), condT_leaf h7 h8 h9]; rfl
  rw [hX] at hb ⊢
  refine holdsN_of_vc Tryz.func115 rfl rfl rfl ?_
  refine And.intro (fun h => absurd h h9) (fun _ => ?_)
  refine And.intro (fun h => absurd h h8) (fun _ => ?_)
  refine And.intro (fun h => absurd (show (2 : Int) < (L : Nat) from h) (by omega)) (fun _ => ?_)
  refine And.intro (fun h => absurd h h9) (fun _ => ?_)
  refine And.intro (fun h => absurd h h8) (fun _ => ?_)
  refine And.intro (fun h => absurd h h7) (fun _ => ?_)
  refine (test_w (puts st []) op n rel val r s hl hb).holds.useT [] [] rfl (sk) (sk) fun e0 H0 hq => ?_
  unfold WQ at hq
  rw [← puts_app] at hq
  obtain ⟨rfl, rfl⟩ := hq
  refine ⟨rfl, _, ⟨4, ((3, bO (puts st ([] ++ leafT op n rel val r s)).s) :: (0, wO 3 (puts st ([] ++ leafT op n rel val r s))) :: [(2, ccO _)])⟩, rfl, rfl, ?_⟩
  exact ⟨[], [(2, 3)], [], .returned und, wH' (puts st ([] ++ leafT op n rel val r s)), rfl, sk, sk, rfl, rfl⟩
 | neg a pa =>
  obtain ⟨A, hA⟩ : ∃ A, A = withinT 3 a := ⟨_, rfl⟩
  have hX : withinT (L + 1) (.mk 7 0 0 0 rf0 [] [a]) = ([] ++ [tNot]) ++ A := by
   rw [within_at (by show ¬ lvl 7 < L + 1; have : lvl 7 = 3 := rfl; omega), condT_neg, hA]; rfl
  rw [hX] at hb ⊢
  have ha := fun s h => ih a pa s 2 (by omega) h
  have ha : ∀ s : Wst, s.sz + wt A ≤ 100000000 → HoldsG cx 115 [.ptr 0 0 0, .p a.pv, .p (i64 (2 : Nat))] (wH true s) (WQ (puts s A)) := fun s h => by rw [hA] at h ⊢; exact ha s h
  clear hA hX hv pa
  obtain ⟨ao, an, ar, av, af, at', aa⟩ := a
  refine holdsN_of_vc Tryz.func115 rfl rfl rfl ?_
  refine And.intro (fun h => absurd (show (7 : Int) = 9 from h) (by decide)) (fun _ => ?_)
  refine And.intro (fun h => absurd (show (7 : Int) = 8 from h) (by decide)) (fun _ => ?_)
  refine And.intro (fun h => absurd (show (2 : Int) < (L : Nat) from h) (by omega)) (fun _ => ?_)
  refine And.intro (fun h => absurd (show (7 : Int) = 9 from h) (by decide)) (fun _ => ?_)
  refine And.intro (fun h => absurd (show (7 : Int) = 8 from h) (by decide)) (fun _ => ?_)
  refine And.intro (fun _ => ?_) (fun h => absurd rfl h)
  refine (put_h true (puts st ([])) ([tNot]) (by simp) (by have hz := puts_sz ([]) st; simp only [wt_app, wt] at hb hz ⊢; omega)).holds.useT [] [(2, 3)] rfl (sk) (sk) fun e0 H0 hq => ?_
  rw [← puts_app] at hq
  obtain ⟨rfl, rfl⟩ := hq
  refine ⟨rfl, _, ⟨5, ((4, bO (puts st ([] ++ [tNot])).s) :: (0, wO 4 (puts st ([] ++ [tNot]))) :: [(2, ccO _)])⟩, rfl, rfl, ?_⟩
  refine ⟨_, ⟨by decide, _, rfl, rfl⟩, ?_⟩
  refine (ha (puts st ([] ++ [tNot])) (by have hz := puts_sz ([] ++ [tNot]) st; simp only [wt_app, wt] at hb hz ⊢; omega)).holds.useT [] [(1, 4)] rfl (sk) (sk) fun e0 H0 hq => ?_
  unfold WQ at hq
  rw [← puts_app] at hq
  obtain ⟨rfl, rfl⟩ := hq
  refine ⟨rfl, _, ⟨6, ((5, bO (puts st (([] ++ [tNot]) ++ A)).s) :: (0, wO 5 (puts st (([] ++ [tNot]) ++ A))) :: [(2, ccO _)])⟩, rfl, rfl, ?_⟩
  exact ⟨[], [(2, 5)], [], .returned und, wH' (puts st (([] ++ [tNot]) ++ A)), rfl, sk, sk, rfl, rfl⟩
 | conj a b pa pb =>
  have ha := fun s h => ih a pa s 1 (by omega) h
  have hc := fun s h => ih b pb s 2 (by omega) h
  obtain ⟨A, hA⟩ : ∃ A, A = withinT 2 a := ⟨_, rfl⟩
  obtain ⟨B, hB⟩ : ∃ B, B = withinT 3 b := ⟨_, rfl⟩
  have ha : ∀ s : Wst, s.sz + wt A ≤ 100000000 → HoldsG cx 115 [.ptr 0 0 0, .p a.pv, .p (i64 (1 : Nat))] (wH true s) (WQ (puts s A)) := fun s h => by rw [hA] at h ⊢; exact ha s h
  have hc : ∀ s : Wst, s.sz + wt B ≤ 100000000 → HoldsG cx 115 [.ptr 0 0 0, .p b.pv, .p (i64 (2 : Nat))] (wH true s) (WQ (puts s B)) := fun s h => by rw [hB] at h ⊢; exact hc s h
  have hC : condT (.mk 8 0 0 0 rf0 [] [a, b]) = A ++ tAnd :: B := by rw [condT_conj, hA, hB]
  by_cases hp : 1 < L
  ·have hX : withinT (L + 1) (.mk 8 0 0 0 rf0 [] [a, b]) = (((([] ++ [tLP]) ++ A) ++ [tAnd]) ++ B) ++ [tRP] := by
    rw [within_par (show lvl 8 < L + 1 by have : lvl 8 = 2 := rfl; omega), hC]; simp
   rw [hX] at hb
   clear hA hB hC pa pb hv
   generalize withinT (L + 1) (.mk 8 0 0 0 rf0 [] [a, b]) = X at hX ⊢
   obtain ⟨ao, an, ar, av, af, at', aa⟩ := a
   obtain ⟨bo, bn, br, bv, bf, bt, ba⟩ := b
   refine holdsN_of_vc Tryz.func115 rfl rfl rfl ?_
   refine And.intro (fun h => absurd (show (8 : Int) = 9 from h) (by decide)) (fun _ => ?_)
   refine And.intro (fun _ => ?_) (fun h => absurd rfl h)
   refine And.intro (fun _ => ?_) (fun h => absurd (show (1 : Int) < (L : Nat) by omega) h)
   refine (put_h true (puts st ([])) ([tLP]) (by simp) (by have hz := puts_sz ([]) st; simp only [wt_app, wt] at hb hz ⊢; omega)).holds.useT [] [(2, 3)] rfl (sk) (sk) fun e0 H0 hq => ?_
   rw [← puts_app] at hq
   obtain ⟨rfl, rfl⟩ := hq
   refine ⟨rfl, _, ⟨5, ((4, bO (puts st ([] ++ [tLP])).s) :: (0, wO 4 (puts st ([] ++ [tLP]))) :: [(2, ccO _)])⟩, rfl, rfl, ?_⟩
   refine And.intro (fun h => absurd (show (8 : Int) = 9 from h) (by decide)) (fun _ => ?_)
   refine And.intro (fun _ => ?_) (fun h => absurd rfl h)
   refine ⟨_, ⟨by decide, _, rfl, rfl⟩, ?_⟩
   refine (ha (puts st ([] ++ [tLP])) (by have hz := puts_sz ([] ++ [tLP]) st; simp only [wt_app, wt] at hb hz ⊢; omega)).holds.useT [] [(1, 4)] rfl (sk) (sk) fun e0 H0 hq => ?_
   unfold WQ at hq
   rw [← puts_app] at hq
   obtain ⟨rfl, rfl⟩ := hq
   refine ⟨rfl, _, ⟨7, ((6, bO (puts st (([] ++ [tLP]) ++ A)).s) :: (0, wO 6 (puts st (([] ++ [tLP]) ++ A))) :: [(5, sU [tRP]), (2, ccO _)])⟩, rfl, rfl, ?_⟩
   refine (put_h true (puts st (([] ++ [tLP]) ++ A)) ([tAnd]) (by simp) (by have hz := puts_sz (([] ++ [tLP]) ++ A) st; simp only [wt_app, wt] at hb hz ⊢; omega)).holds.useT [] [(1, 6), (2, 7)] rfl (sk) (sk) fun e0 H0 hq => ?_
   rw [← puts_app] at hq
   obtain ⟨rfl, rfl⟩ := hq
   refine ⟨rfl, _, ⟨9, ((8, bO (puts st (([] ++ [tLP]) ++ A ++ [tAnd])).s) :: (0, wO 8 (puts st (([] ++ [tLP]) ++ A ++ [tAnd]))) :: [(5, sU [tRP]), (2, ccO _)])⟩, rfl, rfl, ?_⟩
   refine ⟨_, ⟨by decide, _, rfl, rfl⟩, ?_⟩
   refine (hc (puts st ((([] ++ [tLP]) ++ A) ++ [tAnd])) (by have hz := puts_sz ((([] ++ [tLP]) ++ A) ++ [tAnd]) st; simp only [wt_app, wt] at hb hz ⊢; omega)).holds.useT [] [(1, 8)] rfl (sk) (sk) fun e0 H0 hq => ?_
   unfold WQ at hq
   rw [← puts_app] at hq
   obtain ⟨rfl, rfl⟩ := hq
   refine ⟨rfl, _, ⟨10, ((9, bO (puts st (((([] ++ [tLP]) ++ A) ++ [tAnd]) ++ B)).s) :: (0, wO 9 (puts st (((([] ++ [tLP]) ++ A) ++ [tAnd]) ++ B))) :: [(5, sU [tRP]), (2, ccO _)])⟩, rfl, rfl, ?_⟩
   refine (putd_h true (puts st (((([] ++ [tLP]) ++ A) ++ [tAnd]) ++ B)) [tRP] (by simp) (by have hz := puts_sz (((([] ++ [tLP]) ++ A) ++ [tAnd]) ++ B) st; simp only [wt_app, wt] at hb hz ⊢; omega)).useT [] [(1, 9), (2, 5)] rfl (sk) (sk) fun e0 H0 hq => ?_
   rw [← puts_app] at hq
   obtain ⟨rfl, rfl⟩ := hq
   refine ⟨rfl, _, ⟨11, ((10, bO (puts st ((((([] ++ [tLP]) ++ A) ++ [tAnd]) ++ B) ++ [tRP])).s) :: (0, wO 10 (puts st ((((([] ++ [tLP]) ++ A) ++ [tAnd]) ++ B) ++ [tRP]))) :: [(2, ccO _)])⟩, rfl, rfl, ?_⟩
   exact ⟨[], [(2, 10)], [], .returned und, wH' (puts st ((((([] ++ [tLP]) ++ A) ++ [tAnd]) ++ B) ++ [tRP])), rfl, sk, sk, rfl, by rw [hX]⟩
  ·have hX : withinT (L + 1) (.mk 8 0 0 0 rf0 [] [a, b]) = (([] ++ A) ++ [tAnd]) ++ B := by
    rw [within_at (by show ¬ lvl 8 < L + 1; have : lvl 8 = 2 := rfl; omega), hC]; simp
   rw [hX] at hb
   clear hA hB hC pa pb hv
   generalize withinT (L + 1) (.mk 8 0 0 0 rf0 [] [a, b]) = X at hX ⊢
   obtain ⟨ao, an, ar, av, af, at', aa⟩ := a
   obtain ⟨bo, bn, br, bv, bf, bt, ba⟩ := b
   refine holdsN_of_vc Tryz.func115 rfl rfl rfl ?_
   refine And.intro (fun h => absurd (show (8 : Int) = 9 from h) (by decide)) (fun _ => ?_)
   refine And.intro (fun _ => ?_) (fun h => absurd rfl h)
   refine And.intro (fun h => absurd (show (1 : Int) < (L : Nat) from h) (by omega)) (fun _ => ?_)
   refine And.intro (fun h => absurd (show (8 : Int) = 9 from h) (by decide)) (fun _ => ?_)
   refine And.intro (fun _ => ?_) (fun h => absurd rfl h)
   refine ⟨_, ⟨by decide, _, rfl, rfl⟩, ?_⟩
   refine (ha (puts st []) (by show st.sz + wt A ≤ 100000000; simp only [wt_app, wt] at hb ⊢; omega)).holds.useT [] [] rfl (sk) (sk) fun e0 H0 hq => ?_
   unfold WQ at hq
   rw [← puts_app] at hq
   obtain ⟨rfl, rfl⟩ := hq
   refine ⟨rfl, _, ⟨4, ((3, bO (puts st ([] ++ A)).s) :: (0, wO 3 (puts st ([] ++ A))) :: [(2, ccO _)])⟩, rfl, rfl, ?_⟩
   refine (put_h true (puts st ([] ++ A)) ([tAnd]) (by simp) (by have hz := puts_sz ([] ++ A) st; simp only [wt_app, wt] at hb hz ⊢; omega)).holds.useT [] [(1, 3), (2, 4)] rfl (sk) (sk) fun e0 H0 hq => ?_
   rw [← puts_app] at hq
   obtain ⟨rfl, rfl⟩ := hq
   refine ⟨rfl, _, ⟨6, ((5, bO (puts st ([] ++ A ++ [tAnd])).s) :: (0, wO 5 (puts st ([] ++ A ++ [tAnd]))) :: [(2, ccO _)])⟩, rfl, rfl, ?_⟩
   refine ⟨_, ⟨by decide, _, rfl, rfl⟩, ?_⟩
   refine (hc (puts st (([] ++ A) ++ [tAnd])) (by have hz := puts_sz (([] ++ A) ++ [tAnd]) st; simp only [wt_app, wt] at hb hz ⊢; omega)).holds.useT [] [(1, 5)] rfl (sk) (sk) fun e0 H0 hq => ?_
   unfold WQ at hq
   rw [← puts_app] at hq
   obtain ⟨rfl, rfl⟩ := hq
   refine ⟨rfl, _, ⟨7, ((6, bO (puts st ((([] ++ A) ++ [tAnd]) ++ B)).s) :: (0, wO 6 (puts st ((([] ++ A) ++ [tAnd]) ++ B))) :: [(2, ccO _)])⟩, rfl, rfl, ?_⟩
   exact ⟨[], [(2, 6)], [], .returned und, wH' (puts st ((([] ++ A) ++ [tAnd]) ++ B)), rfl, sk, sk, rfl, by rw [hX]⟩
 | disj a b pa pb =>
  have ha := fun s h => ih a pa s 0 (by omega) h
  have hc := fun s h => ih b pb s 1 (by omega) h
  obtain ⟨A, hA⟩ : ∃ A, A = withinT 1 a := ⟨_, rfl⟩
  obtain ⟨B, hB⟩ : ∃ B, B = withinT 2 b := ⟨_, rfl⟩
  have ha : ∀ s : Wst, s.sz + wt A ≤ 100000000 → HoldsG cx 115 [.ptr 0 0 0, .p a.pv, .p (i64 (0 : Nat))] (wH true s) (WQ (puts s A)) := fun s h => by rw [hA] at h ⊢; exact ha s h
  have hc : ∀ s : Wst, s.sz + wt B ≤ 100000000 → HoldsG cx 115 [.ptr 0 0 0, .p b.pv, .p (i64 (1 : Nat))] (wH true s) (WQ (puts s B)) := fun s h => by rw [hB] at h ⊢; exact hc s h
  have hC : condT (.mk 9 0 0 0 rf0 [] [a, b]) = A ++ tOr :: B := by rw [condT_disj, hA, hB]
  by_cases hp : 0 < L
  ·have hX : withinT (L + 1) (.mk 9 0 0 0 rf0 [] [a, b]) = (((([] ++ [tLP]) ++ A) ++ [tOr]) ++ B) ++ [tRP] := by
    rw [within_par (show lvl 9 < L + 1 by have : lvl 9 = 1 := rfl; omega), hC]; simp
   rw [hX] at hb
   clear hA hB hC pa pb hv
   generalize withinT (L + 1) (.mk 9 0 0 0 rf0 [] [a, b]) = X at hX ⊢
   obtain ⟨ao, an, ar, av, af, at', aa⟩ := a
   obtain ⟨bo, bn, br, bv, bf, bt, ba⟩ := b
   refine holdsN_of_vc Tryz.func115 rfl rfl rfl ?_
   refine And.intro (fun _ => ?_) (fun h => absurd rfl h)
   refine And.intro (fun _ => ?_) (fun h => absurd (show (0 : Int) < (L : Nat) by omega) h)
   refine (put_h true (puts st ([])) ([tLP]) (by simp) (by have hz := puts_sz ([]) st; simp only [wt_app, wt] at hb hz ⊢; omega)).holds.useT [] [(2, 3)] rfl (sk) (sk) fun e0 H0 hq => ?_
   rw [← puts_app] at hq
   obtain ⟨rfl, rfl⟩ := hq
   refine ⟨rfl, _, ⟨5, ((4, bO (puts st ([] ++ [tLP])).s) :: (0, wO 4 (puts st ([] ++ [tLP]))) :: [(2, ccO _)])⟩, rfl, rfl, ?_⟩
   refine And.intro (fun _ => ?_) (fun h => absurd rfl h)
   refine ⟨_, ⟨by decide, _, rfl, rfl⟩, ?_⟩
   refine (ha (puts st ([] ++ [tLP])) (by have hz := puts_sz ([] ++ [tLP]) st; simp only [wt_app, wt] at hb hz ⊢; omega)).holds.useT [] [(1, 4)] rfl (sk) (sk) fun e0 H0 hq => ?_
   unfold WQ at hq
   rw [← puts_app] at hq
   obtain ⟨rfl, rfl⟩ := hq
   refine ⟨rfl, _, ⟨7, ((6, bO (puts st (([] ++ [tLP]) ++ A)).s) :: (0, wO 6 (puts st (([] ++ [tLP]) ++ A))) :: [(5, sU [tRP]), (2, ccO _)])⟩, rfl, rfl, ?_⟩
   refine (put_h true (puts st (([] ++ [tLP]) ++ A)) ([tOr]) (by simp) (by have hz := puts_sz (([] ++ [tLP]) ++ A) st; simp only [wt_app, wt] at hb hz ⊢; omega)).holds.useT [] [(1, 6), (2, 7)] rfl (sk) (sk) fun e0 H0 hq => ?_
   rw [← puts_app] at hq
   obtain ⟨rfl, rfl⟩ := hq
   refine ⟨rfl, _, ⟨9, ((8, bO (puts st (([] ++ [tLP]) ++ A ++ [tOr])).s) :: (0, wO 8 (puts st (([] ++ [tLP]) ++ A ++ [tOr]))) :: [(5, sU [tRP]), (2, ccO _)])⟩, rfl, rfl, ?_⟩
   refine ⟨_, ⟨by decide, _, rfl, rfl⟩, ?_⟩
   refine (hc (puts st ((([] ++ [tLP]) ++ A) ++ [tOr])) (by have hz := puts_sz ((([] ++ [tLP]) ++ A) ++ [tOr]) st; simp only [wt_app, wt] at hb hz ⊢; omega)).holds.useT [] [(1, 8)] rfl (sk) (sk) fun e0 H0 hq => ?_
   unfold WQ at hq
   rw [← puts_app] at hq
   obtain ⟨rfl, rfl⟩ := hq
   refine ⟨rfl, _, ⟨10, ((9, bO (puts st (((([] ++ [tLP]) ++ A) ++ [tOr]) ++ B)).s) :: (0, wO 9 (puts st (((([] ++ [tLP]) ++ A) ++ [tOr]) ++ B))) :: [(5, sU [tRP]), (2, ccO _)])⟩, rfl, rfl, ?_⟩
   refine (putd_h true (puts st (((([] ++ [tLP]) ++ A) ++ [tOr]) ++ B)) [tRP] (by simp) (by have hz := puts_sz (((([] ++ [tLP]) ++ A) ++ [tOr]) ++ B) st; simp only [wt_app, wt] at hb hz ⊢; omega)).useT [] [(1, 9), (2, 5)] rfl (sk) (sk) fun e0 H0 hq => ?_
   rw [← puts_app] at hq
   obtain ⟨rfl, rfl⟩ := hq
   refine ⟨rfl, _, ⟨11, ((10, bO (puts st ((((([] ++ [tLP]) ++ A) ++ [tOr]) ++ B) ++ [tRP])).s) :: (0, wO 10 (puts st ((((([] ++ [tLP]) ++ A) ++ [tOr]) ++ B) ++ [tRP]))) :: [(2, ccO _)])⟩, rfl, rfl, ?_⟩
   exact ⟨[], [(2, 10)], [], .returned und, wH' (puts st ((((([] ++ [tLP]) ++ A) ++ [tOr]) ++ B) ++ [tRP])), rfl, sk, sk, rfl, by rw [hX]⟩
  ·have hX : withinT (L + 1) (.mk 9 0 0 0 rf0 [] [a, b]) = (([] ++ A) ++ [tOr]) ++ B := by
    rw [within_at (by show ¬ lvl 9 < L + 1; have : lvl 9 = 1 := rfl; omega), hC]; simp
   rw [hX] at hb
   clear hA hB hC pa pb hv
   generalize withinT (L + 1) (.mk 9 0 0 0 rf0 [] [a, b]) = X at hX ⊢
   obtain ⟨ao, an, ar, av, af, at', aa⟩ := a
   obtain ⟨bo, bn, br, bv, bf, bt, ba⟩ := b
   refine holdsN_of_vc Tryz.func115 rfl rfl rfl ?_
   refine And.intro (fun _ => ?_) (fun h => absurd rfl h)
   refine And.intro (fun h => absurd (show (0 : Int) < (L : Nat) from h) (by omega)) (fun _ => ?_)
   refine And.intro (fun _ => ?_) (fun h => absurd rfl h)
   refine ⟨_, ⟨by decide, _, rfl, rfl⟩, ?_⟩
   refine (ha (puts st []) (by show st.sz + wt A ≤ 100000000; simp only [wt_app, wt] at hb ⊢; omega)).holds.useT [] [] rfl (sk) (sk) fun e0 H0 hq => ?_
   unfold WQ at hq
   rw [← puts_app] at hq
   obtain ⟨rfl, rfl⟩ := hq
   refine ⟨rfl, _, ⟨4, ((3, bO (puts st ([] ++ A)).s) :: (0, wO 3 (puts st ([] ++ A))) :: [(2, ccO _)])⟩, rfl, rfl, ?_⟩
   refine (put_h true (puts st ([] ++ A)) ([tOr]) (by simp) (by have hz := puts_sz ([] ++ A) st; simp only [wt_app, wt] at hb hz ⊢; omega)).holds.useT [] [(1, 3), (2, 4)] rfl (sk) (sk) fun e0 H0 hq => ?_
   rw [← puts_app] at hq
   obtain ⟨rfl, rfl⟩ := hq
   refine ⟨rfl, _, ⟨6, ((5, bO (puts st ([] ++ A ++ [tOr])).s) :: (0, wO 5 (puts st ([] ++ A ++ [tOr]))) :: [(2, ccO _)])⟩, rfl, rfl, ?_⟩
   refine ⟨_, ⟨by decide, _, rfl, rfl⟩, ?_⟩
   refine (hc (puts st (([] ++ A) ++ [tOr])) (by have hz := puts_sz (([] ++ A) ++ [tOr]) st; simp only [wt_app, wt] at hb hz ⊢; omega)).holds.useT [] [(1, 5)] rfl (sk) (sk) fun e0 H0 hq => ?_
   unfold WQ at hq
   rw [← puts_app] at hq
   obtain ⟨rfl, rfl⟩ := hq
   refine ⟨rfl, _, ⟨7, ((6, bO (puts st ((([] ++ A) ++ [tOr]) ++ B)).s) :: (0, wO 6 (puts st ((([] ++ A) ++ [tOr]) ++ B))) :: [(2, ccO _)])⟩, rfl, rfl, ?_⟩
   exact ⟨[], [(2, 6)], [], .returned und, wH' (puts st ((([] ++ A) ++ [tOr]) ++ B)), rfl, sk, sk, rfl, by rw [hX]⟩
theorem cond_w : ∀ d, CwOK d
 | 0 => fun c h => by obtain ⟨l, k, h⟩ := h; cases h
 | d + 1 => cond_wStep (cond_w d)
theorem lvl_pos (op : Int) : 1 ≤ lvl op := by
 unfold lvl
 split
 ·decide
 ·split
  ·decide
  ·split <;> decide
theorem cond_w0 {op n rel val : Int} {r : Rf} {s : List Int} {ar : List Cd} (k : Nat) (h : condV 8 (.mk op n rel val r s ar) 30 = some k) (st : Wst) (hb : st.sz + wt (condT (.mk op n rel val r s ar)) ≤ 100000000) : HoldsG cx 115 [.ptr 0 0 0, .p (Cd.mk op n rel val r s ar).pv, .p (i64 0)] (wH true st) (WQ (puts st (condT (.mk op n rel val r s ar)))) := by
 have e : withinT (0 + 1) (.mk op n rel val r s ar) = condT (.mk op n rel val r s ar) := within_at (by have := lvl_pos op; show ¬ lvl op < 0 + 1; omega)
 have := cond_w 8 _ ⟨_, _, h⟩ st 0 (by omega) (by rw [e]; exact hb)
 rw [e] at this
 exact this
def cseO (c : Cs) : AObj := ⟨TCase, false, .bx (c.cells.map .p)⟩
theorem dropCs {l : List Cs} {k : Nat} (h : k < l.length) : l.drop k = l.getD k cs0 :: l.drop (k + 1) := by
 rw [List.getD_eq_getElem?_getD, List.getElem?_eq_getElem h]; exact List.drop_eq_getElem_cons h
theorem dropIs {l : List Int} {k : Nat} (h : k < l.length) : l.drop k = l.getD k 0 :: l.drop (k + 1) := by
 rw [List.getD_eq_getElem?_getD, List.getElem?_eq_getElem h]; exact List.drop_eq_getElem_cons h
theorem casesTx_last {l : List Cs} {i : Nat} {c : Cd} {ns : List Int} (h : i + 1 = l.length) (hx : l.getD i cs0 = ⟨c, ns⟩) : casesTx (l.drop i) = [tElse] ++ ([tCol] ++ numsT ns) := by
 rw [dropCs (by omega), hx, List.drop_eq_nil_of_le (show l.length ≤ i + 1 by omega)]; rfl
theorem casesTx_step {l : List Cs} {i : Nat} {c : Cd} {ns : List Int} (h : i + 1 < l.length) (hx : l.getD i cs0 = ⟨c, ns⟩) : casesTx (l.drop i) = condT c ++ ([tCol] ++ (numsT ns ++ ([tSemi] ++ casesTx (l.drop (i + 1))))) := by
 obtain ⟨d, r, hd⟩ : ∃ d r, l.drop (i + 1) = d :: r := ⟨_, _, dropCs h⟩
 rw [dropCs (by omega), hx, hd]; rfl
theorem rule_w (st : Wst) (l : List Cs) (hv : casesB l = true) (hb0 : st.sz + wt (ruleT l) ≤ 100000000) : HoldsG cx 72 [.ptr 0 0 0, .p (css l)] (wH true st) (WQ (puts st (ruleT l))) := by
 have h0 : ([] ++ [tLC]) ++ (casesTx (l.drop 0) ++ [tRC]) = ruleT l := rfl
 generalize ruleT l = G at h0 hb0 ⊢
 have hm : (l.map Cs.cells).length = l.length := List.length_map ..
 simp only [casesB, Bool.and_eq_true, decide_eq_true_eq] at hv
 obtain ⟨⟨v1, v2⟩, v3⟩ := hv
 refine holdsN_of_vc Tryz.func72 rfl rfl rfl ?_
 have hb : st.sz + wt ([] ++ [tLC]) ≤ 100000000 := by rw [← h0, wt_app] at hb0; omega
 refine (put_h true (puts st ([])) ([tLC]) (by simp) (by have hz := puts_sz ([]) st; simp only [wt_app, wt] at hb hz ⊢; omega)).holds.useT [] [] rfl (sk) (sk) fun e0 H0 hq => ?_
 rw [← puts_app] at hq
 obtain ⟨rfl, rfl⟩ := hq
 refine ⟨rfl, _, ⟨4, ((3, bO (puts st ([] ++ [tLC])).s) :: (0, wO 3 (puts st ([] ++ [tLC]))) :: [])⟩, rfl, rfl, ?_⟩
 refine ⟨Toks × Nat, fun x => [(0, .ptr 0 0 0), (1, .p (css l)), (12, .p (css l)), (13, .p (i64 (l.map Cs.cells).length)), (14, .p (i64 x.2))], fun x => wH' (puts st x.1), fun x => x.2 ≤ l.length ∧ casesT (l.drop x.2) = true ∧ x.1 ++ (casesTx (l.drop x.2) ++ [tRC]) = G, fun x => l.length - x.2, ?_, ?_⟩
 ·exact ⟨([] ++ [tLC], 0), ⟨Nat.zero_le _, v3, h0⟩, ent_of [] [(2, 3)] [] rfl (sk) (sk) rfl⟩
 clear h0 hb
 rintro ⟨P, i⟩ ⟨i0, i2, i3⟩
 simp only [] at i0 i2 i3
 (first | refine brLt (fun j1 => ?_) (fun j1 => ?_) | refine brLe (fun j1 => ?_) (fun j1 => ?_) | refine brEq (fun j1 => ?_) (fun j1 => ?_))
 rotate_left
 ·have j1 : ¬ (i : Int) < ((l.map Cs.cells).length : Nat) := j1
  rw [hm] at j1
  rw [List.drop_eq_nil_of_le (by omega)] at i3
  have i3 : P ++ [tRC] = G := i3
  have hb : st.sz + wt (P ++ [tRC]) ≤ 100000000 := by rw [i3]; exact hb0
  refine (put_h true (puts st (P)) ([tRC]) (by simp) (by have hz := puts_sz (P) st; simp only [wt_app, wt] at hb hz ⊢; omega)).holds.useT [] [(1, 2), (2, 3)] rfl (sk) (sk) fun e0 H0 hq => ?_
  rw [← puts_app] at hq
  obtain ⟨rfl, rfl⟩ := hq
  refine ⟨rfl, _, ⟨5, ((4, bO (puts st (P ++ [tRC])).s) :: (0, wO 4 (puts st (P ++ [tRC]))) :: [])⟩, rfl, rfl, ?_⟩
  exact ⟨[], [(2, 4)], [], .returned und, wH' (puts st (P ++ [tRC])), rfl, sk, sk, rfl, by rw [i3]⟩
 have j1 : (i : Int) < ((l.map Cs.cells).length : Nat) := j1
 rw [hm] at j1
 have i1 : i < l.length := by omega
 have hcell := scell i1
 have hstep := fun h => casesT_step (l := l) (i := i) h
 have hlast := fun h => casesT_last (l := l) (i := i) h
 rcases hx : l.getD i cs0 with ⟨⟨op, n, rel, val, r, s, ar⟩, nums⟩
 rw [hx] at hcell hstep hlast
 simp only [] at hstep hlast
 have hnm : (nums.map i64).length = nums.length := List.length_map ..
 have hnums : numsB nums = true := by
  rcases Nat.lt_or_ge (i + 1) l.length with h3 | h3
  ·rw [hstep h3] at i2
   simp only [Bool.and_eq_true] at i2
   exact i2.1.1
  ·rw [hlast (by omega)] at i2
   simp only [Bool.and_eq_true] at i2
   exact i2.1
 obtain ⟨_, _, hwt⟩ := nums_facts hnums
 refine ⟨_, ⟨by omega, (⟨.mk op n rel val r s ar, nums⟩ : Cs).cells, hcell, rfl⟩, ?_⟩
 refine ⟨((l.length - 1 : Nat) : Int), by show _ = IntKind.i64.wrap (((l.map Cs.cells).length : Int) - 1); rw [hm, show (l.length : Int) - 1 = ((l.length - 1 : Nat) : Int) by omega]; exact wrap_i64 (by omega) (by omega), ?_⟩
 (first | refine brLt (fun m4 => ?_) (fun m4 => ?_) | refine brLe (fun m4 => ?_) (fun m4 => ?_) | refine brEq (fun m4 => ?_) (fun m4 => ?_))
 ·have m4 : (i : Int) = ((l.length - 1 : Nat) : Int) := m4
  have hR := casesTx_last (by omega) hx
  rw [hR] at i3
  obtain ⟨F, hF⟩ : ∃ F, ((P ++ [tElse]) ++ [tCol]) ++ numsT (nums.drop 0) = F := ⟨_, rfl⟩
  have hFG : F ++ [tRC] = G := by rw [← hF, ← i3]; simp
  have hFw : st.sz + wt F ≤ 100000000 := by rw [← hFG, wt_app] at hb0; omega
  have hb : st.sz + wt ((P ++ [tElse]) ++ [tCol]) ≤ 100000000 := by rw [← hF, wt_app] at hFw; omega
  refine (put_h true (puts st (P)) ([tElse]) (by simp) (by have hz := puts_sz (P) st; simp only [wt_app, wt] at hb hz ⊢; omega)).holds.useT [] [(1, 2), (2, 4)] rfl (sk) (sk) fun e0 H0 hq => ?_
  rw [← puts_app] at hq
  obtain ⟨rfl, rfl⟩ := hq
  refine ⟨rfl, _, ⟨6, ((5, bO (puts st (P ++ [tElse])).s) :: (0, wO 5 (puts st (P ++ [tElse]))) :: [(3, cseO ⟨.mk op n rel val r s ar, nums⟩)])⟩, rfl, rfl, ?_⟩
  refine (put_h true (puts st (P ++ [tElse])) ([tCol]) (by simp) (by have hz := puts_sz (P ++ [tElse]) st; simp only [wt_app, wt] at hb hz ⊢; omega)).holds.useT [] [(1, 5), (2, 6)] rfl (sk) (sk) fun e0 H0 hq => ?_
  rw [← puts_app] at hq
  obtain ⟨rfl, rfl⟩ := hq
  refine ⟨rfl, _, ⟨8, ((7, bO (puts st (P ++ [tElse] ++ [tCol])).s) :: (0, wO 7 (puts st (P ++ [tElse] ++ [tCol]))) :: [(3, cseO ⟨.mk op n rel val r s ar, nums⟩)])⟩, rfl, rfl, ?_⟩
  refine ⟨Toks × Nat, fun y => [(0, .ptr 0 0 0), (1, .p (css l)), (6, vB true), (12, .p (css l)), (13, .p (i64 (l.map Cs.cells).length)), (14, .p (i64 i)), (36, .p (ints nums)), (37, .p (i64 (nums.map i64).length)), (38, .p (i64 y.2))], fun y => wH' (puts st y.1), fun y => y.2 ≤ nums.length ∧ y.1 ++ numsT (nums.drop y.2) = F, fun y => nums.length - y.2, ?_, ?_⟩
  ·exact ⟨(((P ++ [tElse]) ++ [tCol]), 0), ⟨Nat.zero_le _, hF⟩, ent_of [] [(2, 7)] [] rfl (sk) (sk) rfl⟩
  clear hb
  rintro ⟨Q, k⟩ ⟨k1, k2⟩
  simp only [] at k1 k2
  (first | refine brLt (fun m1 => ?_) (fun m1 => ?_) | refine brLe (fun m1 => ?_) (fun m1 => ?_) | refine brEq (fun m1 => ?_) (fun m1 => ?_))
  ·have m1 : (k : Int) < ((nums.map i64).length : Nat) := m1
   rw [hnm] at m1
   have hk : k < nums.length := by omega
   have hw := hwt _ (getD_memL 0 hk)
   have hcell2 := icell hk
   have hd := dropIs hk
   generalize nums.getD k 0 = x at hw hcell2 hd
   have e2 : numsT (nums.drop k) = intT x ++ numsT (nums.drop (k + 1)) := by rw [hd]; rfl
   rw [e2, ← List.append_assoc] at k2
   have hb : st.sz + wt (Q ++ intT x) ≤ 100000000 := by rw [← k2, wt_app] at hFw; omega
   simp only [wgtB, Bool.and_eq_true, decide_eq_true_eq] at hw
   refine ⟨_, ⟨by omega, i64 x, hcell2, rfl⟩, ?_⟩
   by_cases c : x < 0
   ·have e3 : intT x = [tMinus] ++ [digT (-x)] := if_pos c
    rw [e3, ← List.append_assoc] at k2 hb
    refine And.intro (fun _ => ?_) (fun h => absurd c h)
    refine (put_h true (puts st (Q)) ([tMinus]) (by simp) (by have hz := puts_sz (Q) st; simp only [wt_app, wt] at hb hz ⊢; omega)).holds.useT [] [(1, 2), (2, 3)] rfl (sk) (sk) fun e0 H0 hq => ?_
    rw [← puts_app] at hq
    obtain ⟨rfl, rfl⟩ := hq
    refine ⟨rfl, _, ⟨5, ((4, bO (puts st (Q ++ [tMinus])).s) :: (0, wO 4 (puts st (Q ++ [tMinus]))) :: [])⟩, rfl, rfl, ?_⟩
    refine ⟨-x, by rw [Int.zero_sub]; exact wrap_i64 (by omega) (by omega), ?_⟩
    refine (itoa_c (-x) (by simp only [natB, Bool.and_eq_true, decide_eq_true_eq]; omega)).eq rfl ?_
    refine (put_h true (puts st (Q ++ [tMinus])) ([digT (-x)]) (by simp) (by have hz := puts_sz (Q ++ [tMinus]) st; simp only [wt_app, wt] at hb hz ⊢; omega)).holds.useT [] [(1, 4), (2, 5)] rfl (sk) (sk) fun e0 H0 hq => ?_
    rw [← puts_app] at hq
    obtain ⟨rfl, rfl⟩ := hq
    refine ⟨rfl, _, ⟨7, ((6, bO (puts st (Q ++ [tMinus] ++ [digT (-x)])).s) :: (0, wO 6 (puts st (Q ++ [tMinus] ++ [digT (-x)]))) :: [])⟩, rfl, rfl, ?_⟩
    refine ⟨_, wrap_i64 (by omega) (by omega), ?_⟩
    exact ⟨((Q ++ [tMinus]) ++ [digT (-x)], k + 1), ⟨hk, k2⟩, ent_of [] [(2, 6)] [] rfl (sk) (sk) rfl, by show nums.length - (k + 1) < nums.length - k; omega⟩
   ·have e3 : intT x = [digT x] := if_neg c
    rw [e3] at k2 hb
    refine And.intro (fun h => absurd h c) (fun _ => ?_)
    refine (itoa_c x (by simp only [natB, Bool.and_eq_true, decide_eq_true_eq]; omega)).eq rfl ?_
    refine (put_h true (puts st (Q)) ([digT x]) (by simp) (by have hz := puts_sz (Q) st; simp only [wt_app, wt] at hb hz ⊢; omega)).holds.useT [] [(1, 2), (2, 3)] rfl (sk) (sk) fun e0 H0 hq => ?_
    rw [← puts_app] at hq
    obtain ⟨rfl, rfl⟩ := hq
    refine ⟨rfl, _, ⟨5, ((4, bO (puts st (Q ++ [digT x])).s) :: (0, wO 4 (puts st (Q ++ [digT x]))) :: [])⟩, rfl, rfl, ?_⟩
    refine ⟨_, wrap_i64 (by omega) (by omega), ?_⟩
    exact ⟨(Q ++ [digT x], k + 1), ⟨hk, k2⟩, ent_of [] [(2, 4)] [] rfl (sk) (sk) rfl, by show nums.length - (k + 1) < nums.length - k; omega⟩
  have m1 : ¬ (k : Int) < ((nums.map i64).length : Nat) := m1
  rw [hnm] at m1
  rw [List.drop_eq_nil_of_le (by omega), show numsT [] = [] from rfl, List.append_nil] at k2
  subst k2
  refine ⟨_, wrap_i64 (by omega) (by omega), ?_⟩
  exact ⟨(Q, i + 1), ⟨by omega, by rw [List.drop_eq_nil_of_le (by omega)]; rfl, by rw [List.drop_eq_nil_of_le (by omega)]; exact hFG⟩, ent_of [] [] [] rfl (sk) (sk) rfl, by show l.length - (i + 1) < l.length - i; omega⟩
 have m4 : ¬ (i : Int) = ((l.length - 1 : Nat) : Int) := m4
 have hR := casesTx_step (by omega) hx
 rw [hR] at i3
 rw [hstep (by omega)] at i2
 simp only [Bool.and_eq_true] at i2
 obtain ⟨⟨_, i4⟩, i5⟩ := i2
 obtain ⟨kk, hk8⟩ := Option.isSome_iff_exists.1 i4
 obtain ⟨F, hF⟩ : ∃ F, ((P ++ condT (.mk op n rel val r s ar)) ++ [tCol]) ++ numsT (nums.drop 0) = F := ⟨_, rfl⟩
 have hFG : (F ++ [tSemi]) ++ (casesTx (l.drop (i + 1)) ++ [tRC]) = G := by rw [← hF, ← i3]; simp
 have hFs : st.sz + wt (F ++ [tSemi]) ≤ 100000000 := by rw [← hFG, wt_app] at hb0; omega
 have hFw : st.sz + wt F ≤ 100000000 := by rw [wt_app] at hFs; omega
 have hb : st.sz + wt ((P ++ condT (.mk op n rel val r s ar)) ++ [tCol]) ≤ 100000000 := by rw [← hF, wt_app] at hFw; omega
 have hC := cond_w0 kk hk8 (puts st P) (by have hz := puts_sz P st; simp only [wt_app, wt] at hb ⊢; omega)
 generalize condT (.mk op n rel val r s ar) = X at hC hF hb
 refine (hC).holds.useT [] [(1, 2)] rfl (sk) (sk) fun e0 H0 hq => ?_
 unfold WQ at hq
 rw [← puts_app] at hq
 obtain ⟨rfl, rfl⟩ := hq
 refine ⟨rfl, _, ⟨5, ((4, bO (puts st (P ++ X)).s) :: (0, wO 4 (puts st (P ++ X))) :: [(3, cseO ⟨.mk op n rel val r s ar, nums⟩)])⟩, rfl, rfl, ?_⟩
 refine (put_h true (puts st (P ++ X)) ([tCol]) (by simp) (by have hz := puts_sz (P ++ X) st; simp only [wt_app, wt] at hb hz ⊢; omega)).holds.useT [] [(1, 4), (2, 5)] rfl (sk) (sk) fun e0 H0 hq => ?_
 rw [← puts_app] at hq
 obtain ⟨rfl, rfl⟩ := hq
 refine ⟨rfl, _, ⟨7, ((6, bO (puts st (P ++ X ++ [tCol])).s) :: (0, wO 6 (puts st (P ++ X ++ [tCol]))) :: [(3, cseO ⟨.mk op n rel val r s ar, nums⟩)])⟩, rfl, rfl, ?_⟩
 refine ⟨Toks × Nat, fun y => [(0, .ptr 0 0 0), (1, .p (css l)), (6, vB false), (12, .p (css l)), (13, .p (i64 (l.map Cs.cells).length)), (14, .p (i64 i)), (36, .p (ints nums)), (37, .p (i64 (nums.map i64).length)), (38, .p (i64 y.2))], fun y => wH' (puts st y.1), fun y => y.2 ≤ nums.length ∧ y.1 ++ numsT (nums.drop y.2) = F, fun y => nums.length - y.2, ?_, ?_⟩
 ·exact ⟨(((P ++ X) ++ [tCol]), 0), ⟨Nat.zero_le _, hF⟩, ent_of [] [(2, 6)] [] rfl (sk) (sk) rfl⟩
 clear hb
 rintro ⟨Q, k⟩ ⟨k1, k2⟩
 simp only [] at k1 k2
 (first | refine brLt (fun m1 => ?_) (fun m1 => ?_) | refine brLe (fun m1 => ?_) (fun m1 => ?_) | refine brEq (fun m1 => ?_) (fun m1 => ?_))
 ·have m1 : (k : Int) < ((nums.map i64).length : Nat) := m1
  rw [hnm] at m1
  have hk : k < nums.length := by omega
  have hw := hwt _ (getD_memL 0 hk)
  have hcell2 := icell hk
  have hd := dropIs hk
  generalize nums.getD k 0 = x at hw hcell2 hd
  have e2 : numsT (nums.drop k) = intT x ++ numsT (nums.drop (k + 1)) := by rw [hd]; rfl
  rw [e2, ← List.append_assoc] at k2
  have hb : st.sz + wt (Q ++ intT x) ≤ 100000000 := by rw [← k2, wt_app] at hFw; omega
  simp only [wgtB, Bool.and_eq_true, decide_eq_true_eq] at hw
  refine ⟨_, ⟨by omega, i64 x, hcell2, rfl⟩, ?_⟩
  by_cases c : x < 0
  ·have e3 : intT x = [tMinus] ++ [digT (-x)] := if_pos c
   rw [e3, ← List.append_assoc] at k2 hb
   refine And.intro (fun _ => ?_) (fun h => absurd c h)
   refine (put_h true (puts st (Q)) ([tMinus]) (by simp) (by have hz := puts_sz (Q) st; simp only [wt_app, wt] at hb hz ⊢; omega)).holds.useT [] [(1, 2), (2, 3)] rfl (sk) (sk) fun e0 H0 hq => ?_
   rw [← puts_app] at hq
   obtain ⟨rfl, rfl⟩ := hq
   refine ⟨rfl, _, ⟨5, ((4, bO (puts st (Q ++ [tMinus])).s) :: (0, wO 4 (puts st (Q ++ [tMinus]))) :: [])⟩, rfl, rfl, ?_⟩
   refine ⟨-x, by rw [Int.zero_sub]; exact wrap_i64 (by omega) (by omega), ?_⟩
   refine (itoa_c (-x) (by simp only [natB, Bool.and_eq_true, decide_eq_true_eq]; omega)).eq rfl ?_
   refine (put_h true (puts st (Q ++ [tMinus])) ([digT (-x)]) (by simp) (by have hz := puts_sz (Q ++ [tMinus]) st; simp only [wt_app, wt] at hb hz ⊢; omega)).holds.useT [] [(1, 4), (2, 5)] rfl (sk) (sk) fun e0 H0 hq => ?_
   rw [← puts_app] at hq
   obtain ⟨rfl, rfl⟩ := hq
   refine ⟨rfl, _, ⟨7, ((6, bO (puts st (Q ++ [tMinus] ++ [digT (-x)])).s) :: (0, wO 6 (puts st (Q ++ [tMinus] ++ [digT (-x)]))) :: [])⟩, rfl, rfl, ?_⟩
   refine ⟨_, wrap_i64 (by omega) (by omega), ?_⟩
   exact ⟨((Q ++ [tMinus]) ++ [digT (-x)], k + 1), ⟨hk, k2⟩, ent_of [] [(2, 6)] [] rfl (sk) (sk) rfl, by show nums.length - (k + 1) < nums.length - k; omega⟩
  ·have e3 : intT x = [digT x] := if_neg c
   rw [e3] at k2 hb
   refine And.intro (fun h => absurd h c) (fun _ => ?_)
   refine (itoa_c x (by simp only [natB, Bool.and_eq_true, decide_eq_true_eq]; omega)).eq rfl ?_
   refine (put_h true (puts st (Q)) ([digT x]) (by simp) (by have hz := puts_sz (Q) st; simp only [wt_app, wt] at hb hz ⊢; omega)).holds.useT [] [(1, 2), (2, 3)] rfl (sk) (sk) fun e0 H0 hq => ?_
   rw [← puts_app] at hq
   obtain ⟨rfl, rfl⟩ := hq
   refine ⟨rfl, _, ⟨5, ((4, bO (puts st (Q ++ [digT x])).s) :: (0, wO 4 (puts st (Q ++ [digT x]))) :: [])⟩, rfl, rfl, ?_⟩
   refine ⟨_, wrap_i64 (by omega) (by omega), ?_⟩
   exact ⟨(Q ++ [digT x], k + 1), ⟨hk, k2⟩, ent_of [] [(2, 4)] [] rfl (sk) (sk) rfl, by show nums.length - (k + 1) < nums.length - k; omega⟩
 have m1 : ¬ (k : Int) < ((nums.map i64).length : Nat) := m1
 rw [hnm] at m1
 rw [List.drop_eq_nil_of_le (by omega), show numsT [] = [] from rfl, List.append_nil] at k2
 subst k2
 have hb := hFs
 refine (put_h true (puts st (Q)) ([tSemi]) (by simp) (by have hz := puts_sz (Q) st; simp only [wt_app, wt] at hb hz ⊢; omega)).holds.useT [] [(1, 2), (2, 3)] rfl (sk) (sk) fun e0 H0 hq => ?_
 rw [← puts_app] at hq
 obtain ⟨rfl, rfl⟩ := hq
 refine ⟨rfl, _, ⟨5, ((4, bO (puts st (Q ++ [tSemi])).s) :: (0, wO 4 (puts st (Q ++ [tSemi]))) :: [])⟩, rfl, rfl, ?_⟩
 refine ⟨_, wrap_i64 (by omega) (by omega), ?_⟩
 exact ⟨(Q ++ [tSemi], i + 1), ⟨by omega, i5, hFG⟩, ent_of [] [(2, 4)] [] rfl (sk) (sk) rfl, by show l.length - (i + 1) < l.length - i; omega⟩
theorem nat_of {n : Int} (h0 : 0 ≤ n) (h : n ≤ 9999) : natB n = true := by
 simp only [natB, Bool.and_eq_true, decide_eq_true_eq]; omega
theorem name_len {t : List UInt8} (h : nameN t = true) : t.length ≤ 10 := (tok_len (tok_name h)).2
theorem leafB_facts {op n rel val : Int} {r : Rf} {st : List Int} (hb : leafB op n rel val r st = true) : refB r = true ∧ (op = 6 → natB n = true ∧ natB val = true ∧ 1 ≤ rel ∧ rel ≤ 4) ∧ (op = 5 → setB st = true) ∧ (¬ op = 5 → ¬ op = 6 → natB n = true ∧ 1 ≤ op ∧ op ≤ 4) := by
 unfold leafB at hb
 by_cases c6 : op = 6
 ·rw [if_neg (by omega), if_neg (by omega), if_pos c6] at hb
  simp only [Bool.and_eq_true, decide_eq_true_eq] at hb
  obtain ⟨⟨⟨⟨⟨⟨b1, b2⟩, b3⟩, b4⟩, b5⟩, b6⟩, b7⟩ := hb
  exact ⟨b1, fun _ => ⟨b3, b4, b5, b6⟩, fun h => by omega, fun _ h => absurd c6 h⟩
 ·by_cases c5 : op = 5
  ·rw [if_neg (by omega), if_pos c5] at hb
   simp only [Bool.and_eq_true, decide_eq_true_eq] at hb
   obtain ⟨⟨⟨⟨b1, b2⟩, b3⟩, b4⟩, b5⟩ := hb
   exact ⟨b1, fun h => absurd h c6, fun _ => b5, fun h => absurd c5 h⟩
  ·by_cases c1 : op = 1 ∨ op = 2 ∨ op = 3 ∨ op = 4
   ·rw [if_pos c1] at hb
    simp only [Bool.and_eq_true, decide_eq_true_eq] at hb
    exact ⟨hb.1.1.1.1, fun h => absurd h c6, fun h => absurd h c5, fun _ _ => ⟨hb.1.1.1.2, by omega, by omega⟩⟩
   ·rw [if_neg c1, if_neg c5, if_neg c6] at hb
    cases hb
theorem lineT_len {d : De} (hv : declB d = true) : (lineT d).length ≤ 200000 := by
 have := decl_toks hv
 have h2 := spW_len false this.1
 rw [lineT, List.length_append]
 have h3 := this.2
 simp only [List.length_cons, List.length_nil]
 omega
theorem textT_cons (d : De) (ds : List De) : textT (d :: ds) = lineT d ++ textT ds := rfl
theorem textT_len : ∀ {ds : List De}, (∀ d ∈ ds, declB d = true) → (textT ds).length ≤ 200000 * ds.length
 | [], _ => by simp [textT]
 | d :: ds, h => by
  have h1 := lineT_len (h d (List.mem_cons_self ..))
  have h2 := textT_len (ds := ds) fun x hx => h x (List.mem_cons_of_mem _ hx)
  rw [textT_cons, List.length_append, List.length_cons, Nat.mul_succ]
  omega
theorem decl_w (u : Bool) (st : Wst) (d : De) (hv : declB d = true) (hb0 : st.sz + wt (declT d) ≤ 100000000) : HoldsG cx 42 [.ptr 0 0 0, .p d.pv] (wH u st) (WQ (puts st (declT d))) := by
 obtain ⟨k, n, nm, pl, rs, cs⟩ := d
 simp only [declB, Bool.and_eq_true, decide_eq_true_eq, List.all_eq_true] at hv
 obtain ⟨⟨⟨v1, v2⟩, v3⟩, v4⟩ := hv
 unfold kindB at v4
 simp only [] at v4
 by_cases c1 : k = 1
 ·subst c1
  have e : declT ⟨1, n, nm, pl, rs, cs⟩ = ([] ++ [tGrain, digT n]) ++ [tSemi] := rfl
  have hb := hb0
  rw [e] at hb
  generalize declT ⟨1, n, nm, pl, rs, cs⟩ = X at e ⊢
  refine holdsN_of_vc Tryz.func42 rfl rfl rfl ?_
  refine (itoa_c n v1).eq rfl ?_
  refine And.intro (fun _ => ?_) (fun h => absurd rfl h)
  refine (put_h u (puts st ([])) ([tGrain, digT n]) (by simp) (by have hz := puts_sz ([]) st; simp only [wt_app, wt] at hb hz ⊢; omega)).holds.useT [] [(2, 3)] rfl (by first | (cases u <;> (exact sk)) | (exact sk)) (sk) fun e0 H0 hq => ?_
  rw [← puts_app] at hq
  obtain ⟨rfl, rfl⟩ := hq
  refine ⟨rfl, _, ⟨5, ((4, bO (puts st ([] ++ [tGrain, digT n])).s) :: (0, wO 4 (puts st ([] ++ [tGrain, digT n]))) :: [(2, deO _)])⟩, rfl, rfl, ?_⟩
  refine (put_h true (puts st ([] ++ [tGrain, digT n])) ([tSemi]) (by simp) (by have hz := puts_sz ([] ++ [tGrain, digT n]) st; simp only [wt_app, wt] at hb hz ⊢; omega)).holds.useT [] [(1, 4), (2, 5)] rfl (sk) (sk) fun e0 H0 hq => ?_
  rw [← puts_app] at hq
  obtain ⟨rfl, rfl⟩ := hq
  refine ⟨rfl, _, ⟨7, ((6, bO (puts st ([] ++ [tGrain, digT n] ++ [tSemi])).s) :: (0, wO 6 (puts st ([] ++ [tGrain, digT n] ++ [tSemi]))) :: [(2, deO _)])⟩, rfl, rfl, ?_⟩
  exact ⟨[], [(2, 6)], [], .returned und, wH' (puts st (([] ++ [tGrain, digT n]) ++ [tSemi])), rfl, sk, sk, rfl, by rw [e]⟩
 rw [if_neg c1] at v4
 by_cases c2 : k = 2
 ·subst c2
  have e : declT ⟨2, n, nm, pl, rs, cs⟩ = ([] ++ [tPlate, nm, tEq, digT n]) ++ [tSemi] := rfl
  have hb := hb0
  rw [e] at hb
  generalize declT ⟨2, n, nm, pl, rs, cs⟩ = X at e ⊢
  refine holdsN_of_vc Tryz.func42 rfl rfl rfl ?_
  refine (itoa_c n v1).eq rfl ?_
  refine And.intro (fun h => absurd (show (2 : Int) = 1 from h) (by decide)) (fun _ => ?_)
  refine And.intro (fun _ => ?_) (fun h => absurd rfl h)
  refine (put_h u (puts st ([])) ([tPlate, nm, tEq, digT n]) (by simp) (by have hz := puts_sz ([]) st; simp only [wt_app, wt] at hb hz ⊢; omega)).holds.useT [] [(2, 3)] rfl (by first | (cases u <;> (exact sk)) | (exact sk)) (sk) fun e0 H0 hq => ?_
  rw [← puts_app] at hq
  obtain ⟨rfl, rfl⟩ := hq
  refine ⟨rfl, _, ⟨5, ((4, bO (puts st ([] ++ [tPlate, nm, tEq, digT n])).s) :: (0, wO 4 (puts st ([] ++ [tPlate, nm, tEq, digT n]))) :: [(2, deO _)])⟩, rfl, rfl, ?_⟩
  refine (put_h true (puts st ([] ++ [tPlate, nm, tEq, digT n])) ([tSemi]) (by simp) (by have hz := puts_sz ([] ++ [tPlate, nm, tEq, digT n]) st; simp only [wt_app, wt] at hb hz ⊢; omega)).holds.useT [] [(1, 4), (2, 5)] rfl (sk) (sk) fun e0 H0 hq => ?_
  rw [← puts_app] at hq
  obtain ⟨rfl, rfl⟩ := hq
  refine ⟨rfl, _, ⟨7, ((6, bO (puts st ([] ++ [tPlate, nm, tEq, digT n] ++ [tSemi])).s) :: (0, wO 6 (puts st ([] ++ [tPlate, nm, tEq, digT n] ++ [tSemi]))) :: [(2, deO _)])⟩, rfl, rfl, ?_⟩
  exact ⟨[], [(2, 6)], [], .returned und, wH' (puts st (([] ++ [tPlate, nm, tEq, digT n]) ++ [tSemi])), rfl, sk, sk, rfl, by rw [e]⟩
 rw [if_neg c2] at v4
 by_cases c3 : k = 3
 ·subst c3
  simp only [if_true, Bool.and_eq_true] at v4
  obtain ⟨_, v6⟩ := v4
  by_cases hp : pl = []
  ·have e : declT ⟨3, n, nm, pl, rs, cs⟩ = ((((([] ++ [tNode, nm]) ++ [tCol, digT n]) ++ refsT tFrom rs) ++ [tEq]) ++ ruleT cs) ++ [tSemi] := by
    show ([tNode, nm] ++ ((if pl = [] then [] else [tLB, pl, tRB]) ++ ([tCol, digT n] ++ (refsT tFrom rs ++ (tEq :: ruleT cs))))) ++ [tSemi] = _
    rw [if_pos hp]; simp
   have hb := hb0
   rw [e] at hb
   generalize declT ⟨3, n, nm, pl, rs, cs⟩ = X at e ⊢
   refine holdsN_of_vc Tryz.func42 rfl rfl rfl ?_
   refine (itoa_c n v1).eq rfl ?_
   refine And.intro (fun h => absurd (show (3 : Int) = 1 from h) (by decide)) (fun _ => ?_)
   refine And.intro (fun h => absurd (show (3 : Int) = 2 from h) (by decide)) (fun _ => ?_)
   refine And.intro (fun _ => ?_) (fun h => absurd rfl h)
   refine (put_h u (puts st ([])) ([tNode, nm]) (by simp) (by have hz := puts_sz ([]) st; simp only [wt_app, wt] at hb hz ⊢; omega)).holds.useT [] [(2, 3)] rfl (by first | (cases u <;> (exact sk)) | (exact sk)) (sk) fun e0 H0 hq => ?_
   rw [← puts_app] at hq
   obtain ⟨rfl, rfl⟩ := hq
   refine ⟨rfl, _, ⟨5, ((4, bO (puts st ([] ++ [tNode, nm])).s) :: (0, wO 4 (puts st ([] ++ [tNode, nm]))) :: [(2, deO _)])⟩, rfl, rfl, ?_⟩
   refine And.intro (fun _ => ?_) (fun h => absurd hp h)
   refine (put_h true (puts st ([] ++ [tNode, nm])) ([tCol, digT n]) (by simp) (by have hz := puts_sz ([] ++ [tNode, nm]) st; simp only [wt_app, wt] at hb hz ⊢; omega)).holds.useT [] [(1, 4), (2, 5)] rfl (sk) (sk) fun e0 H0 hq => ?_
   rw [← puts_app] at hq
   obtain ⟨rfl, rfl⟩ := hq
   refine ⟨rfl, _, ⟨7, ((6, bO (puts st ([] ++ [tNode, nm] ++ [tCol, digT n])).s) :: (0, wO 6 (puts st ([] ++ [tNode, nm] ++ [tCol, digT n]))) :: [(2, deO _)])⟩, rfl, rfl, ?_⟩
   refine (refs_w (puts st (([] ++ [tNode, nm]) ++ [tCol, digT n])) tFrom rs v3 v2 (by have hz := puts_sz (([] ++ [tNode, nm]) ++ [tCol, digT n]) st; simp only [wt_app, wt] at hb hz ⊢; omega)).holds.useT [] [(1, 6)] rfl (sk) (sk) fun e0 H0 hq => ?_
   unfold WQ at hq
   rw [← puts_app] at hq
   obtain ⟨rfl, rfl⟩ := hq
   refine ⟨rfl, _, ⟨8, ((7, bO (puts st ((([] ++ [tNode, nm]) ++ [tCol, digT n]) ++ refsT tFrom rs)).s) :: (0, wO 7 (puts st ((([] ++ [tNode, nm]) ++ [tCol, digT n]) ++ refsT tFrom rs))) :: [(2, deO _)])⟩, rfl, rfl, ?_⟩
   refine (put_h true (puts st ((([] ++ [tNode, nm]) ++ [tCol, digT n]) ++ refsT tFrom rs)) ([tEq]) (by simp) (by have hz := puts_sz ((([] ++ [tNode, nm]) ++ [tCol, digT n]) ++ refsT tFrom rs) st; simp only [wt_app, wt] at hb hz ⊢; omega)).holds.useT [] [(1, 7), (2, 8)] rfl (sk) (sk) fun e0 H0 hq => ?_
   rw [← puts_app] at hq
   obtain ⟨rfl, rfl⟩ := hq
   refine ⟨rfl, _, ⟨10, ((9, bO (puts st ((([] ++ [tNode, nm]) ++ [tCol, digT n]) ++ refsT tFrom rs ++ [tEq])).s) :: (0, wO 9 (puts st ((([] ++ [tNode, nm]) ++ [tCol, digT n]) ++ refsT tFrom rs ++ [tEq]))) :: [(2, deO _)])⟩, rfl, rfl, ?_⟩
   refine (rule_w (puts st (((([] ++ [tNode, nm]) ++ [tCol, digT n]) ++ refsT tFrom rs) ++ [tEq])) cs v6 (by have hz := puts_sz (((([] ++ [tNode, nm]) ++ [tCol, digT n]) ++ refsT tFrom rs) ++ [tEq]) st; simp only [wt_app, wt] at hb hz ⊢; omega)).holds.useT [] [(1, 9)] rfl (sk) (sk) fun e0 H0 hq => ?_
   unfold WQ at hq
   rw [← puts_app] at hq
   obtain ⟨rfl, rfl⟩ := hq
   refine ⟨rfl, _, ⟨11, ((10, bO (puts st ((((([] ++ [tNode, nm]) ++ [tCol, digT n]) ++ refsT tFrom rs) ++ [tEq]) ++ ruleT cs)).s) :: (0, wO 10 (puts st ((((([] ++ [tNode, nm]) ++ [tCol, digT n]) ++ refsT tFrom rs) ++ [tEq]) ++ ruleT cs))) :: [(2, deO _)])⟩, rfl, rfl, ?_⟩
   refine (put_h true (puts st ((((([] ++ [tNode, nm]) ++ [tCol, digT n]) ++ refsT tFrom rs) ++ [tEq]) ++ ruleT cs)) ([tSemi]) (by simp) (by have hz := puts_sz ((((([] ++ [tNode, nm]) ++ [tCol, digT n]) ++ refsT tFrom rs) ++ [tEq]) ++ ruleT cs) st; simp only [wt_app, wt] at hb hz ⊢; omega)).holds.useT [] [(1, 10), (2, 11)] rfl (sk) (sk) fun e0 H0 hq => ?_
   rw [← puts_app] at hq
   obtain ⟨rfl, rfl⟩ := hq
   refine ⟨rfl, _, ⟨13, ((12, bO (puts st ((((([] ++ [tNode, nm]) ++ [tCol, digT n]) ++ refsT tFrom rs) ++ [tEq]) ++ ruleT cs ++ [tSemi])).s) :: (0, wO 12 (puts st ((((([] ++ [tNode, nm]) ++ [tCol, digT n]) ++ refsT tFrom rs) ++ [tEq]) ++ ruleT cs ++ [tSemi]))) :: [(2, deO _)])⟩, rfl, rfl, ?_⟩
   exact ⟨[], [(2, 12)], [], .returned und, wH' (puts st (((((([] ++ [tNode, nm]) ++ [tCol, digT n]) ++ refsT tFrom rs) ++ [tEq]) ++ ruleT cs) ++ [tSemi])), rfl, sk, sk, rfl, by rw [e]⟩
  ·have e : declT ⟨3, n, nm, pl, rs, cs⟩ = (((((([] ++ [tNode, nm]) ++ [tLB, pl, tRB]) ++ [tCol, digT n]) ++ refsT tFrom rs) ++ [tEq]) ++ ruleT cs) ++ [tSemi] := by
    show ([tNode, nm] ++ ((if pl = [] then [] else [tLB, pl, tRB]) ++ ([tCol, digT n] ++ (refsT tFrom rs ++ (tEq :: ruleT cs))))) ++ [tSemi] = _
    rw [if_neg hp]; simp
   have hb := hb0
   rw [e] at hb
   generalize declT ⟨3, n, nm, pl, rs, cs⟩ = X at e ⊢
   refine holdsN_of_vc Tryz.func42 rfl rfl rfl ?_
   refine (itoa_c n v1).eq rfl ?_
   refine And.intro (fun h => absurd (show (3 : Int) = 1 from h) (by decide)) (fun _ => ?_)
   refine And.intro (fun h => absurd (show (3 : Int) = 2 from h) (by decide)) (fun _ => ?_)
   refine And.intro (fun _ => ?_) (fun h => absurd rfl h)
   refine (put_h u (puts st ([])) ([tNode, nm]) (by simp) (by have hz := puts_sz ([]) st; simp only [wt_app, wt] at hb hz ⊢; omega)).holds.useT [] [(2, 3)] rfl (by first | (cases u <;> (exact sk)) | (exact sk)) (sk) fun e0 H0 hq => ?_
   rw [← puts_app] at hq
   obtain ⟨rfl, rfl⟩ := hq
   refine ⟨rfl, _, ⟨5, ((4, bO (puts st ([] ++ [tNode, nm])).s) :: (0, wO 4 (puts st ([] ++ [tNode, nm]))) :: [(2, deO _)])⟩, rfl, rfl, ?_⟩
   refine And.intro (fun h => absurd h hp) (fun _ => ?_)
   refine (put_h true (puts st ([] ++ [tNode, nm])) ([tLB, pl, tRB]) (by simp) (by have hz := puts_sz ([] ++ [tNode, nm]) st; simp only [wt_app, wt] at hb hz ⊢; omega)).holds.useT [] [(1, 4), (2, 5)] rfl (sk) (sk) fun e0 H0 hq => ?_
   rw [← puts_app] at hq
   obtain ⟨rfl, rfl⟩ := hq
   refine ⟨rfl, _, ⟨7, ((6, bO (puts st ([] ++ [tNode, nm] ++ [tLB, pl, tRB])).s) :: (0, wO 6 (puts st ([] ++ [tNode, nm] ++ [tLB, pl, tRB]))) :: [(2, deO _)])⟩, rfl, rfl, ?_⟩
   refine (put_h true (puts st (([] ++ [tNode, nm]) ++ [tLB, pl, tRB])) ([tCol, digT n]) (by simp) (by have hz := puts_sz (([] ++ [tNode, nm]) ++ [tLB, pl, tRB]) st; simp only [wt_app, wt] at hb hz ⊢; omega)).holds.useT [] [(1, 6), (2, 7)] rfl (sk) (sk) fun e0 H0 hq => ?_
   rw [← puts_app] at hq
   obtain ⟨rfl, rfl⟩ := hq
   refine ⟨rfl, _, ⟨9, ((8, bO (puts st (([] ++ [tNode, nm]) ++ [tLB, pl, tRB] ++ [tCol, digT n])).s) :: (0, wO 8 (puts st (([] ++ [tNode, nm]) ++ [tLB, pl, tRB] ++ [tCol, digT n]))) :: [(2, deO _)])⟩, rfl, rfl, ?_⟩
   refine (refs_w (puts st ((([] ++ [tNode, nm]) ++ [tLB, pl, tRB]) ++ [tCol, digT n])) tFrom rs v3 v2 (by have hz := puts_sz ((([] ++ [tNode, nm]) ++ [tLB, pl, tRB]) ++ [tCol, digT n]) st; simp only [wt_app, wt] at hb hz ⊢; omega)).holds.useT [] [(1, 8)] rfl (sk) (sk) fun e0 H0 hq => ?_
   unfold WQ at hq
   rw [← puts_app] at hq
   obtain ⟨rfl, rfl⟩ := hq
   refine ⟨rfl, _, ⟨10, ((9, bO (puts st (((([] ++ [tNode, nm]) ++ [tLB, pl, tRB]) ++ [tCol, digT n]) ++ refsT tFrom rs)).s) :: (0, wO 9 (puts st (((([] ++ [tNode, nm]) ++ [tLB, pl, tRB]) ++ [tCol, digT n]) ++ refsT tFrom rs))) :: [(2, deO _)])⟩, rfl, rfl, ?_⟩
   refine (put_h true (puts st (((([] ++ [tNode, nm]) ++ [tLB, pl, tRB]) ++ [tCol, digT n]) ++ refsT tFrom rs)) ([tEq]) (by simp) (by have hz := puts_sz (((([] ++ [tNode, nm]) ++ [tLB, pl, tRB]) ++ [tCol, digT n]) ++ refsT tFrom rs) st; simp only [wt_app, wt] at hb hz ⊢; omega)).holds.useT [] [(1, 9), (2, 10)] rfl (sk) (sk) fun e0 H0 hq => ?_
   rw [← puts_app] at hq
   obtain ⟨rfl, rfl⟩ := hq
   refine ⟨rfl, _, ⟨12, ((11, bO (puts st (((([] ++ [tNode, nm]) ++ [tLB, pl, tRB]) ++ [tCol, digT n]) ++ refsT tFrom rs ++ [tEq])).s) :: (0, wO 11 (puts st (((([] ++ [tNode, nm]) ++ [tLB, pl, tRB]) ++ [tCol, digT n]) ++ refsT tFrom rs ++ [tEq]))) :: [(2, deO _)])⟩, rfl, rfl, ?_⟩
   refine (rule_w (puts st ((((([] ++ [tNode, nm]) ++ [tLB, pl, tRB]) ++ [tCol, digT n]) ++ refsT tFrom rs) ++ [tEq])) cs v6 (by have hz := puts_sz ((((([] ++ [tNode, nm]) ++ [tLB, pl, tRB]) ++ [tCol, digT n]) ++ refsT tFrom rs) ++ [tEq]) st; simp only [wt_app, wt] at hb hz ⊢; omega)).holds.useT [] [(1, 11)] rfl (sk) (sk) fun e0 H0 hq => ?_
   unfold WQ at hq
   rw [← puts_app] at hq
   obtain ⟨rfl, rfl⟩ := hq
   refine ⟨rfl, _, ⟨13, ((12, bO (puts st (((((([] ++ [tNode, nm]) ++ [tLB, pl, tRB]) ++ [tCol, digT n]) ++ refsT tFrom rs) ++ [tEq]) ++ ruleT cs)).s) :: (0, wO 12 (puts st (((((([] ++ [tNode, nm]) ++ [tLB, pl, tRB]) ++ [tCol, digT n]) ++ refsT tFrom rs) ++ [tEq]) ++ ruleT cs))) :: [(2, deO _)])⟩, rfl, rfl, ?_⟩
   refine (put_h true (puts st (((((([] ++ [tNode, nm]) ++ [tLB, pl, tRB]) ++ [tCol, digT n]) ++ refsT tFrom rs) ++ [tEq]) ++ ruleT cs)) ([tSemi]) (by simp) (by have hz := puts_sz (((((([] ++ [tNode, nm]) ++ [tLB, pl, tRB]) ++ [tCol, digT n]) ++ refsT tFrom rs) ++ [tEq]) ++ ruleT cs) st; simp only [wt_app, wt] at hb hz ⊢; omega)).holds.useT [] [(1, 12), (2, 13)] rfl (sk) (sk) fun e0 H0 hq => ?_
   rw [← puts_app] at hq
   obtain ⟨rfl, rfl⟩ := hq
   refine ⟨rfl, _, ⟨15, ((14, bO (puts st (((((([] ++ [tNode, nm]) ++ [tLB, pl, tRB]) ++ [tCol, digT n]) ++ refsT tFrom rs) ++ [tEq]) ++ ruleT cs ++ [tSemi])).s) :: (0, wO 14 (puts st (((((([] ++ [tNode, nm]) ++ [tLB, pl, tRB]) ++ [tCol, digT n]) ++ refsT tFrom rs) ++ [tEq]) ++ ruleT cs ++ [tSemi]))) :: [(2, deO _)])⟩, rfl, rfl, ?_⟩
   exact ⟨[], [(2, 14)], [], .returned und, wH' (puts st ((((((([] ++ [tNode, nm]) ++ [tLB, pl, tRB]) ++ [tCol, digT n]) ++ refsT tFrom rs) ++ [tEq]) ++ ruleT cs) ++ [tSemi])), rfl, sk, sk, rfl, by rw [e]⟩
 rw [if_neg c3] at v4
 by_cases c4 : k = 4
 ·subst c4
  have e : declT ⟨4, n, nm, pl, rs, cs⟩ = (([] ++ [tChoose, nm, tCol, digT n]) ++ refsT tSeeing rs) ++ [tSemi] := rfl
  have hb := hb0
  rw [e] at hb
  generalize declT ⟨4, n, nm, pl, rs, cs⟩ = X at e ⊢
  refine holdsN_of_vc Tryz.func42 rfl rfl rfl ?_
  refine (itoa_c n v1).eq rfl ?_
  refine And.intro (fun h => absurd (show (4 : Int) = 1 from h) (by decide)) (fun _ => ?_)
  refine And.intro (fun h => absurd (show (4 : Int) = 2 from h) (by decide)) (fun _ => ?_)
  refine And.intro (fun h => absurd (show (4 : Int) = 3 from h) (by decide)) (fun _ => ?_)
  refine And.intro (fun _ => ?_) (fun h => absurd rfl h)
  refine (put_h u (puts st ([])) ([tChoose, nm, tCol, digT n]) (by simp) (by have hz := puts_sz ([]) st; simp only [wt_app, wt] at hb hz ⊢; omega)).holds.useT [] [(2, 3)] rfl (by first | (cases u <;> (exact sk)) | (exact sk)) (sk) fun e0 H0 hq => ?_
  rw [← puts_app] at hq
  obtain ⟨rfl, rfl⟩ := hq
  refine ⟨rfl, _, ⟨5, ((4, bO (puts st ([] ++ [tChoose, nm, tCol, digT n])).s) :: (0, wO 4 (puts st ([] ++ [tChoose, nm, tCol, digT n]))) :: [(2, deO _)])⟩, rfl, rfl, ?_⟩
  refine (refs_w (puts st ([] ++ [tChoose, nm, tCol, digT n])) tSeeing rs v3 v2 (by have hz := puts_sz ([] ++ [tChoose, nm, tCol, digT n]) st; simp only [wt_app, wt] at hb hz ⊢; omega)).holds.useT [] [(1, 4)] rfl (sk) (sk) fun e0 H0 hq => ?_
  unfold WQ at hq
  rw [← puts_app] at hq
  obtain ⟨rfl, rfl⟩ := hq
  refine ⟨rfl, _, ⟨6, ((5, bO (puts st (([] ++ [tChoose, nm, tCol, digT n]) ++ refsT tSeeing rs)).s) :: (0, wO 5 (puts st (([] ++ [tChoose, nm, tCol, digT n]) ++ refsT tSeeing rs))) :: [(2, deO _)])⟩, rfl, rfl, ?_⟩
  refine (put_h true (puts st (([] ++ [tChoose, nm, tCol, digT n]) ++ refsT tSeeing rs)) ([tSemi]) (by simp) (by have hz := puts_sz (([] ++ [tChoose, nm, tCol, digT n]) ++ refsT tSeeing rs) st; simp only [wt_app, wt] at hb hz ⊢; omega)).holds.useT [] [(1, 5), (2, 6)] rfl (sk) (sk) fun e0 H0 hq => ?_
  rw [← puts_app] at hq
  obtain ⟨rfl, rfl⟩ := hq
  refine ⟨rfl, _, ⟨8, ((7, bO (puts st (([] ++ [tChoose, nm, tCol, digT n]) ++ refsT tSeeing rs ++ [tSemi])).s) :: (0, wO 7 (puts st (([] ++ [tChoose, nm, tCol, digT n]) ++ refsT tSeeing rs ++ [tSemi]))) :: [(2, deO _)])⟩, rfl, rfl, ?_⟩
  exact ⟨[], [(2, 7)], [], .returned und, wH' (puts st ((([] ++ [tChoose, nm, tCol, digT n]) ++ refsT tSeeing rs) ++ [tSemi])), rfl, sk, sk, rfl, by rw [e]⟩
 rw [if_neg c4] at v4
 by_cases c5 : k = 5
 ·subst c5
  simp only [if_true, Bool.and_eq_true] at v4
  obtain ⟨_, v6⟩ := v4
  have e : declT ⟨5, n, nm, pl, rs, cs⟩ = (((([] ++ [tGain]) ++ refsT tFrom rs) ++ [tEq]) ++ ruleT cs) ++ [tSemi] := by
   show (tGain :: (refsT tFrom rs ++ (tEq :: ruleT cs))) ++ [tSemi] = _
   simp
  have hb := hb0
  rw [e] at hb
  generalize declT ⟨5, n, nm, pl, rs, cs⟩ = X at e ⊢
  refine holdsN_of_vc Tryz.func42 rfl rfl rfl ?_
  refine (itoa_c n v1).eq rfl ?_
  refine And.intro (fun h => absurd (show (5 : Int) = 1 from h) (by decide)) (fun _ => ?_)
  refine And.intro (fun h => absurd (show (5 : Int) = 2 from h) (by decide)) (fun _ => ?_)
  refine And.intro (fun h => absurd (show (5 : Int) = 3 from h) (by decide)) (fun _ => ?_)
  refine And.intro (fun h => absurd (show (5 : Int) = 4 from h) (by decide)) (fun _ => ?_)
  refine And.intro (fun _ => ?_) (fun h => absurd rfl h)
  refine (put_h u (puts st ([])) ([tGain]) (by simp) (by have hz := puts_sz ([]) st; simp only [wt_app, wt] at hb hz ⊢; omega)).holds.useT [] [(2, 3)] rfl (by first | (cases u <;> (exact sk)) | (exact sk)) (sk) fun e0 H0 hq => ?_
  rw [← puts_app] at hq
  obtain ⟨rfl, rfl⟩ := hq
  refine ⟨rfl, _, ⟨5, ((4, bO (puts st ([] ++ [tGain])).s) :: (0, wO 4 (puts st ([] ++ [tGain]))) :: [(2, deO _)])⟩, rfl, rfl, ?_⟩
  refine (refs_w (puts st ([] ++ [tGain])) tFrom rs v3 v2 (by have hz := puts_sz ([] ++ [tGain]) st; simp only [wt_app, wt] at hb hz ⊢; omega)).holds.useT [] [(1, 4)] rfl (sk) (sk) fun e0 H0 hq => ?_
  unfold WQ at hq
  rw [← puts_app] at hq
  obtain ⟨rfl, rfl⟩ := hq
  refine ⟨rfl, _, ⟨6, ((5, bO (puts st (([] ++ [tGain]) ++ refsT tFrom rs)).s) :: (0, wO 5 (puts st (([] ++ [tGain]) ++ refsT tFrom rs))) :: [(2, deO _)])⟩, rfl, rfl, ?_⟩
  refine (put_h true (puts st (([] ++ [tGain]) ++ refsT tFrom rs)) ([tEq]) (by simp) (by have hz := puts_sz (([] ++ [tGain]) ++ refsT tFrom rs) st; simp only [wt_app, wt] at hb hz ⊢; omega)).holds.useT [] [(1, 5), (2, 6)] rfl (sk) (sk) fun e0 H0 hq => ?_
  rw [← puts_app] at hq
  obtain ⟨rfl, rfl⟩ := hq
  refine ⟨rfl, _, ⟨8, ((7, bO (puts st (([] ++ [tGain]) ++ refsT tFrom rs ++ [tEq])).s) :: (0, wO 7 (puts st (([] ++ [tGain]) ++ refsT tFrom rs ++ [tEq]))) :: [(2, deO _)])⟩, rfl, rfl, ?_⟩
  refine (rule_w (puts st ((([] ++ [tGain]) ++ refsT tFrom rs) ++ [tEq])) cs v6 (by have hz := puts_sz ((([] ++ [tGain]) ++ refsT tFrom rs) ++ [tEq]) st; simp only [wt_app, wt] at hb hz ⊢; omega)).holds.useT [] [(1, 7)] rfl (sk) (sk) fun e0 H0 hq => ?_
  unfold WQ at hq
  rw [← puts_app] at hq
  obtain ⟨rfl, rfl⟩ := hq
  refine ⟨rfl, _, ⟨9, ((8, bO (puts st (((([] ++ [tGain]) ++ refsT tFrom rs) ++ [tEq]) ++ ruleT cs)).s) :: (0, wO 8 (puts st (((([] ++ [tGain]) ++ refsT tFrom rs) ++ [tEq]) ++ ruleT cs))) :: [(2, deO _)])⟩, rfl, rfl, ?_⟩
  refine (put_h true (puts st (((([] ++ [tGain]) ++ refsT tFrom rs) ++ [tEq]) ++ ruleT cs)) ([tSemi]) (by simp) (by have hz := puts_sz (((([] ++ [tGain]) ++ refsT tFrom rs) ++ [tEq]) ++ ruleT cs) st; simp only [wt_app, wt] at hb hz ⊢; omega)).holds.useT [] [(1, 8), (2, 9)] rfl (sk) (sk) fun e0 H0 hq => ?_
  rw [← puts_app] at hq
  obtain ⟨rfl, rfl⟩ := hq
  refine ⟨rfl, _, ⟨11, ((10, bO (puts st (((([] ++ [tGain]) ++ refsT tFrom rs) ++ [tEq]) ++ ruleT cs ++ [tSemi])).s) :: (0, wO 10 (puts st (((([] ++ [tGain]) ++ refsT tFrom rs) ++ [tEq]) ++ ruleT cs ++ [tSemi]))) :: [(2, deO _)])⟩, rfl, rfl, ?_⟩
  exact ⟨[], [(2, 10)], [], .returned und, wH' (puts st ((((([] ++ [tGain]) ++ refsT tFrom rs) ++ [tEq]) ++ ruleT cs) ++ [tSemi])), rfl, sk, sk, rfl, by rw [e]⟩
 ·rw [if_neg c5] at v4
  cases v4
theorem len_h (u : Bool) (st : Wst) : HoldsG cx 44 [.ptr 0 0 0] (wH u st) fun e H' => e = .returned (.p (i64 st.s.length)) ∧ H' = wH u st := by
 refine holds_of_vc Tryz.func44 rfl rfl rfl ?_
 exact ⟨rfl, rfl⟩
theorem strg_h (u : Bool) (st : Wst) (h0 : st.s ≠ []) (hx : st.s.length ≤ 100000000) : HoldsG cx 45 [.ptr 0 0 0] (wH u st) fun e H' => e = .returned (.p (.str st.s)) ∧ H' = ⟨2, [(0, wOu u 1 st)]⟩ := by
 obtain ⟨s, n, g⟩ := st
 have h0 : s ≠ [] := h0
 have hx : s.length ≤ 100000000 := hx
 refine holdsN_of_vc Tryz.func45 rfl rfl rfl ?_
 refine VDraw.seq rfl ?_
 refine And.intro (fun h1 => ?_) (fun h1 => ?_)
 ·refine ⟨sk, ?_⟩
  refine ⟨s, h0, rfl, by omega, by simp, by rw [List.take_of_length_le (by simp)], ?_⟩
  exact ⟨[], [], [], .returned (.p (.str s)), ⟨2, [(0, wOu u 1 ⟨s, n, g⟩)]⟩, rfl, sk, by cases u <;> (exact sk), rfl, rfl⟩
 ·exact absurd (List.eq_nil_of_length_eq_zero h1) h0
theorem strgE_h (u : Bool) (st : Wst) (h0 : st.s = []) : HoldsG cx 45 [.ptr 0 0 0] (wH u st) fun e H' => e = .returned (.p (.str [])) ∧ H' = wH u st := by
 obtain ⟨s, n, g⟩ := st
 have h0 : s = [] := h0
 subst h0
 refine holdsN_of_vc Tryz.func45 rfl rfl rfl ?_
 refine VDraw.seq rfl ?_
 refine And.intro (fun h1 => ?_) (fun h1 => ?_)
 ·cases h1
 ·refine ⟨sk, ?_⟩
  refine ⟨rfl, ?_⟩
  exact ⟨[], [], [], .returned (.p (.str [])), wH u ⟨[], n, g⟩, rfl, sk, by cases u <;> (exact sk), rfl, rfl⟩
theorem wt_all : ∀ {x : Toks}, AllT x → wt x ≤ 12 * x.length
 | [], _ => Nat.zero_le _
 | t :: x, h => by
  have h1 := tok_len (h t (List.mem_cons_self ..))
  have h2 := wt_all (x := x) fun u hu => h u (List.mem_cons_of_mem _ hu)
  rw [wt, List.length_cons]; omega
theorem decl_wt {d : De} (h : declB d = true) : wt (declT d) ≤ 130000 := by
 have h1 := decl_toks h
 have h2 := wt_all h1.1
 have := h1.2
 omega
theorem decl_st (S : List UInt8) (n : Nat) (d : De) : endW (puts ⟨S, n, false⟩ (declT d)) = ⟨S ++ lineT d, n + (declT d).length, false⟩ := by
 obtain ⟨h1, h2, h3⟩ := puts_spW (declT d) ⟨S, n, false⟩
 rw [endW, h1, h2, lineT, List.append_assoc]
theorem textT_snoc (ds : List De) (d : De) : textT (ds ++ [d]) = textT ds ++ lineT d := by
 rw [textT, List.flatMap_append]; simp [textT]
theorem cntT_snoc (ds : List De) (d : De) : cntT (ds ++ [d]) = cntT ds + (declT d).length := by
 rw [cntT, List.map_append, List.sum_append]; simp [cntT]
theorem cntT_len : ∀ {ds : List De}, (∀ d ∈ ds, declB d = true) → cntT ds ≤ 10400 * ds.length
 | [], _ => Nat.zero_le _
 | d :: ds, h => by
  have h1 := (decl_toks (h d (List.mem_cons_self ..))).2
  have h2 := cntT_len (ds := ds) fun x hx => h x (List.mem_cons_of_mem _ hx)
  show (declT d).length + cntT ds ≤ _
  rw [List.length_cons]; omega
theorem ptext_c (ds : List De) (hb : BigP ds) : Pure cx 13 [srcV ds] (· = .ret (txtV ds)) := by
 have hR := pcheck_c ds hb
 refine pure_of_vc Tryz.func13 rfl rfl rfl ?_
 by_cases hv : validB ds = true
 rotate_left
 ·have e : txtV ds = [.str [], i64 380] := by rw [txtV, if_neg hv]
  rw [chkV, if_neg hv] at hR
  refine hR.eq rfl ?_
  refine And.intro (fun h => absurd (show (380 : Int) = 0 from h) (by decide)) (fun _ => ?_)
  exact end2 (.str []) (i64 380) rfl rfl rfl (by rw [e] <;> rfl)
 rw [chkV, if_pos hv] at hR
 refine hR.eq rfl ?_
 refine And.intro (fun _ => ?_) (fun h => absurd rfl h)
 obtain ⟨v1, v2⟩ := valid_decl hv
 have hm : (ds.map De.cells).length = ds.length := List.length_map ..
 have e1 : (textT ds).length ≤ 8000 ∧ cntT ds ≤ 1500 → txtV ds = [.str (textT ds), i64 0] := fun h => by rw [txtV, if_pos hv, if_pos h]
 have e2 : ¬ ((textT ds).length ≤ 8000 ∧ cntT ds ≤ 1500) → txtV ds = [.str [], i64 3] := fun h => by rw [txtV, if_pos hv, if_neg h]
 generalize txtV ds = X at e1 e2 ⊢
 refine ⟨Wst × Nat × Bool, fun x => [(5, .ptr 0 0 0), (14, .p (des ds)), (15, .p (i64 (ds.map De.cells).length)), (16, .p (i64 x.2.1))], fun x => wH x.2.2 x.1, fun x => x.2.1 ≤ ds.length ∧ x.1 = ⟨textT (ds.take x.2.1), cntT (ds.take x.2.1), false⟩, fun x => ds.length - x.2.1, ?_, ?_⟩
 ·exact ⟨(⟨[], 0, false⟩, 0, false), ⟨Nat.zero_le _, rfl⟩, ent_of [] [(0, 1)] [(1, 1)] rfl (sk) (sk) rfl⟩
 rintro ⟨st, i, u⟩ ⟨k1, k2⟩
 simp only [] at k1 k2
 have hst : st.sz ≤ 10000000 := by
  have t1 := textT_len (ds := ds.take i) fun d hd => v2 d (List.mem_of_mem_take hd)
  have t2 := cntT_len (ds := ds.take i) fun d hd => v2 d (List.mem_of_mem_take hd)
  have t3 : (ds.take i).length ≤ 30 := by rw [List.length_take]; omega
  rw [k2]
  show cntT (ds.take i) + (textT (ds.take i)).length ≤ _
  omega
 (first | refine brLt (fun m1 => ?_) (fun m1 => ?_) | refine brLe (fun m1 => ?_) (fun m1 => ?_) | refine brEq (fun m1 => ?_) (fun m1 => ?_))
 ·have m1 : (i : Int) < ((ds.map De.cells).length : Nat) := m1
  rw [hm] at m1
  have hi : i < ds.length := by omega
  have hd := v2 _ (getD_memL de0 hi)
  have hcell := decell hi
  have ht := take_succ_getD de0 hi
  generalize ds.getD i de0 = d at hd hcell ht
  have hw := decl_wt hd
  have hn : (⟨textT (ds.take (i + 1)), cntT (ds.take (i + 1)), false⟩ : Wst) = endW (puts st (declT d)) := by
   rw [ht, textT_snoc, cntT_snoc, k2, decl_st]
  have hD := decl_w u st d hd (by omega)
  have hz := puts_sz (declT d) st
  clear ht hd
  obtain ⟨k, n, nm, pl, rs, cs⟩ := d
  generalize declT ⟨k, n, nm, pl, rs, cs⟩ = Y at hD hw hn hz
  refine ⟨_, ⟨by omega, (⟨k, n, nm, pl, rs, cs⟩ : De).cells, hcell, rfl⟩, ?_⟩
  refine hD.holds.useT [] [] rfl (by cases u <;> (exact sk)) (sk) fun e0 H0 hq => ?_
  obtain ⟨rfl, rfl⟩ := hq
  refine ⟨rfl, _, ⟨4, ((3, bO (puts st Y).s) :: (0, wO 3 (puts st Y)) :: [(2, deO _)])⟩, rfl, rfl, ?_⟩
  refine (end_h (puts st Y) (by omega)).holds.useT [] [(1, 3)] rfl (sk) (sk) fun e0 H0 hq => ?_
  obtain ⟨rfl, rfl⟩ := hq
  refine ⟨rfl, _, ⟨5, ((4, bO (endW (puts st Y)).s) :: (0, wO 4 (endW (puts st Y))) :: [(2, deO _)])⟩, rfl, rfl, ?_⟩
  refine ⟨_, wrap_i64 (by omega) (by omega), ?_⟩
  exact ⟨(endW (puts st Y), i + 1, true), ⟨hi, hn.symm⟩, ent_of [] [(1, 4)] [] rfl (sk) (sk) rfl, by show ds.length - (i + 1) < ds.length - i; omega⟩
 ·have m1 : ¬ (i : Int) < ((ds.map De.cells).length : Nat) := m1
  rw [hm] at m1
  rw [take_all (by omega)] at k2
  have ks : st.s = textT ds := by rw [k2]
  have kn : st.n = cntT ds := by rw [k2]
  rw [← ks, ← kn] at e1 e2
  clear k2 ks kn
  cases u
  ·refine (len_h false st).holds.useT [] [] rfl (sk) (sk) fun e0 H0 hq => ?_
   obtain ⟨rfl, rfl⟩ := hq
   refine ⟨rfl, _, wH false st, rfl, rfl, ?_⟩
   have hsl : st.s.length ≤ 10000000 := by
    have : st.n + st.s.length ≤ 10000000 := hst
    omega
   (first | refine brLt (fun c1 => ?_) (fun c1 => ?_) | refine brLe (fun c1 => ?_) (fun c1 => ?_) | refine brEq (fun c1 => ?_) (fun c1 => ?_))
   ·have c1 : (8000 : Int) < (st.s.length : Nat) := c1
    exact end2 (.str []) (i64 3) rfl rfl rfl (by rw [e2 (by omega)] <;> rfl)
   have c1 : ¬ (8000 : Int) < (st.s.length : Nat) := c1
   (first | refine brLt (fun c2 => ?_) (fun c2 => ?_) | refine brLe (fun c2 => ?_) (fun c2 => ?_) | refine brEq (fun c2 => ?_) (fun c2 => ?_))
   ·have c2 : (1500 : Int) < (st.n : Nat) := c2
    exact end2 (.str []) (i64 3) rfl rfl rfl (by rw [e2 (by omega)] <;> rfl)
   have c2 : ¬ (1500 : Int) < (st.n : Nat) := c2
   have e3 := e1 (by omega)
   by_cases hs : st.s = []
   ·refine (strgE_h false st hs).holds.useT [] [] rfl (sk) (sk) fun e0 H0 hq => ?_
    obtain ⟨rfl, rfl⟩ := hq
    refine ⟨rfl, _, wH false st, rfl, rfl, ?_⟩
    exact end2 (.str []) (i64 0) rfl rfl rfl (by rw [e3, hs] <;> rfl)
   ·refine (strg_h false st hs (by omega)).holds.useT [] [] rfl (sk) (sk) fun e0 H0 hq => ?_
    obtain ⟨rfl, rfl⟩ := hq
    refine ⟨rfl, _, ⟨2, [(0, wOu false 1 st)]⟩, rfl, rfl, ?_⟩
    exact end2 (.str st.s) (i64 0) rfl rfl rfl (by rw [e3] <;> rfl)
  ·refine (len_h true st).holds.useT [] [] rfl (sk) (sk) fun e0 H0 hq => ?_
   obtain ⟨rfl, rfl⟩ := hq
   refine ⟨rfl, _, wH true st, rfl, rfl, ?_⟩
   have hsl : st.s.length ≤ 10000000 := by
    have : st.n + st.s.length ≤ 10000000 := hst
    omega
   (first | refine brLt (fun c1 => ?_) (fun c1 => ?_) | refine brLe (fun c1 => ?_) (fun c1 => ?_) | refine brEq (fun c1 => ?_) (fun c1 => ?_))
   ·have c1 : (8000 : Int) < (st.s.length : Nat) := c1
    exact end2 (.str []) (i64 3) rfl rfl rfl (by rw [e2 (by omega)] <;> rfl)
   have c1 : ¬ (8000 : Int) < (st.s.length : Nat) := c1
   (first | refine brLt (fun c2 => ?_) (fun c2 => ?_) | refine brLe (fun c2 => ?_) (fun c2 => ?_) | refine brEq (fun c2 => ?_) (fun c2 => ?_))
   ·have c2 : (1500 : Int) < (st.n : Nat) := c2
    exact end2 (.str []) (i64 3) rfl rfl rfl (by rw [e2 (by omega)] <;> rfl)
   have c2 : ¬ (1500 : Int) < (st.n : Nat) := c2
   have e3 := e1 (by omega)
   by_cases hs : st.s = []
   ·refine (strgE_h true st hs).holds.useT [] [] rfl (sk) (sk) fun e0 H0 hq => ?_
    obtain ⟨rfl, rfl⟩ := hq
    refine ⟨rfl, _, wH true st, rfl, rfl, ?_⟩
    exact end2 (.str []) (i64 0) rfl rfl rfl (by rw [e3, hs] <;> rfl)
   ·refine (strg_h true st hs (by omega)).holds.useT [] [] rfl (sk) (sk) fun e0 H0 hq => ?_
    obtain ⟨rfl, rfl⟩ := hq
    refine ⟨rfl, _, ⟨2, [(0, wOu true 1 st)]⟩, rfl, rfl, ?_⟩
    exact end2 (.str st.s) (i64 0) rfl rfl rfl (by rw [e3] <;> rfl)
set_option maxHeartbeats 40000000
theorem vdraw_ot {C : Cx} {rd : Bool} {n0 N : Nat} {all : List Oper} {σ : Sg} {ds : List AD} {H : Hp} {K : Sg → List AD → Hp → Prop} {X : List AP → Sg → List AD → Hp → Prop} (ot : OT)
    (h : (C.P.follows .mixedOrders && slotsOK N all (masks all []) && otOK all (masks all []) ot [] [] []) = true) (hv : vD C rd all σ K X ot [] ds H) :
    ∃ ot, (C.P.follows .mixedOrders && slotsOK N all (masks all []) && otOK all (masks all []) ot [] [] []) = true ∧
    ((vD C rd all σ K X ot [] ds H) ∨
     ∃ (α : Type) (sl : α → List (Nat × AV)) (hp : α → Hp) (pr : α → Prop),
      vD C rd all σ (fun σ' ds' H' => ∃ x, pr x ∧ Ent C n0 N σ' ds' H' (sets (fun _ => .junk) (sl x)) ds (hp x)) X ot [] ds H ∧
      ∀ x, pr x → K (sets (fun _ => .junk) (sl x)) ds (hp x)) := ⟨_, h, .inl hv⟩
theorem vdraw_otTo {C : Cx} {rd : Bool} {n0 N : Nat} {all : List Oper} {σ : Sg} {ds : List AD} {H : Hp} {K : Sg → List AD → Hp → Prop} {X : List AP → Sg → List AD → Hp → Prop} (sl : List (Nat × AV)) (hp : Hp) (ot : OT)
    (h : (C.P.follows .mixedOrders && slotsOK N all (masks all []) && otOK all (masks all []) ot [] [] []) = true)
    (hv : vD C rd all σ (fun σ' ds' H' => Ent C n0 N σ' ds' H' (sets (fun _ => .junk) sl) ds hp) X ot [] ds H) (hk : K (sets (fun _ => .junk) sl) ds hp) :
    ∃ ot, (C.P.follows .mixedOrders && slotsOK N all (masks all []) && otOK all (masks all []) ot [] [] []) = true ∧
    ((vD C rd all σ K X ot [] ds H) ∨
     ∃ (α : Type) (sl : α → List (Nat × AV)) (hp : α → Hp) (pr : α → Prop),
      vD C rd all σ (fun σ' ds' H' => ∃ x, pr x ∧ Ent C n0 N σ' ds' H' (sets (fun _ => .junk) (sl x)) ds (hp x)) X ot [] ds H ∧
      ∀ x, pr x → K (sets (fun _ => .junk) (sl x)) ds (hp x)) :=
  ⟨_, h, .inr ⟨Unit, fun _ => sl, fun _ => hp, fun _ => True, by
    have e : (fun σ' ds' H' => ∃ _x : Unit, True ∧ Ent C n0 N σ' ds' H' (sets (fun _ => .junk) sl) ds hp) = fun σ' ds' H' => Ent C n0 N σ' ds' H' (sets (fun _ => .junk) sl) ds hp := by
      funext a b c
      exact propext ⟨fun ⟨_, _, h⟩ => h, fun h => ⟨(), trivial, h⟩⟩
    rw [e]; exact hv, fun _ _ => hk⟩⟩
abbrev otI : OT := (.pure 0 (.pure 1 (.pure 2 (.pure 3 (.pure 4 (.pure 5 (.pure 6 (.pure 7 (.pure 8 (.pure 9 (.pure 10 (.pure 11 (.pure 12 (.pure 13 (.pure 14 (.pure 15 (.pure 16 (.pure 17 (.pure 18 (.pure 19 (.pure 20 (.pure 21 (.pure 22 (.pure 23 (.pure 24 (.pure 25 (.pure 26 (.pure 27 (.pure 28 (.pure 29 (.pure 30 (.eff 31 [] (.pure 32 (.pure 33 (.pure 34 .fin))) .nil))))))))))))))))))))))))))))))))
theorem Out.val {α : Type} {b : Bool} {p : Nat} {r : Rd α} {a a' : α} {q : Nat} {b' : Bool} (h : Out b p r a q b') (e : b' = false → a = a') : Out b p r a' q b' := by
 cases b'
 ·rw [← e rfl]; exact h
 ·cases b
  ·exact h
  ·exact h
theorem Out.live {α : Type} {b : Bool} {p : Nat} {r : Rd α} {a : α} {q : Nat} (h : Out b p r a q false) : b = false := by
 cases b
 ·rfl
 ·exact absurd h.1 (by decide)
theorem ints_stop {ws : List Wd} {b0 b b2 : Bool} {q0 q q2 : Nat} {R : Rd (List Int)} {acc : List Int} {v : Int} (k : LK b0 q0 R (fun f => (intR ws q).then fun n q' => intsR ws f (acc ++ [n]) q') ws.length q b) (o : Out b q (intR ws q) v q2 b2) (hs : b2 = false → ¬ (txt ws q2 = tMinus ∨ knd ws q2 = 3)) : Out b0 q0 R (acc ++ [v]) q2 b2 := by
 obtain ⟨f, hf, hk⟩ := k
 refine hk _ _ _ (o.then ?_)
 cases b2
 ·have := hf o.live
  obtain ⟨g, rfl⟩ : ∃ g, f = g + 1 := ⟨f - 1, by omega⟩
  rw [intsR, if_neg (hs rfl)]
  exact Out.same
 ·exact Out.bad
theorem rints_h (ws : List Wd) (F q0 : Nat) (b0 : Bool) (hF : ws.length < F) (hg : GoodW ws) (hq0 : q0 ≤ ws.length) : HoldsG cx 140 [.ptr 0 0 0] (rrH ws q0 b0) (RQ ws b0 q0 (numsR ws F q0) fun l => .p (ints l)) := by
 refine holdsN_of_vc Tryz.func140 rfl rfl rfl ?_
 have hl := hg.len
 have hl' : (ws.map Wd.cells).length = ws.length := List.length_map ..
 refine ⟨List Int × Nat × Bool, fun x => [(0, .ptr 0 0 0), (3, .sl 1 1 0 x.1.length)], fun x => ⟨2, [(1, iO x.1), (0, rrO ws x.2.1 x.2.2)]⟩, fun x => x.2.1 ≤ ws.length ∧ (x.2.2 = true → x.1 = []) ∧ x.1.length ≤ x.2.1 ∧ LK b0 q0 (numsR ws F q0) (fun f => (intR ws x.2.1).then fun n q' => intsR ws f (x.1 ++ [n]) q') ws.length x.2.1 x.2.2, fun x => ws.length - x.2.1, ?_, ?_⟩
 ·exact ⟨([], q0, b0), ⟨hq0, fun _ => rfl, by simp, F, fun _ => by simp only []; omega, fun l q' b' ho => ho⟩, ent_of [] [] [(1, 1)] rfl (sk) (sk) rfl⟩
 rintro ⟨acc, q, b⟩ ⟨k1, k2, k3, k4⟩
 simp only [] at k1 k2 k3 k4
 by_cases c : Tk ws b q tMinus
 ·have q1l : q + 1 ≤ ws.length := txt_lt (by rw [c.2]; decide)
  refine (take_h ws q b tMinus hg k1 (by decide) (by decide)).holds.useT [] [] rfl (sk) (sk) fun e0 H0 hq => ?_
  obtain ⟨rfl, rfl⟩ := hq.1 c
  refine ⟨rfl, _, ⟨2, (0, rrO ws (q + 1) false) :: [(1, iO acc)]⟩, rfl, rfl, ?_⟩
  refine (rnum_h ws (q + 1) false hg q1l).holds.useT [] [] rfl (sk) (sk) fun e0 H0 hq => ?_
  obtain ⟨n, q2, b2, q2l, o2, rfl, rfl⟩ := hq
  obtain ⟨v, hv⟩ : ∃ v, v = IntKind.i64.wrap ((-1) * n) := ⟨_, rfl⟩
  have hvn : b2 = false → -n = v := fun e => by
   subst e
   have := num_bd hg (out_inr o2)
   rw [hv, show (-1) * n = -n by omega]
   exact wrap_i64 (by omega) (by omega)
  have o : Out b q (intR ws q) v q2 b2 := Out.yes c (o2.then (by
   cases b2
   ·exact Out.ret (hvn rfl)
   ·exact Out.bad)).mv
  clear hvn o2
  cases b2
  ·refine ⟨rfl, _, ⟨2, (0, rrO ws q2 false) :: [(1, iO acc)]⟩, rfl, rfl, ?_⟩
   refine ⟨v, hv, ?_⟩
   have hb := o.live
   have k5 : LK b0 q0 (numsR ws F q0) (fun f => (intR ws q).then fun n q' => intsR ws f (acc ++ [n]) q') ws.length q false := by rw [← hb]; exact k4
   have o5 : Out false q (intR ws q) v q2 false := by rw [hb] at o; exact o
   have hlt := int_lt (out_inr o5)
   refine ⟨by show 0 + 1 ≤ 1; omega, [i64 v], rfl, ?_⟩
   refine ⟨by show 0 + acc.length ≤ (acc.map i64).length; simp, acc.map i64, takeAll (by simp), by show (acc.length + 1) * 8 ≤ 140737488355328; omega, (acc ++ [v]).map i64, by simp, ?_⟩
   by_cases hs : txt ws q2 = tMinus ∨ knd ws q2 = 3
   ·have hql : q2 < ws.length := by
     rcases hs with h | h
     ·exact txt_lt (ws := ws) (q := q2) (by rw [h]; decide)
     ·exact knd_lt (ws := ws) (q := q2) (by rw [h]; decide)
    refine vdraw_otTo [(0, .ptr 0 0 0), (3, .sl 3 1 0 (acc.length + 1)), (48, vB false)] ⟨4, [(3, iO (acc ++ [v])), (0, rrO ws q2 false)]⟩ otI (by kernel_rfl) ?_ ?_
    ·refine And.intro (fun h => absurd (show ((ws.map Wd.cells).length : Int) ≤ (q2 : Nat) from h) (by rw [hl']; omega)) (fun _ => ?_)
     refine ⟨_, ⟨by omega, (wat ws q2).cells, wdcell (by omega), rfl⟩, ?_⟩
     refine And.intro (fun h2 => ?_) (fun h2 => ?_)
     ·exact ent_of [] [] [] rfl (sk) (sk) rfl
     have h2 : ¬ knd ws q2 = 3 := h2
     have c2 : Tk ws false q2 tMinus := ⟨rfl, hs.resolve_right h2⟩
     refine (is_h ws q2 false tMinus hg q2l (by decide) (by decide)).holds.useT [] [] rfl (sk) (sk) fun e0 H0 hq => ?_
     obtain ⟨rfl, rfl⟩ := hq.1 c2
     refine ⟨rfl, _, ⟨4, [(0, rrO ws q2 false), (3, iO (acc ++ [v])), (2, iO [v])]⟩, rfl, rfl, ?_⟩
     exact ent_of [] [] [] rfl (sk) (sk) rfl
    exact ⟨(acc ++ [v], q2, false), ⟨q2l, fun e => absurd (show false = true from e) (by decide), by show (acc ++ [v]).length ≤ q2; rw [snoc_len]; omega, k5.step (fun f l q' b' ho => o5.then (by rw [intsR, if_pos hs]; exact ho)) (fun _ => ⟨hlt, q2l⟩)⟩, ent_of [] [(1, 3)] [] rfl ⟨⟨rfl, rfl⟩, congrArg (fun k : Nat => AV.sl 3 1 0 k) (snoc_len acc v).symm, trivial⟩ (sk) rfl, by show ws.length - q2 < ws.length - q; omega⟩
   ·refine vdraw_otTo [(0, .ptr 0 0 0), (3, .sl 3 1 0 (acc.length + 1)), (48, vB true)] ⟨4, [(3, iO (acc ++ [v])), (0, rrO ws q2 false)]⟩ otI (by kernel_rfl) ?_ ?_
    ·(first | refine brLt (fun h1 => ?_) (fun h1 => ?_) | refine brLe (fun h1 => ?_) (fun h1 => ?_) | refine brEq (fun h1 => ?_) (fun h1 => ?_))
     ·exact ent_of [] [] [] rfl (sk) (sk) rfl
     have h1 : ¬ ((ws.map Wd.cells).length : Int) ≤ (q2 : Nat) := h1
     rw [hl'] at h1
     refine ⟨_, ⟨by omega, (wat ws q2).cells, wdcell (by omega), rfl⟩, ?_⟩
     refine And.intro (fun h2 => absurd (.inr h2) hs) (fun _ => ?_)
     refine (is_h ws q2 false tMinus hg q2l (by decide) (by decide)).holds.useT [] [] rfl (sk) (sk) fun e0 H0 hq => ?_
     obtain ⟨rfl, rfl⟩ := hq.2 (fun c2 => hs (.inl c2.2))
     refine ⟨rfl, _, ⟨4, [(0, rrO ws q2 false), (3, iO (acc ++ [v])), (2, iO [v])]⟩, rfl, rfl, ?_⟩
     exact ent_of [] [] [] rfl (sk) (sk) rfl
    exact ⟨[3], [], [], .returned (.p (ints (acc ++ [v]))), rrH ws q2 false, rfl, ⟨_, rfl, ⟨_, rfl, by show 0 + (acc.length + 1) ≤ ((acc ++ [v]).map i64).length; simp, takeAll (by simp)⟩⟩, sk, acc ++ [v], q2, false, q2l, ints_stop k4 o (fun _ => hs), rfl, rfl⟩
  ·refine ⟨rfl, _, ⟨2, (0, rrO ws q2 true) :: [(1, iO acc)]⟩, rfl, rfl, ?_⟩
   refine ⟨v, hv, ?_⟩
   refine ⟨by show 0 + 1 ≤ 1; omega, [i64 v], rfl, ?_⟩
   refine ⟨by show 0 + acc.length ≤ (acc.map i64).length; simp, acc.map i64, takeAll (by simp), by show (acc.length + 1) * 8 ≤ 140737488355328; omega, (acc ++ [v]).map i64, by simp, ?_⟩
   refine vdraw_ot otI (by kernel_rfl) ?_
   exact ⟨[3], [], [], .returned (.p (ints (acc ++ [v]))), rrH ws q2 true, rfl, ⟨_, rfl, ⟨_, rfl, by show 0 + (acc.length + 1) ≤ ((acc ++ [v]).map i64).length; simp, takeAll (by simp)⟩⟩, sk, acc ++ [v], q2, true, q2l, ints_stop k4 o (fun e => by cases e), rfl, rfl⟩
 ·refine (take_h ws q b tMinus hg k1 (by decide) (by decide)).holds.useT [] [] rfl (sk) (sk) fun e0 H0 hq => ?_
  obtain ⟨rfl, rfl⟩ := hq.2 c
  refine ⟨rfl, _, ⟨2, (0, rrO ws q b) :: [(1, iO acc)]⟩, rfl, rfl, ?_⟩
  refine (rnum_h ws q b hg k1).holds.useT [] [] rfl (sk) (sk) fun e0 H0 hq => ?_
  obtain ⟨n, q2, b2, q2l, o2, rfl, rfl⟩ := hq
  obtain ⟨v, hv⟩ : ∃ v, v = IntKind.i64.wrap (1 * n) := ⟨_, rfl⟩
  have hvn : b2 = false → n = v := fun e => by
   subst e
   have hb := o2.live
   subst hb
   have := num_bd hg (out_inr o2)
   rw [hv, Int.one_mul]
   exact wrap_i64 (by omega) (by omega)
  have o : Out b q (intR ws q) v q2 b2 := Out.no c (o2.val hvn)
  clear hvn o2
  cases b2
  ·refine ⟨rfl, _, ⟨2, (0, rrO ws q2 false) :: [(1, iO acc)]⟩, rfl, rfl, ?_⟩
   refine ⟨v, hv, ?_⟩
   have hb := o.live
   have k5 : LK b0 q0 (numsR ws F q0) (fun f => (intR ws q).then fun n q' => intsR ws f (acc ++ [n]) q') ws.length q false := by rw [← hb]; exact k4
   have o5 : Out false q (intR ws q) v q2 false := by rw [hb] at o; exact o
   have hlt := int_lt (out_inr o5)
   refine ⟨by show 0 + 1 ≤ 1; omega, [i64 v], rfl, ?_⟩
   refine ⟨by show 0 + acc.length ≤ (acc.map i64).length; simp, acc.map i64, takeAll (by simp), by show (acc.length + 1) * 8 ≤ 140737488355328; omega, (acc ++ [v]).map i64, by simp, ?_⟩
   by_cases hs : txt ws q2 = tMinus ∨ knd ws q2 = 3
   ·have hql : q2 < ws.length := by
     rcases hs with h | h
     ·exact txt_lt (ws := ws) (q := q2) (by rw [h]; decide)
     ·exact knd_lt (ws := ws) (q := q2) (by rw [h]; decide)
    refine vdraw_otTo [(0, .ptr 0 0 0), (3, .sl 3 1 0 (acc.length + 1)), (48, vB false)] ⟨4, [(3, iO (acc ++ [v])), (0, rrO ws q2 false)]⟩ otI (by kernel_rfl) ?_ ?_
    ·refine And.intro (fun h => absurd (show ((ws.map Wd.cells).length : Int) ≤ (q2 : Nat) from h) (by rw [hl']; omega)) (fun _ => ?_)
     refine ⟨_, ⟨by omega, (wat ws q2).cells, wdcell (by omega), rfl⟩, ?_⟩
     refine And.intro (fun h2 => ?_) (fun h2 => ?_)
     ·exact ent_of [] [] [] rfl (sk) (sk) rfl
     have h2 : ¬ knd ws q2 = 3 := h2
     have c2 : Tk ws false q2 tMinus := ⟨rfl, hs.resolve_right h2⟩
     refine (is_h ws q2 false tMinus hg q2l (by decide) (by decide)).holds.useT [] [] rfl (sk) (sk) fun e0 H0 hq => ?_
     obtain ⟨rfl, rfl⟩ := hq.1 c2
     refine ⟨rfl, _, ⟨4, [(0, rrO ws q2 false), (3, iO (acc ++ [v])), (2, iO [v])]⟩, rfl, rfl, ?_⟩
     exact ent_of [] [] [] rfl (sk) (sk) rfl
    exact ⟨(acc ++ [v], q2, false), ⟨q2l, fun e => absurd (show false = true from e) (by decide), by show (acc ++ [v]).length ≤ q2; rw [snoc_len]; omega, k5.step (fun f l q' b' ho => o5.then (by rw [intsR, if_pos hs]; exact ho)) (fun _ => ⟨hlt, q2l⟩)⟩, ent_of [] [(1, 3)] [] rfl ⟨⟨rfl, rfl⟩, congrArg (fun k : Nat => AV.sl 3 1 0 k) (snoc_len acc v).symm, trivial⟩ (sk) rfl, by show ws.length - q2 < ws.length - q; omega⟩
   ·refine vdraw_otTo [(0, .ptr 0 0 0), (3, .sl 3 1 0 (acc.length + 1)), (48, vB true)] ⟨4, [(3, iO (acc ++ [v])), (0, rrO ws q2 false)]⟩ otI (by kernel_rfl) ?_ ?_
    ·(first | refine brLt (fun h1 => ?_) (fun h1 => ?_) | refine brLe (fun h1 => ?_) (fun h1 => ?_) | refine brEq (fun h1 => ?_) (fun h1 => ?_))
     ·exact ent_of [] [] [] rfl (sk) (sk) rfl
     have h1 : ¬ ((ws.map Wd.cells).length : Int) ≤ (q2 : Nat) := h1
     rw [hl'] at h1
     refine ⟨_, ⟨by omega, (wat ws q2).cells, wdcell (by omega), rfl⟩, ?_⟩
     refine And.intro (fun h2 => absurd (.inr h2) hs) (fun _ => ?_)
     refine (is_h ws q2 false tMinus hg q2l (by decide) (by decide)).holds.useT [] [] rfl (sk) (sk) fun e0 H0 hq => ?_
     obtain ⟨rfl, rfl⟩ := hq.2 (fun c2 => hs (.inl c2.2))
     refine ⟨rfl, _, ⟨4, [(0, rrO ws q2 false), (3, iO (acc ++ [v])), (2, iO [v])]⟩, rfl, rfl, ?_⟩
     exact ent_of [] [] [] rfl (sk) (sk) rfl
    exact ⟨[3], [], [], .returned (.p (ints (acc ++ [v]))), rrH ws q2 false, rfl, ⟨_, rfl, ⟨_, rfl, by show 0 + (acc.length + 1) ≤ ((acc ++ [v]).map i64).length; simp, takeAll (by simp)⟩⟩, sk, acc ++ [v], q2, false, q2l, ints_stop k4 o (fun _ => hs), rfl, rfl⟩
  ·refine ⟨rfl, _, ⟨2, (0, rrO ws q2 true) :: [(1, iO acc)]⟩, rfl, rfl, ?_⟩
   refine ⟨v, hv, ?_⟩
   refine ⟨by show 0 + 1 ≤ 1; omega, [i64 v], rfl, ?_⟩
   refine ⟨by show 0 + acc.length ≤ (acc.map i64).length; simp, acc.map i64, takeAll (by simp), by show (acc.length + 1) * 8 ≤ 140737488355328; omega, (acc ++ [v]).map i64, by simp, ?_⟩
   refine vdraw_ot otI (by kernel_rfl) ?_
   exact ⟨[3], [], [], .returned (.p (ints (acc ++ [v]))), rrH ws q2 true, rfl, ⟨_, rfl, ⟨_, rfl, by show 0 + (acc.length + 1) ≤ ((acc ++ [v]).map i64).length; simp, takeAll (by simp)⟩⟩, sk, acc ++ [v], q2, true, q2l, ints_stop k4 o (fun e => by cases e), rfl, rfl⟩
set_option maxHeartbeats 4000000
theorem set_snoc (l : List Int) (n : Int) : setN (l ++ [n]) = insN (setN l) n := by rw [setN, setN, List.foldl_append]; rfl
def RQN (ws : List Wd) (b : Bool) (q : Nat) (r : Rd Cd) (e : AE) (H' : Hp) : Prop := ∃ c q' b', q' ≤ ws.length ∧ Out b q r c q' b' ∧ (∃ y, e = .returned (.p y) ∧ NilD y c.pv) ∧ H' = rrH ws q' b'
abbrev RC (ws : List Wd) (b : Bool) (q : Nat) (r : Rd Cd) : AE → Hp → Prop := RQ ws b q r fun c => .p c.pv
theorem rqN_weak {ws : List Wd} {b : Bool} {q : Nat} {g : FuncId} {args : List AV} {H : Hp} {r : Rd Cd} (h : HoldsG cx g args H (RQN ws b q r)) : HoldsG cx g args H (RC ws b q r) :=
 h.weak fun e H' hq => by
  obtain ⟨c, q', b', h1, h2, ⟨y, rfl, h3⟩, rfl⟩ := hq
  exact ⟨.returned (.p c.pv), ⟨_, rfl, by simp only [NilA]; exact ⟨_, rfl, h3⟩⟩, c, q', b', h1, h2, rfl, rfl⟩
abbrev lfI (rf : Rf) (s : List Int) : AObj := cO [.p (i64 5), .p (i64 0), .p (i64 0), .p (i64 0), .p (.str rf.name), .p (i64 rf.mode), .p (.str rf.plate), .p (i64 rf.n), .p (ints s), .p .nils]
abbrev RCondOK (ws : List Wd) (F : Nat) (q : Nat) (b : Bool) : Prop := HoldsG cx 139 [.ptr 0 0 0] (rrH ws q b) (RC ws b q (condR ws F q))
theorem nil_ins (n : Int) : NilDL [.nils, i64 n] [ints [], i64 n] := by
 simp only [NilDL, NilD]
 exact ⟨_, _, rfl, .inr (.inl rfl), _, _, rfl, rfl, rfl⟩
theorem rtest_h (ws : List Wd) (F q0 : Nat) (b0 : Bool) (hg : GoodW ws) (hq0 : q0 ≤ ws.length) (hF : 4 * (ws.length - q0) + 1 ≤ F + 1) (hC : ∀ q, q ≤ ws.length → 4 * (ws.length - q) + 4 ≤ F → RCondOK ws F q false) :
  HoldsG cx 203 [.ptr 0 0 0] (rrH ws q0 b0) (RC ws b0 q0 (testR ws (F + 1) q0)) := by
 refine rqN_weak ?_
 refine holdsN_of_vc Tryz.func203 rfl rfl rfl ?_
 have hl := hg.len
 by_cases c1 : Tk ws b0 q0 tLP
 ·have q1l : q0 + 1 ≤ ws.length := txt_lt (by rw [c1.2]; decide)
  refine (take_h ws q0 b0 tLP hg hq0 (by decide) (by decide)).holds.useT [] [] rfl (sk) (sk) fun e0 H0 hq => ?_
  obtain ⟨rfl, rfl⟩ := hq.1 c1
  refine ⟨rfl, _, ⟨2, (0, rrO ws (q0 + 1) false) :: [(1, zc)]⟩, rfl, rfl, ?_⟩
  refine (hC (q0 + 1) q1l (by omega)).holds.useT [] [] rfl (sk) (sk) fun e0 H0 hq => ?_
  obtain ⟨⟨o, n, rl, vl, rf, st, ar⟩, q2, b2, q2l, o2, rfl, rfl⟩ := hq
  refine ⟨rfl, _, ⟨2, (0, rrO ws q2 b2) :: [(1, zc)]⟩, rfl, rfl, ?_⟩
  refine (must_h ws q2 b2 tRP hg q2l (by decide) (by decide)).holds.useT [] [] rfl (sk) (sk) fun e0 H0 hq => ?_
  obtain ⟨u3, q3, b3, q3l, o3, rfl, rfl⟩ := hq
  refine ⟨rfl, _, ⟨3, (0, rrO ws q3 b3) :: [(2, cO ((Cd.mk o n rl vl rf st ar).cells.map .p)), (1, zc)]⟩, rfl, rfl, ?_⟩
  exact ⟨[], [], [], .returned (.p (Cd.mk o n rl vl rf st ar).pv), rrH ws q3 b3, rfl, sk, sk, _, q3, b3, q3l, by rw [testR]; exact Out.yes c1 (o2.then (o3.then Out.same)).mv, ⟨_, rfl, NilD.refl _⟩, rfl⟩
 refine (take_h ws q0 b0 tLP hg hq0 (by decide) (by decide)).holds.useT [] [] rfl (sk) (sk) fun e0 H0 hq => ?_
 obtain ⟨rfl, rfl⟩ := hq.2 c1
 refine ⟨rfl, _, ⟨2, (0, rrO ws q0 b0) :: [(1, zc)]⟩, rfl, rfl, ?_⟩
 by_cases c2 : Tk ws b0 q0 tCount
 ·have q1l : q0 + 1 ≤ ws.length := txt_lt (by rw [c2.2]; decide)
  refine (take_h ws q0 b0 tCount hg hq0 (by decide) (by decide)).holds.useT [] [] rfl (sk) (sk) fun e0 H0 hq => ?_
  obtain ⟨rfl, rfl⟩ := hq.1 c2
  refine ⟨rfl, _, ⟨3, (0, rrO ws (q0 + 1) false) :: [(2, zc), (1, zc)]⟩, rfl, rfl, ?_⟩
  refine (must_h ws (q0 + 1) false tLP hg q1l (by decide) (by decide)).holds.useT [] [] rfl (sk) (sk) fun e0 H0 hq => ?_
  obtain ⟨u2, q2, b2, q2l, o2, rfl, rfl⟩ := hq
  refine ⟨rfl, _, ⟨3, (0, rrO ws q2 b2) :: [(2, lf 6 0 0 0 rf0), (1, zc)]⟩, rfl, rfl, ?_⟩
  refine (rname_h ws q2 b2 hg q2l).holds.useT [] [] rfl (sk) (sk) fun e0 H0 hq => ?_
  obtain ⟨nm, q3, b3, q3l, o3, rfl, rfl⟩ := hq
  refine ⟨rfl, _, ⟨3, (0, rrO ws q3 b3) :: [(2, lf 6 0 0 0 rf0), (1, zc)]⟩, rfl, rfl, ?_⟩
  refine (must_h ws q3 b3 tLB hg q3l (by decide) (by decide)).holds.useT [] [] rfl (sk) (sk) fun e0 H0 hq => ?_
  obtain ⟨u4, q4, b4, q4l, o4, rfl, rfl⟩ := hq
  refine ⟨rfl, _, ⟨3, (0, rrO ws q4 b4) :: [(2, lf 6 0 0 0 ⟨nm, 3, [], 0⟩), (1, zc)]⟩, rfl, rfl, ?_⟩
  refine (must_h ws q4 b4 tAll hg q4l (by decide) (by decide)).holds.useT [] [] rfl (sk) (sk) fun e0 H0 hq => ?_
  obtain ⟨u5, q5, b5, q5l, o5, rfl, rfl⟩ := hq
  refine ⟨rfl, _, ⟨3, (0, rrO ws q5 b5) :: [(2, lf 6 0 0 0 ⟨nm, 3, [], 0⟩), (1, zc)]⟩, rfl, rfl, ?_⟩
  refine (must_h ws q5 b5 tRB hg q5l (by decide) (by decide)).holds.useT [] [] rfl (sk) (sk) fun e0 H0 hq => ?_
  obtain ⟨u6, q6, b6, q6l, o6, rfl, rfl⟩ := hq
  refine ⟨rfl, _, ⟨3, (0, rrO ws q6 b6) :: [(2, lf 6 0 0 0 ⟨nm, 3, [], 0⟩), (1, zc)]⟩, rfl, rfl, ?_⟩
  refine (must_h ws q6 b6 tEq hg q6l (by decide) (by decide)).holds.useT [] [] rfl (sk) (sk) fun e0 H0 hq => ?_
  obtain ⟨u7, q7, b7, q7l, o7, rfl, rfl⟩ := hq
  refine ⟨rfl, _, ⟨3, (0, rrO ws q7 b7) :: [(2, lf 6 0 0 0 ⟨nm, 3, [], 0⟩), (1, zc)]⟩, rfl, rfl, ?_⟩
  refine (rnum_h ws q7 b7 hg q7l).holds.useT [] [] rfl (sk) (sk) fun e0 H0 hq => ?_
  obtain ⟨v, q8, b8, q8l, o8, rfl, rfl⟩ := hq
  refine ⟨rfl, _, ⟨3, (0, rrO ws q8 b8) :: [(2, lf 6 0 0 0 ⟨nm, 3, [], 0⟩), (1, zc)]⟩, rfl, rfl, ?_⟩
  refine (must_h ws q8 b8 tRP hg q8l (by decide) (by decide)).holds.useT [] [] rfl (sk) (sk) fun e0 H0 hq => ?_
  obtain ⟨u9, q9, b9, q9l, o9, rfl, rfl⟩ := hq
  refine ⟨rfl, _, ⟨3, (0, rrO ws q9 b9) :: [(2, lf 6 0 0 v ⟨nm, 3, [], 0⟩), (1, zc)]⟩, rfl, rfl, ?_⟩
  refine (rrel_h ws q9 b9 hg q9l).holds.useT [] [] rfl (sk) (sk) fun e0 H0 hq => ?_
  obtain ⟨r, q10, b10, q10l, o10, rfl, rfl⟩ := hq
  refine ⟨rfl, _, ⟨3, (0, rrO ws q10 b10) :: [(2, lf 6 0 0 v ⟨nm, 3, [], 0⟩), (1, zc)]⟩, rfl, rfl, ?_⟩
  refine (rnum_h ws q10 b10 hg q10l).holds.useT [] [] rfl (sk) (sk) fun e0 H0 hq => ?_
  obtain ⟨n, q11, b11, q11l, o11, rfl, rfl⟩ := hq
  refine ⟨rfl, _, ⟨3, (0, rrO ws q11 b11) :: [(2, lf 6 0 r v ⟨nm, 3, [], 0⟩), (1, zc)]⟩, rfl, rfl, ?_⟩
  have om : Out b3 q3 (mustsR ws [tLB, tAll, tRB, tEq] q3) () q7 b7 := o4.then (o5.then (o6.then (o7.then Out.same)))
  exact ⟨[], [], [], .returned (.p (.agg [i64 6, i64 n, i64 r, i64 v, .str nm, i64 3, .str [], i64 0, .nils, .nils])), rrH ws q11 b11, rfl, sk, sk, .mk 6 n r v ⟨nm, 3, [], 0⟩ [] [], q11, b11, q11l, by rw [testR]; exact Out.no c1 (Out.yes c2 (o2.then (o3.then (om.then (o8.then (o9.then (o10.then (o11.then Out.same))))))).mv), ⟨_, rfl, nil_leaf2 6 n r v ⟨nm, 3, [], 0⟩⟩, rfl⟩
 refine (take_h ws q0 b0 tCount hg hq0 (by decide) (by decide)).holds.useT [] [] rfl (sk) (sk) fun e0 H0 hq => ?_
 obtain ⟨rfl, rfl⟩ := hq.2 c2
 refine ⟨rfl, _, ⟨3, (0, rrO ws q0 b0) :: [(2, zc), (1, zc)]⟩, rfl, rfl, ?_⟩
 refine (rref_h ws q0 b0 hg hq0).holds.useT [] [] rfl (sk) (sk) fun e0 H0 hq => ?_
 obtain ⟨rf, q1, b1, q1l, o1, rfl, rfl⟩ := hq
 refine ⟨rfl, _, ⟨3, (0, rrO ws q1 b1) :: [(2, zc), (1, zc)]⟩, rfl, rfl, ?_⟩
 by_cases c3 : Tk ws b1 q1 tIn
 rotate_left
 ·refine (take_h ws q1 b1 tIn hg q1l (by decide) (by decide)).holds.useT [] [] rfl (sk) (sk) fun e0 H0 hq => ?_
  obtain ⟨rfl, rfl⟩ := hq.2 c3
  refine ⟨rfl, _, ⟨3, (0, rrO ws q1 b1) :: [(2, lf 0 0 0 0 rf), (1, zc)]⟩, rfl, rfl, ?_⟩
  refine (rrel_h ws q1 b1 hg q1l).holds.useT [] [] rfl (sk) (sk) fun e0 H0 hq => ?_
  obtain ⟨o, q2, b2, q2l, o2, rfl, rfl⟩ := hq
  refine ⟨rfl, _, ⟨3, (0, rrO ws q2 b2) :: [(2, lf 0 0 0 0 rf), (1, zc)]⟩, rfl, rfl, ?_⟩
  refine (rnum_h ws q2 b2 hg q2l).holds.useT [] [] rfl (sk) (sk) fun e0 H0 hq => ?_
  obtain ⟨n, q3, b3, q3l, o3, rfl, rfl⟩ := hq
  refine ⟨rfl, _, ⟨3, (0, rrO ws q3 b3) :: [(2, lf o 0 0 0 rf), (1, zc)]⟩, rfl, rfl, ?_⟩
  exact ⟨[], [], [], .returned (.p (.agg [i64 o, i64 n, i64 0, i64 0, .str rf.name, i64 rf.mode, .str rf.plate, i64 rf.n, .nils, .nils])), rrH ws q3 b3, rfl, sk, sk, .mk o n 0 0 rf [] [], q3, b3, q3l, by rw [testR]; exact Out.no c1 (Out.no c2 (o1.then (Out.no c3 (o2.then (o3.then Out.same))))), ⟨_, rfl, nil_leaf2 o n 0 0 rf⟩, rfl⟩
 have q2l : q1 + 1 ≤ ws.length := txt_lt (by rw [c3.2]; decide)
 refine (take_h ws q1 b1 tIn hg q1l (by decide) (by decide)).holds.useT [] [] rfl (sk) (sk) fun e0 H0 hq => ?_
 obtain ⟨rfl, rfl⟩ := hq.1 c3
 refine ⟨rfl, _, ⟨3, (0, rrO ws (q1 + 1) false) :: [(2, lf 0 0 0 0 rf), (1, zc)]⟩, rfl, rfl, ?_⟩
 refine (must_h ws (q1 + 1) false tLC hg q2l (by decide) (by decide)).holds.useT [] [] rfl (sk) (sk) fun e0 H0 hq => ?_
 obtain ⟨u3, q3, b3, q3l, o3, rfl, rfl⟩ := hq
 refine ⟨rfl, _, ⟨3, (0, rrO ws q3 b3) :: [(2, lf 5 0 0 0 rf), (1, zc)]⟩, rfl, rfl, ?_⟩
 refine (rnum_h ws q3 b3 hg q3l).holds.useT [] [] rfl (sk) (sk) fun e0 H0 hq => ?_
 obtain ⟨n0, q4, b4, q4l, o4, rfl, rfl⟩ := hq
 refine ⟨rfl, _, ⟨3, (0, rrO ws q4 b4) :: [(2, lf 5 0 0 0 rf), (1, zc)]⟩, rfl, rfl, ?_⟩
 refine ((insert_c [] n0 List.Pairwise.nil (by simp)).arg (nil_ins n0)).eq rfl ?_
 have hlt1 : b1 = false := c3.1
 have hFq : b3 = false → ws.length - q4 < F ∧ (b4 = false → q3 < q4) := fun e => by
  subst e
  have h3 := must_lt (out_inr o3)
  subst hlt1
  have hb0 := o1.live
  subst hb0
  have h1 := ref_lt (out_inr o1)
  refine ⟨?_, fun e => ?_⟩
  ·cases b4
   ·have := num_lt (out_inr o4)
    omega
   ·have : q3 ≤ q4 := by
     have h4 : numR ws q3 = .inl q4 := o4
     rw [numR] at h4
     split at h4
     ·cases h4
     ·injection h4 with h4; omega
    omega
  ·subst e; exact num_lt (out_inr o4)
 have hlist : LK b3 q3 (listR ws (numR ws) F q3) (fun f => moreR ws (numR ws) f [n0] q4) ws.length q4 b4 := ⟨F, fun e => by subst e; exact (hFq o4.live).1, fun l q' b' ho => o4.then ho⟩
 refine ⟨List Int × List Int × Nat × Bool, fun x => [(0, .ptr 0 0 0), (2, .ptr 1 0 0), (4, .ptr 2 0 0)], fun x => ⟨3, [(0, rrO ws x.2.2.1 x.2.2.2), (2, lfI rf x.2.1), (1, zc)]⟩, fun x => x.2.2.1 ≤ ws.length ∧ (x.2.2.2 = false → x.1.length ≤ x.2.2.1) ∧ x.1.length ≤ 1501 ∧ (x.2.1 = setN x.1 ∧ Inc x.2.1 ∧ x.2.1.length ≤ x.1.length) ∧ LK b3 q3 (listR ws (numR ws) F q3) (fun f => moreR ws (numR ws) f x.1 x.2.2.1) ws.length x.2.2.1 x.2.2.2, fun x => if x.2.2.2 = true then 0 else ws.length + 1 - x.2.2.1, ?_, ?_⟩
 ·exact ⟨([n0], [n0], q4, b4), ⟨q4l, fun e => by simp only [] at e; have := (hFq (by subst e; exact o4.live)).2 e; simp only [List.length_singleton]; omega, by simp, ⟨rfl, by simp [Inc], by simp⟩, hlist⟩, ent_of [] [] [] rfl (sk) (sk) rfl⟩
 clear hlist hFq
 rintro ⟨acc, s, q, b⟩ ⟨k1, k2, k3, ⟨k5, k6, k7⟩, k4⟩
 simp only [] at k1 k2 k3 k4 k5 k6 k7
 by_cases c : Tk ws b q tComma
 ·have ql : q + 1 ≤ ws.length := txt_lt (by rw [c.2]; decide)
  refine (take_h ws q b tComma hg k1 (by decide) (by decide)).holds.useT [] [] rfl (sk) (sk) fun e0 H0 hq => ?_
  obtain ⟨rfl, rfl⟩ := hq.1 c
  refine ⟨rfl, _, ⟨3, (0, rrO ws (q + 1) false) :: [(2, lfI rf s), (1, zc)]⟩, rfl, rfl, ?_⟩
  refine VDraw.seq rfl ?_
  refine (rnum_h ws (q + 1) false hg ql).holds.useT [] [] rfl (sk) (sk) fun e0 H0 hq => ?_
  obtain ⟨n, q5, b5, q5l, o5, rfl, rfl⟩ := hq
  refine ⟨rfl, _, ⟨3, (0, rrO ws q5 b5) :: [(2, lfI rf s), (1, zc)]⟩, rfl, rfl, ?_⟩
  refine ⟨sk, ?_⟩
  refine (insert_c s n k6 (by omega)).eq rfl ?_
  have hal := k2 c.1
  have hlt : b5 = false → q + 1 < q5 := fun e => by subst e; exact num_lt (out_inr o5)
  have hil := ins_len s n
  have c' := c
  obtain ⟨rfl, ct⟩ := c'
  exact ⟨(acc ++ [n], insN s n, q5, b5), ⟨q5l, fun e => by have := hlt e; show (acc ++ [n]).length ≤ q5; rw [snoc_len]; omega, by show (acc ++ [n]).length ≤ 1501; rw [snoc_len]; omega, ⟨by show insN s n = setN (acc ++ [n]); rw [set_snoc, k5], ins_inc s n k6, by show (insN s n).length ≤ (acc ++ [n]).length; rw [snoc_len]; omega⟩, k4.step (fun f l q' b' ho => by rw [moreR]; exact Out.yes ⟨rfl, ct⟩ (o5.then ho).mv) (fun e => ⟨by have := hlt e; show q < q5; omega, q5l⟩)⟩, ent_of [] [] [] rfl (sk) (sk) rfl, by show (if b5 = true then 0 else ws.length + 1 - q5) < (if false = true then 0 else ws.length + 1 - q); cases b5 <;> simp <;> (try have := hlt rfl) <;> omega⟩
 ·refine (take_h ws q b tComma hg k1 (by decide) (by decide)).holds.useT [] [] rfl (sk) (sk) fun e0 H0 hq => ?_
  obtain ⟨rfl, rfl⟩ := hq.2 c
  refine ⟨rfl, _, ⟨3, (0, rrO ws q b) :: [(2, lfI rf s), (1, zc)]⟩, rfl, rfl, ?_⟩
  have ol := k4.stop (fun e f => by rw [moreR, if_neg (fun h => c ⟨e, h⟩)])
  refine (must_h ws q b tRC hg k1 (by decide) (by decide)).holds.useT [] [] rfl (sk) (sk) fun e0 H0 hq => ?_
  obtain ⟨u6, q6, b6, q6l, o6, rfl, rfl⟩ := hq
  refine ⟨rfl, _, ⟨3, (0, rrO ws q6 b6) :: [(2, lfI rf s), (1, zc)]⟩, rfl, rfl, ?_⟩
  exact ⟨[], [], [], .returned (.p (.agg [i64 5, i64 0, i64 0, i64 0, .str rf.name, i64 rf.mode, .str rf.plate, i64 rf.n, ints s, .nils])), rrH ws q6 b6, rfl, sk, sk, .mk 5 0 0 0 rf s [], q6, b6, q6l, by rw [testR]; exact Out.no c1 (Out.no c2 (o1.then (Out.yes c3 (o3.then (ol.then (o6.then (Out.ret (by rw [k5]))))).mv))), ⟨_, rfl, nil_leaf 5 0 0 0 rf s⟩, rfl⟩
structure RAll (ws : List Wd) (f : Nat) : Prop where
 cond : ∀ q b, q ≤ ws.length → 4 * (ws.length - q) + 4 ≤ f → RCondOK ws f q b
 conj : ∀ q b, q ≤ ws.length → 4 * (ws.length - q) + 3 ≤ f → HoldsG cx 173 [.ptr 0 0 0] (rrH ws q b) (RC ws b q (conjR ws f q))
 neg : ∀ q b, q ≤ ws.length → 4 * (ws.length - q) + 2 ≤ f → HoldsG cx 194 [.ptr 0 0 0] (rrH ws q b) (RC ws b q (negR ws f q))
 test : ∀ q b, q ≤ ws.length → 4 * (ws.length - q) + 1 ≤ f → HoldsG cx 203 [.ptr 0 0 0] (rrH ws q b) (RC ws b q (testR ws f q))
theorem rneg_h (ws : List Wd) (F q0 : Nat) (b0 : Bool) (hg : GoodW ws) (hq0 : q0 ≤ ws.length) (hF : 4 * (ws.length - q0) + 2 ≤ F + 1) (ih : RAll ws F) :
  HoldsG cx 194 [.ptr 0 0 0] (rrH ws q0 b0) (RC ws b0 q0 (negR ws (F + 1) q0)) := by
 refine holdsN_of_vc Tryz.func194 rfl rfl rfl ?_
 have hl := hg.len
 by_cases c1 : Tk ws b0 q0 tNot
 ·have q1l : q0 + 1 ≤ ws.length := txt_lt (by rw [c1.2]; decide)
  refine (take_h ws q0 b0 tNot hg hq0 (by decide) (by decide)).holds.useT [] [] rfl (sk) (sk) fun e0 H0 hq => ?_
  obtain ⟨rfl, rfl⟩ := hq.1 c1
  refine ⟨rfl, _, ⟨2, (0, rrO ws (q0 + 1) false) :: [(1, zc)]⟩, rfl, rfl, ?_⟩
  refine (ih.neg (q0 + 1) false q1l (by omega)).holds.useT [] [] rfl (sk) (sk) fun e0 H0 hq => ?_
  obtain ⟨⟨o, n, rl, vl, rf, st, ar⟩, q2, b2, q2l, o2, rfl, rfl⟩ := hq
  refine ⟨rfl, _, ⟨2, (0, rrO ws q2 b2) :: [(1, zc)]⟩, rfl, rfl, ?_⟩
  exact ⟨[2], [], [], .returned (.p (Cd.mk 7 0 0 0 rf0 [] [.mk o n rl vl rf st ar]).pv), rrH ws q2 b2, rfl, ⟨_, rfl, ⟨_, rfl, _, _, rfl, rfl, _, _, rfl, rfl, _, _, rfl, rfl, _, _, rfl, rfl, _, _, rfl, rfl, _, _, rfl, rfl, _, _, rfl, rfl, _, _, rfl, rfl, _, _, rfl, .inr (.inl rfl), _, _, rfl, ⟨_, rfl, by show 0 + 1 ≤ 1; omega, rfl⟩, rfl⟩⟩, sk, _, q2, b2, q2l, by rw [negR]; exact Out.yes c1 (o2.then Out.same).mv, rfl, rfl⟩
 refine (take_h ws q0 b0 tNot hg hq0 (by decide) (by decide)).holds.useT [] [] rfl (sk) (sk) fun e0 H0 hq => ?_
 obtain ⟨rfl, rfl⟩ := hq.2 c1
 refine ⟨rfl, _, ⟨2, (0, rrO ws q0 b0) :: [(1, zc)]⟩, rfl, rfl, ?_⟩
 refine (ih.test q0 b0 hq0 (by omega)).holds.useT [] [] rfl (sk) (sk) fun e0 H0 hq => ?_
 obtain ⟨⟨o, n, rl, vl, rf, st, ar⟩, q2, b2, q2l, o2, rfl, rfl⟩ := hq
 refine ⟨rfl, _, ⟨2, (0, rrO ws q2 b2) :: [(1, zc)]⟩, rfl, rfl, ?_⟩
 exact ⟨[], [], [], .returned (.p (Cd.mk o n rl vl rf st ar).pv), rrH ws q2 b2, rfl, sk, sk, _, q2, b2, q2l, by rw [negR]; exact Out.no c1 o2, rfl, rfl⟩
theorem rconj_h (ws : List Wd) (F q0 : Nat) (b0 : Bool) (hg : GoodW ws) (hq0 : q0 ≤ ws.length) (hF : 4 * (ws.length - q0) + 3 ≤ F + 1) (ih : ∀ f, f ≤ F → RAll ws f) :
  HoldsG cx 173 [.ptr 0 0 0] (rrH ws q0 b0) (RC ws b0 q0 (conjR ws (F + 1) q0)) := by
 refine holdsN_of_vc Tryz.func173 rfl rfl rfl ?_
 have hl := hg.len
 refine ((ih F (Nat.le_refl _)).neg q0 b0 hq0 (by omega)).holds.useT [] [] rfl (sk) (sk) fun e0 H0 hq => ?_
 obtain ⟨⟨o, n, rl, vl, rf, st, ar⟩, q1, b1, q1l, o1, rfl, rfl⟩ := hq
 refine ⟨rfl, _, ⟨2, (0, rrO ws q1 b1) :: [(1, zc)]⟩, rfl, rfl, ?_⟩
 have hlt1 : b1 = false → q0 < q1 := fun e => by
  subst e
  have := o1.live
  subst this
  exact neg_lt F (out_inr o1)
 refine ⟨Cd × Nat × Bool, fun x => [(0, .ptr 0 0 0), (2, .ptr 1 0 0), (3, .ptr 2 0 0)], fun x => ⟨3, [(2, cO (x.1.cells.map .p)), (0, rrO ws x.2.1 x.2.2), (1, zc)]⟩, fun x => x.2.1 ≤ ws.length ∧ ∃ f, f ≤ F ∧ (x.2.2 = false → 4 * (ws.length - x.2.1) + 2 ≤ f) ∧ ∀ l q' b', Out x.2.2 x.2.1 (andR ws f x.1 x.2.1) l q' b' → Out b0 q0 (conjR ws (F + 1) q0) l q' b', fun x => if x.2.2 = true then 0 else ws.length + 1 - x.2.1, ?_, ?_⟩
 ·exact ⟨(.mk o n rl vl rf st ar, q1, b1), ⟨q1l, F, Nat.le_refl _, fun e => by simp only [] at e ⊢; have := hlt1 e; omega, fun l q' b' ho => by rw [conjR]; exact o1.then ho⟩, ent_of [] [] [] rfl (sk) (sk) rfl⟩
 clear o1 hlt1
 rintro ⟨⟨o, n, rl, vl, rf, st, ar⟩, q, b⟩ ⟨k1, f, k0, k2, k3⟩
 simp only [] at k1 k0 k2 k3
 by_cases c1 : Tk ws b q tAnd
 ·have ql : q + 1 ≤ ws.length := txt_lt (by rw [c1.2]; decide)
  have hf := k2 c1.1
  obtain ⟨f, rfl⟩ : ∃ g, f = g + 1 := ⟨f - 1, by omega⟩
  refine (take_h ws q b tAnd hg k1 (by decide) (by decide)).holds.useT [] [] rfl (sk) (sk) fun e0 H0 hq => ?_
  obtain ⟨rfl, rfl⟩ := hq.1 c1
  refine ⟨rfl, _, ⟨3, (0, rrO ws (q + 1) false) :: [(2, cO ((Cd.mk o n rl vl rf st ar).cells.map .p)), (1, zc)]⟩, rfl, rfl, ?_⟩
  refine VDraw.seq rfl ?_
  refine ((ih f (by omega)).neg (q + 1) false ql (by omega)).holds.useT [] [] rfl (sk) (sk) fun e0 H0 hq => ?_
  obtain ⟨⟨o', n', rl', vl', rf', st', ar'⟩, q2, b2, q2l, o2, rfl, rfl⟩ := hq
  have hlt2 : b2 = false → q + 1 < q2 := fun e => by subst e; exact neg_lt f (out_inr o2)
  refine ⟨rfl, _, ⟨3, (0, rrO ws q2 b2) :: [(2, cO ((Cd.mk o n rl vl rf st ar).cells.map .p)), (1, zc)]⟩, rfl, rfl, ?_⟩
  refine ⟨sk, ?_⟩
  have c' := c1
  obtain ⟨rfl, ct⟩ := c'
  exact ⟨(.mk 8 0 0 0 rf0 [] [.mk o n rl vl rf st ar, .mk o' n' rl' vl' rf' st' ar'], q2, b2), ⟨q2l, f, by omega, fun e => by simp only [] at e ⊢; have := hlt2 e; omega, fun l q' b' ho => k3 l q' b' (by rw [andR]; exact Out.yes ⟨rfl, ct⟩ (o2.then ho).mv)⟩, ent_of [3] [] [] rfl ⟨⟨rfl, rfl⟩, ⟨rfl, rfl⟩, ⟨rfl, rfl⟩, trivial⟩
   ⟨⟨_, rfl, rfl, rfl, _, rfl, _, _, rfl, rfl, _, _, rfl, rfl, _, _, rfl, rfl, _, _, rfl, rfl, _, _, rfl, rfl, _, _, rfl, rfl, _, _, rfl, rfl, _, _, rfl, rfl, _, _, rfl, .inr (.inl rfl), _, _, rfl, ⟨_, rfl, by show 0 + 2 ≤ 2; omega, rfl⟩, rfl⟩, sk⟩ rfl, by show (if b2 = true then 0 else ws.length + 1 - q2) < (if false = true then 0 else ws.length + 1 - q); cases b2 <;> simp <;> (try have := hlt2 rfl) <;> omega⟩
 ·refine (take_h ws q b tAnd hg k1 (by decide) (by decide)).holds.useT [] [] rfl (sk) (sk) fun e0 H0 hq => ?_
  obtain ⟨rfl, rfl⟩ := hq.2 c1
  refine ⟨rfl, _, ⟨3, (0, rrO ws q b) :: [(2, cO ((Cd.mk o n rl vl rf st ar).cells.map .p)), (1, zc)]⟩, rfl, rfl, ?_⟩
  have hst : Out b q (andR ws f (.mk o n rl vl rf st ar) q) (.mk o n rl vl rf st ar) q b := by
   cases b
   ·have hf := k2 rfl
    obtain ⟨f, rfl⟩ : ∃ g, f = g + 1 := ⟨f - 1, by omega⟩
    rw [andR, if_neg (fun h => c1 ⟨rfl, h⟩)]
    exact Out.same
   ·exact Out.bad
  exact ⟨[], [], [], .returned (.p (Cd.mk o n rl vl rf st ar).pv), rrH ws q b, rfl, sk, sk, _, q, b, k1, k3 _ _ _ hst, rfl, rfl⟩
theorem rcond_h (ws : List Wd) (F q0 : Nat) (b0 : Bool) (hg : GoodW ws) (hq0 : q0 ≤ ws.length) (hF : 4 * (ws.length - q0) + 4 ≤ F + 1) (ih : ∀ f, f ≤ F → RAll ws f) :
  HoldsG cx 139 [.ptr 0 0 0] (rrH ws q0 b0) (RC ws b0 q0 (condR ws (F + 1) q0)) := by
 refine holdsN_of_vc Tryz.func139 rfl rfl rfl ?_
 have hl := hg.len
 refine ((ih F (Nat.le_refl _)).conj q0 b0 hq0 (by omega)).holds.useT [] [] rfl (sk) (sk) fun e0 H0 hq => ?_
 obtain ⟨⟨o, n, rl, vl, rf, st, ar⟩, q1, b1, q1l, o1, rfl, rfl⟩ := hq
 refine ⟨rfl, _, ⟨2, (0, rrO ws q1 b1) :: [(1, zc)]⟩, rfl, rfl, ?_⟩
 have hlt1 : b1 = false → q0 < q1 := fun e => by
  subst e
  have := o1.live
  subst this
  exact conj_lt F (out_inr o1)
 refine ⟨Cd × Nat × Bool, fun x => [(0, .ptr 0 0 0), (2, .ptr 1 0 0), (3, .ptr 2 0 0)], fun x => ⟨3, [(2, cO (x.1.cells.map .p)), (0, rrO ws x.2.1 x.2.2), (1, zc)]⟩, fun x => x.2.1 ≤ ws.length ∧ ∃ f, f ≤ F ∧ (x.2.2 = false → 4 * (ws.length - x.2.1) + 3 ≤ f) ∧ ∀ l q' b', Out x.2.2 x.2.1 (orR ws f x.1 x.2.1) l q' b' → Out b0 q0 (condR ws (F + 1) q0) l q' b', fun x => if x.2.2 = true then 0 else ws.length + 1 - x.2.1, ?_, ?_⟩
 ·exact ⟨(.mk o n rl vl rf st ar, q1, b1), ⟨q1l, F, Nat.le_refl _, fun e => by simp only [] at e ⊢; have := hlt1 e; omega, fun l q' b' ho => by rw [condR]; exact o1.then ho⟩, ent_of [] [] [] rfl (sk) (sk) rfl⟩
 clear o1 hlt1
 rintro ⟨⟨o, n, rl, vl, rf, st, ar⟩, q, b⟩ ⟨k1, f, k0, k2, k3⟩
 simp only [] at k1 k0 k2 k3
 by_cases c1 : Tk ws b q tOr
 ·have ql : q + 1 ≤ ws.length := txt_lt (by rw [c1.2]; decide)
  have hf := k2 c1.1
  obtain ⟨f, rfl⟩ : ∃ g, f = g + 1 := ⟨f - 1, by omega⟩
  refine (take_h ws q b tOr hg k1 (by decide) (by decide)).holds.useT [] [] rfl (sk) (sk) fun e0 H0 hq => ?_
  obtain ⟨rfl, rfl⟩ := hq.1 c1
  refine ⟨rfl, _, ⟨3, (0, rrO ws (q + 1) false) :: [(2, cO ((Cd.mk o n rl vl rf st ar).cells.map .p)), (1, zc)]⟩, rfl, rfl, ?_⟩
  refine VDraw.seq rfl ?_
  refine ((ih f (by omega)).conj (q + 1) false ql (by omega)).holds.useT [] [] rfl (sk) (sk) fun e0 H0 hq => ?_
  obtain ⟨⟨o', n', rl', vl', rf', st', ar'⟩, q2, b2, q2l, o2, rfl, rfl⟩ := hq
  have hlt2 : b2 = false → q + 1 < q2 := fun e => by subst e; exact conj_lt f (out_inr o2)
  refine ⟨rfl, _, ⟨3, (0, rrO ws q2 b2) :: [(2, cO ((Cd.mk o n rl vl rf st ar).cells.map .p)), (1, zc)]⟩, rfl, rfl, ?_⟩
  refine ⟨sk, ?_⟩
  have c' := c1
  obtain ⟨rfl, ct⟩ := c'
  exact ⟨(.mk 9 0 0 0 rf0 [] [.mk o n rl vl rf st ar, .mk o' n' rl' vl' rf' st' ar'], q2, b2), ⟨q2l, f, by omega, fun e => by simp only [] at e ⊢; have := hlt2 e; omega, fun l q' b' ho => k3 l q' b' (by rw [orR]; exact Out.yes ⟨rfl, ct⟩ (o2.then ho).mv)⟩, ent_of [3] [] [] rfl ⟨⟨rfl, rfl⟩, ⟨rfl, rfl⟩, ⟨rfl, rfl⟩, trivial⟩
   ⟨⟨_, rfl, rfl, rfl, _, rfl, _, _, rfl, rfl, _, _, rfl, rfl, _, _, rfl, rfl, _, _, rfl, rfl, _, _, rfl, rfl, _, _, rfl, rfl, _, _, rfl, rfl, _, _, rfl, rfl, _, _, rfl, .inr (.inl rfl), _, _, rfl, ⟨_, rfl, by show 0 + 2 ≤ 2; omega, rfl⟩, rfl⟩, sk⟩ rfl, by show (if b2 = true then 0 else ws.length + 1 - q2) < (if false = true then 0 else ws.length + 1 - q); cases b2 <;> simp <;> (try have := hlt2 rfl) <;> omega⟩
 ·refine (take_h ws q b tOr hg k1 (by decide) (by decide)).holds.useT [] [] rfl (sk) (sk) fun e0 H0 hq => ?_
  obtain ⟨rfl, rfl⟩ := hq.2 c1
  refine ⟨rfl, _, ⟨3, (0, rrO ws q b) :: [(2, cO ((Cd.mk o n rl vl rf st ar).cells.map .p)), (1, zc)]⟩, rfl, rfl, ?_⟩
  have hst : Out b q (orR ws f (.mk o n rl vl rf st ar) q) (.mk o n rl vl rf st ar) q b := by
   cases b
   ·have hf := k2 rfl
    obtain ⟨f, rfl⟩ : ∃ g, f = g + 1 := ⟨f - 1, by omega⟩
    rw [orR, if_neg (fun h => c1 ⟨rfl, h⟩)]
    exact Out.same
   ·exact Out.bad
  exact ⟨[], [], [], .returned (.p (Cd.mk o n rl vl rf st ar).pv), rrH ws q b, rfl, sk, sk, _, q, b, k1, k3 _ _ _ hst, rfl, rfl⟩
theorem rc_all (ws : List Wd) (hg : GoodW ws) : ∀ F f, f ≤ F → RAll ws f
 | 0, f, hf => by
  have : f = 0 := by omega
  subst this
  exact ⟨fun q _ _ h => absurd h (by omega), fun q _ _ h => absurd h (by omega), fun q _ _ h => absurd h (by omega), fun q _ _ h => absurd h (by omega)⟩
 | F + 1, f, hf => by
  have ih := rc_all ws hg F
  by_cases h : f ≤ F
  ·exact ih f h
  have : f = F + 1 := by omega
  subst this
  exact ⟨fun q b hq hb => rcond_h ws F q b hg hq hb ih, fun q b hq hb => rconj_h ws F q b hg hq hb ih, fun q b hq hb => rneg_h ws F q b hg hq hb (ih F (Nat.le_refl _)), fun q b hq hb => rtest_h ws F q b hg hq hb fun q hq hb => (ih F (Nat.le_refl _)).cond q false hq hb⟩
theorem rcond_all (ws : List Wd) (F q : Nat) (b : Bool) (hg : GoodW ws) (hq : q ≤ ws.length) (hF : 4 * (ws.length - q) + 4 ≤ F) : RCondOK ws F q b := (rc_all ws hg F F (Nat.le_refl _)).cond q b hq hF
def RQG {α : Type} (ws : List Wd) (b : Bool) (q : Nat) (r : Rd α) (val : α → PV) (e : AE) (H' : Hp) : Prop := ∃ a q' b', q' ≤ ws.length ∧ Out b q r a q' b' ∧ (∃ y, e = .returned (.p y) ∧ NilD y (val a)) ∧ H' = rrH ws q' b'
theorem rqG_weak {α : Type} {ws : List Wd} {b : Bool} {q : Nat} {g : FuncId} {args : List AV} {H : Hp} {r : Rd α} {val : α → PV} (h : HoldsG cx g args H (RQG ws b q r val)) : HoldsG cx g args H (RQ ws b q r fun a => .p (val a)) :=
 h.weak fun e H' hq => by
  obtain ⟨c, q', b', h1, h2, ⟨y, rfl, h3⟩, rfl⟩ := hq
  exact ⟨.returned (.p (val c)), ⟨_, rfl, by simp only [NilA]; exact ⟨_, rfl, h3⟩⟩, c, q', b', h1, h2, rfl, rfl⟩
def cC (c : Cd) (v : PV) : AObj := ⟨TCase, false, .bx (c.cells.map .p ++ [.p v])⟩
theorem rrule_h (ws : List Wd) (F q0 : Nat) (b0 : Bool) (hF : 4 * ws.length + 8 ≤ F) (hg : GoodW ws) (hq0 : q0 ≤ ws.length) : HoldsG cx 101 [.ptr 0 0 0] (rrH ws q0 b0) (RQ ws b0 q0 (ruleR ws F q0) fun l => .p (css l)) := by
 refine rqG_weak ?_
 refine holdsN_of_vc Tryz.func101 rfl rfl rfl ?_
 have hl := hg.len
 refine (must_h ws q0 b0 tLC hg hq0 (by decide) (by decide)).holds.useT [] [] rfl (sk) (sk) fun e0 H0 hq => ?_
 obtain ⟨u1, q1, b1, q1l, o1, rfl, rfl⟩ := hq
 refine ⟨rfl, _, ⟨1, (0, rrO ws q1 b1) :: []⟩, rfl, rfl, ?_⟩
 refine ⟨List Cs × Nat × Bool, fun x => [(0, .ptr 0 0 0), (3, .sl 1 11 0 x.1.length)], fun x => ⟨2, [(1, csO x.1), (0, rrO ws x.2.1 x.2.2)]⟩, fun x => x.2.1 ≤ ws.length ∧ (x.2.2 = false → x.1.length ≤ x.2.1) ∧ x.1.length ≤ 1501 ∧ LK b1 q1 (casesR ws F F [] q1) (fun f => casesR ws F f x.1 x.2.1) ws.length x.2.1 x.2.2, fun x => if x.2.2 = true then 0 else ws.length + 1 - x.2.1, ?_, ?_⟩
 ·exact ⟨([], q1, b1), ⟨q1l, fun _ => by simp, by simp, F, fun _ => by simp only []; omega, fun l q' b' ho => ho⟩, ent_of [] [] [(1, 11)] rfl (sk) (sk) rfl⟩
 rintro ⟨acc, q, b⟩ ⟨k1, k2, k3, k4⟩
 simp only [] at k1 k2 k3 k4
 have hend : (b = true ∨ b = false ∧ txt ws q = tElse) → ∀ {L : List Cs} {q9 : Nat} {b9 : Bool}, Out b q ((mustR ws tElse q).then fun _ q => ruleEnd ws F acc q) L q9 b9 → Out b1 q1 (casesR ws F F [] q1) L q9 b9 := by
  intro hh L q9 b9 ho
  obtain ⟨f, hf, hk⟩ := k4
  refine hk _ _ _ ?_
  rcases hh with rfl | ⟨rfl, ht⟩
  ·exact ho
  ·have := hf rfl
   obtain ⟨f, rfl⟩ : ∃ g, f = g + 1 := ⟨f - 1, by omega⟩
   simp only [] at ho ⊢
   rw [casesR, if_pos ht]
   rw [mustR, if_pos ht] at ho
   exact ho
 cases b
 rotate_left
 ·refine (must_h ws q true tElse hg k1 (by decide) (by decide)).holds.useT [] [] rfl (sk) (sk) fun e0 H0 hq => ?_
  obtain ⟨u2, q2, b2, q2l, o2, rfl, rfl⟩ := hq
  refine ⟨rfl, _, ⟨2, (0, rrO ws q2 b2) :: [(1, csO acc)]⟩, rfl, rfl, ?_⟩
  refine (must_h ws q2 b2 tCol hg q2l (by decide) (by decide)).holds.useT [] [] rfl (sk) (sk) fun e0 H0 hq => ?_
  obtain ⟨u3, q3, b3, q3l, o3, rfl, rfl⟩ := hq
  refine ⟨rfl, _, ⟨2, (0, rrO ws q3 b3) :: [(1, csO acc)]⟩, rfl, rfl, ?_⟩
  refine (rints_h ws F q3 b3 (by omega) hg q3l).holds.useT [] [] rfl (sk) (sk) fun e0 H0 hq => ?_
  obtain ⟨l, q4, b4, q4l, o4, rfl, rfl⟩ := hq
  refine ⟨rfl, _, ⟨2, (0, rrO ws q4 b4) :: [(1, csO acc)]⟩, rfl, rfl, ?_⟩
  refine ⟨by show 0 + 1 ≤ 1; omega, [endC l], rfl, ?_⟩
  refine ⟨by show 0 + acc.length ≤ (acc.map Cs.cells).length; simp, acc.map Cs.cells, takeAll (by simp), by show (acc.length + 1) * 152 ≤ 140737488355328; omega, acc.map Cs.cells ++ [endC l], rfl, ?_⟩
  refine (must_h ws q4 b4 tRC hg q4l (by decide) (by decide)).holds.useT [] [] rfl (sk) (sk) fun e0 H0 hq => ?_
  obtain ⟨u5, q5, b5, q5l, o5, rfl, rfl⟩ := hq
  refine ⟨rfl, _, ⟨4, (0, rrO ws q5 b5) :: [(3, ⟨TCase, false, .pus (acc.map Cs.cells ++ [endC l])⟩), (2, ⟨TCase, false, .pus [endC l]⟩)]⟩, rfl, rfl, ?_⟩
  exact ⟨[3], [], [], .returned (.p (.lsts 11 (acc.map Cs.cells ++ [endC l]))), rrH ws q5 b5, rfl, ⟨_, rfl, ⟨_, rfl, by show 0 + (acc.length + 1) ≤ (acc.map Cs.cells ++ [endC l]).length; simp, takeAll (by simp)⟩⟩, sk, acc ++ [⟨cd0, l⟩], q5, b5, q5l, o1.then (hend (.inl rfl) (o2.then (o3.then (o4.then (o5.then Out.same))))), ⟨_, rfl, nil_css acc l⟩, rfl⟩
 by_cases c : Tk ws false q tElse
 ·refine (is_h ws q false tElse hg k1 (by decide) (by decide)).holds.useT [] [] rfl (sk) (sk) fun e0 H0 hq => ?_
  obtain ⟨rfl, rfl⟩ := hq.1 c
  refine ⟨rfl, _, ⟨2, (0, rrO ws q false) :: [(1, csO acc)]⟩, rfl, rfl, ?_⟩
  refine (must_h ws q false tElse hg k1 (by decide) (by decide)).holds.useT [] [] rfl (sk) (sk) fun e0 H0 hq => ?_
  obtain ⟨u2, q2, b2, q2l, o2, rfl, rfl⟩ := hq
  refine ⟨rfl, _, ⟨2, (0, rrO ws q2 b2) :: [(1, csO acc)]⟩, rfl, rfl, ?_⟩
  refine (must_h ws q2 b2 tCol hg q2l (by decide) (by decide)).holds.useT [] [] rfl (sk) (sk) fun e0 H0 hq => ?_
  obtain ⟨u3, q3, b3, q3l, o3, rfl, rfl⟩ := hq
  refine ⟨rfl, _, ⟨2, (0, rrO ws q3 b3) :: [(1, csO acc)]⟩, rfl, rfl, ?_⟩
  refine (rints_h ws F q3 b3 (by omega) hg q3l).holds.useT [] [] rfl (sk) (sk) fun e0 H0 hq => ?_
  obtain ⟨l, q4, b4, q4l, o4, rfl, rfl⟩ := hq
  refine ⟨rfl, _, ⟨2, (0, rrO ws q4 b4) :: [(1, csO acc)]⟩, rfl, rfl, ?_⟩
  refine ⟨by show 0 + 1 ≤ 1; omega, [endC l], rfl, ?_⟩
  refine ⟨by show 0 + acc.length ≤ (acc.map Cs.cells).length; simp, acc.map Cs.cells, takeAll (by simp), by show (acc.length + 1) * 152 ≤ 140737488355328; omega, acc.map Cs.cells ++ [endC l], rfl, ?_⟩
  refine (must_h ws q4 b4 tRC hg q4l (by decide) (by decide)).holds.useT [] [] rfl (sk) (sk) fun e0 H0 hq => ?_
  obtain ⟨u5, q5, b5, q5l, o5, rfl, rfl⟩ := hq
  refine ⟨rfl, _, ⟨4, (0, rrO ws q5 b5) :: [(3, ⟨TCase, false, .pus (acc.map Cs.cells ++ [endC l])⟩), (2, ⟨TCase, false, .pus [endC l]⟩)]⟩, rfl, rfl, ?_⟩
  exact ⟨[3], [], [], .returned (.p (.lsts 11 (acc.map Cs.cells ++ [endC l]))), rrH ws q5 b5, rfl, ⟨_, rfl, ⟨_, rfl, by show 0 + (acc.length + 1) ≤ (acc.map Cs.cells ++ [endC l]).length; simp, takeAll (by simp)⟩⟩, sk, acc ++ [⟨cd0, l⟩], q5, b5, q5l, o1.then (hend (.inr c) (o2.then (o3.then (o4.then (o5.then Out.same))))), ⟨_, rfl, nil_css acc l⟩, rfl⟩
 refine (is_h ws q false tElse hg k1 (by decide) (by decide)).holds.useT [] [] rfl (sk) (sk) fun e0 H0 hq => ?_
 obtain ⟨rfl, rfl⟩ := hq.2 c
 refine ⟨rfl, _, ⟨2, (0, rrO ws q false) :: [(1, csO acc)]⟩, rfl, rfl, ?_⟩
 clear hend
 have hal := k2 rfl
 refine (rcond_all ws F q false hg k1 (by omega)).holds.useT [] [] rfl (sk) (sk) fun e0 H0 hq => ?_
 obtain ⟨⟨o, n, rl, vl, rf, st, ar⟩, q2, b2, q2l, o2, rfl, rfl⟩ := hq
 refine ⟨rfl, _, ⟨2, (0, rrO ws q2 b2) :: [(1, csO acc)]⟩, rfl, rfl, ?_⟩
 refine (must_h ws q2 b2 tCol hg q2l (by decide) (by decide)).holds.useT [] [] rfl (sk) (sk) fun e0 H0 hq => ?_
 obtain ⟨u3, q3, b3, q3l, o3, rfl, rfl⟩ := hq
 refine ⟨rfl, _, ⟨3, (0, rrO ws q3 b3) :: [(2, cC (.mk o n rl vl rf st ar) .nils), (1, csO acc)]⟩, rfl, rfl, ?_⟩
 refine (rints_h ws F q3 b3 (by omega) hg q3l).holds.useT [] [] rfl (sk) (sk) fun e0 H0 hq => ?_
 obtain ⟨l, q4, b4, q4l, o4, rfl, rfl⟩ := hq
 refine ⟨rfl, _, ⟨3, (0, rrO ws q4 b4) :: [(2, cC (.mk o n rl vl rf st ar) .nils), (1, csO acc)]⟩, rfl, rfl, ?_⟩
 refine (must_h ws q4 b4 tSemi hg q4l (by decide) (by decide)).holds.useT [] [] rfl (sk) (sk) fun e0 H0 hq => ?_
 obtain ⟨u5, q5, b5, q5l, o5, rfl, rfl⟩ := hq
 refine ⟨rfl, _, ⟨3, (0, rrO ws q5 b5) :: [(2, cC (.mk o n rl vl rf st ar) (ints l)), (1, csO acc)]⟩, rfl, rfl, ?_⟩
 obtain ⟨x, hx⟩ : ∃ x : Cs, x = ⟨.mk o n rl vl rf st ar, l⟩ := ⟨_, rfl⟩
 refine ⟨by show 0 + 1 ≤ 1; omega, [x.cells], by rw [hx]; rfl, ?_⟩
 refine ⟨by show 0 + acc.length ≤ (acc.map Cs.cells).length; simp, acc.map Cs.cells, takeAll (by simp), by show (acc.length + 1) * 152 ≤ 140737488355328; omega, (acc ++ [x]).map Cs.cells, by simp, ?_⟩
 have hlt : b5 = false → q + 1 ≤ q5 := fun e => by
  subst e
  have h5 := o5.live
  subst h5
  have h4 := o4.live
  subst h4
  have h3 := o3.live
  subst h3
  have h2 := o2.live
  have g2 := cond_lt F (out_inr o2)
  have g3 := must_lt (out_inr o3)
  have g4 := nums_lt (out_inr o4)
  have g5 := must_lt (out_inr o5)
  omega
 exact ⟨(acc ++ [x], q5, b5), ⟨q5l, fun e => by have := hlt e; show (acc ++ [x]).length ≤ q5; rw [snoc_len]; omega, by show (acc ++ [x]).length ≤ 1501; rw [snoc_len]; omega, k4.step (fun f l' q' b' ho => by rw [casesR, if_neg (fun h => c ⟨rfl, h⟩)]; exact o2.then (o3.then (o4.then (o5.then (by rw [hx] at ho; exact ho))))) (fun e => ⟨by have := hlt e; show q < q5; omega, q5l⟩)⟩, ent_of [] [(1, 4)] [] rfl ⟨⟨rfl, rfl⟩, congrArg (fun k : Nat => AV.sl 4 11 0 k) (snoc_len acc x).symm, trivial⟩ (sk) rfl, by show (if b5 = true then 0 else ws.length + 1 - q5) < (if false = true then 0 else ws.length + 1 - q); cases b5 <;> simp <;> (try have := hlt rfl) <;> omega⟩
def declS (ws : List Wd) (F q : Nat) : Rd De := (declR ws F q).then fun d q => (mustR ws tSemi q).then fun _ q => .inr (d, q)
def rdO (k n : Int) (nm pl : List UInt8) (rs cs : PV) : AObj := ⟨TDecl, false, .bx [.p (i64 k), .p (i64 n), .p (.str nm), .p (.str pl), .p rs, .p cs]⟩
abbrev dz : AObj := rdO 0 0 [] [] .nils .nils
theorem rnil_de {k n : Int} {nm pl : List UInt8} {l : List Rf} {cs : List Cs} {rs c2 : PV} (h1 : NilD rs (rfl_ l)) (h2 : NilD c2 (css cs)) : NilD (.agg [i64 k, i64 n, .str nm, .str pl, rs, c2]) (De.pv ⟨k, n, nm, pl, l, cs⟩) := by
 show NilD _ (.agg [i64 k, i64 n, .str nm, .str pl, rfl_ l, css cs])
 simp only [NilD, NilDL]
 exact ⟨_, rfl, _, _, rfl, rfl, _, _, rfl, rfl, _, _, rfl, rfl, _, _, rfl, rfl, _, _, rfl, h1, _, _, rfl, h2, rfl⟩
theorem nil_lsts (s : Nat) : NilD .nils (.lsts s []) := by simp only [NilD]; exact .inr (.inr ⟨s, rfl⟩)
theorem rdecl_h (ws : List Wd) (F q0 : Nat) (b0 : Bool) (hF : 4 * ws.length + 8 ≤ F) (hg : GoodW ws) (hq0 : q0 ≤ ws.length) : HoldsG cx 56 [.ptr 0 0 0] (rrH ws q0 b0) (RQ ws b0 q0 (declS ws F q0) fun d => .p d.pv) := by
 refine rqG_weak ?_
 refine holdsN_of_vc Tryz.func56 rfl rfl rfl ?_
 have hl := hg.len
 by_cases c1 : Tk ws b0 q0 tGrain
 ·have q1l : q0 + 1 ≤ ws.length := txt_lt (by rw [c1.2]; decide)
  refine (take_h ws q0 b0 tGrain hg hq0 (by decide) (by decide)).holds.useT [] [] rfl (sk) (sk) fun e0 H0 hq => ?_
  obtain ⟨rfl, rfl⟩ := hq.1 c1
  refine ⟨rfl, _, ⟨3, (0, rrO ws (q0 + 1) false) :: [(2, dz), (1, dz)]⟩, rfl, rfl, ?_⟩
  refine (rnum_h ws (q0 + 1) false hg q1l).holds.useT [] [] rfl (sk) (sk) fun e0 H0 hq => ?_
  obtain ⟨n, q2, b2, q2l, o2, rfl, rfl⟩ := hq
  refine ⟨rfl, _, ⟨3, (0, rrO ws q2 b2) :: [(2, dz), (1, dz)]⟩, rfl, rfl, ?_⟩
  refine (must_h ws q2 b2 tSemi hg q2l (by decide) (by decide)).holds.useT [] [] rfl (sk) (sk) fun e0 H0 hq => ?_
  obtain ⟨u9, q9, b9, q9l, o9, rfl, rfl⟩ := hq
  refine ⟨rfl, _, ⟨3, (0, rrO ws q9 b9) :: [(2, rdO 1 n [] [] .nils .nils), (1, dz)]⟩, rfl, rfl, ?_⟩
  exact ⟨[], [], [], .returned (.p (.agg [i64 1, i64 n, .str [], .str [], .nils, .nils])), rrH ws q9 b9, rfl, sk, sk, ⟨1, n, [], [], [], []⟩, q9, b9, q9l, Out.then (by rw [declR]; exact Out.yes c1 (o2.then Out.same).mv) (o9.then Out.same), ⟨_, rfl, rnil_de (by first | exact NilD.refl _ | exact nil_lsts 4) (by first | exact NilD.refl _ | exact nil_lsts 11)⟩, rfl⟩
 refine (take_h ws q0 b0 tGrain hg hq0 (by decide) (by decide)).holds.useT [] [] rfl (sk) (sk) fun e0 H0 hq => ?_
 obtain ⟨rfl, rfl⟩ := hq.2 c1
 refine ⟨rfl, _, ⟨3, (0, rrO ws q0 b0) :: [(2, dz), (1, dz)]⟩, rfl, rfl, ?_⟩
 by_cases c2 : Tk ws b0 q0 tPlate
 ·have q1l : q0 + 1 ≤ ws.length := txt_lt (by rw [c2.2]; decide)
  refine (take_h ws q0 b0 tPlate hg hq0 (by decide) (by decide)).holds.useT [] [] rfl (sk) (sk) fun e0 H0 hq => ?_
  obtain ⟨rfl, rfl⟩ := hq.1 c2
  refine ⟨rfl, _, ⟨3, (0, rrO ws (q0 + 1) false) :: [(2, dz), (1, dz)]⟩, rfl, rfl, ?_⟩
  refine (rname_h ws (q0 + 1) false hg q1l).holds.useT [] [] rfl (sk) (sk) fun e0 H0 hq => ?_
  obtain ⟨nm, q2, b2, q2l, o2, rfl, rfl⟩ := hq
  refine ⟨rfl, _, ⟨3, (0, rrO ws q2 b2) :: [(2, dz), (1, dz)]⟩, rfl, rfl, ?_⟩
  refine (must_h ws q2 b2 tEq hg q2l (by decide) (by decide)).holds.useT [] [] rfl (sk) (sk) fun e0 H0 hq => ?_
  obtain ⟨u3, q3, b3, q3l, o3, rfl, rfl⟩ := hq
  refine ⟨rfl, _, ⟨3, (0, rrO ws q3 b3) :: [(2, rdO 2 0 nm [] .nils .nils), (1, dz)]⟩, rfl, rfl, ?_⟩
  refine (rnum_h ws q3 b3 hg q3l).holds.useT [] [] rfl (sk) (sk) fun e0 H0 hq => ?_
  obtain ⟨n, q4, b4, q4l, o4, rfl, rfl⟩ := hq
  refine ⟨rfl, _, ⟨3, (0, rrO ws q4 b4) :: [(2, rdO 2 0 nm [] .nils .nils), (1, dz)]⟩, rfl, rfl, ?_⟩
  refine (must_h ws q4 b4 tSemi hg q4l (by decide) (by decide)).holds.useT [] [] rfl (sk) (sk) fun e0 H0 hq => ?_
  obtain ⟨u9, q9, b9, q9l, o9, rfl, rfl⟩ := hq
  refine ⟨rfl, _, ⟨3, (0, rrO ws q9 b9) :: [(2, rdO 2 n nm [] .nils .nils), (1, dz)]⟩, rfl, rfl, ?_⟩
  exact ⟨[], [], [], .returned (.p (.agg [i64 2, i64 n, .str nm, .str [], .nils, .nils])), rrH ws q9 b9, rfl, sk, sk, ⟨2, n, nm, [], [], []⟩, q9, b9, q9l, Out.then (by rw [declR]; exact Out.no c1 (Out.yes c2 (o2.then (o3.then (o4.then Out.same))).mv)) (o9.then Out.same), ⟨_, rfl, rnil_de (by first | exact NilD.refl _ | exact nil_lsts 4) (by first | exact NilD.refl _ | exact nil_lsts 11)⟩, rfl⟩
 refine (take_h ws q0 b0 tPlate hg hq0 (by decide) (by decide)).holds.useT [] [] rfl (sk) (sk) fun e0 H0 hq => ?_
 obtain ⟨rfl, rfl⟩ := hq.2 c2
 refine ⟨rfl, _, ⟨3, (0, rrO ws q0 b0) :: [(2, dz), (1, dz)]⟩, rfl, rfl, ?_⟩
 by_cases c3 : Tk ws b0 q0 tNode
 ·have q1l : q0 + 1 ≤ ws.length := txt_lt (by rw [c3.2]; decide)
  refine (take_h ws q0 b0 tNode hg hq0 (by decide) (by decide)).holds.useT [] [] rfl (sk) (sk) fun e0 H0 hq => ?_
  obtain ⟨rfl, rfl⟩ := hq.1 c3
  refine ⟨rfl, _, ⟨3, (0, rrO ws (q0 + 1) false) :: [(2, dz), (1, dz)]⟩, rfl, rfl, ?_⟩
  refine (rname_h ws (q0 + 1) false hg q1l).holds.useT [] [] rfl (sk) (sk) fun e0 H0 hq => ?_
  obtain ⟨nm, q2, b2, q2l, o2, rfl, rfl⟩ := hq
  refine ⟨rfl, _, ⟨3, (0, rrO ws q2 b2) :: [(2, dz), (1, dz)]⟩, rfl, rfl, ?_⟩
  have hb : ∀ {d : De} {q9 : Nat} {b9 : Bool}, Out b2 q2 (if txt ws q2 = tLB then (nameR ws (q2 + 1)).then fun pl q => (mustR ws tRB q).then fun _ q => nodeTail ws F nm pl q else nodeTail ws F nm [] q2) d q9 b9 → Out b0 q0 (declR ws F q0) d q9 b9 :=
   fun ho => by rw [declR]; exact Out.no c1 (Out.no c2 (Out.yes c3 (o2.then ho).mv))
  by_cases c4 : Tk ws b2 q2 tLB
  ·have q3l : q2 + 1 ≤ ws.length := txt_lt (by rw [c4.2]; decide)
   refine (take_h ws q2 b2 tLB hg q2l (by decide) (by decide)).holds.useT [] [] rfl (sk) (sk) fun e0 H0 hq => ?_
   obtain ⟨rfl, rfl⟩ := hq.1 c4
   refine ⟨rfl, _, ⟨3, (0, rrO ws (q2 + 1) false) :: [(2, rdO 3 0 nm [] .nils .nils), (1, dz)]⟩, rfl, rfl, ?_⟩
   refine (rname_h ws (q2 + 1) false hg q3l).holds.useT [] [] rfl (sk) (sk) fun e0 H0 hq => ?_
   obtain ⟨pl, q3a, b3a, q3al, o3a, rfl, rfl⟩ := hq
   refine ⟨rfl, _, ⟨3, (0, rrO ws q3a b3a) :: [(2, rdO 3 0 nm [] .nils .nils), (1, dz)]⟩, rfl, rfl, ?_⟩
   refine (must_h ws q3a b3a tRB hg q3al (by decide) (by decide)).holds.useT [] [] rfl (sk) (sk) fun e0 H0 hq => ?_
   obtain ⟨u3, q3, b3, q3l, o3, rfl, rfl⟩ := hq
   refine ⟨rfl, _, ⟨3, (0, rrO ws q3 b3) :: [(2, rdO 3 0 nm pl .nils .nils), (1, dz)]⟩, rfl, rfl, ?_⟩
   have hb2 : ∀ {d : De} {q9 : Nat} {b9 : Bool}, Out b3 q3 (nodeTail ws F nm pl q3) d q9 b9 → Out b0 q0 (declR ws F q0) d q9 b9 := fun ho => hb (Out.yes c4 (o3a.then (o3.then ho)).mv)
   refine (must_h ws q3 b3 tCol hg q3l (by decide) (by decide)).holds.useT [] [] rfl (sk) (sk) fun e0 H0 hq => ?_
   obtain ⟨u4, q4, b4, q4l, o4, rfl, rfl⟩ := hq
   refine ⟨rfl, _, ⟨3, (0, rrO ws q4 b4) :: [(2, rdO 3 0 nm pl .nils .nils), (1, dz)]⟩, rfl, rfl, ?_⟩
   refine (rnum_h ws q4 b4 hg q4l).holds.useT [] [] rfl (sk) (sk) fun e0 H0 hq => ?_
   obtain ⟨n, q5, b5, q5l, o5, rfl, rfl⟩ := hq
   refine ⟨rfl, _, ⟨3, (0, rrO ws q5 b5) :: [(2, rdO 3 0 nm pl .nils .nils), (1, dz)]⟩, rfl, rfl, ?_⟩
   refine (rrefs_h ws F q5 b5 tFrom (by decide) (by decide) (by omega) hg q5l).holds.useT [] [] rfl (sk) (sk) fun e0 H0 hq => ?_
   obtain ⟨l, q6, b6, q6l, o6, rfl, rfl⟩ := hq
   refine ⟨rfl, _, ⟨3, (0, rrO ws q6 b6) :: [(2, rdO 3 n nm pl .nils .nils), (1, dz)]⟩, rfl, rfl, ?_⟩
   refine (must_h ws q6 b6 tEq hg q6l (by decide) (by decide)).holds.useT [] [] rfl (sk) (sk) fun e0 H0 hq => ?_
   obtain ⟨u7, q7, b7, q7l, o7, rfl, rfl⟩ := hq
   refine ⟨rfl, _, ⟨3, (0, rrO ws q7 b7) :: [(2, rdO 3 n nm pl (rfl_ l) .nils), (1, dz)]⟩, rfl, rfl, ?_⟩
   refine (rrule_h ws F q7 b7 hF hg q7l).holds.useT [] [] rfl (sk) (sk) fun e0 H0 hq => ?_
   obtain ⟨cs, q8, b8, q8l, o8, rfl, rfl⟩ := hq
   refine ⟨rfl, _, ⟨3, (0, rrO ws q8 b8) :: [(2, rdO 3 n nm pl (rfl_ l) .nils), (1, dz)]⟩, rfl, rfl, ?_⟩
   refine (must_h ws q8 b8 tSemi hg q8l (by decide) (by decide)).holds.useT [] [] rfl (sk) (sk) fun e0 H0 hq => ?_
   obtain ⟨u9, q9, b9, q9l, o9, rfl, rfl⟩ := hq
   refine ⟨rfl, _, ⟨3, (0, rrO ws q9 b9) :: [(2, rdO 3 n nm pl (rfl_ l) (css cs)), (1, dz)]⟩, rfl, rfl, ?_⟩
   exact ⟨[], [], [], .returned (.p (.agg [i64 3, i64 n, .str nm, .str pl, (rfl_ l), (css cs)])), rrH ws q9 b9, rfl, sk, sk, ⟨3, n, nm, pl, l, cs⟩, q9, b9, q9l, Out.then (hb2 (o4.then (o5.then (o6.then (o7.then (o8.then Out.same)))))) (o9.then Out.same), ⟨_, rfl, rnil_de (by first | exact NilD.refl _ | exact nil_lsts 4) (by first | exact NilD.refl _ | exact nil_lsts 11)⟩, rfl⟩
  ·refine (take_h ws q2 b2 tLB hg q2l (by decide) (by decide)).holds.useT [] [] rfl (sk) (sk) fun e0 H0 hq => ?_
   obtain ⟨rfl, rfl⟩ := hq.2 c4
   refine ⟨rfl, _, ⟨3, (0, rrO ws q2 b2) :: [(2, rdO 3 0 nm [] .nils .nils), (1, dz)]⟩, rfl, rfl, ?_⟩
   have hb2 : ∀ {d : De} {q9 : Nat} {b9 : Bool}, Out b2 q2 (nodeTail ws F nm [] q2) d q9 b9 → Out b0 q0 (declR ws F q0) d q9 b9 := fun ho => hb (Out.no c4 ho)
   refine (must_h ws q2 b2 tCol hg q2l (by decide) (by decide)).holds.useT [] [] rfl (sk) (sk) fun e0 H0 hq => ?_
   obtain ⟨u4, q4, b4, q4l, o4, rfl, rfl⟩ := hq
   refine ⟨rfl, _, ⟨3, (0, rrO ws q4 b4) :: [(2, rdO 3 0 nm [] .nils .nils), (1, dz)]⟩, rfl, rfl, ?_⟩
   refine (rnum_h ws q4 b4 hg q4l).holds.useT [] [] rfl (sk) (sk) fun e0 H0 hq => ?_
   obtain ⟨n, q5, b5, q5l, o5, rfl, rfl⟩ := hq
   refine ⟨rfl, _, ⟨3, (0, rrO ws q5 b5) :: [(2, rdO 3 0 nm [] .nils .nils), (1, dz)]⟩, rfl, rfl, ?_⟩
   refine (rrefs_h ws F q5 b5 tFrom (by decide) (by decide) (by omega) hg q5l).holds.useT [] [] rfl (sk) (sk) fun e0 H0 hq => ?_
   obtain ⟨l, q6, b6, q6l, o6, rfl, rfl⟩ := hq
   refine ⟨rfl, _, ⟨3, (0, rrO ws q6 b6) :: [(2, rdO 3 n nm [] .nils .nils), (1, dz)]⟩, rfl, rfl, ?_⟩
   refine (must_h ws q6 b6 tEq hg q6l (by decide) (by decide)).holds.useT [] [] rfl (sk) (sk) fun e0 H0 hq => ?_
   obtain ⟨u7, q7, b7, q7l, o7, rfl, rfl⟩ := hq
   refine ⟨rfl, _, ⟨3, (0, rrO ws q7 b7) :: [(2, rdO 3 n nm [] (rfl_ l) .nils), (1, dz)]⟩, rfl, rfl, ?_⟩
   refine (rrule_h ws F q7 b7 hF hg q7l).holds.useT [] [] rfl (sk) (sk) fun e0 H0 hq => ?_
   obtain ⟨cs, q8, b8, q8l, o8, rfl, rfl⟩ := hq
   refine ⟨rfl, _, ⟨3, (0, rrO ws q8 b8) :: [(2, rdO 3 n nm [] (rfl_ l) .nils), (1, dz)]⟩, rfl, rfl, ?_⟩
   refine (must_h ws q8 b8 tSemi hg q8l (by decide) (by decide)).holds.useT [] [] rfl (sk) (sk) fun e0 H0 hq => ?_
   obtain ⟨u9, q9, b9, q9l, o9, rfl, rfl⟩ := hq
   refine ⟨rfl, _, ⟨3, (0, rrO ws q9 b9) :: [(2, rdO 3 n nm [] (rfl_ l) (css cs)), (1, dz)]⟩, rfl, rfl, ?_⟩
   exact ⟨[], [], [], .returned (.p (.agg [i64 3, i64 n, .str nm, .str [], (rfl_ l), (css cs)])), rrH ws q9 b9, rfl, sk, sk, ⟨3, n, nm, [], l, cs⟩, q9, b9, q9l, Out.then (hb2 (o4.then (o5.then (o6.then (o7.then (o8.then Out.same)))))) (o9.then Out.same), ⟨_, rfl, rnil_de (by first | exact NilD.refl _ | exact nil_lsts 4) (by first | exact NilD.refl _ | exact nil_lsts 11)⟩, rfl⟩
 refine (take_h ws q0 b0 tNode hg hq0 (by decide) (by decide)).holds.useT [] [] rfl (sk) (sk) fun e0 H0 hq => ?_
 obtain ⟨rfl, rfl⟩ := hq.2 c3
 refine ⟨rfl, _, ⟨3, (0, rrO ws q0 b0) :: [(2, dz), (1, dz)]⟩, rfl, rfl, ?_⟩
 by_cases c4 : Tk ws b0 q0 tChoose
 ·have q1l : q0 + 1 ≤ ws.length := txt_lt (by rw [c4.2]; decide)
  refine (take_h ws q0 b0 tChoose hg hq0 (by decide) (by decide)).holds.useT [] [] rfl (sk) (sk) fun e0 H0 hq => ?_
  obtain ⟨rfl, rfl⟩ := hq.1 c4
  refine ⟨rfl, _, ⟨3, (0, rrO ws (q0 + 1) false) :: [(2, dz), (1, dz)]⟩, rfl, rfl, ?_⟩
  refine (rname_h ws (q0 + 1) false hg q1l).holds.useT [] [] rfl (sk) (sk) fun e0 H0 hq => ?_
  obtain ⟨nm, q2, b2, q2l, o2, rfl, rfl⟩ := hq
  refine ⟨rfl, _, ⟨3, (0, rrO ws q2 b2) :: [(2, dz), (1, dz)]⟩, rfl, rfl, ?_⟩
  refine (must_h ws q2 b2 tCol hg q2l (by decide) (by decide)).holds.useT [] [] rfl (sk) (sk) fun e0 H0 hq => ?_
  obtain ⟨u3, q3, b3, q3l, o3, rfl, rfl⟩ := hq
  refine ⟨rfl, _, ⟨3, (0, rrO ws q3 b3) :: [(2, rdO 4 0 nm [] .nils .nils), (1, dz)]⟩, rfl, rfl, ?_⟩
  refine (rnum_h ws q3 b3 hg q3l).holds.useT [] [] rfl (sk) (sk) fun e0 H0 hq => ?_
  obtain ⟨n, q4, b4, q4l, o4, rfl, rfl⟩ := hq
  refine ⟨rfl, _, ⟨3, (0, rrO ws q4 b4) :: [(2, rdO 4 0 nm [] .nils .nils), (1, dz)]⟩, rfl, rfl, ?_⟩
  refine (rrefs_h ws F q4 b4 tSeeing (by decide) (by decide) (by omega) hg q4l).holds.useT [] [] rfl (sk) (sk) fun e0 H0 hq => ?_
  obtain ⟨l, q5, b5, q5l, o5, rfl, rfl⟩ := hq
  refine ⟨rfl, _, ⟨3, (0, rrO ws q5 b5) :: [(2, rdO 4 n nm [] .nils .nils), (1, dz)]⟩, rfl, rfl, ?_⟩
  refine (must_h ws q5 b5 tSemi hg q5l (by decide) (by decide)).holds.useT [] [] rfl (sk) (sk) fun e0 H0 hq => ?_
  obtain ⟨u9, q9, b9, q9l, o9, rfl, rfl⟩ := hq
  refine ⟨rfl, _, ⟨3, (0, rrO ws q9 b9) :: [(2, rdO 4 n nm [] (rfl_ l) .nils), (1, dz)]⟩, rfl, rfl, ?_⟩
  exact ⟨[], [], [], .returned (.p (.agg [i64 4, i64 n, .str nm, .str [], (rfl_ l), .nils])), rrH ws q9 b9, rfl, sk, sk, ⟨4, n, nm, [], l, []⟩, q9, b9, q9l, Out.then (by rw [declR]; exact Out.no c1 (Out.no c2 (Out.no c3 (Out.yes c4 (o2.then (o3.then (o4.then (o5.then Out.same)))).mv)))) (o9.then Out.same), ⟨_, rfl, rnil_de (by first | exact NilD.refl _ | exact nil_lsts 4) (by first | exact NilD.refl _ | exact nil_lsts 11)⟩, rfl⟩
 refine (take_h ws q0 b0 tChoose hg hq0 (by decide) (by decide)).holds.useT [] [] rfl (sk) (sk) fun e0 H0 hq => ?_
 obtain ⟨rfl, rfl⟩ := hq.2 c4
 refine ⟨rfl, _, ⟨3, (0, rrO ws q0 b0) :: [(2, dz), (1, dz)]⟩, rfl, rfl, ?_⟩
 by_cases c5 : Tk ws b0 q0 tGain
 ·have q1l : q0 + 1 ≤ ws.length := txt_lt (by rw [c5.2]; decide)
  refine (take_h ws q0 b0 tGain hg hq0 (by decide) (by decide)).holds.useT [] [] rfl (sk) (sk) fun e0 H0 hq => ?_
  obtain ⟨rfl, rfl⟩ := hq.1 c5
  refine ⟨rfl, _, ⟨3, (0, rrO ws (q0 + 1) false) :: [(2, dz), (1, dz)]⟩, rfl, rfl, ?_⟩
  refine (rrefs_h ws F (q0 + 1) false tFrom (by decide) (by decide) (by omega) hg q1l).holds.useT [] [] rfl (sk) (sk) fun e0 H0 hq => ?_
  obtain ⟨l, q2, b2, q2l, o2, rfl, rfl⟩ := hq
  refine ⟨rfl, _, ⟨3, (0, rrO ws q2 b2) :: [(2, rdO 5 0 [] [] .nils .nils), (1, dz)]⟩, rfl, rfl, ?_⟩
  refine (must_h ws q2 b2 tEq hg q2l (by decide) (by decide)).holds.useT [] [] rfl (sk) (sk) fun e0 H0 hq => ?_
  obtain ⟨u3, q3, b3, q3l, o3, rfl, rfl⟩ := hq
  refine ⟨rfl, _, ⟨3, (0, rrO ws q3 b3) :: [(2, rdO 5 0 [] [] (rfl_ l) .nils), (1, dz)]⟩, rfl, rfl, ?_⟩
  refine (rrule_h ws F q3 b3 hF hg q3l).holds.useT [] [] rfl (sk) (sk) fun e0 H0 hq => ?_
  obtain ⟨cs, q4, b4, q4l, o4, rfl, rfl⟩ := hq
  refine ⟨rfl, _, ⟨3, (0, rrO ws q4 b4) :: [(2, rdO 5 0 [] [] (rfl_ l) .nils), (1, dz)]⟩, rfl, rfl, ?_⟩
  refine (must_h ws q4 b4 tSemi hg q4l (by decide) (by decide)).holds.useT [] [] rfl (sk) (sk) fun e0 H0 hq => ?_
  obtain ⟨u9, q9, b9, q9l, o9, rfl, rfl⟩ := hq
  refine ⟨rfl, _, ⟨3, (0, rrO ws q9 b9) :: [(2, rdO 5 0 [] [] (rfl_ l) (css cs)), (1, dz)]⟩, rfl, rfl, ?_⟩
  exact ⟨[], [], [], .returned (.p (.agg [i64 5, i64 0, .str [], .str [], (rfl_ l), (css cs)])), rrH ws q9 b9, rfl, sk, sk, ⟨5, 0, [], [], l, cs⟩, q9, b9, q9l, Out.then (by rw [declR]; exact Out.no c1 (Out.no c2 (Out.no c3 (Out.no c4 (Out.yes c5 (o2.then (o3.then (o4.then Out.same))).mv))))) (o9.then Out.same), ⟨_, rfl, rnil_de (by first | exact NilD.refl _ | exact nil_lsts 4) (by first | exact NilD.refl _ | exact nil_lsts 11)⟩, rfl⟩
 refine (take_h ws q0 b0 tGain hg hq0 (by decide) (by decide)).holds.useT [] [] rfl (sk) (sk) fun e0 H0 hq => ?_
 obtain ⟨rfl, rfl⟩ := hq.2 c5
 refine ⟨rfl, _, ⟨3, (0, rrO ws q0 b0) :: [(2, dz), (1, dz)]⟩, rfl, rfl, ?_⟩
 have od : Out b0 q0 (declR ws F q0) (⟨0, 0, [], [], [], []⟩ : De) q0 true := by
  cases b0
  ·show declR ws F q0 = .inl q0
   rw [declR, if_neg (fun h => c1 ⟨rfl, h⟩), if_neg (fun h => c2 ⟨rfl, h⟩), if_neg (fun h => c3 ⟨rfl, h⟩), if_neg (fun h => c4 ⟨rfl, h⟩), if_neg (fun h => c5 ⟨rfl, h⟩)]
  ·exact Out.bad
 have q0l := hq0
 refine (must_h ws q0 true tSemi hg q0l (by decide) (by decide)).holds.useT [] [] rfl (sk) (sk) fun e0 H0 hq => ?_
 obtain ⟨u9, q9, b9, q9l, o9, rfl, rfl⟩ := hq
 refine ⟨rfl, _, ⟨3, (0, rrO ws q9 b9) :: [(2, rdO 0 0 [] [] .nils .nils), (1, dz)]⟩, rfl, rfl, ?_⟩
 exact ⟨[], [], [], .returned (.p (.agg [i64 0, i64 0, .str [], .str [], .nils, .nils])), rrH ws q9 b9, rfl, sk, sk, ⟨0, 0, [], [], [], []⟩, q9, b9, q9l, Out.then od (o9.then Out.same), ⟨_, rfl, rnil_de (by first | exact NilD.refl _ | exact nil_lsts 4) (by first | exact NilD.refl _ | exact nil_lsts 11)⟩, rfl⟩
theorem declS_lt {ws : List Wd} {F q q' : Nat} {d : De} (h : declS ws F q = .inr (d, q')) : q < q' := by
 rw [declS] at h
 cases h1 : declR ws F q with
 | inl e => rw [h1] at h; cases h
 | inr x =>
  obtain ⟨a, p⟩ := x
  rw [h1] at h
  have h : (mustR ws tSemi p).then _ = _ := h
  have := decl_lt h1
  cases h2 : mustR ws tSemi p with
  | inl e => rw [h2] at h; cases h
  | inr x =>
   obtain ⟨u, p2⟩ := x
   rw [h2] at h
   have h : Sum.inr (a, p2) = (Sum.inr (d, q') : Rd De) := h
   have := must_lt h2
   injection h with h
   injection h with _ h
   omega
abbrev rpH (ws : List Wd) (acc : List De) (q : Nat) (b : Bool) : Hp := ⟨4, [(3, desO acc), (2, srO (.sl 3 6 0 acc.length)), (1, rrO ws q b), (0, srO (.p .nils))]⟩
theorem rParse_c (s : List UInt8) : Pure cx 23 [.str s] (· = .ret (parV (parR s))) := by
 have hRd := rRead_c s
 refine pure_of_vc Tryz.func23 rfl rfl rfl ?_
 by_cases h0 : 8000 < s.length
 ·rw [readV, if_pos h0] at hRd
  refine hRd.eq rfl ?_
  have e : parR s = .inl ((0, 0), 3) := by rw [parR, if_pos h0]
  refine And.intro (fun h => absurd (show (3 : Int) = 0 from h) (by decide)) (fun _ => ?_)
  exact end4 (srcV []) (i64 0) (i64 0) (i64 3) rfl ⟨_, rfl, _, _, rfl, .inr (.inr ⟨6, rfl⟩), rfl⟩ rfl rfl rfl (by rw [e] <;> rfl)
 cases hr : readR s with
 | err p c =>
  rw [readV, if_neg h0, hr] at hRd
  refine hRd.eq rfl ?_
  have e : parR s = .inl ((p.1, p.2), c) := by rw [parR, if_neg h0, hr]
  have hc : ¬ c = 0 := by
   have := readN_errP s _ _ _ _ _ hr
   omega
  refine And.intro (fun h => absurd (show c = 0 from h) hc) (fun _ => ?_)
  exact end4 (srcV []) (i64 p.1) (i64 p.2) (i64 c) rfl ⟨_, rfl, _, _, rfl, .inr (.inr ⟨6, rfl⟩), rfl⟩ rfl rfl rfl (by rw [e] <;> rfl)
 | ok ws =>
  have hg := read_good hr
  have hl := hg.len
  have hl' : (ws.map Wd.cells).length = ws.length := List.length_map ..
  rw [readV, if_neg h0, hr] at hRd
  refine hRd.eq rfl ?_
  refine And.intro (fun _ => ?_) (fun h => absurd rfl h)
  obtain ⟨F, hF⟩ : ∃ F, F = fuelW ws := ⟨_, rfl⟩
  have hF8 : 4 * ws.length + 8 ≤ F := by rw [hF]; exact Nat.le_refl _
  have hFb : F ≤ 100000 := by rw [hF, fuelW]; omega
  have e : parR s = match progR ws F F [] 0 with
    | .inl q => .inl (((wat ws q).line, (wat ws q).col), 381)
    | .inr (ds, _) => if validB ds = true then .inr ds else .inl ((0, 0), 3) := by rw [parR, if_neg h0, hr, hF] <;> rfl
  clear hF
  refine ⟨List De × Nat × Bool, fun x => [(2, .ptr 0 0 0), (6, .p (.lsts 4 (ws.map Wd.cells))), (10, .ptr 1 0 0), (11, .ptr 2 0 0)], fun x => rpH ws x.1 x.2.1 x.2.2, fun x => x.2.1 ≤ ws.length ∧ (x.2.2 = false → x.1.length ≤ x.2.1) ∧ x.1.length ≤ 1501 ∧ LK false 0 (progR ws F F [] 0) (fun f => progR ws F f x.1 x.2.1) ws.length x.2.1 x.2.2, fun x => if x.2.2 = true then 0 else ws.length + 1 - x.2.1, ?_, ?_⟩
  ·exact ⟨([], 0, false), ⟨Nat.zero_le _, fun _ => by simp, by simp, F, fun _ => by simp only []; omega, fun l q' b' ho => ho⟩, ent_of [] [] [(3, 6)] rfl (sk) (sk) rfl⟩
  rintro ⟨acc, q, b⟩ ⟨k1, k2, k3, k4⟩
  simp only [] at k1 k2 k3 k4
  cases b
  rotate_left
  ·have o : progR ws F F [] 0 = .inl q := k4.stop (l := []) (fun e => by cases e)
   rw [o] at e
   by_cases hq : q < ws.length
   ·refine And.intro (fun _ => ?_) (fun h => absurd (show (q : Int) < ((ws.map Wd.cells).length : Nat) by rw [hl']; omega) h)
    refine VDraw.seq rfl ?_
    refine ⟨_, ⟨by omega, (wat ws q).cells, wdcell hq, rfl⟩, ?_⟩
    refine ⟨_, ⟨by omega, (wat ws q).cells, wdcell hq, rfl⟩, ?_⟩
    refine ⟨sk, ?_⟩
    exact end4 (srcV []) (i64 (wat ws q).line) (i64 (wat ws q).col) (i64 381) rfl ⟨_, rfl, _, _, rfl, .inr (.inr ⟨6, rfl⟩), rfl⟩ rfl rfl rfl (by rw [e] <;> rfl)
   ·refine And.intro (fun h => absurd (show (q : Int) < ((ws.map Wd.cells).length : Nat) from h) (by rw [hl']; omega)) (fun _ => ?_)
    have hw : wat ws q = wd0 := wat_end (by omega)
    have e : parR s = .inl (((wat ws q).line, (wat ws q).col), 381) := e
    rw [hw] at e
    exact end4 (srcV []) (i64 0) (i64 0) (i64 381) rfl ⟨_, rfl, _, _, rfl, .inr (.inr ⟨6, rfl⟩), rfl⟩ rfl rfl rfl (by rw [e] <;> rfl)
  by_cases hq : q < ws.length
  rotate_left
  ·have o : progR ws F F [] 0 = .inr (acc, q) := k4.stop (fun _ f => by rw [progR, if_neg hq])
   refine And.intro (fun h => absurd (show (q : Int) < ((ws.map Wd.cells).length : Nat) from h) (by rw [hl']; omega)) (fun _ => ?_)
   have hC := rOk_c acc (prog_bigP hg hFb o)
   rw [o] at e
   have hR : ResL (Res (marks (rpH ws acc q false).l [3]) 5) [.agg [.sl 3 6 0 acc.length]] [srcV acc] := ⟨_, _, rfl, ⟨_, rfl, _, _, rfl, ⟨_, rfl, by show 0 + acc.length ≤ (acc.map De.cells).length; simp, takeAll (by simp)⟩, rfl⟩, rfl⟩
   by_cases hv : validB acc = true
   ·rw [hv] at hC
    refine hC.lends [3] rfl hR ?_
    have e : parR s = .inr acc := e.trans (if_pos hv)
    exact end4 (srcV acc) (i64 0) (i64 0) (i64 0) rfl ⟨_, rfl, _, _, rfl, ⟨_, rfl, by show 0 + acc.length ≤ (acc.map De.cells).length; simp, takeAll (by simp)⟩, rfl⟩ rfl rfl rfl (by rw [e] <;> rfl)
   ·have e : parR s = .inl ((0, 0), 3) := e.trans (if_neg hv)
    rw [Bool.not_eq_true] at hv
    rw [hv] at hC
    refine hC.lends [3] rfl hR ?_
    exact end4 (srcV []) (i64 0) (i64 0) (i64 3) rfl ⟨_, rfl, _, _, rfl, .inr (.inr ⟨6, rfl⟩), rfl⟩ rfl rfl rfl (by rw [e] <;> rfl)
  refine And.intro (fun _ => ?_) (fun h => absurd (show (q : Int) < ((ws.map Wd.cells).length : Nat) by rw [hl']; omega) h)
  refine VDraw.seq rfl ?_
  have hal := k2 rfl
  refine (rdecl_h ws F q false hF8 hg k1).holds.useT [] [(0, 1)] rfl (sk) (sk) fun e0 H0 hq0 => ?_
  obtain ⟨d, q2, b2, q2l, o2, rfl, rfl⟩ := hq0
  refine ⟨rfl, _, ⟨4, (1, rrO ws q2 b2) :: [(3, desO acc), (2, srO (.sl 3 6 0 acc.length)), (0, srO (.p .nils))]⟩, rfl, rfl, ?_⟩
  refine ⟨sk, ?_⟩
  refine ⟨sk, ?_⟩
  refine ⟨by show 0 + 1 ≤ 1; omega, [d.cells], rfl, ?_⟩
  refine ⟨by show 0 + acc.length ≤ (acc.map De.cells).length; simp, acc.map De.cells, takeAll (by simp), by show (acc.length + 1) * 96 ≤ 140737488355328; omega, (acc ++ [d]).map De.cells, by simp, ?_⟩
  have hlt : b2 = false → q < q2 := fun e => by subst e; exact declS_lt (out_inr o2)
  exact ⟨(acc ++ [d], q2, b2), ⟨q2l, fun e => by have := hlt e; show (acc ++ [d]).length ≤ q2; rw [snoc_len]; omega, by show (acc ++ [d]).length ≤ 1501; rw [snoc_len]; omega, k4.step (fun f l q' b' ho => by
   have e1 : progR ws F (f + 1) acc q = (declS ws F q).then fun d q => progR ws F f (acc ++ [d]) q := by
    rw [progR, if_pos hq, declS, then_assoc]
    congr 1
    funext d q
    rw [then_assoc]; rfl
   rw [e1]
   exact o2.then ho) (fun e => ⟨hlt e, q2l⟩)⟩, ent_of [] [(3, 5)] [] rfl (sk) ⟨⟨_, rfl, rfl, rfl, rfl⟩, ⟨_, rfl, rfl, rfl, _, rfl, _, _, rfl, congrArg (fun k : Nat => AV.sl 5 6 0 k) (snoc_len acc d).symm, rfl⟩, sk⟩ rfl, by show (if b2 = true then 0 else ws.length + 1 - q2) < (if false = true then 0 else ws.length + 1 - q); cases b2 <;> simp <;> (try have := hlt rfl) <;> omega⟩
set_option maxHeartbeats 40000000
abbrev otS : OT := (.pure 0 (.pure 1 (.pure 2 (.pure 3 (.pure 4 (.pure 5 (.pure 6 (.pure 7 (.pure 8 (.pure 9 (.pure 10 (.pure 11 (.eff 12 [] (.pure 13 (.pure 14 (.pure 15 (.pure 16 (.pure 17 (.pure 18 (.pure 19 (.pure 20 (.pure 21 (.pure 22 (.pure 23 (.pure 24 (.pure 25 (.pure 26 (.eff 27 [] (.pure 28 (.pure 29 .fin)) .nil))))))))))))))) .nil)))))))))))))
theorem de_eq {k n k' n' : Int} {nm pl nm' pl' : List UInt8} {rs rs' : List Rf} {cs cs' : List Cs} : ((⟨k, n, nm, pl, rs, cs⟩ : De) = ⟨k', n', nm', pl', rs', cs'⟩) ↔ (k = k' ∧ n = n' ∧ nm = nm' ∧ pl = pl' ∧ rs = rs' ∧ cs = cs') := by
 constructor
 ·intro h; injection h with h1 h2 h3 h4 h5 h6; exact ⟨h1, h2, h3, h4, h5, h6⟩
 ·rintro ⟨rfl, rfl, rfl, rfl, rfl, rfl⟩; rfl
theorem cs_eq {c c' : Cd} {l l' : List Int} : ((⟨c, l⟩ : Cs) = ⟨c', l'⟩) ↔ (c = c' ∧ l = l') := by
 constructor
 ·intro h; injection h with h1 h2; exact ⟨h1, h2⟩
 ·rintro ⟨rfl, rfl⟩; rfl
abbrev smH (a b : List De) (x y : De) : Hp := ⟨4, [(3, deO y), (2, deO x), (1, srO (.p (des b))), (0, srO (.p (des a)))]⟩
theorem sameP_c (a b : List De) (ha : BigP a) (hb : BigP b) : Pure cx 24 [srcV a, srcV b] (· = .ret [.bool (cb (a = b))]) := by
 have hla : (a.map De.cells).length = a.length := List.length_map ..
 have hlb : (b.map De.cells).length = b.length := List.length_map ..
 have a1 := ha.len
 refine pure_of_vc Tryz.func24 rfl rfl rfl ?_
 refine And.intro (fun h1 => ?_) (fun h1 => ?_)
 rotate_left
 ·have h1 : ¬ ((a.map De.cells).length : Int) = ((b.map De.cells).length : Nat) := h1
  rw [hla, hlb] at h1
  exact end1 _ rfl rfl (by rw [cb_f (fun e => h1 (by rw [e]))])
 have h1 : ((a.map De.cells).length : Int) = ((b.map De.cells).length : Nat) := h1
 rw [hla, hlb] at h1
 have hl : a.length = b.length := by omega
 refine ⟨Nat, fun k => [(2, .ptr 0 0 0), (3, .ptr 1 0 0), (5, .p (i64 k))], fun _ => ⟨2, [(1, srO (.p (des b))), (0, srO (.p (des a)))]⟩, fun k => k ≤ a.length ∧ a.take k = b.take k, fun k => a.length - k, ?_, ?_⟩
 ·exact ⟨0, ⟨Nat.zero_le _, rfl⟩, ent_of [] [] [] rfl (sk) (sk) rfl⟩
 rintro k ⟨k1, k2⟩
 refine And.intro (fun m1 => ?_) (fun m1 => ?_)
 rotate_left
 ·have m1 : ¬ (k : Int) < ((a.map De.cells).length : Nat) := m1
  rw [hla] at m1
  exact end1 _ rfl rfl (by rw [cb_t (take_end hl (by omega) k2)])
 have m1 : (k : Int) < ((a.map De.cells).length : Nat) := m1
 rw [hla] at m1
 have hk : k < a.length := by omega
 have hk' : k < b.length := by omega
 have c1 := decell hk
 have c2 := decell hk'
 have bx := ha.decl _ (getD_memL de0 hk)
 have bY := hb.decl _ (getD_memL de0 hk')
 have hn := take_next de0 hk hk' k2
 have hd : ¬ a.getD k de0 = b.getD k de0 → ¬ a = b := fun h e => h (by rw [e])
 generalize a.getD k de0 = x at c1 bx hn hd
 generalize b.getD k de0 = y at c2 bY hn hd
 obtain ⟨x1, x2, x3, x4, x5, x6⟩ := x
 obtain ⟨y1, y2, y3, y4, y5, y6⟩ := y
 have l5 : (x5.map Rf.cells).length = x5.length := List.length_map ..
 have l5' : (y5.map Rf.cells).length = y5.length := List.length_map ..
 have l6 : (x6.map Cs.cells).length = x6.length := List.length_map ..
 have l6' : (y6.map Cs.cells).length = y6.length := List.length_map ..
 have bx5 := bx.len
 have bx6 := bx.cases
 have by6 := bY.cases
 simp only [] at bx5 bx6 by6
 refine VDraw.altTo [(2, .ptr 0 0 0), (3, .ptr 1 0 0), (5, .p (i64 k)), (6, .ptr 2 0 0), (7, .ptr 3 0 0)] (smH a b ⟨x1, x2, x3, x4, x5, x6⟩ ⟨y1, y2, y3, y4, y5, y6⟩) (by kernel_rfl) ?_ ?_
 ·refine ⟨_, ⟨by omega, (⟨x1, x2, x3, x4, x5, x6⟩ : De).cells, c1, rfl⟩, ?_⟩
  refine ⟨_, ⟨by omega, (⟨y1, y2, y3, y4, y5, y6⟩ : De).cells, c2, rfl⟩, ?_⟩
  refine And.intro ?_ ?_
  ·refine ⟨(by repeat' first | exact trivial | exact rfl | exact ⟨rfl, rfl⟩ | exact ⟨by omega, _, c1, rfl⟩ | exact ⟨by omega, _, c2, rfl⟩ | refine And.intro ?_ ?_), ?_⟩
   refine ⟨(by repeat' first | exact trivial | exact rfl | exact ⟨rfl, rfl⟩ | exact ⟨by omega, _, c1, rfl⟩ | exact ⟨by omega, _, c2, rfl⟩ | refine And.intro ?_ ?_), ?_⟩
   refine ⟨(by repeat' first | exact trivial | exact rfl | exact ⟨rfl, rfl⟩ | exact ⟨by omega, _, c1, rfl⟩ | exact ⟨by omega, _, c2, rfl⟩ | refine And.intro ?_ ?_), ?_⟩
   exact ent_of [] [] [] rfl (sk) (sk) rfl
  ·refine ⟨(by repeat' first | exact trivial | exact rfl | exact ⟨rfl, rfl⟩ | exact ⟨by omega, _, c1, rfl⟩ | exact ⟨by omega, _, c2, rfl⟩ | refine And.intro ?_ ?_), ?_⟩
   refine ⟨(by repeat' first | exact trivial | exact rfl | exact ⟨rfl, rfl⟩ | exact ⟨by omega, _, c1, rfl⟩ | exact ⟨by omega, _, c2, rfl⟩ | refine And.intro ?_ ?_), ?_⟩
   refine ⟨(by repeat' first | exact trivial | exact rfl | exact ⟨rfl, rfl⟩ | exact ⟨by omega, _, c1, rfl⟩ | exact ⟨by omega, _, c2, rfl⟩ | refine And.intro ?_ ?_), ?_⟩
   exact ent_of [] [(2, 3), (3, 2)] [] rfl (sk) (sk) rfl
 refine And.intro (fun h1 => ?_) (fun h1 => end1 _ rfl rfl (by rw [cb_f (hd (fun e => h1 (de_eq.1 e).1))]))
 have h1 : x1 = y1 := h1
 refine And.intro (fun h2 => ?_) (fun h2 => end1 _ rfl rfl (by rw [cb_f (hd (fun e => h2 (de_eq.1 e).2.1))]))
 have h2 : x2 = y2 := h2
 refine And.intro (fun h3 => ?_) (fun h3 => end1 _ rfl rfl (by rw [cb_f (hd (fun e => h3 (de_eq.1 e).2.2.1))]))
 have h3 : x3 = y3 := h3
 refine And.intro (fun h4 => ?_) (fun h4 => end1 _ rfl rfl (by rw [cb_f (hd (fun e => h4 (de_eq.1 e).2.2.2.1))]))
 have h4 : x4 = y4 := h4
 refine And.intro (fun h5 => ?_) (fun h5 => ?_)
 rotate_left
 ·have h5 : ¬ ((x5.map Rf.cells).length : Int) = ((y5.map Rf.cells).length : Nat) := h5
  rw [l5, l5'] at h5
  exact end1 _ rfl rfl (by rw [cb_f (hd (fun e => h5 (by rw [(de_eq.1 e).2.2.2.2.1])))])
 have h5 : ((x5.map Rf.cells).length : Int) = ((y5.map Rf.cells).length : Nat) := h5
 rw [l5, l5'] at h5
 have hl5 : x5.length = y5.length := by omega
 refine And.intro (fun h6 => ?_) (fun h6 => ?_)
 rotate_left
 ·have h6 : ¬ ((x6.map Cs.cells).length : Int) = ((y6.map Cs.cells).length : Nat) := h6
  rw [l6, l6'] at h6
  exact end1 _ rfl rfl (by rw [cb_f (hd (fun e => h6 (by rw [(de_eq.1 e).2.2.2.2.2])))])
 have h6 : ((x6.map Cs.cells).length : Int) = ((y6.map Cs.cells).length : Nat) := h6
 rw [l6, l6'] at h6
 have hl6 : x6.length = y6.length := by omega
 refine ⟨Nat, fun j => [(2, .ptr 0 0 0), (3, .ptr 1 0 0), (5, .p (i64 k)), (6, .ptr 2 0 0), (7, .ptr 3 0 0), (8, .p (i64 j))], fun _ => smH a b ⟨x1, x2, x3, x4, x5, x6⟩ ⟨y1, y2, y3, y4, y5, y6⟩, fun j => j ≤ x5.length ∧ x5.take j = y5.take j, fun j => x5.length - j, ?_, ?_⟩
 ·exact ⟨0, ⟨Nat.zero_le _, rfl⟩, ent_of [] [] [] rfl (sk) (sk) rfl⟩
 rintro j ⟨j1, j2⟩
 refine And.intro (fun m2 => ?_) (fun m2 => ?_)
 ·have m2 : (j : Int) < ((x5.map Rf.cells).length : Nat) := m2
  rw [l5] at m2
  have hj : j < x5.length := by omega
  have hj' : j < y5.length := by omega
  have r1 := rcell hj
  have r2 := rcell hj'
  have hn2 := take_next rf0 hj hj' j2
  have hd2 : ¬ x5.getD j rf0 = y5.getD j rf0 → ¬ x5 = y5 := fun h e => h (by rw [e])
  generalize x5.getD j rf0 = u at r1 hn2 hd2
  generalize y5.getD j rf0 = w at r2 hn2 hd2
  refine VDraw.seq rfl ?_
  refine ⟨_, ⟨by omega, u.cells, r1, rfl⟩, ?_⟩
  refine ⟨_, ⟨by omega, w.cells, r2, rfl⟩, ?_⟩
  refine ⟨⟨by kernel_rfl, by kernel_rfl⟩, fun h7 => ?_, fun h7 => ?_⟩
  rotate_left
  ·exact end1 _ rfl rfl (by rw [cb_f (hd (fun e => hd2 (fun e => h7 (by rw [e])) (de_eq.1 e).2.2.2.2.1))])
  have h7 : u = w := rf_ext (by first | exact h7 | (injection h7))
  refine ⟨_, wrap_i64 (by omega) (by omega), ?_⟩
  exact ⟨j + 1, ⟨hj, hn2 h7⟩, ent_of [] [] [] rfl (sk) (sk) rfl, by show x5.length - (j + 1) < x5.length - j; omega⟩
 have m2 : ¬ (j : Int) < ((x5.map Rf.cells).length : Nat) := m2
 rw [l5] at m2
 have h7 : x5 = y5 := take_end hl5 (by omega) j2
 refine ⟨Nat, fun j => [(2, .ptr 0 0 0), (3, .ptr 1 0 0), (5, .p (i64 k)), (6, .ptr 2 0 0), (7, .ptr 3 0 0), (9, .p (i64 j))], fun _ => smH a b ⟨x1, x2, x3, x4, x5, x6⟩ ⟨y1, y2, y3, y4, y5, y6⟩, fun j => j ≤ x6.length ∧ x6.take j = y6.take j, fun j => x6.length - j, ?_, ?_⟩
 ·exact ⟨0, ⟨Nat.zero_le _, rfl⟩, ent_of [] [] [] rfl (sk) (sk) rfl⟩
 rintro j ⟨j1, j2⟩
 refine And.intro (fun m2 => ?_) (fun m2 => ?_)
 rotate_left
 ·have m2 : ¬ (j : Int) < ((x6.map Cs.cells).length : Nat) := m2
  rw [l6] at m2
  have h8 : x6 = y6 := take_end hl6 (by omega) j2
  refine ⟨_, wrap_i64 (by omega) (by omega), ?_⟩
  exact ⟨k + 1, ⟨hk, hn (de_eq.2 ⟨h1, h2, h3, h4, h7, h8⟩)⟩, ent_of [] [] [] rfl (sk) (sk) rfl, by show a.length - (k + 1) < a.length - k; omega⟩
 have m2 : (j : Int) < ((x6.map Cs.cells).length : Nat) := m2
 rw [l6] at m2
 have hj : j < x6.length := by omega
 have hj' : j < y6.length := by omega
 have hlx := bx6.len
 have s1 := scell hj
 have s2 := scell hj'
 have hm := getD_memL cs0 hj
 have hm' := getD_memL cs0 hj'
 have hn2 := take_next cs0 hj hj' j2
 have hd2 : ¬ x6.getD j cs0 = y6.getD j cs0 → ¬ x6 = y6 := fun h e => h (by rw [e])
 have hC := sameC_c _ _ (bx6.cond _ hm) (by6.cond _ hm')
 have hI := sints_c _ _ (bx6.nums _ hm) (by6.nums _ hm')
 generalize x6.getD j cs0 = u at s1 hn2 hd2 hC hI
 generalize y6.getD j cs0 = w at s2 hn2 hd2 hC hI
 obtain ⟨⟨u1, u2, u3, u4, u5, u6, u7⟩, u8⟩ := u
 obtain ⟨⟨w1, w2, w3, w4, w5, w6, w7⟩, w8⟩ := w
 simp only [] at hC hI
 refine vdraw_ot otS (by kernel_rfl) ?_
 refine ⟨_, ⟨by omega, (⟨.mk u1 u2 u3 u4 u5 u6 u7, u8⟩ : Cs).cells, s1, rfl⟩, ?_⟩
 refine ⟨_, ⟨by omega, (⟨.mk w1 w2 w3 w4 w5 w6 w7, w8⟩ : Cs).cells, s2, rfl⟩, ?_⟩
 refine (Classical.em (Cd.mk u1 u2 u3 u4 u5 u6 u7 = .mk w1 w2 w3 w4 w5 w6 w7)).elim (fun e1 => ?_) (fun e1 => ?_)
 rotate_left
 ·rw [cb_f e1] at hC
  refine hC.eq rfl ?_
  exact end1 _ rfl rfl (by rw [cb_f (hd (fun e => hd2 (fun e => e1 (cs_eq.1 e).1) (de_eq.1 e).2.2.2.2.2))])
 rw [cb_t e1] at hC
 refine hC.eq rfl ?_
 refine ⟨_, ⟨by omega, (⟨.mk u1 u2 u3 u4 u5 u6 u7, u8⟩ : Cs).cells, s1, rfl⟩, ?_⟩
 refine ⟨_, ⟨by omega, (⟨.mk w1 w2 w3 w4 w5 w6 w7, w8⟩ : Cs).cells, s2, rfl⟩, ?_⟩
 refine (Classical.em (u8 = w8)).elim (fun e2 => ?_) (fun e2 => ?_)
 rotate_left
 ·rw [cb_f e2] at hI
  refine hI.eq rfl ?_
  exact end1 _ rfl rfl (by rw [cb_f (hd (fun e => hd2 (fun e => e2 (cs_eq.1 e).2) (de_eq.1 e).2.2.2.2.2))])
 rw [cb_t e2] at hI
 refine hI.eq rfl ?_
 refine ⟨_, wrap_i64 (by omega) (by omega), ?_⟩
 exact ⟨j + 1, ⟨hj, hn2 (cs_eq.2 ⟨e1, e2⟩)⟩, ent_of [] [] [] rfl (sk) (sk) rfl, by show x6.length - (j + 1) < x6.length - j; omega⟩
set_option maxHeartbeats 4000000
def exS0 : List UInt8 := [103, 114, 97, 105, 110, 32, 49, 50, 32, 59, 32, 110, 111, 100, 101, 32, 120, 32, 58, 32, 50, 32, 61, 32, 123, 32, 101, 108, 115, 101, 32, 58, 32, 51, 32, 57, 32, 125, 32, 59]
def exD0 : List De := [⟨1, 12, [], [], [], []⟩, ⟨3, 2, [120], [], [], [⟨cd0, [3, 9]⟩]⟩]
theorem ex_p0 : parR exS0 = .inr exD0 := by kernel_rfl
def exS1 : List UInt8 := [110, 111, 100, 101, 32, 121, 32, 91, 32, 112, 32, 93, 32, 58, 32, 50, 32, 102, 114, 111, 109, 32, 120, 32, 44, 32, 121, 32, 91, 32, 112, 32, 43, 32, 49, 32, 93, 32, 61, 32, 123, 32, 120, 32, 61, 32, 49, 32, 97, 110, 100, 32, 110, 111, 116, 32, 121, 32, 91, 32, 112, 32, 43, 32, 49, 32, 93, 32, 105, 110, 32, 123, 32, 49, 32, 44, 32, 48, 32, 44, 32, 49, 32, 125, 32, 58, 32, 49, 32, 59, 32, 101, 108, 115, 101, 32, 58, 32, 45, 32, 50, 32, 125, 32, 59]
def exD1 : List De := [⟨3, 2, [121], [112], [⟨[120], 0, [], 0⟩, ⟨[121], 1, [112], 1⟩], [⟨.mk 8 0 0 0 rf0 [] [.mk 1 1 0 0 ⟨[120], 0, [], 0⟩ [] [], .mk 7 0 0 0 rf0 [] [.mk 5 0 0 0 ⟨[121], 1, [112], 1⟩ [0, 1] []]], [1]⟩, ⟨cd0, [(-2)]⟩]⟩]
theorem ex_p1 : parR exS1 = .inr exD1 := by kernel_rfl
def exS2 : List UInt8 := [103, 97, 105, 110, 32, 61, 32, 123, 32, 99, 111, 117, 110, 116, 32, 40, 32, 120, 32, 91, 32, 97, 108, 108, 32, 93, 32, 61, 32, 49, 32, 41, 32, 60, 61, 32, 50, 32, 58, 32, 53, 32, 59, 32, 101, 108, 115, 101, 32, 58, 32, 48, 32, 125, 32, 59]
def exD2 : List De := [⟨5, 0, [], [], [], [⟨.mk 6 2 4 1 ⟨[120], 3, [], 0⟩ [] [], [5]⟩, ⟨cd0, [0]⟩]⟩]
theorem ex_p2 : parR exS2 = .inr exD2 := by kernel_rfl
theorem ex_n0 : parR [110, 111, 100, 101, 32, 120, 32, 58, 32, 50, 32, 59] = .inl ((1, 12), 381) := by kernel_rfl
theorem ex_n1 : parR [103, 97, 105, 110, 32, 61, 32, 123, 32, 120, 32, 61, 32, 49, 32, 58, 32, 50, 32, 125, 32, 59] = .inl ((1, 20), 381) := by kernel_rfl
theorem ex_n2 : parR [112, 108, 97, 116, 101, 32, 112, 32, 61, 32, 59] = .inl ((1, 11), 381) := by kernel_rfl
theorem ex_n3 : parR [99, 104, 111, 111, 115, 101, 32, 100, 32, 58, 32, 50, 32, 115, 101, 101, 105, 110, 103, 32, 120] = .inl ((0, 0), 381) := by kernel_rfl
theorem ex_n4 : parR [99, 111, 117, 110, 116] = .inl ((1, 1), 381) := by kernel_rfl
def exC0 : Cd := .mk 8 0 0 0 rf0 [] [.mk 9 0 0 0 rf0 [] [.mk 1 1 0 0 ⟨[97], 0, [], 0⟩ [] [], .mk 1 1 0 0 ⟨[98], 0, [], 0⟩ [] []], .mk 1 1 0 0 ⟨[99], 0, [], 0⟩ [] []]
theorem ex_w0 : txtV [⟨5, 0, [], [], [], [⟨exC0, [5]⟩, ⟨cd0, [0]⟩]⟩] = [.str [103, 97, 105, 110, 32, 61, 32, 123, 32, 40, 32, 97, 32, 61, 32, 49, 32, 111, 114, 32, 98, 32, 61, 32, 49, 32, 41, 32, 97, 110, 100, 32, 99, 32, 61, 32, 49, 32, 58, 32, 53, 32, 59, 32, 101, 108, 115, 101, 32, 58, 32, 48, 32, 125, 32, 59, 10], i64 0] := by kernel_rfl
def exC1 : Cd := .mk 7 0 0 0 rf0 [] [.mk 8 0 0 0 rf0 [] [.mk 1 1 0 0 ⟨[97], 0, [], 0⟩ [] [], .mk 3 2 0 0 ⟨[98], 0, [], 0⟩ [] []]]
theorem ex_w1 : txtV [⟨5, 0, [], [], [], [⟨exC1, [5]⟩, ⟨cd0, [0]⟩]⟩] = [.str [103, 97, 105, 110, 32, 61, 32, 123, 32, 110, 111, 116, 32, 40, 32, 97, 32, 61, 32, 49, 32, 97, 110, 100, 32, 98, 32, 60, 32, 50, 32, 41, 32, 58, 32, 53, 32, 59, 32, 101, 108, 115, 101, 32, 58, 32, 48, 32, 125, 32, 59, 10], i64 0] := by kernel_rfl
set_option maxHeartbeats 40000000
abbrev otW : OT := (.pure 0 (.pure 1 (.pure 2 (.pure 4 (.pure 5 (.pure 6 (.pure 7 (.pure 11 (.pure 13 (.pure 14 (.eff 3 [4, 1] (.eff 8 [1] (.pure 9 (.eff 10 [1] (.pure 12 (.pure 15 (.pure 16 (.pure 17 (.eff 18 [] (.pure 19 .fin) .nil))))) .nil)) .nil) .nil)))))))))))
theorem cb_iff {p q : Prop} (h : p ↔ q) : cb p = cb q := by rw [propext h]
theorem parR_big {s : List UInt8} {ds : List De} (h : parR s = .inr ds) : BigP ds := by
 unfold parR at h
 split at h
 ·cases h
 ·cases hr : readR s with
  | err p c => rw [hr] at h; cases h
  | ok ws =>
   rw [hr] at h
   have hg := read_good hr
   have hl := hg.len
   cases hp : progR ws (fuelW ws) (fuelW ws) [] 0 with
   | inl q => simp only [hp] at h; cases h
   | inr x =>
    obtain ⟨l, q⟩ := x
    simp only [hp] at h
    split at h
    ·injection h with h
     subst h
     exact prog_bigP hg (by rw [fuelW]; omega) hp
    ·cases h
theorem parR_err {s : List UInt8} {p : Int × Int} {e : Int} (h : parR s = .inl (p, e)) : e = 3 ∨ e = 370 ∨ e = 381 := by
 unfold parR at h
 split at h
 ·injection h with h; injection h with _ h; exact .inl h.symm
 ·cases hr : readR s with
  | err p c =>
   rw [hr] at h
   injection h with h; injection h with _ h
   have := readN_errP s _ _ _ _ _ hr
   omega
  | ok ws =>
   rw [hr] at h
   cases hp : progR ws (fuelW ws) (fuelW ws) [] 0 with
   | inl q => simp only [hp] at h; injection h with h; injection h with _ h; omega
   | inr x =>
    obtain ⟨l, q⟩ := x
    simp only [hp] at h
    split at h
    ·cases h
    ·injection h with h; injection h with _ h; omega
theorem refused_yes (s : List UInt8) (l c e : Int) (h : parR s = .inl ((l, c), e)) : Pure cx 28 [.str s, i64 l, i64 c, i64 e] (· = .ret [.bool true]) := by
 have hP := parse_c s
 rw [h] at hP
 refine pure_of_vc Tryz.func28 rfl rfl rfl ?_
 refine hP.eq rfl ?_
 refine And.intro (fun _ => ?_) (fun h => absurd rfl h)
 refine And.intro (fun _ => ?_) (fun h => absurd rfl h)
 refine And.intro (fun _ => ?_) (fun h => absurd rfl h)
 refine And.intro (fun _ => ?_) (fun h => absurd rfl h)
 exact end1 _ rfl rfl rfl
theorem reads_c (s : List UInt8) (want : List De) (hw : BigP want) : Pure cx 37 [.str s, des want] (· = .ret [.bool (cb (parR s = .inr want))]) := by
 have hP := parse_c s
 cases hp : parR s with
 | inl x =>
  obtain ⟨⟨l, c⟩, e⟩ := x
  rw [hp] at hP
  have he := parR_err hp
  refine pure_of_vc Tryz.func37 rfl rfl rfl ?_
  refine hP.eq rfl ?_
  refine And.intro (fun h => absurd (show e = 0 from h) (by omega)) (fun _ => ?_)
  exact end1 _ rfl rfl (by rw [cb_f (fun e => by cases e)])
 | inr ds =>
  rw [hp] at hP
  have hS := sameP_c ds want (parR_big hp) hw
  rw [cb_iff (q := (Sum.inr ds : Sum ((Int × Int) × Int) (List De)) = .inr want) ⟨fun e => by rw [e], fun e => by injection e⟩] at hS
  refine pure_of_vc Tryz.func37 rfl rfl rfl ?_
  refine hP.eq rfl ?_
  refine And.intro (fun _ => ?_) (fun h => absurd rfl h)
  refine And.intro (fun _ => ?_) (fun h => absurd rfl h)
  refine And.intro (fun _ => ?_) (fun h => absurd rfl h)
  refine hS.eq rfl ?_
  exact end1 _ rfl rfl rfl
theorem reads_yes {s : List UInt8} {want : List De} (h : parR s = .inr want) : Pure cx 37 [.str s, des want] (· = .ret [.bool true]) := by
 have := reads_c s want (parR_big h)
 rw [cb_t h] at this
 exact this
theorem is_c (nm : List UInt8) (op n : Int) : Pure cx 31 [.str nm, i64 op, i64 n] (· = .ret [(Cd.mk op n 0 0 ⟨nm, 0, [], 0⟩ [] []).pv]) := by
 refine Pure.nil (r := .ret [.agg [i64 op, i64 n, i64 0, i64 0, .str nm, i64 0, .str [], i64 0, .nils, .nils]]) ?_ ⟨_, rfl, _, _, rfl, nil_leaf2 op n 0 0 ⟨nm, 0, [], 0⟩, rfl⟩
 refine pure_of_vc Tryz.func31 rfl rfl rfl ?_
 exact end1 _ rfl rfl rfl
theorem both_c (op : Int) (l : List Cd) : Pure cx 32 [i64 op, .lsts 10 (cellsL l)] (· = .ret [(Cd.mk op 0 0 0 rf0 [] l).pv]) := by
 refine Pure.nil (r := .ret [.agg [i64 op, i64 0, i64 0, i64 0, .str [], i64 0, .str [], i64 0, .nils, .lsts 10 (cellsL l)]]) ?_ ⟨_, rfl, _, _, rfl, ?_, rfl⟩
 ·refine pure_of_vc Tryz.func32 rfl rfl rfl ?_
  exact end1 _ rfl rfl rfl
 ·show NilD _ (.agg [i64 op, i64 0, i64 0, i64 0, .str [], i64 0, .str [], i64 0, .lst [], .lsts 10 (cellsL l)])
  simp only [NilD, NilDL]
  exact ⟨_, rfl, _, _, rfl, rfl, _, _, rfl, rfl, _, _, rfl, rfl, _, _, rfl, rfl, _, _, rfl, rfl, _, _, rfl, rfl, _, _, rfl, rfl, _, _, rfl, rfl, _, _, rfl, .inr (.inl rfl), _, _, rfl, ⟨_, rfl, NilDLL.refl _⟩, rfl⟩
def gainD (c : Cd) : De := ⟨5, 0, [], [], [], [⟨c, [5]⟩, ⟨cd0, [0]⟩]⟩
abbrev zc0 : List PV := [i64 0, i64 0, i64 0, i64 0, .str [], i64 0, .str [], i64 0, .nils, .nils]
theorem nil_zc (l : List Int) : NilDL (zc0 ++ [.lst (l.map i64)]) (⟨cd0, l⟩ : Cs).cells := by
 show NilDL [i64 0, i64 0, i64 0, i64 0, .str [], i64 0, .str [], i64 0, .nils, .nils, .lst (l.map i64)] [i64 0, i64 0, i64 0, i64 0, .str [], i64 0, .str [], i64 0, .lst [], .lsts 10 [], .lst (l.map i64)]
 simp only [NilD, NilDL]
 exact ⟨_, _, rfl, rfl, _, _, rfl, rfl, _, _, rfl, rfl, _, _, rfl, rfl, _, _, rfl, rfl, _, _, rfl, rfl, _, _, rfl, rfl, _, _, rfl, rfl, _, _, rfl, .inr (.inl rfl), _, _, rfl, .inr (.inr ⟨10, rfl⟩), _, _, rfl, ⟨_, rfl, NilDL.refl _⟩, rfl⟩
theorem gain_c (c : Cd) : Pure cx 30 [c.pv] (· = .ret [(gainD c).pv]) := by
 refine Pure.nil (r := .ret [.agg [i64 5, i64 0, .str [], .str [], .nils, .lsts 11 [c.cells ++ [.lst [i64 5]], zc0 ++ [.lst [i64 0]]]]]) ?_ ⟨_, rfl, _, _, rfl, ?_, rfl⟩
 ·obtain ⟨o, n, r, v, rf, st, ar⟩ := c
  refine pure_of_vc Tryz.func30 rfl rfl rfl ?_
  refine end1 _ rfl ⟨_, rfl, _, _, rfl, rfl, _, _, rfl, rfl, _, _, rfl, rfl, _, _, rfl, rfl, _, _, rfl, .inl rfl, _, _, rfl, ⟨_, rfl, Nat.le_refl _, ⟨_, _, rfl, ?_, _, _, rfl, ?_, rfl⟩⟩, rfl⟩ rfl
  ·exact ⟨_, _, rfl, rfl, _, _, rfl, rfl, _, _, rfl, rfl, _, _, rfl, rfl, _, _, rfl, rfl, _, _, rfl, rfl, _, _, rfl, rfl, _, _, rfl, rfl, _, _, rfl, rfl, _, _, rfl, rfl, _, _, rfl, ⟨_, rfl, Nat.le_refl _, rfl⟩, rfl⟩
  ·exact ⟨_, _, rfl, rfl, _, _, rfl, rfl, _, _, rfl, rfl, _, _, rfl, rfl, _, _, rfl, rfl, _, _, rfl, rfl, _, _, rfl, rfl, _, _, rfl, rfl, _, _, rfl, .inl rfl, _, _, rfl, .inl rfl, _, _, rfl, ⟨_, rfl, Nat.le_refl _, rfl⟩, rfl⟩
 ·show NilD _ (.agg [i64 5, i64 0, .str [], .str [], .lsts 4 [], .lsts 11 [(⟨c, [5]⟩ : Cs).cells, (⟨cd0, [0]⟩ : Cs).cells]])
  simp only [NilD, NilDL]
  refine ⟨_, rfl, _, _, rfl, rfl, _, _, rfl, rfl, _, _, rfl, rfl, _, _, rfl, rfl, _, _, rfl, .inr (.inr ⟨4, rfl⟩), _, _, rfl, ⟨_, rfl, ?_⟩, rfl⟩
  simp only [NilDLL]
  exact ⟨_, _, rfl, NilDL.refl _, _, _, rfl, nil_zc [0], rfl⟩
theorem gain_big {c : Cd} (h : BigC c) : BigP [gainD c] := by
 refine ⟨by show 1 ≤ 9223372036854775807; decide, fun d hd => ?_⟩
 rw [List.mem_singleton] at hd
 subst hd
 have hl : BigL [⟨c, [5]⟩, ⟨cd0, [0]⟩] := by
  refine ⟨by show 2 ≤ 9223372036854775807; decide, fun x hx => ?_, fun x hx => ?_⟩
  ·rcases List.mem_cons.1 hx with rfl | hx
   ·exact h
   ·rw [List.mem_singleton.1 hx]
    exact big_leaf ⟨nil_big, nil_big⟩ (by decide)
  ·rcases List.mem_cons.1 hx with rfl | hx
   ·show 1 ≤ 9223372036854775807; decide
   ·rw [List.mem_singleton.1 hx]; show 1 ≤ 9223372036854775807; decide
 exact ⟨nil_big, nil_big, by show 0 ≤ 9223372036854775807; decide, (fun r hr => by cases hr), hl⟩
abbrev gnA : List UInt8 := [103, 97, 105, 110, 32, 61, 32, 123, 32]
abbrev gnB : List UInt8 := [32, 58, 32, 53, 32, 59, 32, 101, 108, 115, 101, 32, 58, 32, 48, 32, 125, 32, 59, 10]
theorem writes_yes (c : Cd) (want : List UInt8) (hb : BigC c) (hl : want.length ≤ 8000) (h : txtV [gainD c] = [.str ((gnA ++ want) ++ gnB), i64 0]) : Pure cx 49 [c.pv, .str want] (· = .ret [.bool true]) := by
 have hT := ptext_c [gainD c] (gain_big hb)
 rw [h] at hT
 have hG := gain_c c
 clear h hb
 obtain ⟨o, n, r, v, rf, st, ar⟩ := c
 refine pure_of_vc Tryz.func49 rfl rfl rfl ?_
 refine hG.eq rfl ?_
 refine hT.lends [1] rfl ⟨_, _, rfl, ⟨_, rfl, _, _, rfl, ⟨_, rfl, Nat.le_refl _, rfl⟩, rfl⟩, rfl⟩ ?_
 refine And.intro (fun _ => ?_) (fun h => absurd rfl h)
 refine ⟨by show List.length _ + List.length _ ≤ 9223372036854775807; (try simp) <;> omega, ?_⟩
 refine ⟨by show List.length _ + List.length _ ≤ 9223372036854775807; (try simp) <;> omega, ?_⟩
 refine And.intro (fun _ => ?_) (fun h => absurd rfl h)
 exact end1 _ rfl rfl rfl
theorem leaf_big {nm : List UInt8} {op n : Int} (h : BigS nm) : BigC (.mk op n 0 0 ⟨nm, 0, [], 0⟩ [] []) := big_leaf ⟨h, nil_big⟩ (by decide)
theorem c0_big : BigC exC0 := big_two (big_two (leaf_big (by decide)) (leaf_big (by decide))) (leaf_big (by decide))
theorem c1_big : BigC exC1 := big_one (big_two (leaf_big (by decide)) (leaf_big (by decide)))
theorem works_c : Pure cx 17 [] (· = .ret [.bool true]) := by
 have w0 := writes_yes exC0 [40, 32, 97, 32, 61, 32, 49, 32, 111, 114, 32, 98, 32, 61, 32, 49, 32, 41, 32, 97, 110, 100, 32, 99, 32, 61, 32, 49] c0_big (by decide) ex_w0
 have w1 := writes_yes exC1 [110, 111, 116, 32, 40, 32, 97, 32, 61, 32, 49, 32, 97, 110, 100, 32, 98, 32, 60, 32, 50, 32, 41] c1_big (by decide) ex_w1
 refine pure_of_vc Tryz.func17 rfl rfl rfl ?_
 refine ((reads_yes ex_p0).arg (args' := [.str exS0, .lsts 6 [[i64 1, i64 12, .str [], .str [], .nils, .nils], [i64 3, i64 2, .str [120], .str [], .nils, .lsts 11 [zc0 ++ [.lst [i64 3, i64 9]]]]]]) ?_).lends [0, 1, 2] rfl ?_ ?_
 ·show NilDL [.str exS0, .lsts 6 [[i64 1, i64 12, .str [], .str [], .nils, .nils], [i64 3, i64 2, .str [120], .str [], .nils, .lsts 11 [zc0 ++ [.lst [i64 3, i64 9]]]]]] [.str exS0, .lsts 6 [[i64 1, i64 12, .str [], .str [], .lsts 4 [], .lsts 11 []], [i64 3, i64 2, .str [120], .str [], .lsts 4 [], .lsts 11 [(⟨cd0, [3, 9]⟩ : Cs).cells]]]]
  simp only [NilDL, NilD, NilDLL]
  exact ⟨_, _, rfl, rfl, _, _, rfl, ⟨_, rfl, ⟨_, _, rfl, ⟨_, _, rfl, rfl, _, _, rfl, rfl, _, _, rfl, rfl, _, _, rfl, rfl, _, _, rfl, .inr (.inr ⟨4, rfl⟩), _, _, rfl, .inr (.inr ⟨11, rfl⟩), rfl⟩, _, _, rfl, ⟨_, _, rfl, rfl, _, _, rfl, rfl, _, _, rfl, rfl, _, _, rfl, rfl, _, _, rfl, .inr (.inr ⟨4, rfl⟩), _, _, rfl, ⟨_, rfl, ⟨_, _, rfl, nil_zc [3, 9], rfl⟩⟩, rfl⟩, rfl⟩⟩, rfl⟩
 ·refine ⟨_, _, rfl, rfl, _, _, rfl, ⟨_, rfl, Nat.le_refl _, ⟨_, _, rfl, ?_, _, _, rfl, ?_, rfl⟩⟩, rfl⟩
  ·exact ⟨_, _, rfl, rfl, _, _, rfl, rfl, _, _, rfl, rfl, _, _, rfl, rfl, _, _, rfl, .inl rfl, _, _, rfl, .inl rfl, rfl⟩
  ·refine ⟨_, _, rfl, rfl, _, _, rfl, rfl, _, _, rfl, rfl, _, _, rfl, rfl, _, _, rfl, .inl rfl, _, _, rfl, ⟨_, rfl, Nat.le_refl _, ⟨_, _, rfl, ?_, rfl⟩⟩, rfl⟩
   exact ⟨_, _, rfl, rfl, _, _, rfl, rfl, _, _, rfl, rfl, _, _, rfl, rfl, _, _, rfl, rfl, _, _, rfl, rfl, _, _, rfl, rfl, _, _, rfl, rfl, _, _, rfl, .inl rfl, _, _, rfl, .inl rfl, _, _, rfl, ⟨_, rfl, Nat.le_refl _, rfl⟩, rfl⟩
 refine vdraw_ot otW (by kernel_rfl) ?_
 refine (is_c [120] 1 1).eq rfl ?_
 refine ⟨sk, ?_⟩
 refine ((both_c 7 [.mk 5 0 0 0 ⟨[121], 1, [112], 1⟩ [0, 1] []]).arg (args' := [i64 7, .lsts 10 [[i64 5, i64 0, i64 0, i64 0, .str [121], i64 1, .str [112], i64 1, .lst [i64 0, i64 1], .nils]]]) ?_).eq rfl ?_
 ·simp only [NilD, NilDL, NilDLL]
  repeat' first | exact rfl | exact NilDL.refl _ | exact NilD.refl _ | exact .inr (.inl rfl) | exact .inr (.inr ⟨_, rfl⟩) | refine ⟨_, _, rfl, ?_, ?_⟩ | refine ⟨_, rfl, ?_⟩ | refine And.intro ?_ ?_
 refine ⟨sk, ?_⟩
 refine (both_c 8 [.mk 1 1 0 0 ⟨[120], 0, [], 0⟩ [] [], .mk 7 0 0 0 rf0 [] [.mk 5 0 0 0 ⟨[121], 1, [112], 1⟩ [0, 1] []]]).eq rfl ?_
 refine ⟨sk, ?_⟩
 refine ((reads_yes ex_p1).arg (args' := [.str exS1, .lsts 6 [[i64 3, i64 2, .str [121], .str [112], .lsts 4 [[.str [120], i64 0, .str [], i64 0], [.str [121], i64 1, .str [112], i64 1]], .lsts 11 [(Cd.cells (.mk 8 0 0 0 rf0 [] [.mk 1 1 0 0 ⟨[120], 0, [], 0⟩ [] [], .mk 7 0 0 0 rf0 [] [.mk 5 0 0 0 ⟨[121], 1, [112], 1⟩ [0, 1] []]])) ++ [.lst [i64 1]], zc0 ++ [.lst [i64 (-2)]]]]]]) ?_).eq rfl ?_
 ·show NilDL [.str exS1, .lsts 6 [[i64 3, i64 2, .str [121], .str [112], .lsts 4 [[.str [120], i64 0, .str [], i64 0], [.str [121], i64 1, .str [112], i64 1]], .lsts 11 [(Cd.cells (.mk 8 0 0 0 rf0 [] [.mk 1 1 0 0 ⟨[120], 0, [], 0⟩ [] [], .mk 7 0 0 0 rf0 [] [.mk 5 0 0 0 ⟨[121], 1, [112], 1⟩ [0, 1] []]])) ++ [.lst [i64 1]], zc0 ++ [.lst [i64 (-2)]]]]]] [.str exS1, .lsts 6 [[i64 3, i64 2, .str [121], .str [112], .lsts 4 [[.str [120], i64 0, .str [], i64 0], [.str [121], i64 1, .str [112], i64 1]], .lsts 11 [(⟨.mk 8 0 0 0 rf0 [] [.mk 1 1 0 0 ⟨[120], 0, [], 0⟩ [] [], .mk 7 0 0 0 rf0 [] [.mk 5 0 0 0 ⟨[121], 1, [112], 1⟩ [0, 1] []]], [1]⟩ : Cs).cells, (⟨cd0, [-2]⟩ : Cs).cells]]]]
  simp only [NilD, NilDL, NilDLL]
  repeat' first | exact rfl | exact NilDL.refl _ | exact NilD.refl _ | exact .inr (.inl rfl) | exact .inr (.inr ⟨_, rfl⟩) | refine ⟨_, _, rfl, ?_, ?_⟩ | refine ⟨_, rfl, ?_⟩ | refine And.intro ?_ ?_
 refine (is_c [97] 1 1).eq rfl ?_
 refine (is_c [98] 1 1).eq rfl ?_
 refine (both_c 9 [.mk 1 1 0 0 ⟨[97], 0, [], 0⟩ [] [], .mk 1 1 0 0 ⟨[98], 0, [], 0⟩ [] []]).uses [4] rfl ⟨_, _, rfl, rfl, _, _, rfl, ⟨_, rfl, Nat.le_refl _, rfl⟩, rfl⟩ ?_
 refine (is_c [99] 1 1).eq rfl ?_
 refine (both_c 8 [.mk 9 0 0 0 rf0 [] [.mk 1 1 0 0 ⟨[97], 0, [], 0⟩ [] [], .mk 1 1 0 0 ⟨[98], 0, [], 0⟩ [] []], .mk 1 1 0 0 ⟨[99], 0, [], 0⟩ [] []]).uses [5] rfl ⟨_, _, rfl, rfl, _, _, rfl, ⟨_, rfl, Nat.le_refl _, rfl⟩, rfl⟩ ?_
 refine w0.eq rfl ?_
 refine (is_c [97] 1 1).eq rfl ?_
 refine (is_c [98] 3 2).eq rfl ?_
 refine (both_c 8 [.mk 1 1 0 0 ⟨[97], 0, [], 0⟩ [] [], .mk 3 2 0 0 ⟨[98], 0, [], 0⟩ [] []]).uses [6] rfl ⟨_, _, rfl, rfl, _, _, rfl, ⟨_, rfl, Nat.le_refl _, rfl⟩, rfl⟩ ?_
 refine (both_c 7 [.mk 8 0 0 0 rf0 [] [.mk 1 1 0 0 ⟨[97], 0, [], 0⟩ [] [], .mk 3 2 0 0 ⟨[98], 0, [], 0⟩ [] []]]).uses [7] rfl ⟨_, _, rfl, rfl, _, _, rfl, ⟨_, rfl, Nat.le_refl _, rfl⟩, rfl⟩ ?_
 refine w1.eq rfl ?_
 refine (refused_yes _ _ _ _ ex_n0).eq rfl ?_
 refine (refused_yes _ _ _ _ ex_n1).eq rfl ?_
 refine (refused_yes _ _ _ _ ex_n2).eq rfl ?_
 refine (refused_yes _ _ _ _ ex_n3).eq rfl ?_
 refine (refused_yes _ _ _ _ ex_n4).eq rfl ?_
 refine ((gain_c (.mk 6 2 4 1 ⟨[120], 3, [], 0⟩ [] [])).arg (args' := [.agg [i64 6, i64 2, i64 4, i64 1, .str [120], i64 3, .str [], i64 0, .nils, .nils]]) ⟨_, _, rfl, nil_leaf2 6 2 4 1 ⟨[120], 3, [], 0⟩, rfl⟩).eq rfl ?_
 refine (reads_yes ex_p2).lends [8] rfl ⟨_, _, rfl, rfl, _, _, rfl, ⟨_, rfl, Nat.le_refl _, rfl⟩, rfl⟩ ?_
 exact end1 _ rfl rfl rfl
end Go.Proofs.YtohfoaplnjcihaaGreatDoor
