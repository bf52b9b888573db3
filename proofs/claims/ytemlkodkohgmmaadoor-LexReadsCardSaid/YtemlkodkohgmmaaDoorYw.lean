/- Helpers for walks. -/
import Derived.Test.YtemlkodkohgmmaaDoorYv
namespace Go.Proofs.YtemlkodkohgmmaaDoor.Y
open Go

/-- Operations with effects. -/
def isEff (P : Program) : Op → Bool
  | .alloc _ | .box _ _ | .store _ _ _ | .buildSlice _ _ _ | .makeSlice _ _ _ | .defer _ | .panic _ => true
  | .call { callee := .value _, .. } => true
  | .call { callee := .builtin .append, .. } => true
  | .call { callee := .builtin .copy, .. } => true
  | .call { callee := .builtin .unsafeSliceData, .. } => true
  | .call { callee := .builtin .unsafeString, .. } => true
  | .convert _ d _ => match P.underlying d with
    | some (.slice _) => true
    | _ => false
  | _ => false
def firstIx (p : Nat → Oper → Bool) : Nat → List Oper → Option Nat
  | _, [] => none
  | i, o :: r => match p i o with
    | true => some i
    | false => firstIx p (i + 1) r
/-- Whatever has no effect as soon as it can come; the first effect else. -/
def schedOT (P : Program) (ms : List Nat) (all : List Oper) : Nat → List Nat → List Nat → OT
  | 0, _, _ => .fin
  | f + 1, dom, pu => match firstIx (fun i o => !elemN i dom && (!isEff P o.op && subN (dps o) dom)) 0 all with
    | some i => .pure i (schedOT P ms all f (i :: dom) (match onth all i with
      | some o => match rdHeap o.op with
        | true => i :: pu
        | false => pu
      | none => pu))
    | none => match firstIx (fun i o => !elemN i dom && subN (dps o) dom) 0 all with
      | some i => .eff i (pu.filter fun k => !(nthN ms i).testBit k) (schedOT P ms all f (i :: dom) pu) .nil
      | none => .fin
def seqOT (P : Program) (ms : List Nat) (all : List Oper) (_ : Nat) (_ : List Nat) : OT := schedOT P ms all all.length [] []

/-- A region in the order of the text. -/
theorem VDraw.seq {C : Cx} {rd : Bool} {n0 N : Nat} {all : List Oper} {σ : Sg} {ds : List AD} {H : Hp} {K : Sg → List AD → Hp → Prop} {X : List AP → Sg → List AD → Hp → Prop}
    (h : (C.P.follows .mixedOrders && slotsOK N all (masks all []) && otOK all (masks all []) (seqOT C.P (masks all []) all 0 []) [] [] []) = true)
    (hv : vD C rd all σ K X (seqOT C.P (masks all []) all 0 []) [] ds H) :
    ∃ ot, (C.P.follows .mixedOrders && slotsOK N all (masks all []) && otOK all (masks all []) ot [] [] []) = true ∧
    ((vD C rd all σ K X ot [] ds H) ∨
     ∃ (α : Type) (sl : α → List (Nat × AV)) (hp : α → Hp) (pr : α → Prop),
      vD C rd all σ (fun σ' ds' H' => ∃ x, pr x ∧ Ent C n0 N σ' ds' H' (sets (fun _ => .junk) (sl x)) ds (hp x)) X ot [] ds H ∧
      ∀ x, pr x → K (sets (fun _ => .junk) (sl x)) ds (hp x)) := ⟨_, h, .inl hv⟩

/-- The same; behind it the state is seen as one that is written out. -/
theorem VDraw.seqTo {C : Cx} {rd : Bool} {n0 N : Nat} {all : List Oper} {σ : Sg} {ds : List AD} {H : Hp} {K : Sg → List AD → Hp → Prop} {X : List AP → Sg → List AD → Hp → Prop} (sl : List (Nat × AV)) (hp : Hp)
    (h : (C.P.follows .mixedOrders && slotsOK N all (masks all []) && otOK all (masks all []) (seqOT C.P (masks all []) all 0 []) [] [] []) = true)
    (hv : vD C rd all σ (fun σ' ds' H' => Ent C n0 N σ' ds' H' (sets (fun _ => .junk) sl) ds hp) X (seqOT C.P (masks all []) all 0 []) [] ds H) (hk : K (sets (fun _ => .junk) sl) ds hp) :
    ∃ ot, (C.P.follows .mixedOrders && slotsOK N all (masks all []) && otOK all (masks all []) ot [] [] []) = true ∧
    ((vD C rd all σ K X ot [] ds H) ∨
     ∃ (α : Type) (sl : α → List (Nat × AV)) (hp : α → Hp) (pr : α → Prop),
      vD C rd all σ (fun σ' ds' H' => ∃ x, pr x ∧ Ent C n0 N σ' ds' H' (sets (fun _ => .junk) (sl x)) ds (hp x)) X ot [] ds H ∧
      ∀ x, pr x → K (sets (fun _ => .junk) (sl x)) ds (hp x)) :=
  ⟨_, h, .inr ⟨Unit, fun _ => sl, fun _ => hp, fun _ => True, by
    have e : (fun σ' ds' H' => ∃ _x : Unit, True ∧ Ent C n0 N σ' ds' H' (sets (fun _ => .junk) sl) ds hp) = fun σ' ds' H' => Ent C n0 N σ' ds' H' (sets (fun _ => .junk) sl) ds hp := by
      funext a b c
      exact propext ⟨fun ⟨_, _, h⟩ => h, fun h => ⟨(), trivial, h⟩⟩
    rw [e]; exact hv, fun _ _ => hk⟩⟩

theorem end1 {Q : PEnd → Prop} {v : AV} {H' : Hp} (x : PV) (hm : marksOK H'.l (fsOf H'.l) = true) (hr : Res (marks H'.l (fsOf H'.l)) 5 v x) (hq : Q (.ret [x])) : EndP Q (.returned v) H' := ⟨.ret [x], ⟨hm, v, rfl, hr⟩, hq⟩
theorem end0 {Q : PEnd → Prop} {H' : Hp} (hm : marksOK H'.l (fsOf H'.l) = true) (hq : Q (.ret [])) : EndP Q (.returned (.tup [])) H' := ⟨.ret [], ⟨hm, [], rfl, rfl⟩, hq⟩
theorem end2 {Q : PEnd → Prop} {v1 v2 : AV} {H' : Hp} (x1 x2 : PV) (hm : marksOK H'.l (fsOf H'.l) = true) (h1 : Res (marks H'.l (fsOf H'.l)) 5 v1 x1) (h2 : Res (marks H'.l (fsOf H'.l)) 5 v2 x2) (hq : Q (.ret [x1, x2])) : EndP Q (.returned (.tup [v1, v2])) H' :=
  ⟨.ret [x1, x2], ⟨hm, _, rfl, _, _, rfl, h1, _, _, rfl, h2, rfl⟩, hq⟩
theorem end4 {Q : PEnd → Prop} {v1 v2 v3 v4 : AV} {H' : Hp} (x1 x2 x3 x4 : PV) (hm : marksOK H'.l (fsOf H'.l) = true) (h1 : Res (marks H'.l (fsOf H'.l)) 5 v1 x1) (h2 : Res (marks H'.l (fsOf H'.l)) 5 v2 x2) (h3 : Res (marks H'.l (fsOf H'.l)) 5 v3 x3) (h4 : Res (marks H'.l (fsOf H'.l)) 5 v4 x4) (hq : Q (.ret [x1, x2, x3, x4])) : EndP Q (.returned (.tup [v1, v2, v3, v4])) H' :=
  ⟨.ret [x1, x2, x3, x4], ⟨hm, _, rfl, _, _, rfl, h1, _, _, rfl, h2, _, _, rfl, h3, _, _, rfl, h4, rfl⟩, hq⟩
theorem endX {Q : PEnd → Prop} {v : AV} {H' : Hp} (x : PV) (hm : marksOK H'.l (fsOf H'.l) = true) (hr : Res (marks H'.l (fsOf H'.l)) 5 v x) (hq : Q (.pan x)) : EndP Q (.panicked [⟨v, false⟩]) H' := ⟨.pan x, ⟨hm, v, rfl, hr⟩, hq⟩

variable {C : Cx}
/-- A call on data whose result is known. -/
theorem Pure.eq {g : FuncId} {pargs : List PV} {r : PEnd} {args : List AV} {H : Hp} {Q' : AE → Hp → Prop} (h : Pure C g pargs (· = r)) (ha : args = pargs.map .p) (hQ : Q' (absE r) H) : Holds C g args H Q' := by
  subst ha
  exact h.at fun r' e => by subst e; exact hQ
/-- The same, with objects of the heap among the arguments; the results refer to nothing. -/
theorem Pure.lends {g : FuncId} {pargs : List PV} {r : PEnd} {args : List AV} {H : Hp} {Q' : AE → Hp → Prop} (h : Pure C g pargs (· = r)) (fs : List Nat) (hm : (marksOK H.l fs && flatE r) = true) (ha : ResL (Res (marks H.l fs) 5) args pargs) (hQ : Q' (absE r) H) : Holds C g args H Q' := by
  simp only [Bool.and_eq_true] at hm
  exact h.lend fs hm.1 ha fun r' e => by subst e; exact ⟨hm.2, hQ⟩
theorem Pure.uses {g : FuncId} {pargs : List PV} {r : PEnd} {args : List AV} {H : Hp} {Q' : AE → Hp → Prop} (h : Pure C g pargs (· = r)) (fs : List Nat) (hm : marksOK H.l fs = true) (ha : ResL (Res (marks H.l fs) 5) args pargs) (hQ : Q' (absE r) (H.mrk fs)) : Holds C g args H Q' :=
  h.use fs hm ha fun r' e => by subst e; exact hQ

/-- A call at named objects whose end is known. -/
theorem HoldsG.useE {g : FuncId} {args0 args : List AV} {n0 : Nat} {L0 : List (Nat × AObj)} {H H1 : Hp} {e1 : AE} {Q : AE → Hp → Prop} (h : HoldsG C g args0 ⟨n0, L0⟩ fun e H' => e = e1 ∧ H' = H1) (fs : List Nat) (ps : List (Nat × Nat))
    (hb : (marksOK H.l fs && (List.range n0).all (fun n => Nat.blt (look ps n) H.next) && injOn (rmap 0 ps n0 H.next) [] L0 && nodupK H1.l) = true)
    (hH : SeeH (rmap 0 ps n0 H.next) [] (marks H.l fs) 0 L0) (hA0 : SeeL (rmap 0 ps n0 H.next) [] (marks H.l fs) args args0)
    (hQ : Q (renE (rmap 0 ps n0 H.next) e1) (mrg (rmap 0 ps n0 H.next) n0 L0 (H.mrk fs) H1)) : Holds C g args H Q := by
  rw [Bool.and_eq_true] at hb
  exact h.holds.useN fs ps hb.1 hH hA0 fun e0 H0' hq => by
    obtain ⟨rfl, rfl⟩ := hq
    exact ⟨hb.2, hQ⟩

/-- The end of an iterator of a range over a function. -/
def RangeQ (L : Nat) (σ : Sg) (ds : List AD) (Q : KQ) (e : AE) (H' : Hp) : Prop := match e with
    | .returned _ => match lget H'.l L with
      | some o => match o.c with
        | .lp st pend lim n a b c d dn => match st with
          | .busy => False
          | _ => pendQ pend Q σ ds { H' with l := lset H'.l L { o with c := .lp .exhausted pend lim n a b c d dn } }
        | _ => False
      | none => False
    | .panicked ch => Q (.panic ch) σ ds H'
/-- A range over a function, its record's parts not written out. -/
theorem range_of {N : Nat} {g : FuncId} {first cap : List AV} {σ : Sg} {ds : List AD} {H : Hp} {params : Array Tmp} {as bd : Code} {Q : KQ}
    (h : ∀ (σ' : Sg) (ps : List Tmp) (as' bd' : Code), σ = σ' → params.toList = ps → as = as' → bd = bd' → HoldsG C g (first ++ [.fn (.yield (H.next + 1)) [] []] ++ cap) ((H.push ⟨0, false, .df⟩).push ⟨0, false, .lp .ready none H.next N σ' ps as' bd' H.next⟩) (RangeQ (H.next + 1) σ ds Q)) :
    HoldsG C g (first ++ [.fn (.yield (H.next + 1)) [] []] ++ cap) ((H.push ⟨0, false, .df⟩).push (loopRec H.next σ N params as bd H.next)) (RangeQ (H.next + 1) σ ds Q) := h _ _ _ _ rfl rfl rfl rfl

/-- A loop without objects: nothing but slots. -/
theorem ent0 {n0 N : Nat} {σ : Sg} {ds : List AD} {H H1 : Hp} {l : List (Nat × AV)} (hb : (Nat.ble n0 H1.next && injOn (rmap n0 [] H1.next H.next) [] H1.l) = true) (hS : SeeS (rmap n0 [] H1.next H.next) [] H.l σ l) (hH : SeeH (rmap n0 [] H1.next H.next) [] H.l n0 H1.l) (hD : SeeD (rmap n0 [] H1.next H.next) [] H.l ds ds) :
    Ent C n0 N σ ds H (sets (fun _ => .junk) l) ds H1 := by
  simp only [Bool.and_eq_true] at hb
  exact ent_of [] [] [] (by simp [marksOK, hb.1, hb.2, niOK]) hS hH hD
theorem seeD_nil {ρ : Nat → Nat} {ni : List (Nat × Nat)} {L : List (Nat × AObj)} : SeeD ρ ni L [] [] := rfl

theorem nth_get {α : Type} : ∀ (l : List α) (n : Nat), nth l n = l[n]?
  | [], n => by cases n <;> rfl
  | _ :: _, 0 => rfl
  | _ :: l, n + 1 => nth_get l n
theorem ldInP1 {P : Program} {t : TypeId} {cs : List PV} {f : Nat} {v : PV} (h : aggSz P t = some none) (hv : cs[f]? = some v) : ldInP P t cs f = some v := by
  unfold ldInP; rw [h]; exact (nth_get cs f).trans hv
theorem ldIn1 {P : Program} {t : TypeId} {cs : List AV} {f : Nat} {v : AV} (h : aggSz P t = some none) (hv : cs[f]? = some v) : ldIn P t cs f = some v := by
  unfold ldIn; rw [h]; exact (nth_get cs f).trans hv
theorem wrap8 {n : Int} (h0 : 0 ≤ n) (h1 : n < 256) : n = IntKind.u8.wrap n := by
  simp [IntKind.wrap, IntKind.bits, IntKind.signed]
  omega
end Go.Proofs.YtemlkodkohgmmaaDoor.Y
