/- Contracts; operations with effects; the conditions of a piece of code. -/
import Derived.Test.YtemlkodkohgmmaaDoorYf
namespace Go.Proofs.YtemlkodkohgmmaaDoor.Y
open Go

abbrev Sg := Nat → AV

def upd (σ : Sg) (d : Nat) (v : AV) : Sg := fun t => match Nat.beq t d with
  | true => v
  | false => σ t
theorem upd_same (σ : Sg) (d : Nat) (v : AV) : upd σ d v d = v := by simp [upd]
theorem upd_other (σ : Sg) {d t : Nat} (v : AV) (h : t ≠ d) : upd σ d v t = σ t := by simp only [upd, beq_ne h]
def sets (σ : Sg) : List (Nat × AV) → Sg
  | [] => σ
  | (k, v) :: r => upd (sets σ r) k v

/-- A panic's value; has it been recovered? -/
structure AP where
  v : AV
  rcv : Bool
/-- How a call ends. -/
inductive AE where
  | returned (v : AV)
  | panicked (ch : List AP)
/-- How a piece of code is left. -/
inductive AX where
  | normal
  | exit (id : Nat)
  | goto (l : Nat)
  | ret
  | panic (ch : List AP)
/-- A deferred call; the mark of a range over a function. -/
inductive AD where
  | fn (g : FuncId) (cap args : List AV)
  | col (n : Nat)

def PE (Γ : Gm) (p : AP) (p' : PanicEntry) : Prop := VR Γ p.v p'.v ∧ p'.recovered = p.rcv ∧ p'.goexit = false
def PEL (Γ : Gm) : List AP → List PanicEntry → Prop
  | [], l' => l' = []
  | p :: ps, l' => ∃ q qs, l' = q :: qs ∧ PE Γ p q ∧ PEL Γ ps qs
def ER (Γ : Gm) : AE → Ending → Prop
  | .returned v, e' => ∃ v', e' = .returned v' ∧ VR Γ v v'
  | .panicked c, e' => ∃ c', e' = .panicked c' ∧ PEL Γ c c'

theorem PEL_mono {a b : Gm} (h : a.le b) : ∀ {l : List AP} {l' : List PanicEntry}, PEL a l l' → PEL b l l'
  | [], _, hl => hl
  | p :: ps, _, hl => by
    simp only [PEL] at hl ⊢
    obtain ⟨q, qs, h1, ⟨h2, h3⟩, h4⟩ := hl
    exact ⟨q, qs, h1, ⟨VR_mono h _ _ h2, h3⟩, PEL_mono h h4⟩
theorem ER_mono {a b : Gm} (h : a.le b) {e : AE} {e' : Ending} (he : ER a e e') : ER b e e' := by
  cases e with
  | returned v => obtain ⟨v', h1, h2⟩ := he; exact ⟨v', h1, VR_mono h _ _ h2⟩
  | panicked c => obtain ⟨c', h1, h2⟩ := he; exact ⟨c', h1, PEL_mono h h2⟩

section
variable (C : Cx)

/-- What holds behind a call. -/
def Post (Γ : Gm) (H : Hp) (w : World) (Q : AE → Hp → Prop) (e' : Ending) (w' : World) : Prop :=
  ∃ e H' Γ', Q e H' ∧ ER Γ' e e' ∧ Later C H.next Γ H w Γ' H' w'

/-- A CONTRACT: called with these abstract arguments in this abstract heap, the function ends as Q says. -/
def Holds (g : FuncId) (args : List AV) (H : Hp) (Q : AE → Hp → Prop) : Prop :=
  ∀ (Γ : Gm) (w : World) (args' : List Value), R C Γ H w → VRL Γ args args' →
    ((callFunc g ⟨args'⟩).run C.P w = .ok (.enter g ⟨args'⟩) w ∧ Calls C.P g ⟨args'⟩ w (Post C Γ H w Q)) ∨
    (∃ v' w', (callFunc g ⟨args'⟩).run C.P w = .ok (.value v') w' ∧ Post C Γ H w Q (.returned v') w')

/-- The same, of a function with a body. -/
def HoldsG (g : FuncId) (args : List AV) (H : Hp) (Q : AE → Hp → Prop) : Prop :=
  ∀ (Γ : Gm) (w : World) (args' : List Value), R C Γ H w → VRL Γ args args' →
    (callFunc g ⟨args'⟩).run C.P w = .ok (.enter g ⟨args'⟩) w ∧ Calls C.P g ⟨args'⟩ w (Post C Γ H w Q)
theorem HoldsG.holds {C : Cx} {g : FuncId} {args : List AV} {H : Hp} {Q : AE → Hp → Prop} (h : HoldsG C g args H Q) : Holds C g args H Q :=
  fun Γ w args' hR hA => .inl (h Γ w args' hR hA)

def Fz (ro : Option Nat) : Fence := { Fence.wide with round := ro }

/-- A call of a range's yield. -/
def RoundH (L : Nat) (args : List AV) (H : Hp) (Q : AE → Hp → Prop) : Prop :=
  ∀ (Γ : Gm) (w : World) (args' : List Value) (ro : Option Nat), R C Γ H w → VRL Γ args args' →
    ∃ q f tmps as bd, Γ.nm L = some q ∧ (Instr.yield q.blk ⟨args'⟩).run C.P w = .ok (.round q.blk f tmps as bd) w ∧ RoundIn (Fz ro) 0 C.P q.blk f tmps as bd w (Post C Γ H w Q)

theorem Post.mono {C : Cx} {Γ : Gm} {H : Hp} {w : World} {Q Q' : AE → Hp → Prop} (hq : ∀ e H', Q e H' → Q' e H') {e : Ending} {w' : World} (h : Post C Γ H w Q e w') : Post C Γ H w Q' e w' := by
  obtain ⟨e0, H', Γ', h1, h2⟩ := h
  exact ⟨e0, H', Γ', hq _ _ h1, h2⟩

theorem Holds.mono {C : Cx} {g : FuncId} {args : List AV} {H : Hp} {Q Q' : AE → Hp → Prop} (h : Holds C g args H Q) (hq : ∀ e H', Q e H' → Q' e H') : Holds C g args H Q' := by
  intro Γ w args' hR hA
  rcases h Γ w args' hR hA with ⟨h1, h2⟩ | ⟨v', w', h1, h2⟩
  · exact .inl ⟨h1, h2.mono fun _ _ => Post.mono hq⟩
  · exact .inr ⟨v', w', h1, h2.mono hq⟩

def evl (σ : Sg) : Operand → AV
  | .tmp t => σ t
  | .const v => match absV v with
    | some x => .p x
    | none => .junk
  | .global g => match gget C.gt g with
    | some cs => .p (.fp cs)
    | none => .junk
  | .func f => .p (.fn (.func f) [] [])

def pl : AV → Bool
  | .p (.agg _) | .agg _ | .tup _ | .junk => false
  | _ => true

def byOf (t : TypeId) : Option Nat := (C.P.info? t).map (·.bytes)

abbrev KH := AV → Hp → Prop

abbrev und : AV := .tup []

def eBoxC (t : TypeId) (cs : List AV) (H : Hp) (K : KH) : Prop :=
  match szOf C.P t with
  | some s => match Nat.blt 0 s && Nat.beq cs.length s && cs.all pl with
    | true => K (.ptr H.next 0 0) (H.push ⟨t, false, .bx cs⟩)
    | false => False
  | none => False

def eAlloc (t : TypeId) (H : Hp) (K : KH) : Prop :=
  match zeroOf C.P t with
  | some z => eBoxC C t (vCells (.p z)) H K
  | none => False

def eBox (t : TypeId) (v : AV) (H : Hp) (K : KH) : Prop :=
  match known v with
  | true => eBoxC C t (vCells v) H K
  | false => False

def eStore (t : TypeId) (a v : AV) (H : Hp) (K : KH) : Prop :=
  match szOf C.P t with
  | some s => match known v && Nat.beq (vCells v).length s && (vCells v).all pl with
    | true => match a with
      | .ptr n i f => match lget H.l n with
        | some o => match o.fr with
          | true => False
          | false => match o.c with
            | .bx cs => match Nat.beq i 0 && Nat.ble (f + s) cs.length with
              | true => K und { H with l := lset H.l n { o with c := .bx (spl cs f (vCells v)) } }
              | false => False
            | .pu xs => match Nat.beq f 0 && pl v, v with
              | true, .p x => i < xs.length ∧ K und { H with l := lset H.l n { o with c := .pu (xs.set i x) } }
              | _, _ => False
            | .pus xss => match allP (vCells v) with
              | some ps => ∃ cs, xss[i]? = some cs ∧ f + s ≤ cs.length ∧ K und { H with l := lset H.l n { o with c := .pus (xss.set i (spl cs f ps)) } }
              | none => False
            | .mx xs => match Nat.beq f 0 && Nat.blt i xs.length && pl v with
              | true => K und { H with l := lset H.l n { o with c := .mx (spl xs i [v]) } }
              | false => False
            | _ => False
        | none => False
      | .ptd n i f => match lget H.l n with
        | some o => match o.fr with
          | true => False
          | false => match o.c with
            | .bx cs => match Nat.beq i 0 with
              | true => f + s ≤ cs.length ∧ K und { H with l := lset H.l n { o with c := .bx (spl cs f (vCells v)) } }
              | false => False
            | _ => False
        | none => False
      | _ => False
    | false => False
  | none => False

def mkz {α : Type} : Nat → List α → List α
  | 0, _ => []
  | n + 1, z => z ++ mkz n z

/-- Elements of s cells. -/
def chunks {α : Type} (s : Nat) : Nat → List α → List (List α)
  | 0, _ => []
  | n + 1, l => l.take s :: chunks s n (l.drop s)

/-- What a slice's cells are. -/
def cnOf (s len : Nat) (cs : List AV) : Option Cn :=
  match allP cs with
  | some ps => match Nat.beq s 1 with
    | true => some (.pu ps)
    | false => some (.pus (chunks s len ps))
  | none => match Nat.beq s 1 with
    | true => some (.mx cs)
    | false => none

def eBuild (t : TypeId) (len : Nat) (parts : List (Nat × Operand)) (ev : Operand → AV) (H : Hp) (K : KH) : Prop :=
  match C.P.underlying t with
  | some (.slice e) =>
    match szOf C.P e, zeroOf C.P e with
    | some s, some z =>
      match Nat.ble (len * s) 16777216 && Nat.beq (vCells (.p z)).length s && Nat.blt 0 s && parts.all (fun p => known (ev p.2)) with
      | true => match bld ev (fun i => some (i * s, s)) (mkz len (vCells (.p z))) parts with
        | some cs => match cs.all pl, cnOf s len cs with
          | true, some c => K (.sl H.next s 0 len) (H.push ⟨e, false, c⟩)
          | _, _ => False
        | none => False
      | false => False
    | _, _ => False
  | _ => False

def eMake (t : TypeId) (l c : AV) (H : Hp) (K : KH) : Prop :=
  match C.P.underlying t, l, c with
  | some (.slice e), .p (.int _ l), .p (.int _ c) =>
    match szOf C.P e, zeroOf C.P e, byOf C e with
    | some s, some z, some b =>
      match Nat.beq (vCells (.p z)).length s && Nat.blt 0 s && (vCells (.p z)).all pl with
      | true => (0 ≤ l ∧ l ≤ c ∧ c * b ≤ 281474976710656 ∧ c ≤ 281474976710656) ∧
        match Nat.beq s 1 && pl (.p z) with
        | true => K (.sl H.next s 0 l.toNat) (H.push ⟨e, false, .pu (List.replicate l.toNat z)⟩)
        | false => K (.sl H.next s 0 l.toNat) (H.push ⟨e, false, .pus (List.replicate l.toNat (pCells z))⟩)
      | false => False
    | _, _, _ => False
  | _, _, _ => False

/-- Some elements of an object. -/
def part1 (c : Cn) (off len : Nat) (K : Cn → Prop) : Prop :=
  match c with
  | .pu xs => off + len ≤ xs.length ∧ ∃ ys, ys = (xs.drop off).take len ∧ K (.pu ys)
  | .pus xss => off + len ≤ xss.length ∧ ∃ ys, ys = (xss.drop off).take len ∧ K (.pus ys)
  | .mx xs => match getN xs off len with
    | some ys => K (.mx ys)
    | none => False
  | _ => False

/-- Objects that nobody writes any more. -/
def marks (l : List (Nat × AObj)) : List Nat → List (Nat × AObj)
  | [] => l
  | n :: r => match lget l n with
    | some o => marks (lset l n { o with fr := true }) r
    | none => marks l r
def marksOK (l : List (Nat × AObj)) : List Nat → Bool
  | [] => true
  | n :: r => match lget l n with
    | some o => isCells o.c && marksOK (lset l n { o with fr := true }) r
    | none => false
def Hp.mrk (H : Hp) (fs : List Nat) : Hp := { H with l := marks H.l fs }

def ResL (f : AV → PV → Prop) : List AV → List PV → Prop
  | [], ys => ys = []
  | v :: vs, ys => ∃ y ys', ys = y :: ys' ∧ f v y ∧ ResL f vs ys'

/-- A value, seen as data: what it refers to is not written any more. -/
def Res (L : List (Nat × AObj)) : Nat → AV → PV → Prop
  | 0, v, x => match v with
    | .p y => x = y
    | _ => False
  | d + 1, v, x => match v with
    | .p .nils => x = .nils ∨ x = .lst [] ∨ ∃ s, x = .lsts s []
    | .p y => x = y
    | .sl n s off len => match lget L n with
      | some o => match o.fr with
        | false => False
        | true => match o.c with
          | .pu xs => ∃ ys, x = .lst ys ∧ off + len ≤ xs.length ∧ ys = (xs.drop off).take len
          | .pus xss => ∃ ys, x = .lsts s ys ∧ off + len ≤ xss.length ∧ ys = (xss.drop off).take len
          | .mx vs => ∃ us ys, getN vs off len = some us ∧ x = .lst ys ∧ ResL (Res L d) us ys
          | _ => False
      | none => False
    | .ptr n i f => match lget L n, Nat.beq i 0 && Nat.beq f 0 with
      | some o, true => match o.fr with
        | false => False
        | true => match o.c with
          | .bx cs => ∃ ys, x = .fp ys ∧ ResL (Res L d) cs ys
          | _ => False
      | _, _ => False
    | .fn f a b => fnOK f = true ∧ ∃ a' b', x = .fn f a' b' ∧ ResL (Res L d) a a' ∧ ResL (Res L d) b b'
    | .iface t v => ∃ y, x = .iface t y ∧ Res L d v y
    | .agg cs => ∃ ys, x = .agg ys ∧ ResL (Res L d) cs ys
    | _ => False

/-- What is appended or copied. -/
def eSrc (s : Nat) (x : AV) (H : Hp) (K : Nat → Cn → Hp → Prop) : Prop :=
  match x with
  | .p .nils => match Nat.beq s 1 with
    | true => K 0 (.pu []) H
    | false => K 0 (.pus []) H
  | .p (.lst xs) => match Nat.beq s 1 with
    | true => K xs.length (.pu xs) H
    | false => False
  | .p (.lsts s' xss) => match Nat.beq s s' && !Nat.beq s 1 with
    | true => K xss.length (.pus xss) H
    | false => False
  | .sl n s' off len => match lget H.l n, Nat.beq s s' with
    | some o, true => part1 o.c off len fun c => match c with
      | .mx vs => (∃ fs ps, marksOK H.l fs = true ∧ ResL (Res (marks H.l fs) 5) vs ps ∧ K len (.pu ps) (H.mrk fs)) ∨ K len (.mx vs) H
      | c => K len c H
    | _, _ => False
  | .p (.str str) => match Nat.beq s 1 with
    | true => K str.length (.pu (str.map ub)) H
    | false => False
  | _ => False

/-- Two runs of elements, one behind the other. -/
def joinC (a b : Cn) (K : Cn → Prop) : Prop :=
  match a, b with
  | .pu xs, .pu ys => ∃ zs, zs = xs ++ ys ∧ K (.pu zs)
  | .pus xs, .pus ys => ∃ zs, zs = xs ++ ys ∧ K (.pus zs)
  | .mx xs, .mx ys => K (.mx (xs ++ ys))
  | .pu [], .mx ys => K (.mx ys)
  | _, _ => False

def eAppend (t : TypeId) (sv x : AV) (H : Hp) (K : KH) : Prop :=
  match C.P.underlying t with
  | some (.slice e) =>
    match szOf C.P e, zeroOf C.P e, byOf C e with
    | some s, some z, some b =>
      match Nat.beq (vCells (.p z)).length s && Nat.blt 0 s && Nat.blt 0 b && (vCells (.p z)).all pl with
      | true =>
        match sv with
        | .p .nils => eSrc s x H fun m c H1 => m * b ≤ 140737488355328 ∧ K (.sl H1.next s 0 m) (H1.push ⟨e, false, c⟩)
        | .sl n s' off len =>
          match Nat.beq s s' && Nat.beq off 0 with
          | true => eSrc s x H fun m c1 H1 => match lget H1.l n with
            | some o => match o.fr || !Nat.beq o.t e with
              | true => False
              | false => part1 o.c 0 len fun c0 => (len + m) * b ≤ 140737488355328 ∧ joinC c0 c1 fun c =>
                K (.sl H1.next s 0 (len + m)) (Hp.push { H1 with l := ldel H1.l n } ⟨e, false, c⟩)
            | none => False
          | false => False
        | _ => False
      | false => False
    | _, _, _ => False
  | _ => False

/-- What a copy leaves (of sources that are not longer). -/
def putC (a : Cn) (off len m : Nat) (b : Cn) (K : Cn → Prop) : Prop :=
  match a, b with
  | .pu xs, .pu ys => (off + len ≤ xs.length ∧ m ≤ len) ∧ ∃ zs, zs = spl xs off ys ∧ K (.pu zs)
  | _, _ => False

def eCopy (t : TypeId) (d x : AV) (H : Hp) (K : KH) : Prop :=
  match C.P.underlying t with
  | some (.slice e) => match szOf C.P e with
    | some s => match d with
      | .sl n s' off len => match Nat.beq s s' && Nat.blt 0 s with
        | true => eSrc s x H fun m c H1 => match lget H1.l n with
          | some o => match o.fr with
            | true => False
            | false => putC o.c off len m c fun c' => K (vI .i64 m) { H1 with l := lset H1.l n { o with c := c' } }
          | none => False
        | false => False
      | _ => False
    | none => False
  | _ => False

/-- Where a slice's array lies. -/
def eData (ty : TypeId) (x : AV) (H : Hp) (K : KH) : Prop :=
  match C.P.underlying ty with
  | some (.pointer _) => match x with
    | .p .nils => K (.p .nilp) H
    | .sl n _ off len => match lget H.l n with
      | some o => match isCells o.c with
        | true => (0 < len → K (.ptr n off 0) H) ∧ (len = 0 → K .anyp H)
        | false => False
      | none => False
    | _ => False
  | _ => False

/-- A string over bytes that nobody writes any more. -/
def eUStr (pt : TypeId) (p n : AV) (H : Hp) (K : KH) : Prop :=
  match n with
  | .p (.int k m) => match k == .i64 with
    | false => False
    | true => match p with
      | .p .nilp => m = 0 ∧ K (vS []) H
      | .anyp => m = 0 ∧ K (vS []) H
      | .ptr a i f => match Nat.beq i 0 && Nat.beq f 0, lget H.l a with
        | true, some o => match C.P.underlying pt with
          | some (.pointer e) => match o.fr || !Nat.beq o.t e || !Nat.beq (C.P.cellsOf e) 1 with
            | true => False
            | false => match o.c with
              | .pu xs => ∃ s : List UInt8, s ≠ [] ∧ m = s.length ∧ s.length ≤ 9223372036854775807 ∧ s.length ≤ xs.length ∧ xs.take s.length = s.map ub ∧ K (vS s) { H with l := ldel H.l a }
              | _ => False
          | _ => False
        | _, _ => False
      | _ => False
  | _ => False

def eBytes (s e : TypeId) (x : AV) (H : Hp) (K : KH) : Prop :=
  match C.P.underlying s, C.P.underlying e, szOf C.P e with
  | some .string, some (.int k), some z => match k == .u8 && Nat.beq z 1, x with
    | true, .p (.str b) => K (.sl H.next 1 0 b.length) (H.push ⟨e, false, .pu (b.map ub)⟩)
    | _, _ => False
  | _, _, _ => False

def ePanic (v : AV) (X : List AP → Prop) : Prop :=
  match ifParts v with
  | some (some _) => X [⟨v, false⟩]
  | _ => False

def notInt (t : TypeId) : Bool :=
  match C.P.underlying t with
  | some (.slice _) => true
  | some .string => true
  | _ => false

/-- What a value is as a function. -/
def fnOf : AV → Option (Fn × List AV × List AV)
  | .fn f a b => some (f, a, b)
  | .p (.fn f a b) => some (f, a.map .p, b.map .p)
  | _ => none

def onE (K : AV → Hp → Prop) (X : List AP → Hp → Prop) : AE → Hp → Prop
  | .returned v, H' => K v H'
  | .panicked ch, H' => X ch H'

def vOp (rd : Bool) (o : Oper) (σ : Sg) (ds : List AD) (H : Hp) (K : AV → List AD → Hp → Prop) (X : List AP → Hp → Prop) : Prop :=
  match o.op with
  | .alloc t => eAlloc C t H fun v H' => K v ds H'
  | .box t x => eBox C t (evl C σ x) H fun v H' => K v ds H'
  | .store t a x => eStore C t (evl C σ a) (evl C σ x) H fun v H' => K v ds H'
  | .buildSlice t n parts => eBuild C t n parts.toList (evl C σ) H fun v H' => K v ds H'
  | .makeSlice t l c => eMake C t (evl C σ l) (evl C σ c) H fun v H' => K v ds H'
  | .call { callee := .value f, args, .. } =>
    match fnOf (evl C σ f) with
    | some (.func g, first, cap) => Holds C g (first ++ args.toList.map (evl C σ) ++ cap) H (onE (fun v H' => K v ds H') X)
    | some (.yield L, [], []) => RoundH C L (args.toList.map (evl C σ)) H (onE (fun v H' => K v ds H') X)
    | _ => False
  | .call { callee := .builtin .append, args, argTypes } =>
    match args.toList, argTypes.toList with
    | [s, x], [t, t'] => match notInt C t' with
      | true => eAppend C t (evl C σ s) (evl C σ x) H fun v H' => K v ds H'
      | false => False
    | _, _ => False
  | .call { callee := .builtin .copy, args, argTypes } =>
    match args.toList, argTypes.toList with
    | [s, x], [t, _] => eCopy C t (evl C σ s) (evl C σ x) H fun v H' => K v ds H'
    | _, _ => False
  | .call { callee := .builtin .unsafeSliceData, args, .. } =>
    match args.toList with
    | [x] => eData C o.type (evl C σ x) H fun v H' => K v ds H'
    | _ => False
  | .call { callee := .builtin .unsafeString, args, argTypes } =>
    match args.toList, argTypes.toList with
    | [p, n], [t, _] => eUStr C t (evl C σ p) (evl C σ n) H fun v H' => K v ds H'
    | _, _ => False
  | .convert s d x => match C.P.underlying d with
    | some (.slice e) => eBytes C s e (evl C σ x) H fun v H' => K v ds H'
    | _ => (pop C.P (.convert s d x) (evl C σ) (lget H.l)).Then fun v => K v ds H
  | .defer { callee := .value f, args, .. } =>
    match rd, fnOf (evl C σ f) with
    | false, some (.func g, first, cap) => K und (.fn g cap (first ++ args.toList.map (evl C σ)) :: ds) H
    | _, _ => False
  | .panic x => ePanic (evl C σ x) fun ch => X ch H
  | op => (pop C.P op (evl C σ) (lget H.l)).Then fun v => K v ds H

def onth : List Oper → Nat → Option Oper
  | [], _ => none
  | x :: _, 0 => some x
  | _ :: l, n + 1 => onth l n

/-- Is the operation carried out? -/
def gd (all : List Oper) (o : Oper) (σ : Sg) : Option Bool :=
  match o.guard with
  | none => some true
  | some (j, want) => match onth all j with
    | some oj => match oj.dst with
      | some d => match σ d with
        | .p (.bool b) => some (b == want)
        | .tup _ => some false
        | _ => none
      | none => none
    | none => none

/-- A value is put down in head form: the same, but nothing is worked out twice. -/
def force (v : AV) (K : AV → Prop) : Prop :=
  match v with
  | .p x => match x with
    | .int k n => K (.p (.int k n))
    | .bool b => K (.p (.bool b))
    | .str s => K (.p (.str s))
    | .agg cs => K (.p (.agg cs))
    | x => K (.p x)
  | .ptr n i f => K (.ptr n i f)
  | .sl n s off len => K (.sl n s off len)
  | .agg cs => K (.agg cs)
  | .tup cs => K (.tup cs)
  | v => K v
theorem force_eq {v : AV} {K : AV → Prop} (h : force v K) : K v := by
  unfold force at h
  split at h
  · split at h <;> exact h
  all_goals exact h

def vput (N : Nat) (dst : Option Tmp) (σ : Sg) (v : AV) (K : Sg → Prop) : Prop :=
  match dst with
  | none => K σ
  | some d => match Nat.blt d N with
    | true => force v fun v => K (upd σ d v)
    | false => False

/-- (By its recursor: the kernel then sees the same as the elaborator.) -/
noncomputable def vOps (rd : Bool) (N : Nat) (all : List Oper) (l : List Oper) : Sg → List AD → Hp → (Sg → List AD → Hp → Prop) → (List AP → Sg → List AD → Hp → Prop) → Prop :=
  List.rec (motive := fun _ => Sg → List AD → Hp → (Sg → List AD → Hp → Prop) → (List AP → Sg → List AD → Hp → Prop) → Prop)
    (fun σ ds H K _ => K σ ds H)
    (fun o _ ih σ ds H K X => match gd all o σ with
      | some true => vOp C rd o σ ds H (fun v ds' H' => vput N o.dst σ v fun σ' => ih σ' ds' H' K X) (fun ch H' => X ch σ ds H')
      | some false => vput N o.dst σ und fun σ' => ih σ' ds H K X
      | none => False) l
theorem vOps_nil (rd : Bool) (N : Nat) (all : List Oper) (σ : Sg) (ds : List AD) (H : Hp) (K : Sg → List AD → Hp → Prop) (X : List AP → Sg → List AD → Hp → Prop) : vOps C rd N all [] σ ds H K X = K σ ds H := rfl
theorem vOps_cons (rd : Bool) (N : Nat) (all : List Oper) (o : Oper) (r : List Oper) (σ : Sg) (ds : List AD) (H : Hp) (K : Sg → List AD → Hp → Prop) (X : List AP → Sg → List AD → Hp → Prop) : vOps C rd N all (o :: r) σ ds H K X = (match gd all o σ with
    | some true => vOp C rd o σ ds H (fun v ds' H' => vput N o.dst σ v fun σ' => vOps C rd N all r σ' ds' H' K X) (fun ch H' => X ch σ ds H')
    | some false => vput N o.dst σ und fun σ' => vOps C rd N all r σ' ds H K X
    | none => False) := rfl

abbrev KQ := AX → Sg → List AD → Hp → Prop

/-! ### States -/
def DR (Γ : Gm) (d : AD) (d' : Deferred) : Prop :=
  match d with
  | .fn f cap args => ∃ cap' args', d' = { target := .fn (.func f) cap', args := args' } ∧ VRL Γ cap cap'.toList ∧ VRL Γ args args'.toList
  | .col n => ∃ q, Γ.nm n = some q ∧ d' = { target := .collected q.blk, args := #[] }
def DRL (Γ : Gm) : List AD → List Deferred → Prop
  | [], l' => l' = []
  | d :: ds, l' => ∃ u us, l' = u :: us ∧ DR Γ d u ∧ DRL Γ ds us

theorem DR_mono {a b : Gm} (h : a.le b) {d : AD} {d' : Deferred} (hd : DR a d d') : DR b d d' := by
  cases d with
  | fn f cap args => obtain ⟨cap', args', h1, h2, h3⟩ := hd; exact ⟨cap', args', h1, VRL_mono h _ _ h2, VRL_mono h _ _ h3⟩
  | col n => obtain ⟨q, h1, h2⟩ := hd; exact ⟨q, h.nm _ _ h1, h2⟩
theorem DRL_mono {a b : Gm} (h : a.le b) : ∀ {l : List AD} {l' : List Deferred}, DRL a l l' → DRL b l l'
  | [], _, hl => hl
  | d :: ds, _, hl => by
    simp only [DRL] at hl ⊢
    obtain ⟨u, us, h1, h2, h3⟩ := hl
    exact ⟨u, us, h1, DR_mono h h2, DRL_mono h h3⟩

/-- The slots and the deferred calls. -/
structure SR (Γ : Gm) (σ : Sg) (ds : List AD) (N : Nat) (a : Act) : Prop where
  size : a.tmps.size = N
  tm : ∀ t, VR Γ (σ t) (a.tmps.getD t undef)
  df : DRL Γ ds a.defers

/-- One abstract state may be seen as another one. -/
def Ent (n0 N : Nat) (σ : Sg) (ds : List AD) (H : Hp) (σ' : Sg) (ds' : List AD) (H' : Hp) : Prop :=
  ∀ (Γ : Gm) (w : World) (a : Act), n0 ≤ H.next → R C Γ H w → SR Γ σ ds N a → ∃ Γ', SR Γ' σ' ds' N a ∧ Later C n0 Γ H w Γ' H' w

/-! ### Regions that draw their order -/
/-- In which order a region is gone through: operations without effects ahead, effects when they are the only ones that can come. -/
inductive OT where
  | fin
  | pure (i : Nat) (t : OT)
  | eff (i : Nat) (hs : List Nat) (t alt : OT)
  | nil

structure En where
  i : Nat
  o : Oper
  v : AV
  sy : Bool

def elemN : Nat → List Nat → Bool
  | _, [] => false
  | n, m :: r => match Nat.beq n m with
    | true => true
    | false => elemN n r

def dps (o : Oper) : List Nat := (o.after.toList.filter (Region.binds .any)).map (·.on)

def tmpsOf : List Operand → List Nat
  | [] => []
  | .tmp t :: r => t :: tmpsOf r
  | _ :: r => tmpsOf r

def gslot (all : List Oper) (o : Oper) : List Nat :=
  match o.guard with
  | none => []
  | some (j, _) => match onth all j with
    | some oj => match oj.dst with
      | some d => [d]
      | none => []
    | none => []

/-- The slots that an operation looks at. -/
def looks (all : List Oper) (o : Oper) : List Nat := gslot all o ++ tmpsOf o.op.operands.toList

def rst (l : List Nat) (σ : Sg) : Sg := fun t => match elemN t l with
  | true => σ t
  | false => .junk

def ap (σ0 : Sg) : List En → Sg
  | [] => σ0
  | e :: L => match e.o.dst with
    | none => ap σ0 L
    | some d => upd (ap σ0 L) d e.v

def dstsOf : List Oper → List Nat
  | [] => []
  | o :: r => match o.dst with
    | none => dstsOf r
    | some d => d :: dstsOf r

/-- The slots that the region does not write. -/
def unw (all : List Oper) (σ : Sg) : Sg := fun t => match elemN t (dstsOf all) with
  | true => .junk
  | false => σ t

def rdHeap : Op → Bool
  | .load .. => true
  | .call _ => true
  | .convert .. => true
  | _ => false

def lkO (op : Op) (H : Hp) : Nat → Option AObj := match rdHeap op with
  | true => lget H.l
  | false => fun _ => none

def HeldAt (all : List Oper) (σ0 : Sg) (H : Hp) (e : En) (L : List En) : Prop :=
  match gd all e.o (rst (looks all e.o) (ap σ0 L)) with
  | some true => (pop C.P e.o.op (evl C (rst (looks all e.o) (ap σ0 L))) (lkO e.o.op H)).Yld e.v
  | some false => e.v = und
  | none => False

/-- What has been read ahead is read behind the effect just so. -/
def Held (all : List Oper) (σ0 : Sg) (hs : List Nat) (H : Hp) : List En → Prop
  | [] => True
  | e :: L => match elemN e.i hs with
    | true => HeldAt C all σ0 H e L ∧ Held all σ0 hs H L
    | false => Held all σ0 hs H L

noncomputable def vD (rd : Bool) (all : List Oper) (σ0 : Sg) (K : Sg → List AD → Hp → Prop) (X : List AP → Sg → List AD → Hp → Prop) (ot : OT) : List En → List AD → Hp → Prop :=
  OT.rec (motive := fun _ => List En → List AD → Hp → Prop)
    (fun L ds H => K (ap σ0 L) ds H)
    (fun i _ ih L ds H =>
      match onth all i with
      | none => False
      | some o => match gd all o (rst (looks all o) (ap σ0 L)) with
        | some true => (pop C.P o.op (evl C (rst (looks all o) (ap σ0 L))) (lkO o.op H)).Then fun v => ih (⟨i, o, v, false⟩ :: L) ds H
        | some false => ih (⟨i, o, und, false⟩ :: L) ds H
        | none => False)
    (fun i hs _ alt ih ihA L ds H =>
      match alt with
      | .nil => (match onth all i with
        | none => False
        | some o => match gd all o (rst (looks all o) (ap σ0 L)) with
          | some true => vOp C rd o (rst (looks all o) (ap σ0 L)) ds H
              (fun v ds' H' => match hs with
                | [] => ih (⟨i, o, v, true⟩ :: L) ds' H'
                | hs => Held C all σ0 hs H' L ∧ ih (⟨i, o, v, true⟩ :: L) ds' H')
              (fun ch H' => X ch (unw all σ0) ds H')
          | some false => ih (⟨i, o, und, true⟩ :: L) ds H
          | none => False)
      | _ => (match onth all i with
        | none => False
        | some o => match gd all o (rst (looks all o) (ap σ0 L)) with
          | some true => vOp C rd o (rst (looks all o) (ap σ0 L)) ds H
              (fun v ds' H' => match hs with
                | [] => ih (⟨i, o, v, true⟩ :: L) ds' H'
                | hs => Held C all σ0 hs H' L ∧ ih (⟨i, o, v, true⟩ :: L) ds' H')
              (fun ch H' => X ch (unw all σ0) ds H')
          | some false => ih (⟨i, o, und, true⟩ :: L) ds H
          | none => False) ∧ ihA L ds H)
    (fun _ _ _ => True) ot
theorem vD_fin (rd : Bool) (all : List Oper) (σ0 : Sg) (K : Sg → List AD → Hp → Prop) (X : List AP → Sg → List AD → Hp → Prop) (L : List En) (ds : List AD) (H : Hp) : vD C rd all σ0 K X .fin L ds H = K (ap σ0 L) ds H := rfl
theorem vD_pure (rd : Bool) (all : List Oper) (σ0 : Sg) (K : Sg → List AD → Hp → Prop) (X : List AP → Sg → List AD → Hp → Prop) (i : Nat) (t : OT) (L : List En) (ds : List AD) (H : Hp) : vD C rd all σ0 K X (.pure i t) L ds H = (match onth all i with
    | none => False
    | some o => match gd all o (rst (looks all o) (ap σ0 L)) with
      | some true => (pop C.P o.op (evl C (rst (looks all o) (ap σ0 L))) (lkO o.op H)).Then fun v => vD C rd all σ0 K X t (⟨i, o, v, false⟩ :: L) ds H
      | some false => vD C rd all σ0 K X t (⟨i, o, und, false⟩ :: L) ds H
      | none => False) := rfl
theorem vD_eff (rd : Bool) (all : List Oper) (σ0 : Sg) (K : Sg → List AD → Hp → Prop) (X : List AP → Sg → List AD → Hp → Prop) (i : Nat) (hs : List Nat) (t alt : OT) (L : List En) (ds : List AD) (H : Hp) : vD C rd all σ0 K X (.eff i hs t alt) L ds H = (
    let it : Prop := match onth all i with
      | none => False
      | some o => match gd all o (rst (looks all o) (ap σ0 L)) with
        | some true => vOp C rd o (rst (looks all o) (ap σ0 L)) ds H
            (fun v ds' H' => match hs with
              | [] => vD C rd all σ0 K X t (⟨i, o, v, true⟩ :: L) ds' H'
              | hs => Held C all σ0 hs H' L ∧ vD C rd all σ0 K X t (⟨i, o, v, true⟩ :: L) ds' H')
            (fun ch H' => X ch (unw all σ0) ds H')
        | some false => vD C rd all σ0 K X t (⟨i, o, und, true⟩ :: L) ds H
        | none => False
    match alt with
    | .nil => it
    | _ => it ∧ vD C rd all σ0 K X alt L ds H) := by cases alt <;> rfl
theorem vD_nil (rd : Bool) (all : List Oper) (σ0 : Sg) (K : Sg → List AD → Hp → Prop) (X : List AP → Sg → List AD → Hp → Prop) (L : List En) (ds : List AD) (H : Hp) : vD C rd all σ0 K X .nil L ds H = True := rfl

/-- The masks of what comes ahead of each operation. -/
def nthN : List Nat → Nat → Nat
  | [], _ => 0
  | x :: _, 0 => x
  | _ :: l, n + 1 => nthN l n
def maskOf (acc : List Nat) : List Nat → Nat
  | [] => 0
  | d :: r => 2 ^ d ||| nthN acc d ||| maskOf acc r
def masks : List Oper → List Nat → List Nat
  | [], acc => acc
  | o :: r, acc => masks r (acc ++ [maskOf acc (dps o)])

def allIx (f : Nat → Oper → Bool) : Nat → List Oper → Bool
  | _, [] => true
  | n, o :: r => f n o && allIx f (n + 1) r

/-- Who writes a slot that another one looks at or writes comes ahead of it or behind it; slots lie in their range. -/
def slotsOK (N : Nat) (all : List Oper) (ms : List Nat) : Bool :=
  allIx (fun j oj => match oj.dst with
    | none => true
    | some d => Nat.blt d N && allIx (fun i oi => Nat.beq i j || !(elemN d (looks all oi) || oi.dst == some d) || (nthN ms i).testBit j || (nthN ms j).testBit i) 0 all) 0 all

def subN (l dom : List Nat) : Bool := l.all fun d => elemN d dom

/-- The order is one that can be, and no other effect can come. -/
def otOK (all : List Oper) (ms : List Nat) : OT → List Nat → List Nat → List Nat → Bool
  | .fin, dom, _, _ => allIx (fun i _ => elemN i dom) 0 all
  | .pure i t, dom, pu, _ => !elemN i dom && (match onth all i with
    | some o => subN (dps o) dom && otOK all ms t (i :: dom) (match rdHeap o.op with
      | true => i :: pu
      | false => pu) []
    | none => false)
  | .eff i hs t alt, dom, pu, es => !elemN i dom && (match onth all i with
    | some o => subN (dps o) dom && pu.all (fun k => elemN k hs || (nthN ms i).testBit k) && otOK all ms t (i :: dom) pu [] && (match alt with
      | .eff .. => otOK all ms alt dom pu (i :: es)
      | .nil => allIx (fun k ok => elemN k dom || elemN k (i :: es) || (dps ok).any (fun d => !elemN d dom)) 0 all
      | _ => false)
    | none => false)
  | .nil, _, _, _ => false

/-- A region in any order. -/
def VDraw (rd : Bool) (n0 N : Nat) (all : List Oper) (σ : Sg) (ds : List AD) (H : Hp) (K : Sg → List AD → Hp → Prop) (X : List AP → Sg → List AD → Hp → Prop) : Prop :=
  ∃ ot, (C.P.follows .mixedOrders && slotsOK N all (masks all []) && otOK all (masks all []) ot [] [] []) = true ∧
    ((vD C rd all σ K X ot [] ds H) ∨
     ∃ (α : Type) (sl : α → List (Nat × AV)) (hp : α → Hp) (pr : α → Prop),
      vD C rd all σ (fun σ' ds' H' => ∃ x, pr x ∧ Ent C n0 N σ' ds' H' (sets (fun _ => .junk) (sl x)) ds (hp x)) X ot [] ds H ∧
      ∀ x, pr x → K (sets (fun _ => .junk) (sl x)) ds (hp x))

/-- A loop: what holds of slots and heap at the head of each round. -/
def LoopOK (n0 N : Nat) (body : Sg → List AD → Hp → KQ → Prop) (σ : Sg) (ds : List AD) (H : Hp) (Q : KQ) : Prop :=
  ∃ (α : Type) (sl : α → List (Nat × AV)) (hp : α → Hp) (pr : α → Prop) (μ : α → Nat),
    (∃ x, pr x ∧ Ent C n0 N σ ds H (sets (fun _ => .junk) (sl x)) ds (hp x)) ∧
    ∀ x, pr x → body (sets (fun _ => .junk) (sl x)) ds (hp x) fun e σ' ds' H' => match e with
      | .normal => ∃ x', pr x' ∧ Ent C n0 N σ' ds' H' (sets (fun _ => .junk) (sl x')) ds (hp x') ∧ μ x' < μ x
      | e => Q e σ' ds' H'

/-- The record of a range over a function, the block of its deferred calls. -/
def loopRec (lim : Nat) (σ : Sg) (N : Nat) (params : Array Tmp) (as bd : Code) (dn : Nat) : AObj := ⟨0, false, .lp .ready none lim N σ params.toList as bd dn⟩

def pendQ (pend : Option Code) (Q : KQ) (σ : Sg) (ds : List AD) (H : Hp) : Prop :=
  match pend with
  | none => Q .normal σ ds H
  | some .ret => Q .ret σ ds H
  | some (.exit i) => Q (.exit i) σ ds H
  | some (.goto i) => Q (.goto i) σ ds H
  | _ => False

def RangeOK (N : Nat) (g : FuncId) (first cap : List AV) (L : Nat) (σ : Sg) (ds : List AD) (H : Hp) (Q : KQ) : Prop :=
  HoldsG C g (first ++ [.fn (.yield L) [] []] ++ cap) H fun e H' => match e with
    | .returned _ => match lget H'.l L with
      | some o => match o.c with
        | .lp st pend lim n a b c d dn => match st with
          | .busy => False
          | _ => pendQ pend Q σ ds { H' with l := lset H'.l L { o with c := .lp .exhausted pend lim n a b c d dn } }
        | _ => False
      | none => False
    | .panicked ch => Q (.panic ch) σ ds H'

/-- THE CONDITIONS of a piece of code; 'rn': the record of the round that it is a part of. -/
noncomputable def vc (rn : Option Nat) (n0 N : Nat) (c : Code) : Sg → List AD → Hp → KQ → Prop :=
  Code.rec (motive := fun _ => Sg → List AD → Hp → KQ → Prop)
    (fun σ ds H Q => Q .normal σ ds H)
    (fun _ ops draw σ ds H Q => match draw with
      | false => vOps C rn.isSome N ops.toList ops.toList σ ds H (Q .normal) (fun ch => Q (.panic ch))
      | true => VDraw C rn.isSome n0 N ops.toList σ ds H (Q .normal) (fun ch => Q (.panic ch)))
    (fun _ _ iha ihb σ ds H Q => iha σ ds H fun e σ' ds' H' => match e with
      | .normal => ihb σ' ds' H' Q
      | e => Q e σ' ds' H')
    (fun c _ _ iha ihb σ ds H Q => match evl C σ c with
      | .p (.bool true) => iha σ ds H Q
      | .p (.bool false) => ihb σ ds H Q
      | _ => False)
    (fun id _ ih σ ds H Q => ih σ ds H fun e σ' ds' H' => match e with
      | .exit j => match Nat.beq j id with
        | true => Q .normal σ' ds' H'
        | false => Q (.exit j) σ' ds' H'
      | e => Q e σ' ds' H')
    (fun _ ih σ ds H Q => LoopOK C n0 N (fun σ' ds' H' Q' => ih σ' ds' H' Q') σ ds H Q)
    (fun f params as bd _ _ σ ds H Q => match fnOf (evl C σ f) with
      | some (.func g, first, cap) => match rn with
        | none => RangeOK C N g first cap (H.next + 1) σ (.col H.next :: ds) ((H.push ⟨0, false, .df⟩).push (loopRec H.next σ N params as bd H.next)) Q
        | some l => match lget H.l l with
          | some o => match o.c with
            | .lp _ _ _ _ _ _ _ _ dn => RangeOK C N g first cap H.next σ ds (H.push (loopRec H.next σ N params as bd dn)) Q
            | _ => False
          | none => False
      | _ => False)
    (fun id σ ds H Q => Q (.exit id) σ ds H)
    (fun _ ih σ ds H Q => ih σ ds H fun e σ' ds' H' => match e with
      | .goto _ => False
      | e => Q e σ' ds' H')
    (fun _ σ ds H Q => Q .normal σ ds H)
    (fun l σ ds H Q => Q (.goto l) σ ds H)
    (fun σ ds H Q => Q .ret σ ds H)
    (fun _ _ _ _ _ => False) c
section
variable (rn : Option Nat) (n0 N : Nat) (σ : Sg) (ds : List AD) (H : Hp) (Q : KQ)
theorem vc_skip : vc C rn n0 N .skip σ ds H Q = Q .normal σ ds H := rfl
theorem vc_label (l : Nat) : vc C rn n0 N (.label l) σ ds H Q = Q .normal σ ds H := rfl
theorem vc_region (i : Nat) (ops : Array Oper) (draw : Bool) : vc C rn n0 N (.region i ops draw) σ ds H Q = (match draw with
    | false => vOps C rn.isSome N ops.toList ops.toList σ ds H (Q .normal) (fun ch => Q (.panic ch))
    | true => VDraw C rn.isSome n0 N ops.toList σ ds H (Q .normal) (fun ch => Q (.panic ch))) := rfl
theorem vc_seq (a b : Code) : vc C rn n0 N (.seq a b) σ ds H Q = (vc C rn n0 N a σ ds H fun e σ' ds' H' => match e with
    | .normal => vc C rn n0 N b σ' ds' H' Q
    | e => Q e σ' ds' H') := rfl
theorem vc_cond (c : Operand) (a b : Code) : vc C rn n0 N (.cond c a b) σ ds H Q = (match evl C σ c with
    | .p (.bool true) => vc C rn n0 N a σ ds H Q
    | .p (.bool false) => vc C rn n0 N b σ ds H Q
    | _ => False) := rfl
theorem vc_block (id : Nat) (b : Code) : vc C rn n0 N (.block id b) σ ds H Q = (vc C rn n0 N b σ ds H fun e σ' ds' H' => match e with
    | .exit j => match Nat.beq j id with
      | true => Q .normal σ' ds' H'
      | false => Q (.exit j) σ' ds' H'
    | e => Q e σ' ds' H') := rfl
theorem vc_loop (b : Code) : vc C rn n0 N (.loop b) σ ds H Q = LoopOK C n0 N (fun σ' ds' H' Q' => vc C rn n0 N b σ' ds' H' Q') σ ds H Q := rfl
theorem vc_exit (id : Nat) : vc C rn n0 N (.exit id) σ ds H Q = Q (.exit id) σ ds H := rfl
theorem vc_goto (l : Nat) : vc C rn n0 N (.goto l) σ ds H Q = Q (.goto l) σ ds H := rfl
theorem vc_ret : vc C rn n0 N .ret σ ds H Q = Q .ret σ ds H := rfl
theorem vc_rangeFunc (f : Operand) (params : Array Tmp) (as bd : Code) : vc C rn n0 N (.rangeFunc f params as bd) σ ds H Q = (match fnOf (evl C σ f) with
    | some (.func g, first, cap) => match rn with
      | none => RangeOK C N g first cap (H.next + 1) σ (.col H.next :: ds) ((H.push ⟨0, false, .df⟩).push (loopRec H.next σ N params as bd H.next)) Q
      | some l => match lget H.l l with
        | some o => match o.c with
          | .lp _ _ _ _ _ _ _ _ dn => RangeOK C N g first cap H.next σ ds (H.push (loopRec H.next σ N params as bd dn)) Q
          | _ => False
        | none => False
    | _ => False) := rfl
theorem vc_scope (b : Code) : vc C rn n0 N (.scope b) σ ds H Q = (vc C rn n0 N b σ ds H fun e σ' ds' H' => match e with
    | .goto _ => False
    | e => Q e σ' ds' H') := rfl
theorem vc_refuse (w : String) : vc C rn n0 N (.refuse w) σ ds H Q = False := rfl
end
end
end Go.Proofs.YtemlkodkohgmmaaDoor.Y
