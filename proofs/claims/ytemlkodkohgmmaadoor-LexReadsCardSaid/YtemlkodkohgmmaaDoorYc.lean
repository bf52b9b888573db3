/- Operations that only compute or read. -/
import Derived.Test.YtemlkodkohgmmaaDoorYb
namespace Go.Proofs.YtemlkodkohgmmaaDoor.Y
open Go

inductive PRes where
  | val (v : AV)
  | cond (c : Prop) (v : AV)
  | split (c : Prop) (a b : AV)
  | splitc (g c : Prop) (a b : AV)
  | wrap (k : IntKind) (n : Int)
  | wrapc (c : Prop) (k : IntKind) (n : Int)
  | ex (p : AV → Prop)
  | bad

def PRes.Then (r : PRes) (K : AV → Prop) : Prop :=
  match r with
  | .val v => K v
  | .cond c v => c ∧ K v
  | .split c a b => (c → K a) ∧ (¬ c → K b)
  | .splitc g c a b => g ∧ (c → K a) ∧ (¬ c → K b)
  | .wrap k n => ∃ m, m = k.wrap n ∧ K (.p (.int k m))
  | .wrapc c k n => c ∧ ∃ m, m = k.wrap n ∧ K (.p (.int k m))
  | .ex p => ∃ v, p v ∧ K v
  | .bad => False

def PRes.Yld (r : PRes) (v : AV) : Prop :=
  match r with
  | .val u => v = u
  | .cond c u => c ∧ v = u
  | .split c a b => (c ∧ v = a) ∨ (¬ c ∧ v = b)
  | .splitc g c a b => g ∧ ((c ∧ v = a) ∨ (¬ c ∧ v = b))
  | .wrap k n => v = .p (.int k (k.wrap n))
  | .wrapc c k n => c ∧ v = .p (.int k (k.wrap n))
  | .ex p => p v
  | .bad => False

theorem PRes.yld {r : PRes} {K : AV → Prop} (h : r.Then K) : ∃ v, r.Yld v ∧ K v := by
  cases r with
  | val v => exact ⟨v, rfl, h⟩
  | cond c v => exact ⟨v, ⟨h.1, rfl⟩, h.2⟩
  | split c a b =>
    by_cases hc : c
    · exact ⟨a, .inl ⟨hc, rfl⟩, h.1 hc⟩
    · exact ⟨b, .inr ⟨hc, rfl⟩, h.2 hc⟩
  | splitc g c a b =>
    by_cases hc : c
    · exact ⟨a, ⟨h.1, .inl ⟨hc, rfl⟩⟩, h.2.1 hc⟩
    · exact ⟨b, ⟨h.1, .inr ⟨hc, rfl⟩⟩, h.2.2 hc⟩
  | wrap k n => obtain ⟨m, rfl, hk⟩ := h; exact ⟨_, rfl, hk⟩
  | wrapc c k n => obtain ⟨hc, m, rfl, hk⟩ := h; exact ⟨_, ⟨hc, rfl⟩, hk⟩
  | ex p => obtain ⟨v, hp, hk⟩ := h; exact ⟨v, hp, hk⟩
  | bad => exact h.elim

abbrev vB (b : Bool) : AV := .p (.bool b)
abbrev vI (k : IntKind) (n : Int) : AV := .p (.int k n)
abbrev vS (s : List UInt8) : AV := .p (.str s)

def vCells : AV → List AV
  | .p (.agg cs) => cs.map .p
  | .agg cs => cs
  | v => [v]
def pCells : PV → List PV
  | .agg cs => cs
  | v => [v]

section
variable (P : Program)

def aggSz (t : TypeId) : Option (Option Nat) :=
  match P.underlying t with
  | some (.struct _) => (szOf P t).map some
  | some (.array _ _) => (szOf P t).map some
  | some _ => some none
  | none => none

/-- What a load finds among cells. -/
def ldIn (t : TypeId) (cs : List AV) (f : Nat) : Option AV :=
  match aggSz P t with
  | some (some s) => match getN cs f s with
    | some r => some (mkAgg r)
    | none => none
  | some none => nth cs f
  | none => none
def ldInP (t : TypeId) (cs : List PV) (f : Nat) : Option PV :=
  match aggSz P t with
  | some (some s) => match getN cs f s with
    | some r => some (.agg r)
    | none => none
  | some none => nth cs f
  | none => none

def popLoad (t : TypeId) (v : AV) (lk : Nat → Option AObj) : PRes :=
  match v with
  | .ptr n i f =>
    match lk n with
    | some o => match o.c with
      | .bx cs => match Nat.beq i 0, ldIn P t cs f with
        | true, some u => .val u
        | _, _ => .bad
      | .pu xs => match Nat.beq f 0, aggSz P t with
        | true, some none => .ex fun u => ∃ x, xs[i]? = some x ∧ u = .p x
        | _, _ => .bad
      | .pus xss => .ex fun u => ∃ cs x, xss[i]? = some cs ∧ ldInP P t cs f = some x ∧ u = .p x
      | .mx xs => match Nat.beq f 0, aggSz P t, nth xs i with
        | true, some none, some x => .val x
        | _, _, _ => .bad
      | _ => .bad
    | none => .bad
  | .ptd n i f =>
    match lk n with
    | some o => match o.c with
      | .bx cs => match Nat.beq i 0 with
        | true => .ex fun u => ldIn P t cs f = some u
        | false => .bad
      | _ => .bad
    | none => .bad
  | .p (.fp cs) => match ldInP P t cs 0 with
    | some x => .val (.p x)
    | none => .bad
  | _ => .bad

def popInt (op : BinOp) (k : IntKind) (a b : Int) : PRes :=
  match op with
  | .add => .wrap k (a + b)
  | .sub => .wrap k (a - b)
  | .mul => .wrap k (a * b)
  | .quo => .wrapc (b ≠ 0) k (a.tdiv b)
  | .rem => .cond (b ≠ 0) (vI k (a.tmod b))
  | .and => .wrap k ((BitVec.ofInt k.bits a &&& BitVec.ofInt k.bits b).toNat : Int)
  | .or => .wrap k ((BitVec.ofInt k.bits a ||| BitVec.ofInt k.bits b).toNat : Int)
  | .xor => .wrap k ((BitVec.ofInt k.bits a ^^^ BitVec.ofInt k.bits b).toNat : Int)
  | .andNot => .wrap k ((BitVec.ofInt k.bits a &&& ~~~ BitVec.ofInt k.bits b).toNat : Int)
  | .eql => .split (a = b) (vB true) (vB false)
  | .neq => .split (a = b) (vB false) (vB true)
  | .lss => .split (a < b) (vB true) (vB false)
  | .leq => .split (a ≤ b) (vB true) (vB false)
  | .gtr => .split (b < a) (vB true) (vB false)
  | .geq => .split (b ≤ a) (vB true) (vB false)
  | _ => .bad

def popStr (op : BinOp) (a b : List UInt8) : PRes :=
  match op with
  | .add => .cond (a.length + b.length ≤ 9223372036854775807) (vS (a ++ b))
  | .eql => .split (a = b) (vB true) (vB false)
  | .neq => .split (a = b) (vB false) (vB true)
  | .lss => .split (Op.bytesLess a b = true) (vB true) (vB false)
  | .geq => .split (Op.bytesLess a b = true) (vB false) (vB true)
  | .leq => .split (Op.bytesLess a b = true ∨ a = b) (vB true) (vB false)
  | .gtr => .split (Op.bytesLess a b = true ∨ a = b) (vB false) (vB true)
  | _ => .bad

/-- Equality of structs whose fields are integers, strings and bools. -/
def sameKind : PV → PV → Bool
  | .int k _, .int k' _ => k == k'
  | .str _, .str _ => true
  | .bool _, .bool _ => true
  | _, _ => false
def sameKinds : List PV → List PV → Bool
  | [], [] => true
  | x :: xs, y :: ys => sameKind x y && sameKinds xs ys
  | _, _ => false
def fits (t : TypeId) (x : PV) : Bool :=
  match x with
  | .str _ => match P.underlying t with
    | some .string => true
    | _ => false
  | .int _ _ => match P.underlying t with
    | some (.int _) => true
    | _ => false
  | .bool _ => match P.underlying t with
    | some .bool => true
    | _ => false
  | _ => false
def fitAll : List Field → List PV → Nat → Bool
  | [], [], _ => true
  | f :: fs, x :: xs, n => Nat.beq f.offset n && (f.name != "_") && fits P f.type x && fitAll fs xs (n + 1)
  | _, _, _ => false
def flatOK (t : TypeId) (xs : List PV) : Bool :=
  match P.underlying t with
  | some (.struct fs) => fitAll P fs.toList xs 0
  | _ => false

/-- Is it nil: a pointer, an interface value? -/
inductive Kd where
  | nilp | ptr | nili | ifc | other
def kd : AV → Kd
  | .p .nilp => .nilp
  | .p (.fp _) => .ptr
  | .ptr _ _ _ => .ptr
  | .ptd _ _ _ => .ptr
  | .p .nilIface => .nili
  | .p (.iface _ _) => .ifc
  | .iface _ _ => .ifc
  | _ => .other

/-- The same address. -/
def samePtr : AV → AV → Bool
  | .ptr n i f, .ptr n' i' f' => Nat.beq n n' && Nat.beq i i' && Nat.beq f f'
  | _, _ => false

def popEqN (t : TypeId) (x y : AV) (neg : Bool) (cst : Bool) : PRes :=
  match kd x, kd y with
  | .ptr, .ptr => match samePtr x y, P.underlying t with
    | true, some (.pointer e) => match szOf P e with
      | some _ => .val (vB (!neg))
      | none => .bad
    | _, _ => .bad
  | .nilp, .nilp => match P.underlying t with
    | some (.pointer _) => .val (vB (!neg))
    | _ => .bad
  | .ptr, .nilp => match P.underlying t with
    | some (.pointer _) => .val (vB neg)
    | _ => .bad
  | .nilp, .ptr => match P.underlying t with
    | some (.pointer _) => .val (vB neg)
    | _ => .bad
  | .nili, .nili => match cst, P.underlying t with
    | true, some (.interface _) => .val (vB (!neg))
    | _, _ => .bad
  | .ifc, .nili => match P.underlying t with
    | some (.interface _) => .val (vB neg)
    | _ => .bad
  | .nili, .ifc => match P.underlying t with
    | some (.interface _) => .val (vB neg)
    | _ => .bad
  | _, _ => .bad

def popEq (t : TypeId) (x y : AV) (neg : Bool) (cst : Bool) : PRes :=
  match x, y with
  | .p (.bool a), .p (.bool b) => match P.underlying t with
    | some .bool => .split (a = b) (vB (!neg)) (vB neg)
    | _ => .bad
  | .p (.agg xs), .p (.agg ys) => match flatOK P t xs && sameKinds xs ys with
    | true => .splitc (P.stoodInHeld t = false ∧ P.eqGuardType P.depth t = false) (xs = ys) (vB (!neg)) (vB neg)
    | false => .bad
  | x, y => popEqN P t x y neg cst

def popBin (op : BinOp) (t : TypeId) (x y : AV) (cst : Bool) : PRes :=
  match x, y with
  | .p (.int k a), .p (.int k' b) =>
    match op with
    | .shl => .wrapc (0 ≤ b) k (a * 2 ^ (min b.toNat k.bits))
    | .shr => .cond (0 ≤ b) (vI k (a.fdiv (2 ^ (min b.toNat k.bits))))
    | op => match k == k' with
      | true => popInt op k a b
      | false => .bad
  | .p (.str a), .p (.str b) => popStr op a b
  | x, y => match op with
    | .eql => popEq P t x y false cst
    | .neq => popEq P t x y true cst
    | _ => .bad

def fnth : List Field → Nat → Option Field
  | [], _ => none
  | x :: _, 0 => some x
  | _ :: l, n + 1 => fnth l n
theorem fnth_eq (l : List Field) (n : Nat) : fnth l n = l[n]? := by
  induction l generalizing n with
  | nil => rfl
  | cons x l ih => cases n with
    | zero => rfl
    | succ n => simpa [fnth] using ih n

def ofO (o : Option AV) : PRes := match o with
  | some v => .val v
  | none => .bad
def ofP (o : Option PV) : PRes := match o with
  | some v => .val (.p v)
  | none => .bad

def popField (t : TypeId) (x : AV) (f : Nat) : PRes :=
  match P.underlying t with
  | some (.struct fs) =>
    match fnth fs.toList f with
    | some fd => match x with
      | .p (.agg cs) => ofP (ldInP P fd.type cs fd.offset)
      | .agg cs => ofO (ldIn P fd.type cs fd.offset)
      | _ => .bad
    | none => .bad
  | _ => .bad

def popFieldAddr (s : TypeId) (x : AV) (f : Nat) : PRes :=
  match P.underlying s with
  | some (.struct fs) =>
    match fnth fs.toList f with
    | some fd => match szOf P fd.type with
      | some (z + 1) => match x with
        | .ptr n i f => .val (.ptr n i (f + fd.offset))
        | .ptd n i f => .val (.ptd n i (f + fd.offset))
        | .p (.fp cs) => match getN cs fd.offset (z + 1) with
          | some r => .val (.p (.fp r))
          | none => .bad
        | _ => .bad
      | _ => .bad
    | none => .bad
  | _ => .bad

def popIndexAddr (t : TypeId) (x i : AV) : PRes :=
  match i with
  | .p (.int _ i) =>
    match P.underlying t with
    | some (.slice e) => match szOf P e with
      | some s => match x with
        | .sl n s' off len => match Nat.beq s s' with
          | true => .cond (0 ≤ i ∧ i < len) (.ptr n (off + i.toNat) 0)
          | false => .bad
        | .p (.lst xs) => match Nat.beq s 1 with
          | true => .ex fun u => 0 ≤ i ∧ ∃ x, xs[i.toNat]? = some x ∧ u = .p (.fp [x])
          | false => .bad
        | .p (.lsts s' xss) => match Nat.beq s s' with
          | true => .ex fun u => 0 ≤ i ∧ ∃ x, xss[i.toNat]? = some x ∧ u = .p (.fp x)
          | false => .bad
        | _ => .bad
      | none => .bad
    | some (.array n e) => match szOf P e with
      | some (s + 1) => match x with
        | .ptr m j f => .cond (0 ≤ i ∧ i < n) (.ptd m j (f + i.toNat * (s + 1)))
        | .ptd m j f => .cond (0 ≤ i ∧ i < n) (.ptd m j (f + i.toNat * (s + 1)))
        | .p (.fp cs) => .ex fun u => (0 ≤ i ∧ i < n) ∧ ∃ r, getN cs (i.toNat * (s + 1)) (s + 1) = some r ∧ u = .p (.fp r)
        | _ => .bad
      | _ => .bad
    | _ => .bad
  | _ => .bad

def popIndex (t : TypeId) (x i : AV) : PRes :=
  match i with
  | .p (.int _ i) =>
    match P.underlying t with
    | some .string => match x with
      | .p (.str s) => .ex fun u => 0 ≤ i ∧ ∃ b : UInt8, s[i.toNat]? = some b ∧ u = vI .u8 (b.toNat : Int)
      | _ => .bad
    | some (.array n e) => match szOf P e with
      | some s => match x with
        | .p (.agg cs) => .ex fun u => (0 ≤ i ∧ i < n) ∧ ∃ v, ldInP P e cs (i.toNat * s) = some v ∧ u = .p v
        | .agg cs => .ex fun u => (0 ≤ i ∧ i < n) ∧ ldIn P e cs (i.toNat * s) = some u
        | _ => .bad
      | none => .bad
    | _ => .bad
  | _ => .bad

/-- A part of a list. -/
def sub {α : Type} (s : List α) : Option Int → Option Int → List α
  | none, none => s
  | none, some h => s.take h.toNat
  | some l, none => s.drop l.toNat
  | some l, some h => (s.drop l.toNat).take (h.toNat - l.toNat)
def okSub (n : Nat) : Option Int → Option Int → Prop
  | none, none => True
  | none, some h => 0 ≤ h ∧ h ≤ n
  | some l, none => 0 ≤ l ∧ l ≤ n
  | some l, some h => 0 ≤ l ∧ l ≤ h ∧ h ≤ n
def bnd : Option AV → Option (Option Int)
  | none => some none
  | some (.p (.int _ l)) => some (some l)
  | _ => none
def loN : Option Int → Nat
  | none => 0
  | some l => l.toNat
def hiN (n : Nat) : Option Int → Nat
  | none => n
  | some l => l.toNat

def popSlice (t : TypeId) (x : AV) (lo hi mx : Option AV) : PRes :=
  match mx with
  | some _ => .bad
  | none => match bnd lo, bnd hi with
    | some l, some h =>
      match P.underlying t with
      | some .string => match x with
        | .p (.str s) => .cond (okSub s.length l h) (vS (sub s l h))
        | _ => .bad
      | some (.slice e) => match szOf P e with
        | some s => match x with
          | .sl n s' off len => match Nat.beq s s' with
            | true => .cond (okSub len l h) (.sl n s' (off + loN l) (hiN len h - loN l))
            | false => .bad
          | .p (.lst xs) => match Nat.beq s 1 with
            | true => .cond (okSub xs.length l h) (.p (.lst (sub xs l h)))
            | false => .bad
          | .p (.lsts s' xss) => match Nat.beq s s' with
            | true => .cond (okSub xss.length l h) (.p (.lsts s' (sub xss l h)))
            | false => .bad
          | .p .nils => .cond (okSub 0 l h) (.p .nils)
          | _ => .bad
        | none => .bad
      | _ => .bad
    | _, _ => .bad

def popLen (t : TypeId) (x : AV) : PRes :=
  match P.underlying t with
  | some .string => match x with
    | .p (.str s) => .val (vI .i64 s.length)
    | _ => .bad
  | some (.slice _) => match x with
    | .sl _ _ _ n => .val (vI .i64 n)
    | .p (.lst xs) => .val (vI .i64 xs.length)
    | .p (.lsts _ xss) => .val (vI .i64 xss.length)
    | .p .nils => .val (vI .i64 0)
    | _ => .bad
  | some (.array n _) => .val (vI .i64 n)
  | _ => .bad

def bld (ev : Operand → AV) (place : Nat → Option (Nat × Nat)) (cells : List AV) : List (Nat × Operand) → Option (List AV)
  | [] => some cells
  | (i, x) :: r =>
    match place i with
    | none => none
    | some (off, s) => match Nat.beq (vCells (ev x)).length s && Nat.ble (off + s) cells.length with
      | true => bld ev place (spl cells off (vCells (ev x))) r
      | false => none

def structPlace (fs : List Field) (i : Nat) : Option (Nat × Nat) :=
  match fnth fs i with
  | some f => match szOf P f.type with
    | some s => some (f.offset, s)
    | none => none
  | none => none

def allSized : List Field → Bool
  | [] => true
  | f :: r => (szOf P f.type).isSome && allSized r

/-- 'junk' among the cells: nothing is known of their number. -/
def known : AV → Bool
  | .junk => false
  | _ => true

def zeroOf (t : TypeId) : Option PV :=
  match P.info? t with
  | some i => match i.zero with
    | some z => absV z
    | none => none
  | none => none

def popBuild (t : TypeId) (parts : List (Nat × Operand)) (ev : Operand → AV) : PRes :=
  match zeroOf P t, P.underlying t, parts.all (fun p => known (ev p.2)) with
  | some z, some (.struct fs), true => match allSized P fs.toList, bld ev (structPlace P fs.toList) (vCells (.p z)) parts with
    | true, some cs => .val (mkAgg cs)
    | _, _ => .bad
  | some z, some (.array _ e), true => match szOf P e with
    | some s => match bld ev (fun i => some (i * s, s)) (vCells (.p z)) parts with
      | some cs => .val (mkAgg cs)
      | none => .bad
    | none => .bad
  | _, _, _ => .bad

def conc : TypeDesc → Bool
  | .interface _ => false
  | _ => true

def ifParts : AV → Option (Option (TypeId × AV))
  | .p .nilIface => some none
  | .p (.iface t v) => some (some (t, .p v))
  | .iface t v => some (some (t, v))
  | _ => none

def popAssert (x : AV) (asserted : TypeId) (ok : Bool) : PRes :=
  match P.underlying asserted with
  | none => .bad
  | some d => match conc d with
    | false => .bad
    | true => match ifParts x, ok with
      | some (some (t, v)), true => match Nat.beq t asserted, zeroOf P asserted with
        | true, _ => .val (.tup [v, vB true])
        | false, some z => .val (.tup [.p z, vB false])
        | _, _ => .bad
      | some (some (t, v)), false => match Nat.beq t asserted with
        | true => .val v
        | false => .bad
      | some none, true => match zeroOf P asserted with
        | some z => .val (.tup [.p z, vB false])
        | none => .bad
      | _, _ => .bad

def minI : Int → List AV → Option Int
  | a, [] => some a
  | a, .p (.int _ b) :: r => minI (if b < a then b else a) r
  | _, _ => none
def maxI : Int → List AV → Option Int
  | a, [] => some a
  | a, .p (.int _ b) :: r => maxI (if a < b then b else a) r
  | _, _ => none

def ub (b : UInt8) : PV := .int .u8 (b.toNat : Int)

def isBytes (d : TypeDesc) : Bool :=
  match d with
  | .slice e => match P.underlying e with
    | some (.int k) => k == .u8
    | _ => false
  | _ => false

/-- The string of some bytes. -/
def popStrOf (x : AV) (lk : Nat → Option AObj) : PRes :=
  match x with
  | .p .nils => .val (vS [])
  | .p (.lst xs) => .ex fun u => ∃ s : List UInt8, xs = s.map ub ∧ u = vS s
  | .sl n s off len => match lk n, Nat.beq s 1 with
    | some o, true => match o.c with
      | .pu xs => .ex fun u => off + len ≤ xs.length ∧ ∃ s : List UInt8, (xs.drop off).take len = s.map ub ∧ u = vS s
      | _ => .bad
    | _, _ => .bad
  | _ => .bad

def popConv (src dst : TypeId) (x : AV) (lk : Nat → Option AObj) : PRes :=
  match P.underlying src, P.underlying dst with
  | some _, some (.int k) => match x with
    | .p (.int _ n) => .wrap k n
    | _ => .bad
  | some sd, some .string => match x with
    | .p (.str s) => .val (vS s)
    | x => match isBytes P sd with
      | true => popStrOf x lk
      | false => .bad
  | some (.pointer t), some .unsafePointer => match x with
    | .ptr n i f => match Nat.beq i 0, lk n, szOf P t with
      | true, some o, some (_ + 1) => match o.c with
        | .bx cs => match Nat.blt f cs.length with
          | true => .val (.ptr n i f)
          | false => .bad
        | _ => .bad
      | _, _, _ => .bad
    | _ => .bad
  | some .unsafePointer, some (.pointer u) => match x with
    | .ptr n i f => match Nat.beq i 0 && Nat.beq f 0, lk n, szOf P u with
      | true, some o, some (_ + 1) => match o.c, Nat.beq o.t u with
        | .bx _, true => .val (.ptr n i f)
        | _, _ => .bad
      | _, _, _ => .bad
    | _ => .bad
  | _, _ => .bad

def popCap (t : TypeId) (x : AV) : PRes :=
  match P.underlying t with
  | some (.slice _) => match x with
    | .p .nils => .val (vI .i64 0)
    | _ => .bad
  | _ => .bad

def isC : Operand → Bool
  | .const _ => true
  | _ => false

def pop (op : Op) (ev : Operand → AV) (lk : Nat → Option AObj) : PRes :=
  match op with
  | .move x => .val (ev x)
  | .assign x => .val (ev x)
  | .pick c a b => match ev c with
    | .p (.bool true) => .val (ev a)
    | .p (.bool false) => .val (ev b)
    | _ => .bad
  | .load t a => popLoad P t (ev a) lk
  | .nilCheck x => match kd (ev x) with
    | .ptr => .val (ev x)
    | _ => match ev x with
      | .fn (.func f) a b => .val (.fn (.func f) a b)
      | .p (.fn (.func f) a b) => .val (.p (.fn (.func f) a b))
      | _ => .bad
  | .binOp op t x y _ => popBin P op t (ev x) (ev y) (isC x || isC y)
  | .unOp op _ x => match op, ev x with
    | .not, .p (.bool b) => .val (vB (!b))
    | .neg, .p (.int k n) => .wrap k (0 - n)
    | _, _ => .bad
  | .convert s d x => popConv P s d (ev x) lk
  | .makeInterface t x => match P.underlying t with
    | some (.interface _) => .bad
    | some _ => .val (mkIf t (ev x))
    | none => .bad
  | .makeFunc fn first cap => match fnOK fn with
    | true => .val (mkFn fn (first.toList.map ev) (cap.toList.map ev))
    | false => .bad
  | .fieldAddr s x f => popFieldAddr P s (ev x) f
  | .field s x f => popField P s (ev x) f
  | .indexAddr t x i => popIndexAddr P t (ev x) (ev i)
  | .index t x i => popIndex P t (ev x) (ev i)
  | .slice t x lo hi mx => popSlice P t (ev x) (lo.map ev) (hi.map ev) (mx.map ev)
  | .extract x i => match ev x with
    | .tup vs => ofO (nth vs i)
    | _ => .bad
  | .build t parts => popBuild P t parts.toList ev
  | .typeAssert x _ t ok => popAssert P (ev x) t ok
  | .call { callee := .builtin b, args, argTypes } => match b, args.toList, argTypes.toList with
    | .len, [x], [t] => popLen P t (ev x)
    | .cap, [x], [t] => popCap P t (ev x)
    | .min, x :: r, _ => match ev x with
      | .p (.int k a) => match minI a (r.map ev) with
        | some m => .val (vI k m)
        | none => .bad
      | _ => .bad
    | .max, x :: r, _ => match ev x with
      | .p (.int k a) => match maxI a (r.map ev) with
        | some m => .val (vI k m)
        | none => .bad
      | _ => .bad
    | _, _, _ => .bad
  | _ => .bad
end
end Go.Proofs.YtemlkodkohgmmaaDoor.Y
