/- DataWhole: the row and the card. All parts of a split together have each case once; the counts of a part and of its rest add up to those of the data; for all drafts, numbers and sets. Conditions: those of the card. -/
import Derived.Test.YtmdmjnfdemgpoaaDoorRows
import Derived.Lay
import Derived.Test.YtmdmjnfdemgpoaaDoorCards
import Derived.Test.YtmdmjnfdemgpoaaDoorTie
import Derived.SevenTiedAt
import Derived.Test.YtmdmjnfdemgpoaaDoorQ4
/- The statement on sums of counts. -/
namespace Go.Proofs.YtmdmjnfdemgpoaaDoor
open Go Y
set_option maxRecDepth 100000
set_option maxHeartbeats 40000000

theorem and_u8 (a b : UInt8) : ((a &&& b).toNat : Int) = IntKind.u8.wrap ((BitVec.ofInt 8 (a.toNat : Int) &&& BitVec.ofInt 8 (b.toNat : Int)).toNat : Int) := by
  have h1 := a.toNat_lt
  have h2 := b.toNat_lt
  have e1 : BitVec.ofInt 8 (a.toNat : Int) = BitVec.ofNat 8 a.toNat := rfl
  have e2 : BitVec.ofInt 8 (b.toNat : Int) = BitVec.ofNat 8 b.toNat := rfl
  rw [e1, e2, BitVec.toNat_and, BitVec.toNat_ofNat, BitVec.toNat_ofNat, Nat.mod_eq_of_lt (by omega), Nat.mod_eq_of_lt (by omega), UInt8.toNat_and]
  have : a.toNat &&& b.toNat ≤ a.toNat := Nat.and_le_left
  exact wrap8 (by omega) (by omega)
theorem bit_and {a b : UInt8} {v : Nat} (h : bitN (a &&& b) v = true) : bitN a v = true := by
  have e : ∀ n : Nat, (n / 2 ^ v % 2 == 1) = n.testBit v := fun n => by
    rw [Nat.testBit_eq_decide_div_mod_eq]
    by_cases h : n / 2 ^ v % 2 = 1 <;> simp [h]
  unfold bitN at h ⊢
  rw [e, UInt8.toNat_and, Nat.testBit_and, Bool.and_eq_true] at h
  rw [e]
  exact h.1
theorem some_sub {a b : UInt8} {n : Nat} : ∀ u ∈ varsN (a &&& b) n, u ∈ varsN a n := fun u hu => by
  rw [vars_mem] at hu ⊢
  exact ⟨hu.1, hu.2.1, bit_and hu.2.2⟩
theorem eqOn_snoc {vars c v : List Int} {k : Nat} (h : k < vars.length) : eqOn (vars.take (k + 1)) c v = (eqOn (vars.take k) c v && decide (c.getD (vars.getD k 0).toNat 0 = v.getD (vars.getD k 0).toNat 0)) := by
  unfold eqOn
  rw [take_succ_getD 0 h, List.all_append]
  simp
theorem cntOn_snoc {vars v : List Int} {xs : List (List Int)} {k : Nat} (h : k < xs.length) : (xs.take (k + 1)).countP (fun c => eqOn vars c v) = (xs.take k).countP (fun c => eqOn vars c v) + (if eqOn vars (xs.getD k []) v = true then 1 else 0) := by
  rw [take_succ_getD [] h, List.countP_append, List.countP_cons, List.countP_nil, Nat.zero_add]

def faOb (f : Fa) : AObj := ⟨TF, false, .bx (f.cells.map .p)⟩
def smH (z : Dt) (f g : Fa) (v sums : List Int) : Hp := ⟨5, [(4, iO v), (3, iO sums), (2, faOb g), (1, faOb f), (0, dtO z)]⟩

theorem dataSums_c (D : Df) (set less : UInt8) (hD : DfOK D) : Pure cx 3 [D.pv, u8 set, u8 less] (· = .ret [.bool true]) := by
  refine pure_of_vc Tryd.func3 rfl rfl rfl ?_
  refine works_c.eq rfl ?_
  refine VDraw.seq rfl ?_
  refine (whole_d D hD.five).at fun r hr => ?_
  obtain ⟨w, hw, rfl⟩ := hr
  refine ⟨by (repeat' first | exact trivial | exact rfl | exact ⟨rfl, rfl⟩ | exact .inl rfl | refine ⟨_, rfl, rfl, rfl, ?_⟩ | refine ⟨_, _, rfl, ?_, ?_⟩ | refine ⟨_, rfl, ?_⟩ | refine And.intro ?_ ?_), ?_⟩
  refine (data_c D hD.five hD.miss).at fun r hr => ?_
  obtain ⟨x, hx, rfl⟩ := hr
  obtain ⟨L, hL⟩ : ∃ L : List Dt, L = [w, x] := ⟨_, rfl⟩
  have hL2 : L.length = 2 := by rw [hL]; rfl
  have hLr : ∀ d ∈ L, rightP d ∧ Sm7 d := by
    rw [hL]
    intro d hd
    simp only [List.mem_cons, List.not_mem_nil, or_false] at hd
    rcases hd with rfl | rfl
    · exact ⟨hw.right, hw.sm⟩
    · exact ⟨hx.right, hx.sm⟩
  have hL0 : ∀ c ∈ (L.getD 0 ⟨[], []⟩).cases, ∀ y ∈ c, 0 ≤ y := by rw [hL]; exact hw.whole id
  have eL : PV.agg (L.flatMap Dt.cells) = .agg [ints w.cards, .lst (w.cases.map ints), ints x.cards, .lst (x.cases.map ints)] := by rw [hL]; rfl
  refine ⟨Nat, fun j => [(1, .p (u8 set)), (2, .p (u8 less)), (36, .p (.agg (L.flatMap Dt.cells))), (37, .p (i64 j))], fun _ => ⟨0, []⟩, fun j => j ≤ 2, fun j => 2 - j, ?_, ?_⟩
  · exact ⟨0, by omega, ent_of [] [] [] rfl ⟨rfl, rfl, eL, rfl, trivial⟩ (by (repeat' first | exact trivial | exact rfl | exact ⟨rfl, rfl⟩ | exact .inl rfl | refine ⟨_, rfl, rfl, rfl, ?_⟩ | refine ⟨_, _, rfl, ?_, ?_⟩ | refine ⟨_, rfl, ?_⟩ | refine And.intro ?_ ?_)) rfl⟩
  intro J hJ
  (first | refine brLt (fun h1 => ?_) (fun h1 => ?_) | refine brLe (fun h1 => ?_) (fun h1 => ?_) | refine brEq (fun h1 => ?_) (fun h1 => ?_))
  rotate_left
  · exact end1 _ rfl rfl rfl
  have h1 : (J : Int) < 2 := h1
  have hJl : J < L.length := by omega
  obtain ⟨z, hzz⟩ : ∃ z, z = L.getD J ⟨[], []⟩ := ⟨_, rfl⟩
  obtain ⟨hr, hz⟩ := hLr _ (getD_memL ⟨[], []⟩ hJl)
  rw [← hzz] at hr hz
  have hz0 : J = 0 → ∀ c ∈ z.cases, ∀ y ∈ c, 0 ≤ y := fun h => by subst h; rw [hzz]; exact hL0
  have hld : ldInP Tryd.prog TD (L.flatMap Dt.cells) ((J : Int).toNat * 2) = some z.pv := by rw [Int.toNat_natCast, hzz]; exact ld_flat (by kernel_rfl) hJl
  have hn6 : z.cards.length ≤ 6 := hr.1.2.1
  obtain ⟨vars, hvars⟩ : ∃ l, l = varsN set z.cards.length := ⟨_, rfl⟩
  obtain ⟨some, hsome⟩ : ∃ l, l = varsN (set &&& less) z.cards.length := ⟨_, rfl⟩
  have hV1 := vars_c z.cards.length set (by omega)
  have hV2 := vars_c z.cards.length (set &&& less) (by omega)
  have hl1 := vars_list set z.cards.length
  have hl2 := vars_list (set &&& less) z.cards.length
  have hsub : ∀ u ∈ some, u ∈ vars := by rw [hsome, hvars]; exact some_sub
  rw [← hvars] at hV1 hl1
  rw [← hsome] at hV2 hl2
  have hvl := list_len hl1
  have hsl := list_len hl2
  have hC1 := count_c z vars hz (by omega)
  have hC2 := count_c z some hz (by omega)
  have hB1 := countP_len hz (show vars.length ≤ 1000 by omega)
  have hB2 := countP_len hz (show some.length ≤ 1000 by omega)
  rw [countP, if_pos hr, if_pos hl1] at hB1
  rw [countP, if_pos hr, if_pos hl2] at hB2
  rw [countV, countP, if_pos hr, if_pos hl1] at hC1
  rw [countV, countP, if_pos hr, if_pos hl2] at hC2
  obtain ⟨f, hf⟩ : ∃ f, f = countN z vars := ⟨_, rfl⟩
  obtain ⟨g, hg⟩ : ∃ g, g = countN z some := ⟨_, rfl⟩
  have hfv : f.vars = vars := by rw [hf]; rfl
  have hfc : f.cards.length = vars.length := by rw [hf]; show (cardsOf _ _).length = _; rw [cardsOf, List.length_map]
  have hfw : f.w = tabN z.cards vars (prodN (cardsOf z.cards vars)).toNat z.cases := by rw [hf]; rfl
  have hgw : g.w = tabN z.cards some (prodN (cardsOf z.cards some)).toNat z.cases := by rw [hg]; rfl
  have hfl : f.w.length ≤ 4096 := by rw [hf]; exact hB1.2.2
  have hgl : g.w.length ≤ 4096 := by rw [hg]; exact hB2.2.2
  rw [← hf] at hC1
  rw [← hg] at hC2
  have hfS : f.w.length = (prodN (cardsOf z.cards vars)).toNat := by rw [hfw, tab_len]
  have hgS : g.w.length = (prodN (cardsOf z.cards some)).toNat := by rw [hgw, tab_len]
  have hp1 := prod_pos (cardsOf_ok hr.2.1 (list_mem hl1))
  have hp2 := prod_pos (cardsOf_ok hr.2.1 (list_mem hl2))
  have hE := equal_c vars vars (by omega) (by omega)
  rw [decide_eq_true rfl] at hE
  refine ⟨_, ⟨⟨by omega, by omega⟩, z.pv, hld, rfl⟩, ?_⟩
  refine hV1.eq (congrArg (fun n : Nat => [AV.p (i64 n), AV.p (u8 set)]) (show (z.cards.map i64).length = z.cards.length by simp)) ?_
  refine ⟨((set &&& less).toNat : Int), and_u8 set less, ?_⟩
  refine hV2.eq (congrArg (fun n : Nat => [AV.p (i64 n), AV.p (u8 (set &&& less))]) (show (z.cards.map i64).length = z.cards.length by simp)) ?_
  refine hC1.eq rfl ?_
  refine hC2.eq rfl ?_
  refine And.intro (fun _ => ?_) (fun h => absurd rfl h)
  refine And.intro (fun _ => ?_) (fun h => absurd rfl h)
  refine hE.eq (congrArg (fun l => [AV.p (ints l), AV.p (ints vars)]) hfv) ?_
  refine And.intro (fun _ => ?_) (fun h => absurd (show (((f.cards.map i64).length : Nat) : Int) = ((vars.map i64).length : Nat) by rw [List.length_map, List.length_map, hfc]) h)
  refine ⟨by show (0 : Int) ≤ ((g.w.map i64).length : Nat) ∧ (((g.w.map i64).length : Nat) : Int) ≤ ((g.w.map i64).length : Nat) ∧ (((g.w.map i64).length : Nat) : Int) * 8 ≤ 281474976710656 ∧ (((g.w.map i64).length : Nat) : Int) ≤ 281474976710656; rw [List.length_map]; omega, ?_⟩
  refine ⟨by show (0 : Int) ≤ ((z.cards.map i64).length : Nat) ∧ (((z.cards.map i64).length : Nat) : Int) ≤ ((z.cards.map i64).length : Nat) ∧ (((z.cards.map i64).length : Nat) : Int) * 8 ≤ 281474976710656 ∧ (((z.cards.map i64).length : Nat) : Int) ≤ 281474976710656; rw [List.length_map]; omega, ?_⟩
  refine ⟨Nat × List Int × List Int, fun x => [(1, .p (u8 set)), (2, .p (u8 less)), (36, .p (.agg (L.flatMap Dt.cells))), (37, .p (i64 J)), (7, .p (i64 J)), (8, .ptr 0 0 0), (9, .p (ints vars)), (10, .p (ints some)), (13, .ptr 2 0 0), (15, .sl 3 1 0 x.2.2.length), (16, .sl 4 1 0 x.2.1.length), (95, .p (ints f.w)), (96, .p (i64 f.w.length)), (97, .p (i64 x.1))], fun x => smH z f g x.2.1 x.2.2,
    fun x => x.1 ≤ f.w.length ∧ VOk z.cards x.2.1 ∧ x.2.2.length = g.w.length ∧ ∀ k, k < g.w.length → x.2.2.getD k 0 = (sumI z.cards vars some z.cases x.1 k : Nat), fun x => f.w.length - x.1, ?_, ?_⟩
  · refine ⟨(0, List.replicate z.cards.length 0, List.replicate g.w.length 0), ⟨by simp, ⟨by simp, fun i hi => ?_⟩, by simp, fun k hk => ?_⟩, ent_of [] [] [] rfl ⟨rfl, rfl, res_p _ _, rfl, rfl, ⟨rfl, rfl⟩, rfl, rfl, ⟨rfl, rfl⟩, ?_, ?_, rfl, lenI f.w, rfl, trivial⟩ ⟨⟨_, rfl, rfl, rfl, ?_⟩, ⟨_, rfl, rfl, rfl, ?_⟩, ⟨_, rfl, rfl, rfl, _, rfl, by (repeat' first | exact trivial | exact rfl | exact ⟨rfl, rfl⟩ | exact .inl rfl | refine ⟨_, rfl, rfl, rfl, ?_⟩ | refine ⟨_, _, rfl, ?_, ?_⟩ | refine ⟨_, rfl, ?_⟩ | refine And.intro ?_ ?_)⟩, ⟨_, rfl, rfl, rfl, _, rfl, by (repeat' first | exact trivial | exact rfl | exact ⟨rfl, rfl⟩ | exact .inl rfl | refine ⟨_, rfl, rfl, rfl, ?_⟩ | refine ⟨_, _, rfl, ?_, ?_⟩ | refine ⟨_, rfl, ?_⟩ | refine And.intro ?_ ?_)⟩, ⟨_, rfl, rfl, rfl, _, rfl, by (repeat' first | exact trivial | exact rfl | exact ⟨rfl, rfl⟩ | exact .inl rfl | refine ⟨_, rfl, rfl, rfl, ?_⟩ | refine ⟨_, _, rfl, ?_, ?_⟩ | refine ⟨_, rfl, ?_⟩ | refine And.intro ?_ ?_)⟩, trivial⟩ rfl⟩
    · have := (hr.2.1 _ (getD_memL 0 hi)).1
      simp [List.getD_eq_getElem?_getD, hi]
      rw [List.getD_eq_getElem?_getD, List.getElem?_eq_getElem hi] at this
      simp only [Option.getD_some] at this
      omega
    · rw [show ((0 : Nat) : Int) = 0 from rfl, sum_zero]
      simp [List.getD_eq_getElem?_getD, hk]
    · exact congrArg (fun n => AV.sl 3 1 0 n) (by rw [List.length_replicate]; exact List.length_map ..)
    · exact congrArg (fun n => AV.sl 4 1 0 n) (by rw [List.length_replicate]; exact List.length_map ..)
    · show List.replicate (z.cards.map i64).length (i64 0) = (List.replicate z.cards.length (0 : Int)).map i64
      rw [List.map_replicate, List.length_map]
    · show List.replicate (g.w.map i64).length (i64 0) = (List.replicate g.w.length (0 : Int)).map i64
      rw [List.map_replicate, List.length_map]
  rintro ⟨t, v, sums⟩ ⟨g1, g2, g3, g4⟩
  simp only [] at g1 g2 g3 g4
  obtain ⟨cs, xs⟩ := z
  simp only [] at hn6 hp1 hp2 hfS hgS hl1 hl2 hvl hsl g2 g4 hfw hgw
  have hcs := hr.2.1
  have hcx := hr.2.2.1
  have hxl : xs.length ≤ 40 := hr.1.2.2
  simp only [] at hcs hcx
  have hin1 : inC cs vars := fun u hu => list_mem hl1 u hu
  have hin2 : inC cs some := fun u hu => list_mem hl2 u hu
  have hvlen := g2.len
  (first | refine brLt (fun h2 => ?_) (fun h2 => ?_) | refine brLe (fun h2 => ?_) (fun h2 => ?_) | refine brEq (fun h2 => ?_) (fun h2 => ?_))
  · have h2 : (t : Int) < (f.w.length : Nat) := h2
    have ht : t < f.w.length := by omega
    have htp : (t : Int) < prodN (cardsOf cs vars) := by omega
    obtain ⟨m, hm⟩ : ∃ m, m = f.w.getD t 0 := ⟨_, rfl⟩
    have hmt : m = (cntI cs vars xs t : Nat) := by rw [hm, hfw]; exact tab_get _ _ _ _ (by omega)
    refine ⟨_, ⟨by omega, i64 m, by rw [hm]; exact icell ht, rfl⟩, ?_⟩
    refine ⟨(vars.length : Int) - 1, by rw [show ((vars.map i64).length : Int) = (vars.length : Nat) by rw [List.length_map]]; exact wrap_i64 (by omega) (by omega), ?_⟩
    refine ⟨Nat × Int × List Int, fun x => [(1, .p (u8 set)), (2, .p (u8 less)), (36, .p (.agg (L.flatMap Dt.cells))), (37, .p (i64 J)), (7, .p (i64 J)), (8, .ptr 0 0 0), (9, .p (ints vars)), (10, .p (ints some)), (13, .ptr 2 0 0), (15, .sl 3 1 0 sums.length), (16, .sl 4 1 0 x.2.2.length), (95, .p (ints f.w)), (96, .p (i64 f.w.length)), (97, .p (i64 t)), (18, .p (i64 m)), (19, .p (i64 x.2.1)), (20, .p (i64 ((x.1 : Int) - 1)))], fun x => smH ⟨cs, xs⟩ f g x.2.2 sums,
      fun x => x.1 ≤ vars.length ∧ Dec cs vars x.2.2 t x.2.1 x.1 ∧ x.2.1 ≤ 4096, fun x => x.1, ?_, ?_⟩
    · exact ⟨(vars.length, t, v), ⟨by simp, dec_start g2 (by omega) htp, by simp only []; omega⟩, ent_of [] [] [] rfl ⟨rfl, rfl, res_p _ _, rfl, rfl, ⟨rfl, rfl⟩, rfl, rfl, ⟨rfl, rfl⟩, rfl, rfl, rfl, rfl, rfl, rfl, rfl, rfl, trivial⟩ (by (repeat' first | exact trivial | exact rfl | exact ⟨rfl, rfl⟩ | exact .inl rfl | refine ⟨_, rfl, rfl, rfl, ?_⟩ | refine ⟨_, _, rfl, ?_, ?_⟩ | refine ⟨_, rfl, ?_⟩ | refine And.intro ?_ ?_)) rfl⟩
    rintro ⟨j, rest, v'⟩ ⟨q1, q2, q3⟩
    simp only [] at q1 q2 q3
    have hv'l := q2.vok.len
    (first | refine brLt (fun h3 => ?_) (fun h3 => ?_) | refine brLe (fun h3 => ?_) (fun h3 => ?_) | refine brEq (fun h3 => ?_) (fun h3 => ?_))
    · have h3 : (0 : Int) ≤ (j : Int) - 1 := h3
      obtain ⟨j', rfl⟩ : ∃ j', j = j' + 1 := ⟨j - 1, by omega⟩
      have hj : j' < vars.length := by omega
      have hst := dec_step q2 hj hl1 hcs
      obtain ⟨u1, u2⟩ := hin1 _ (getD_memL 0 hj)
      obtain ⟨u, hu⟩ : ∃ u : Nat, vars.getD j' 0 = u := ⟨(vars.getD j' 0).toNat, by omega⟩
      rw [hu] at hst u1 u2
      rw [Int.toNat_natCast] at hst
      have hun : u < cs.length := by omega
      have hok := hcs _ (getD_memL 0 hun)
      obtain ⟨c, hcc⟩ : ∃ c, c = cs.getD u 0 := ⟨_, rfl⟩
      rw [← hcc] at hst hok
      have hc2 := hok.1
      have hlo := q2.lo
      have hd0 : 0 ≤ rest.tdiv c := Int.tdiv_nonneg hlo (by omega)
      have hd1 : rest.tdiv c ≤ rest := Int.tdiv_le_self _ hlo
      have hk1 : (((j' + 1 : Nat) : Int) - 1).toNat = j' := by omega
      have hcell : (vars.map i64)[(((j' + 1 : Nat) : Int) - 1).toNat]? = .some (i64 u) := by rw [hk1, ← hu]; exact icell hj
      have hcellc : (cs.map i64)[(u : Int).toNat]? = .some (i64 c) := by rw [Int.toNat_natCast, hcc]; exact icell hun
      refine VDraw.seq rfl ?_
      refine ⟨_, ⟨by omega, i64 u, hcell, rfl⟩, ?_⟩
      refine ⟨_, ⟨by omega, i64 u, hcell, rfl⟩, ?_⟩
      refine ⟨_, ⟨by omega, i64 c, hcellc, rfl⟩, ?_⟩
      refine ⟨show c ≠ 0 by omega, ?_⟩
      refine ⟨by show (0 : Int) ≤ (u : Int) ∧ (u : Int) < (v'.length : Nat); omega, ?_⟩
      refine ⟨by show 0 + (u : Int).toNat < (v'.map i64).length; rw [List.length_map]; omega, ?_⟩
      refine VDraw.seq rfl ?_
      refine ⟨_, ⟨by omega, i64 u, hcell, rfl⟩, ?_⟩
      refine ⟨_, ⟨by omega, i64 c, hcellc, rfl⟩, ?_⟩
      refine ⟨show c ≠ 0 by omega, rest.tdiv c, wrap_i64 (by omega) (by omega), ?_⟩
      refine ⟨(j' : Int) - 1, by rw [show (((j' + 1 : Nat) : Int) - 1 - 1) = (j' : Int) - 1 by omega]; exact wrap_i64 (by omega) (by omega), ?_⟩
      refine ⟨(j', rest.tdiv c, v'.set u (rest.tmod c)), ⟨by simp only []; omega, hst, by simp only []; omega⟩, ent_of [] [] [] rfl ⟨rfl, rfl, res_p _ _, rfl, rfl, ⟨rfl, rfl⟩, rfl, rfl, ⟨rfl, rfl⟩, rfl, congrArg (fun n => AV.sl 4 1 0 n) (List.length_set).symm, rfl, rfl, rfl, rfl, rfl, rfl, trivial⟩ ⟨⟨_, rfl, rfl, rfl, ?_⟩, ⟨_, rfl, rfl, rfl, rfl⟩, ⟨_, rfl, rfl, rfl, _, rfl, by (repeat' first | exact trivial | exact rfl | exact ⟨rfl, rfl⟩ | exact .inl rfl | refine ⟨_, rfl, rfl, rfl, ?_⟩ | refine ⟨_, _, rfl, ?_, ?_⟩ | refine ⟨_, rfl, ?_⟩ | refine And.intro ?_ ?_)⟩, ⟨_, rfl, rfl, rfl, _, rfl, by (repeat' first | exact trivial | exact rfl | exact ⟨rfl, rfl⟩ | exact .inl rfl | refine ⟨_, rfl, rfl, rfl, ?_⟩ | refine ⟨_, _, rfl, ?_, ?_⟩ | refine ⟨_, rfl, ?_⟩ | refine And.intro ?_ ?_)⟩, ⟨_, rfl, rfl, rfl, _, rfl, by (repeat' first | exact trivial | exact rfl | exact ⟨rfl, rfl⟩ | exact .inl rfl | refine ⟨_, rfl, rfl, rfl, ?_⟩ | refine ⟨_, _, rfl, ?_, ?_⟩ | refine ⟨_, rfl, ?_⟩ | refine And.intro ?_ ?_)⟩, trivial⟩ rfl, by simp only []; omega⟩
      show (v'.map i64).set (0 + (u : Int).toNat) (i64 (rest.tmod c)) = (v'.set u (rest.tmod c)).map i64
      rw [List.map_set, Nat.zero_add, Int.toNat_natCast]
    · have h3 : ¬ (0 : Int) ≤ (j : Int) - 1 := h3
      have hj0 : j = 0 := by omega
      subst hj0
      obtain ⟨e1, e2⟩ := dec_end q2
      have hv := q2.vok
      subst e1
      have hcnt := cnt_eq hv hin1 hcx
      rw [e2] at hcnt
      have hstep := fun k => sum_step (k := k) hv hin1 hcx hsub (by rw [e2]; omega)
      rw [e2] at hstep
      have hto0 : 0 ≤ idxN cs v' some 0 ∧ idxN cs v' some 0 < prodN (cardsOf cs some) := by
        have hI := idx_lt (values := v') some 0 1 hin2 hcs (fun i hi => (hv.rng i hi).2) (by omega) (by omega)
        have hG := idx_ge (cs := cs) (c := v') (vars := some) (a := 0) (List.all_eq_true.2 fun u hu => by
          obtain ⟨u1, u2⟩ := hin2 u hu
          simpa using (hv.rng u.toNat (by omega)).1) (by omega) ⟨by omega, by omega, hv'l, hin2, hcs, fun i hi => (hv.rng i hi).2⟩
        rw [Int.one_mul] at hI
        exact ⟨hG, hI.2⟩
      have hIx := index_c cs some v' ⟨by omega, by omega, hv'l, hin2, hcs, fun i hi => (hv.rng i hi).2⟩
      refine ⟨Nat × Nat, fun x => [(1, .p (u8 set)), (2, .p (u8 less)), (36, .p (.agg (L.flatMap Dt.cells))), (37, .p (i64 J)), (7, .p (i64 J)), (8, .ptr 0 0 0), (9, .p (ints vars)), (10, .p (ints some)), (13, .ptr 2 0 0), (15, .sl 3 1 0 sums.length), (16, .sl 4 1 0 v'.length), (95, .p (ints f.w)), (96, .p (i64 f.w.length)), (97, .p (i64 t)), (18, .p (i64 m)), (19, .p (i64 0)), (21, .p (i64 x.2)), (137, .p (.lst (xs.map ints))), (138, .p (i64 xs.length)), (139, .p (i64 x.1))], fun _ => smH ⟨cs, xs⟩ f g v' sums,
        fun x => x.1 ≤ xs.length ∧ x.2 = (xs.take x.1).countP (fun c => eqOn vars c v'), fun x => xs.length - x.1, ?_, ?_⟩
      · exact ⟨(0, 0), ⟨by simp, by simp⟩, ent_of [] [] [] rfl ⟨rfl, rfl, res_p _ _, rfl, rfl, ⟨rfl, rfl⟩, rfl, rfl, ⟨rfl, rfl⟩, rfl, rfl, rfl, rfl, rfl, rfl, rfl, rfl, rfl, lenC xs, rfl, trivial⟩ (by (repeat' first | exact trivial | exact rfl | exact ⟨rfl, rfl⟩ | exact .inl rfl | refine ⟨_, rfl, rfl, rfl, ?_⟩ | refine ⟨_, _, rfl, ?_, ?_⟩ | refine ⟨_, rfl, ?_⟩ | refine And.intro ?_ ?_)) rfl⟩
      rintro ⟨ci, times⟩ ⟨p1, p2⟩
      simp only [] at p1 p2
      have htl : times ≤ ci := by rw [p2]; have := List.countP_le_length (p := fun c => eqOn vars c v') (l := xs.take ci); rw [List.length_take] at this; omega
      (first | refine brLt (fun h4 => ?_) (fun h4 => ?_) | refine brLe (fun h4 => ?_) (fun h4 => ?_) | refine brEq (fun h4 => ?_) (fun h4 => ?_))
      · have h4 : (ci : Int) < (xs.length : Nat) := h4
        have hci : ci < xs.length := by omega
        obtain ⟨c, hc⟩ : ∃ c, c = xs.getD ci [] := ⟨_, rfl⟩
        have hcm : c ∈ xs := by rw [hc]; exact getD_memL [] hci
        have hcl := (hcx c hcm).1
        have hsn := cntOn_snoc (vars := vars) (v := v') hci
        rw [← hc, ← p2] at hsn
        refine ⟨_, ⟨by omega, ints c, by rw [hc]; exact ccell hci, rfl⟩, ?_⟩
        refine ⟨Nat × Bool, fun x => [(1, .p (u8 set)), (2, .p (u8 less)), (36, .p (.agg (L.flatMap Dt.cells))), (37, .p (i64 J)), (7, .p (i64 J)), (8, .ptr 0 0 0), (9, .p (ints vars)), (10, .p (ints some)), (13, .ptr 2 0 0), (15, .sl 3 1 0 sums.length), (16, .sl 4 1 0 v'.length), (95, .p (ints f.w)), (96, .p (i64 f.w.length)), (97, .p (i64 t)), (18, .p (i64 m)), (19, .p (i64 0)), (21, .p (i64 times)), (137, .p (.lst (xs.map ints))), (138, .p (i64 xs.length)), (139, .p (i64 ci)), (23, .p (ints c)), (24, .p (.bool x.2)), (143, .p (ints vars)), (144, .p (i64 vars.length)), (145, .p (i64 x.1))], fun _ => smH ⟨cs, xs⟩ f g v' sums,
          fun x => x.1 ≤ vars.length ∧ x.2 = eqOn (vars.take x.1) c v', fun x => vars.length - x.1, ?_, ?_⟩
        · exact ⟨(0, true), ⟨by simp, rfl⟩, ent_of [] [] [] rfl ⟨rfl, rfl, res_p _ _, rfl, rfl, ⟨rfl, rfl⟩, rfl, rfl, ⟨rfl, rfl⟩, rfl, rfl, rfl, rfl, rfl, rfl, rfl, rfl, rfl, rfl, rfl, rfl, rfl, rfl, lenI vars, rfl, trivial⟩ (by (repeat' first | exact trivial | exact rfl | exact ⟨rfl, rfl⟩ | exact .inl rfl | refine ⟨_, rfl, rfl, rfl, ?_⟩ | refine ⟨_, _, rfl, ?_, ?_⟩ | refine ⟨_, rfl, ?_⟩ | refine And.intro ?_ ?_)) rfl⟩
        rintro ⟨ui, b⟩ ⟨o1, o2⟩
        simp only [] at o1 o2
        cases b
        · (first | refine brLt (fun h5 => ?_) (fun h5 => ?_) | refine brLe (fun h5 => ?_) (fun h5 => ?_) | refine brEq (fun h5 => ?_) (fun h5 => ?_))
          · have h5 : (ui : Int) < (vars.length : Nat) := h5
            have hui : ui < vars.length := by omega
            have hes := eqOn_snoc (c := c) (v := v') hui
            rw [← o2, Bool.false_and] at hes
            refine ⟨_, ⟨by omega, i64 (vars.getD ui 0), icell hui, rfl⟩, ?_⟩
            refine VDraw.seq rfl ?_
            refine ⟨_, wrap_i64 (by omega) (by omega), ?_⟩
            exact ⟨(ui + 1, false), ⟨by simp only []; omega, hes.symm⟩, ent_of [] [] [] rfl ⟨rfl, rfl, res_p _ _, rfl, rfl, ⟨rfl, rfl⟩, rfl, rfl, ⟨rfl, rfl⟩, rfl, rfl, rfl, rfl, rfl, rfl, rfl, rfl, rfl, rfl, rfl, rfl, rfl, rfl, rfl, rfl, trivial⟩ (by (repeat' first | exact trivial | exact rfl | exact ⟨rfl, rfl⟩ | exact .inl rfl | refine ⟨_, rfl, rfl, rfl, ?_⟩ | refine ⟨_, _, rfl, ?_, ?_⟩ | refine ⟨_, rfl, ?_⟩ | refine And.intro ?_ ?_)) rfl, by simp only []; omega⟩
          · have h5 : ¬ (ui : Int) < (vars.length : Nat) := h5
            rw [take_all (by omega)] at o2
            rw [← o2, if_neg (by decide), Nat.add_zero] at hsn
            refine ⟨_, wrap_i64 (by omega) (by omega), ?_⟩
            exact ⟨(ci + 1, times), ⟨by simp only []; omega, hsn.symm⟩, ent_of [] [] [] rfl ⟨rfl, rfl, res_p _ _, rfl, rfl, ⟨rfl, rfl⟩, rfl, rfl, ⟨rfl, rfl⟩, rfl, rfl, rfl, rfl, rfl, rfl, rfl, rfl, rfl, rfl, rfl, trivial⟩ (by (repeat' first | exact trivial | exact rfl | exact ⟨rfl, rfl⟩ | exact .inl rfl | refine ⟨_, rfl, rfl, rfl, ?_⟩ | refine ⟨_, _, rfl, ?_, ?_⟩ | refine ⟨_, rfl, ?_⟩ | refine And.intro ?_ ?_)) rfl, by simp only []; omega⟩
        · (first | refine brLt (fun h5 => ?_) (fun h5 => ?_) | refine brLe (fun h5 => ?_) (fun h5 => ?_) | refine brEq (fun h5 => ?_) (fun h5 => ?_))
          · have h5 : (ui : Int) < (vars.length : Nat) := h5
            have hui : ui < vars.length := by omega
            have hes := eqOn_snoc (c := c) (v := v') hui
            rw [← o2, Bool.true_and] at hes
            obtain ⟨u1, u2⟩ := hin1 _ (getD_memL 0 hui)
            obtain ⟨u, hu⟩ : ∃ u : Nat, vars.getD ui 0 = u := ⟨(vars.getD ui 0).toNat, by omega⟩
            rw [hu] at hes u1 u2
            rw [Int.toNat_natCast] at hes
            have hun : u < cs.length := by omega
            refine ⟨_, ⟨by omega, i64 u, by rw [← hu]; exact icell hui, rfl⟩, ?_⟩
            refine VDraw.seq rfl ?_
            refine ⟨_, ⟨by omega, i64 (c.getD u 0), by show (c.map i64)[(u : Int).toNat]? = _; rw [Int.toNat_natCast]; exact icell (by omega), rfl⟩, ?_⟩
            refine ⟨by show (0 : Int) ≤ (u : Int) ∧ (u : Int) < (v'.length : Nat); omega, ?_⟩
            refine ⟨_, ⟨i64 (v'.getD u 0), by show (v'.map i64)[0 + (u : Int).toNat]? = _; rw [Nat.zero_add, Int.toNat_natCast]; exact icell (by omega), rfl⟩, ?_⟩
            (first | refine brLt (fun h6 => ?_) (fun h6 => ?_) | refine brLe (fun h6 => ?_) (fun h6 => ?_) | refine brEq (fun h6 => ?_) (fun h6 => ?_))
            · have h6 : c.getD u 0 = v'.getD u 0 := h6
              rw [decide_eq_true h6] at hes
              refine ⟨_, wrap_i64 (by omega) (by omega), ?_⟩
              exact ⟨(ui + 1, true), ⟨by simp only []; omega, hes.symm⟩, ent_of [] [] [] rfl ⟨rfl, rfl, res_p _ _, rfl, rfl, ⟨rfl, rfl⟩, rfl, rfl, ⟨rfl, rfl⟩, rfl, rfl, rfl, rfl, rfl, rfl, rfl, rfl, rfl, rfl, rfl, rfl, rfl, rfl, rfl, rfl, trivial⟩ (by (repeat' first | exact trivial | exact rfl | exact ⟨rfl, rfl⟩ | exact .inl rfl | refine ⟨_, rfl, rfl, rfl, ?_⟩ | refine ⟨_, _, rfl, ?_, ?_⟩ | refine ⟨_, rfl, ?_⟩ | refine And.intro ?_ ?_)) rfl, by simp only []; omega⟩
            · have h6 : ¬ c.getD u 0 = v'.getD u 0 := h6
              rw [decide_eq_false h6] at hes
              refine ⟨_, wrap_i64 (by omega) (by omega), ?_⟩
              exact ⟨(ui + 1, false), ⟨by simp only []; omega, hes.symm⟩, ent_of [] [] [] rfl ⟨rfl, rfl, res_p _ _, rfl, rfl, ⟨rfl, rfl⟩, rfl, rfl, ⟨rfl, rfl⟩, rfl, rfl, rfl, rfl, rfl, rfl, rfl, rfl, rfl, rfl, rfl, rfl, rfl, rfl, rfl, rfl, trivial⟩ (by (repeat' first | exact trivial | exact rfl | exact ⟨rfl, rfl⟩ | exact .inl rfl | refine ⟨_, rfl, rfl, rfl, ?_⟩ | refine ⟨_, _, rfl, ?_, ?_⟩ | refine ⟨_, rfl, ?_⟩ | refine And.intro ?_ ?_)) rfl, by simp only []; omega⟩
          · have h5 : ¬ (ui : Int) < (vars.length : Nat) := h5
            rw [take_all (by omega)] at o2
            rw [← o2, if_pos rfl] at hsn
            refine ⟨((times + 1 : Nat) : Int), by rw [Int.natCast_add]; exact wrap_i64 (by omega) (by omega), ?_⟩
            refine ⟨_, wrap_i64 (by omega) (by omega), ?_⟩
            exact ⟨(ci + 1, times + 1), ⟨by simp only []; omega, hsn.symm⟩, ent_of [] [] [] rfl ⟨rfl, rfl, res_p _ _, rfl, rfl, ⟨rfl, rfl⟩, rfl, rfl, ⟨rfl, rfl⟩, rfl, rfl, rfl, rfl, rfl, rfl, rfl, rfl, rfl, rfl, rfl, trivial⟩ (by (repeat' first | exact trivial | exact rfl | exact ⟨rfl, rfl⟩ | exact .inl rfl | refine ⟨_, rfl, rfl, rfl, ?_⟩ | refine ⟨_, _, rfl, ?_, ?_⟩ | refine ⟨_, rfl, ?_⟩ | refine And.intro ?_ ?_)) rfl, by simp only []; omega⟩
      · have h4 : ¬ (ci : Int) < (xs.length : Nat) := h4
        rw [take_all (by omega), ← hcnt] at p2
        have hmt2 : m = (times : Nat) := by rw [hmt, p2]
        obtain ⟨to, hto⟩ : ∃ to : Nat, idxN cs v' some 0 = to := ⟨(idxN cs v' some 0).toNat, by omega⟩
        rw [hto] at hIx hto0 hstep
        have htoG : to < g.w.length := by omega
        have hsle := sum_le cs vars some xs t to
        have hg4 := g4 to htoG
        have hcle : cntI cs some xs (to : Int) ≤ xs.length := List.countP_le_length
        refine hIx.lends [4] rfl ⟨_, _, rfl, rfl, _, _, rfl, rfl, _, _, rfl, ⟨_, rfl, by show 0 + v'.length ≤ (v'.map i64).length; simp, takeAll (by simp)⟩, rfl⟩ ?_
        refine And.intro (fun _ => ?_) (fun h => absurd rfl h)
        refine And.intro (fun _ => ?_) (fun h => absurd (show m = (times : Int) from hmt2) h)
        refine And.intro (fun h => absurd (show ((sums.length : Nat) : Int) ≤ (to : Int) from h) (by omega)) (fun _ => ?_)
        refine ⟨by show (0 : Int) ≤ (to : Int) ∧ (to : Int) < (sums.length : Nat); omega, ?_⟩
        refine ⟨_, ⟨i64 (sums.getD to 0), by show (sums.map i64)[0 + (to : Int).toNat]? = _; rw [Nat.zero_add, Int.toNat_natCast]; exact icell (by omega), rfl⟩, ?_⟩
        refine ⟨sums.getD to 0 + m, wrap_i64 (by omega) (by omega), ?_⟩
        refine ⟨by show (0 : Int) ≤ (to : Int) ∧ (to : Int) < (sums.length : Nat); omega, ?_⟩
        refine ⟨by show 0 + (to : Int).toNat < (sums.map i64).length; rw [List.length_map]; omega, ?_⟩
        refine ⟨_, wrap_i64 (by omega) (by omega), ?_⟩
        refine ⟨(t + 1, v', sums.set to (sums.getD to 0 + m)), ⟨by simp only []; omega, hv, by simp only [List.length_set]; exact g3, fun k hk => ?_⟩, ent_of [] [] [] rfl ⟨rfl, rfl, res_p _ _, rfl, rfl, ⟨rfl, rfl⟩, rfl, rfl, ⟨rfl, rfl⟩, congrArg (fun n => AV.sl 3 1 0 n) (List.length_set).symm, rfl, rfl, rfl, rfl, trivial⟩ ⟨⟨_, rfl, rfl, rfl, rfl⟩, ⟨_, rfl, rfl, rfl, ?_⟩, ⟨_, rfl, rfl, rfl, _, rfl, by (repeat' first | exact trivial | exact rfl | exact ⟨rfl, rfl⟩ | exact .inl rfl | refine ⟨_, rfl, rfl, rfl, ?_⟩ | refine ⟨_, _, rfl, ?_, ?_⟩ | refine ⟨_, rfl, ?_⟩ | refine And.intro ?_ ?_)⟩, ⟨_, rfl, rfl, rfl, _, rfl, by (repeat' first | exact trivial | exact rfl | exact ⟨rfl, rfl⟩ | exact .inl rfl | refine ⟨_, rfl, rfl, rfl, ?_⟩ | refine ⟨_, _, rfl, ?_, ?_⟩ | refine ⟨_, rfl, ?_⟩ | refine And.intro ?_ ?_)⟩, ⟨_, rfl, rfl, rfl, _, rfl, by (repeat' first | exact trivial | exact rfl | exact ⟨rfl, rfl⟩ | exact .inl rfl | refine ⟨_, rfl, rfl, rfl, ?_⟩ | refine ⟨_, _, rfl, ?_, ?_⟩ | refine ⟨_, rfl, ?_⟩ | refine And.intro ?_ ?_)⟩, trivial⟩ rfl, by simp only []; omega⟩
        · have hs := hstep (k : Int)
          simp only []
          rw [show ((t + 1 : Nat) : Int) = (t : Int) + 1 by omega, hs, set_getD (by omega)]
          by_cases e : k = to
          · subst e
            rw [if_pos rfl, if_pos rfl, g4 k hk, hmt]
          · rw [if_neg e, if_neg (by omega), g4 k hk, Int.add_zero]
        · show (sums.map i64).set (0 + (to : Int).toNat) (i64 (sums.getD to 0 + m)) = (sums.set to (sums.getD to 0 + m)).map i64
          rw [List.map_set, Nat.zero_add, Int.toNat_natCast]
  · have h2 : ¬ (t : Int) < (f.w.length : Nat) := h2
    have ht : t = f.w.length := by omega
    have hget : ∀ k, k < g.w.length → g.w.getD k 0 = (cntI cs some xs k : Nat) := fun k hk => by rw [hgw]; exact tab_get _ _ _ _ (by omega)
    have hle : ∀ k, k < g.w.length → sums.getD k 0 ≤ g.w.getD k 0 := fun k hk => by
      rw [g4 k hk, hget k hk]
      have := sum_le cs vars some xs t k
      omega
    have heq : J = 0 → ∀ k, k < g.w.length → sums.getD k 0 = g.w.getD k 0 := fun h k hk => by
      rw [g4 k hk, hget k hk, sum_all]
      intro c hc
      have hcl := (hcx c hc).1
      have hkn : knownB vars c = true := List.all_eq_true.2 fun u hu => by
        obtain ⟨u1, u2⟩ := hin1 u hu
        have := hz0 h c hc _ (getD_memL 0 (show u.toNat < c.length by omega))
        simpa using this
      have hI : IxOK cs c vars := ⟨by omega, by omega, hcl, hin1, hcs, fun i hi => ((hcx c hc).2 i hi).2⟩
      have h3 := idx_ge hkn (show (0 : Int) ≤ 0 by omega) hI
      have h4 := idx_lt (values := c) vars 0 1 hin1 hcs hI.lt (by omega) (by omega)
      omega
    refine ⟨Nat, fun k => [(1, .p (u8 set)), (2, .p (u8 less)), (36, .p (.agg (L.flatMap Dt.cells))), (37, .p (i64 J)), (7, .p (i64 J)), (13, .ptr 2 0 0), (192, .sl 3 1 0 sums.length), (193, .p (i64 sums.length)), (194, .p (i64 k))], fun _ => smH ⟨cs, xs⟩ f g v sums, fun k => k ≤ sums.length, fun k => sums.length - k, ?_, ?_⟩
    · exact ⟨0, by omega, ent_of [] [] [] rfl ⟨rfl, rfl, res_p _ _, rfl, rfl, ⟨rfl, rfl⟩, rfl, rfl, rfl, trivial⟩ (by (repeat' first | exact trivial | exact rfl | exact ⟨rfl, rfl⟩ | exact .inl rfl | refine ⟨_, rfl, rfl, rfl, ?_⟩ | refine ⟨_, _, rfl, ?_, ?_⟩ | refine ⟨_, rfl, ?_⟩ | refine And.intro ?_ ?_)) rfl⟩
    intro k hk
    (first | refine brLt (fun k1 => ?_) (fun k1 => ?_) | refine brLe (fun k1 => ?_) (fun k1 => ?_) | refine brEq (fun k1 => ?_) (fun k1 => ?_))
    · have k1 : (k : Int) < (sums.length : Nat) := k1
      have hkg : k < g.w.length := by omega
      have hgc : (g.w.map i64)[(k : Int).toNat]? = .some (i64 (g.w.getD k 0)) := by rw [Int.toNat_natCast]; exact icell hkg
      have h5 := hle k hkg
      refine ⟨by show (0 : Int) ≤ (k : Int) ∧ (k : Int) < (sums.length : Nat); omega, ?_⟩
      refine ⟨_, ⟨i64 (sums.getD k 0), by show (sums.map i64)[0 + (k : Int).toNat]? = _; rw [Nat.zero_add, Int.toNat_natCast]; exact icell (by omega), rfl⟩, ?_⟩
      refine ⟨_, ⟨by omega, i64 (g.w.getD k 0), hgc, rfl⟩, ?_⟩
      refine And.intro (fun h => absurd (show g.w.getD k 0 < sums.getD k 0 from h) (by omega)) (fun _ => ?_)
      (first | refine brLt (fun k2 => ?_) (fun k2 => ?_) | refine brLe (fun k2 => ?_) (fun k2 => ?_) | refine brEq (fun k2 => ?_) (fun k2 => ?_))
      · have k2 : (J : Int) = 0 := k2
        refine ⟨_, ⟨by omega, i64 (g.w.getD k 0), hgc, rfl⟩, ?_⟩
        refine And.intro (fun _ => ?_) (fun h => absurd (show sums.getD k 0 = g.w.getD k 0 from heq (by omega) k hkg) h)
        refine ⟨_, wrap_i64 (by omega) (by omega), ?_⟩
        exact ⟨k + 1, by omega, ent_of [] [] [] rfl ⟨rfl, rfl, res_p _ _, rfl, rfl, ⟨rfl, rfl⟩, rfl, rfl, rfl, trivial⟩ (by (repeat' first | exact trivial | exact rfl | exact ⟨rfl, rfl⟩ | exact .inl rfl | refine ⟨_, rfl, rfl, rfl, ?_⟩ | refine ⟨_, _, rfl, ?_, ?_⟩ | refine ⟨_, rfl, ?_⟩ | refine And.intro ?_ ?_)) rfl, by show sums.length - (k + 1) < sums.length - k; omega⟩
      · refine ⟨_, wrap_i64 (by omega) (by omega), ?_⟩
        exact ⟨k + 1, by omega, ent_of [] [] [] rfl ⟨rfl, rfl, res_p _ _, rfl, rfl, ⟨rfl, rfl⟩, rfl, rfl, rfl, trivial⟩ (by (repeat' first | exact trivial | exact rfl | exact ⟨rfl, rfl⟩ | exact .inl rfl | refine ⟨_, rfl, rfl, rfl, ?_⟩ | refine ⟨_, _, rfl, ?_, ?_⟩ | refine ⟨_, rfl, ?_⟩ | refine And.intro ?_ ?_)) rfl, by show sums.length - (k + 1) < sums.length - k; omega⟩
    · refine ⟨_, wrap_i64 (by omega) (by omega), ?_⟩
      exact ⟨J + 1, by omega, ent_of [] [] [] rfl ⟨rfl, rfl, res_p _ _, rfl, trivial⟩ (by (repeat' first | exact trivial | exact rfl | exact ⟨rfl, rfl⟩ | exact .inl rfl | refine ⟨_, rfl, rfl, rfl, ?_⟩ | refine ⟨_, _, rfl, ?_, ?_⟩ | refine ⟨_, rfl, ?_⟩ | refine And.intro ?_ ?_)) rfl, by show 2 - (J + 1) < 2 - J; omega⟩
end Go.Proofs.YtmdmjnfdemgpoaaDoor

/- The parts of a split together; sorted lists; counts of lists put together. -/
namespace Go.Proofs.YtmdmjnfdemgpoaaDoor
open Go Y
set_option maxRecDepth 100000
set_option maxHeartbeats 4000000

theorem pick_or {α : Type} {p q r : Nat → Bool} (h : ∀ k, r k = (p k || q k)) (hn : ∀ k, p k = true → q k = false) : ∀ (xs : List α) (k : Nat), (pickN p k xs ++ pickN q k xs).Perm (pickN r k xs)
  | [], k => by simp [pickN]
  | x :: xs, k => by
    have ih := pick_or h hn xs (k + 1)
    have h1 := h k
    have h2 := hn k
    simp only [pickN]
    cases hp : p k
    · cases hq : q k
      · rw [hp, hq] at h1
        rw [h1]; simpa using ih
      · rw [hp, hq] at h1
        rw [h1]
        simp only [Bool.false_eq_true, if_false, Bool.or_true, if_true]
        exact List.perm_middle.trans (ih.cons x)
    · rw [h2 hp] at h1 ⊢
      rw [h1, hp]
      simpa using ih.cons x
theorem pick_true {α : Type} {p : Nat → Bool} (h : ∀ k, p k = true) : ∀ (xs : List α) (k : Nat), pickN p k xs = xs
  | [], _ => by simp [pickN]
  | x :: xs, k => by simp only [pickN, h, if_true]; rw [pick_true h xs]
theorem pick_false {α : Type} {p : Nat → Bool} (h : ∀ k, p k = false) : ∀ (xs : List α) (k : Nat), pickN p k xs = []
  | [], _ => by simp [pickN]
  | x :: xs, k => by simp only [pickN, h, Bool.false_eq_true, if_false]; exact pick_false h xs _
theorem part_rest (d : Dt) (p i : Int) : ((partN d p i).cases ++ (restN d p i).cases).Perm d.cases := by
  have h := pick_or (p := inPart p i) (q := fun k => !inPart p i k) (r := fun _ => true) (fun k => by cases inPart p i k <;> rfl) (fun k hk => by simp [hk]) d.cases 0
  rw [pick_true (fun _ => rfl)] at h
  exact h

/-- The cases of the first parts. -/
def aheadB (n i : Nat) (k : Nat) : Bool := decide (k % n < i)
theorem aheadB_step (n i : Nat) {α : Type} (xs : List α) : (pickN (aheadB n i) 0 xs ++ pickN (inPart n i) 0 xs).Perm (pickN (aheadB n (i + 1)) 0 xs) := by
  have e : ∀ k : Nat, inPart n i k = decide (k % n = i) := fun k => by
    unfold inPart
    have : ((k : Int).tmod (n : Int)) = ((k % n : Nat) : Int) := by
      rw [Int.tmod_eq_emod_of_nonneg (by omega)]; simp
    rw [this]
    exact decide_eq_decide.2 (by omega)
  refine pick_or (fun k => ?_) (fun k hk => ?_) xs 0
  · rw [e, aheadB, aheadB, ← Bool.decide_or]
    exact decide_eq_decide.2 (by omega)
  · rw [e]
    simp only [aheadB, decide_eq_true_eq] at hk
    exact decide_eq_false (by omega)
theorem aheadB_all {α : Type} {n : Nat} (h : 0 < n) (xs : List α) : pickN (aheadB n n) 0 xs = xs := pick_true (fun k => decide_eq_true (Nat.mod_lt k h)) xs 0
theorem aheadB_none {α : Type} (n : Nat) (xs : List α) : pickN (aheadB n 0) 0 xs = [] := pick_false (fun k => decide_eq_false (by omega)) xs 0

theorem getD_ext {a b : List Int} (hl : a.length = b.length) (h : ∀ k, k < a.length → a.getD k 0 = b.getD k 0) : a = b := by
  refine List.ext_getElem hl fun k h1 h2 => ?_
  have := h k h1
  rwa [List.getD_eq_getElem?_getD, List.getD_eq_getElem?_getD, List.getElem?_eq_getElem h1, List.getElem?_eq_getElem h2] at this
theorem tab_perm {cs vars : List Int} {S : Nat} {a b : List (List Int)} (h : a.Perm b) : tabN cs vars S a = tabN cs vars S b := by
  refine getD_ext (by rw [tab_len, tab_len]) fun k hk => ?_
  rw [tab_len] at hk
  rw [tab_get _ _ _ _ hk, tab_get _ _ _ _ hk, cntI, cntI, h.countP_eq]
theorem tab_app {cs vars : List Int} {S : Nat} {a b : List (List Int)} {k : Nat} (hk : k < S) : (tabN cs vars S (a ++ b)).getD k 0 = (tabN cs vars S a).getD k 0 + (tabN cs vars S b).getD k 0 := by
  rw [tab_get _ _ _ _ hk, tab_get _ _ _ _ hk, tab_get _ _ _ _ hk, cntI, cntI, cntI, List.countP_append]
  omega
theorem tab_zero {cs vars : List Int} {S : Nat} : tabN cs vars S [] = List.replicate S 0 := rfl

theorem sorted_eq {a b : List (List Int)} (ha : sortedL a) (hb : sortedL b) (h : a.Perm b) : a = b := by
  have key : ∀ {l : List (List Int)}, sortedL l → l.Pairwise fun x y => ¬ cmpL y x < 0 := fun {l} hl => by
    rw [List.pairwise_iff_getElem]
    intro i j hi hj hij
    have := hl i j hij hj
    rwa [List.getD_eq_getElem?_getD, List.getD_eq_getElem?_getD, List.getElem?_eq_getElem hi, List.getElem?_eq_getElem hj] at this
  refine List.Perm.eq_of_pairwise (fun x y _ _ h1 h2 => ?_) (key ha) (key hb) h
  have := cmp_flip x y
  exact cmp_eq (by omega)
end Go.Proofs.YtmdmjnfdemgpoaaDoor

/- The statement on the parts together. -/
namespace Go.Proofs.YtmdmjnfdemgpoaaDoor
open Go Y
set_option maxRecDepth 100000
set_option maxHeartbeats 40000000

theorem part_right {d : Dt} (h : rightP d) (p i : Int) : rightP (partN d p i) ∧ rightP (restN d p i) := by
  obtain ⟨⟨r1, r2, r3⟩, r4, r5, r6⟩ := h
  have l1 : (pickN (inPart p i) 0 d.cases).length ≤ d.cases.length := pick_len _ _ _
  have l2 : (pickN (fun k => !inPart p i k) 0 d.cases).length ≤ d.cases.length := pick_len _ _ _
  exact ⟨⟨⟨r1, r2, Nat.le_trans l1 r3⟩, r4, fun c hc => r5 c (pick_mem hc), r6⟩, ⟨⟨r1, r2, Nat.le_trans l2 r3⟩, r4, fun c hc => r5 c (pick_mem hc), r6⟩⟩
theorem right_sm {d : Dt} (h : rightP d) : Sm7 d := by
  obtain ⟨r1, r2, r3⟩ := h.1
  refine ⟨by omega, by omega, fun c hc => ?_⟩
  have := (h.2.2.1 c hc).1
  omega
theorem tab_le {cs vars : List Int} {S : Nat} {xs : List (List Int)} {k : Nat} (hk : k < S) : 0 ≤ (tabN cs vars S xs).getD k 0 ∧ (tabN cs vars S xs).getD k 0 ≤ xs.length := by
  rw [tab_get _ _ _ _ hk]
  have : cntI cs vars xs k ≤ xs.length := List.countP_le_length
  omega
theorem rem40 (p : UInt8) : ((p.toNat : Int)).tmod 40 = ((p.toNat % 40 : Nat) : Int) := rfl


def whH (x : Dt) (f : Fa) (s : List Int) (cs : List (List Int)) : Hp := ⟨5, [(4, csO cs), (3, iO s), (2, faOb f), (1, dtO x)]⟩
def whI (x p q : Dt) (f a b : Fa) (s : List Int) (cs : List (List Int)) : Hp := ⟨9, [(8, faOb b), (7, faOb a), (6, dtO q), (5, dtO p), (4, csO cs), (3, iO s), (2, faOb f), (1, dtO x)]⟩

theorem dataWhole_c (D : Df) (parts set : UInt8) (hD : DfOK D) : Pure cx 9 [D.pv, u8 parts, u8 set] (· = .ret [.bool true]) := by
  refine pure_of_vc Tryd.func9 rfl rfl rfl ?_
  refine works_c.eq rfl ?_
  refine (data_c D hD.five hD.miss).at fun r hr => ?_
  obtain ⟨x, hx, rfl⟩ := hr
  have hr := hx.right
  have hz := hx.sm
  obtain ⟨n, hn⟩ : ∃ n : Nat, n = 1 + parts.toNat % 40 := ⟨_, rfl⟩
  have hn40 : n ≤ 40 := by omega
  have hn6 : x.cards.length ≤ 6 := hr.1.2.1
  obtain ⟨vars, hvars⟩ : ∃ l, l = varsN set x.cards.length := ⟨_, rfl⟩
  have hV := vars_c x.cards.length set (by omega)
  have hl := vars_list set x.cards.length
  rw [← hvars] at hV hl
  have hvl := list_len hl
  have hC := count_c x vars hz (by omega)
  have hB := countP_len hz (show vars.length ≤ 1000 by omega)
  rw [countP, if_pos hr, if_pos hl] at hB
  rw [countV, countP, if_pos hr, if_pos hl] at hC
  obtain ⟨f, hf⟩ : ∃ f, f = countN x vars := ⟨_, rfl⟩
  obtain ⟨S, hS⟩ : ∃ S : Nat, S = (prodN (cardsOf x.cards vars)).toNat := ⟨_, rfl⟩
  have hfw : f.w = tabN x.cards vars S x.cases := by rw [hf, hS]; rfl
  have hfl : f.w.length = S := by rw [hfw, tab_len]
  have hS4 : S ≤ 4096 := by rw [← hfl, hf]; exact hB.2.2
  rw [← hf] at hC
  have hxl : x.cases.length ≤ 40 := hr.1.2.2
  refine ⟨by decide, ?_⟩
  refine ⟨((parts.toNat % 40 : Nat) : Int), by show _ = IntKind.i64.wrap (((parts.toNat : Nat) : Int).tmod 40); rw [rem40]; exact wrap_i64 (by omega) (by omega), ?_⟩
  refine ⟨(n : Int), by rw [hn]; exact wrap_i64 (by omega) (by omega), ?_⟩
  refine hV.eq (congrArg (fun n : Nat => [AV.p (i64 n), AV.p (u8 set)]) (show (x.cards.map i64).length = x.cards.length by simp)) ?_
  refine hC.eq rfl ?_
  refine And.intro (fun _ => ?_) (fun h => absurd rfl h)
  refine ⟨by show (0 : Int) ≤ ((f.w.map i64).length : Nat) ∧ (((f.w.map i64).length : Nat) : Int) ≤ ((f.w.map i64).length : Nat) ∧ (((f.w.map i64).length : Nat) : Int) * 8 ≤ 281474976710656 ∧ (((f.w.map i64).length : Nat) : Int) ≤ 281474976710656; rw [List.length_map]; omega, ?_⟩
  refine ⟨Nat × List (List Int) × List Int, fun y => [(7, .ptr 1 0 0), (8, .p (i64 n)), (9, .p (ints vars)), (10, .ptr 2 0 0), (12, .sl 3 1 0 y.2.2.length), (13, .sl 4 1 0 y.2.1.length), (50, .p (i64 n)), (51, .p (i64 y.1))], fun y => whH x f y.2.2 y.2.1,
    fun y => y.1 ≤ n ∧ y.2.1.Perm (pickN (aheadB n y.1) 0 x.cases) ∧ y.2.2 = tabN x.cards vars S y.2.1, fun y => n - y.1, ?_, ?_⟩
  · refine ⟨(0, [], List.replicate S 0), ⟨by simp, by rw [aheadB_none], rfl⟩, ent_of [] [] [(4, 1)] rfl ⟨⟨rfl, rfl⟩, rfl, rfl, ⟨rfl, rfl⟩, ?_, by (repeat' first | exact trivial | exact rfl | exact ⟨rfl, rfl⟩ | exact .inl rfl | refine ⟨_, rfl, rfl, rfl, ?_⟩ | refine ⟨_, _, rfl, ?_, ?_⟩ | refine ⟨_, rfl, ?_⟩ | refine And.intro ?_ ?_), rfl, rfl, trivial⟩ ?_ rfl⟩
    · exact congrArg (fun n => AV.sl 3 1 0 n) (show (f.w.map i64).length = (List.replicate S (0 : Int)).length by rw [List.length_map, hfl, List.length_replicate])
    · refine ⟨⟨rfl, rfl, rfl⟩, ⟨_, rfl, rfl, rfl, ?_⟩, ⟨_, rfl, rfl, rfl, _, rfl, by (repeat' first | exact trivial | exact rfl | exact ⟨rfl, rfl⟩ | exact .inl rfl | refine ⟨_, rfl, rfl, rfl, ?_⟩ | refine ⟨_, _, rfl, ?_, ?_⟩ | refine ⟨_, rfl, ?_⟩ | refine And.intro ?_ ?_)⟩, ⟨_, rfl, rfl, rfl, _, rfl, by (repeat' first | exact trivial | exact rfl | exact ⟨rfl, rfl⟩ | exact .inl rfl | refine ⟨_, rfl, rfl, rfl, ?_⟩ | refine ⟨_, _, rfl, ?_, ?_⟩ | refine ⟨_, rfl, ?_⟩ | refine And.intro ?_ ?_)⟩, trivial⟩
      show List.replicate (f.w.map i64).length (i64 0) = (List.replicate S (0 : Int)).map i64
      rw [List.length_map, hfl, List.map_replicate]
  rintro ⟨i, cs, s⟩ ⟨g1, g2, g3⟩
  simp only [] at g1 g2 g3
  have hcl : cs.length ≤ 40 := by rw [g2.length_eq]; exact Nat.le_trans (pick_len _ _ _) hxl
  have hsl : s.length = S := by rw [g3, tab_len]
  (first | refine brLt (fun h1 => ?_) (fun h1 => ?_) | refine brLe (fun h1 => ?_) (fun h1 => ?_) | refine brEq (fun h1 => ?_) (fun h1 => ?_))
  · have h1 : (i : Int) < n := h1
    have hsp := split_c x n i hz
    rw [splitV, if_pos hr, if_pos (show okSplit n i from ⟨by omega, by omega, by omega, by omega⟩)] at hsp
    obtain ⟨hpr, hqr⟩ := part_right hr n i
    have hpz := right_sm hpr
    have hqz := right_sm hqr
    have hperm := part_rest x n i
    have hstep := aheadB_step n i x.cases
    have hpe : (partN x n i).cases = pickN (inPart n i) 0 x.cases := rfl
    rw [← hpe] at hstep
    have hpc : (partN x n i).cards = x.cards := rfl
    have hqc : (restN x n i).cards = x.cards := rfl
    have hA := count_c (partN x n i) vars hpz (by omega)
    have hB2 := count_c (restN x n i) vars hqz (by omega)
    rw [countV, countP, if_pos hpr, if_pos (show listP (partN x n i).cards.length vars from hl)] at hA
    rw [countV, countP, if_pos hqr, if_pos (show listP (restN x n i).cards.length vars from hl)] at hB2
    have haw : (countN (partN x n i) vars).w = tabN x.cards vars S (partN x n i).cases := by rw [hS]; rfl
    have hbw : (countN (restN x n i) vars).w = tabN x.cards vars S (restN x n i).cases := by rw [hS]; rfl
    obtain ⟨p, hp⟩ : ∃ p, p = partN x n i := ⟨_, rfl⟩
    obtain ⟨q, hq⟩ : ∃ q, q = restN x n i := ⟨_, rfl⟩
    rw [← hp] at hsp hA hperm haw hstep
    rw [← hq] at hsp hB2 hperm hbw
    obtain ⟨a, ha⟩ : ∃ a, a = countN p vars := ⟨_, rfl⟩
    obtain ⟨b, hb⟩ : ∃ b, b = countN q vars := ⟨_, rfl⟩
    rw [← ha] at hA haw
    rw [← hb] at hB2 hbw
    have hal : a.w.length = S := by rw [haw, tab_len]
    have hbl : b.w.length = S := by rw [hbw, tab_len]
    have hpl := hperm.length_eq
    rw [List.length_append] at hpl
    refine hsp.eq rfl ?_
    refine hA.eq rfl ?_
    refine hB2.eq rfl ?_
    refine And.intro (fun _ => ?_) (fun h => absurd rfl h)
    refine And.intro (fun _ => ?_) (fun h => absurd rfl h)
    refine And.intro (fun _ => ?_) (fun h => absurd rfl h)
    refine And.intro (fun _ => ?_) (fun h => absurd (show (((a.w.map i64).length : Nat) : Int) = (s.length : Nat) by rw [List.length_map, hal, hsl]) h)
    refine And.intro (fun _ => ?_) (fun h => absurd (show (((b.w.map i64).length : Nat) : Int) = (s.length : Nat) by rw [List.length_map, hbl, hsl]) h)
    refine ⟨(x.cases.length : Int), by show _ = IntKind.i64.wrap ((((p.cases.map ints).length : Nat) : Int) + (((q.cases.map ints).length : Nat) : Int)); rw [List.length_map, List.length_map, ← hpl]; exact wrap_i64 (by omega) (by omega), ?_⟩
    refine And.intro (fun _ => ?_) (fun h => absurd (show (x.cases.length : Int) = ((x.cases.map ints).length : Nat) by rw [List.length_map]) h)
    refine ⟨Nat × List Int, fun y => [(7, .ptr 1 0 0), (8, .p (i64 n)), (9, .p (ints vars)), (10, .ptr 2 0 0), (12, .sl 3 1 0 y.2.length), (13, .sl 4 1 0 cs.length), (15, .ptr 5 0 0), (18, .ptr 7 0 0), (20, .ptr 8 0 0), (50, .p (i64 n)), (51, .p (i64 i)), (114, .p (i64 S)), (115, .p (i64 y.1))], fun y => whI x p q f a b y.2 cs,
      fun y => y.1 ≤ S ∧ y.2.length = S ∧ ∀ k, k < S → y.2.getD k 0 = s.getD k 0 + (if k < y.1 then a.w.getD k 0 else 0), fun y => S - y.1, ?_, ?_⟩
    · exact ⟨(0, s), ⟨by simp, hsl, fun k hk => by simp⟩, ent_of [] [] [] rfl ⟨⟨rfl, rfl⟩, rfl, rfl, ⟨rfl, rfl⟩, rfl, rfl, ⟨rfl, rfl⟩, ⟨rfl, rfl⟩, ⟨rfl, rfl⟩, rfl, rfl, congrArg (fun n : Nat => i64 n) hsl.symm, rfl, trivial⟩ ⟨⟨_, rfl, rfl, rfl, _, rfl, by (repeat' first | exact trivial | exact rfl | exact ⟨rfl, rfl⟩ | exact .inl rfl | refine ⟨_, rfl, rfl, rfl, ?_⟩ | refine ⟨_, _, rfl, ?_, ?_⟩ | refine ⟨_, rfl, ?_⟩ | refine And.intro ?_ ?_)⟩, ⟨_, rfl, rfl, rfl, _, rfl, by (repeat' first | exact trivial | exact rfl | exact ⟨rfl, rfl⟩ | exact .inl rfl | refine ⟨_, rfl, rfl, rfl, ?_⟩ | refine ⟨_, _, rfl, ?_, ?_⟩ | refine ⟨_, rfl, ?_⟩ | refine And.intro ?_ ?_)⟩, ⟨_, rfl, rfl, rfl, _, rfl, by (repeat' first | exact trivial | exact rfl | exact ⟨rfl, rfl⟩ | exact .inl rfl | refine ⟨_, rfl, rfl, rfl, ?_⟩ | refine ⟨_, _, rfl, ?_, ?_⟩ | refine ⟨_, rfl, ?_⟩ | refine And.intro ?_ ?_)⟩, ⟨_, rfl, rfl, rfl, _, rfl, by (repeat' first | exact trivial | exact rfl | exact ⟨rfl, rfl⟩ | exact .inl rfl | refine ⟨_, rfl, rfl, rfl, ?_⟩ | refine ⟨_, _, rfl, ?_, ?_⟩ | refine ⟨_, rfl, ?_⟩ | refine And.intro ?_ ?_)⟩, ⟨_, rfl, rfl, rfl, rfl⟩, ⟨_, rfl, rfl, rfl, rfl⟩, ⟨_, rfl, rfl, rfl, _, rfl, by (repeat' first | exact trivial | exact rfl | exact ⟨rfl, rfl⟩ | exact .inl rfl | refine ⟨_, rfl, rfl, rfl, ?_⟩ | refine ⟨_, _, rfl, ?_, ?_⟩ | refine ⟨_, rfl, ?_⟩ | refine And.intro ?_ ?_)⟩, ⟨_, rfl, rfl, rfl, _, rfl, by (repeat' first | exact trivial | exact rfl | exact ⟨rfl, rfl⟩ | exact .inl rfl | refine ⟨_, rfl, rfl, rfl, ?_⟩ | refine ⟨_, _, rfl, ?_, ?_⟩ | refine ⟨_, rfl, ?_⟩ | refine And.intro ?_ ?_)⟩, trivial⟩ rfl⟩
    rintro ⟨j, t⟩ ⟨j1, j2, j3⟩
    simp only [] at j1 j2 j3
    (first | refine brLt (fun h2 => ?_) (fun h2 => ?_) | refine brLe (fun h2 => ?_) (fun h2 => ?_) | refine brEq (fun h2 => ?_) (fun h2 => ?_))
    · have h2 : (j : Int) < S := h2
      have hj : j < S := by omega
      have b1 := tab_le (cs := x.cards) (vars := vars) (xs := p.cases) hj
      have b2 := tab_le (cs := x.cards) (vars := vars) (xs := q.cases) hj
      have b3 := tab_le (cs := x.cards) (vars := vars) (xs := cs) hj
      have b4 := tab_app (cs := x.cards) (vars := vars) (a := p.cases) (b := q.cases) hj
      rw [tab_perm hperm] at b4
      rw [← haw] at b1 b4
      rw [← hbw] at b2 b4
      rw [← g3] at b3
      rw [← hfw] at b4
      have b5 := j3 j hj
      rw [if_neg (by omega), Int.add_zero] at b5
      refine VDraw.seq rfl ?_
      refine ⟨_, ⟨by omega, i64 (a.w.getD j 0), icell (by omega), rfl⟩, ?_⟩
      refine ⟨_, ⟨by omega, i64 (b.w.getD j 0), icell (by omega), rfl⟩, ?_⟩
      refine ⟨a.w.getD j 0 + b.w.getD j 0, wrap_i64 (by omega) (by omega), ?_⟩
      refine ⟨_, ⟨by omega, i64 (f.w.getD j 0), icell (by omega), rfl⟩, ?_⟩
      refine And.intro (fun _ => ?_) (fun h => absurd (show a.w.getD j 0 + b.w.getD j 0 = f.w.getD j 0 by omega) h)
      refine VDraw.seq rfl ?_
      refine ⟨by show (0 : Int) ≤ (j : Nat) ∧ (j : Int) < (t.length : Nat); omega, ?_⟩
      refine ⟨_, ⟨i64 (t.getD j 0), by show (t.map i64)[0 + ((j : Nat) : Int).toNat]? = _; rw [Nat.zero_add, Int.toNat_natCast]; exact icell (by omega), rfl⟩, ?_⟩
      refine ⟨_, ⟨by omega, i64 (a.w.getD j 0), icell (by omega), rfl⟩, ?_⟩
      refine ⟨t.getD j 0 + a.w.getD j 0, wrap_i64 (by omega) (by omega), ?_⟩
      refine ⟨by show (0 : Int) ≤ (j : Nat) ∧ (j : Int) < (t.length : Nat); omega, ?_⟩
      refine ⟨by show 0 + ((j : Nat) : Int).toNat < (t.map i64).length; rw [List.length_map]; omega, ?_⟩
      refine ⟨_, wrap_i64 (by omega) (by omega), ?_⟩
      refine ⟨(j + 1, t.set j (t.getD j 0 + a.w.getD j 0)), ⟨by simp only []; omega, by simp only [List.length_set]; exact j2, fun k hk => ?_⟩, ent_of [] [] [] rfl ⟨⟨rfl, rfl⟩, rfl, rfl, ⟨rfl, rfl⟩, congrArg (fun n => AV.sl 3 1 0 n) (List.length_set).symm, rfl, ⟨rfl, rfl⟩, ⟨rfl, rfl⟩, ⟨rfl, rfl⟩, rfl, rfl, rfl, rfl, trivial⟩ ⟨⟨_, rfl, rfl, rfl, _, rfl, by (repeat' first | exact trivial | exact rfl | exact ⟨rfl, rfl⟩ | exact .inl rfl | refine ⟨_, rfl, rfl, rfl, ?_⟩ | refine ⟨_, _, rfl, ?_, ?_⟩ | refine ⟨_, rfl, ?_⟩ | refine And.intro ?_ ?_)⟩, ⟨_, rfl, rfl, rfl, _, rfl, by (repeat' first | exact trivial | exact rfl | exact ⟨rfl, rfl⟩ | exact .inl rfl | refine ⟨_, rfl, rfl, rfl, ?_⟩ | refine ⟨_, _, rfl, ?_, ?_⟩ | refine ⟨_, rfl, ?_⟩ | refine And.intro ?_ ?_)⟩, ⟨_, rfl, rfl, rfl, _, rfl, by (repeat' first | exact trivial | exact rfl | exact ⟨rfl, rfl⟩ | exact .inl rfl | refine ⟨_, rfl, rfl, rfl, ?_⟩ | refine ⟨_, _, rfl, ?_, ?_⟩ | refine ⟨_, rfl, ?_⟩ | refine And.intro ?_ ?_)⟩, ⟨_, rfl, rfl, rfl, _, rfl, by (repeat' first | exact trivial | exact rfl | exact ⟨rfl, rfl⟩ | exact .inl rfl | refine ⟨_, rfl, rfl, rfl, ?_⟩ | refine ⟨_, _, rfl, ?_, ?_⟩ | refine ⟨_, rfl, ?_⟩ | refine And.intro ?_ ?_)⟩, ⟨_, rfl, rfl, rfl, rfl⟩, ⟨_, rfl, rfl, rfl, ?_⟩, ⟨_, rfl, rfl, rfl, _, rfl, by (repeat' first | exact trivial | exact rfl | exact ⟨rfl, rfl⟩ | exact .inl rfl | refine ⟨_, rfl, rfl, rfl, ?_⟩ | refine ⟨_, _, rfl, ?_, ?_⟩ | refine ⟨_, rfl, ?_⟩ | refine And.intro ?_ ?_)⟩, ⟨_, rfl, rfl, rfl, _, rfl, by (repeat' first | exact trivial | exact rfl | exact ⟨rfl, rfl⟩ | exact .inl rfl | refine ⟨_, rfl, rfl, rfl, ?_⟩ | refine ⟨_, _, rfl, ?_, ?_⟩ | refine ⟨_, rfl, ?_⟩ | refine And.intro ?_ ?_)⟩, trivial⟩ rfl, by show S - (j + 1) < S - j; omega⟩
      · simp only []
        rw [set_getD (by omega)]
        have b6 := j3 k hk
        by_cases e : k = j
        · subst e; rw [if_pos rfl, if_pos (by omega)]; omega
        · rw [if_neg e, b6]
          by_cases hkj : k < j
          · rw [if_pos hkj, if_pos (by omega)]
          · rw [if_neg hkj, if_neg (by omega)]
      · show (t.map i64).set (0 + ((j : Nat) : Int).toNat) _ = _
        rw [Nat.zero_add, Int.toNat_natCast, List.map_set]
    · have h2 : ¬ (j : Int) < S := h2
      have hj : j = S := by omega
      subst hj
      have ht : t = tabN x.cards vars j (cs ++ p.cases) := getD_ext (by rw [j2, tab_len]) fun k hk => by
        rw [j3 k (by omega), if_pos (by omega), tab_app (by omega), ← g3, ← haw]
      refine ⟨by show 0 + cs.length ≤ (cs.map ints).length; simp, cs.map ints, takeAll (by simp), by show (cs.length + (p.cases.map ints).length) * 24 ≤ 140737488355328; rw [List.length_map]; omega, (cs ++ p.cases).map ints, by simp, ?_⟩
      refine ⟨_, wrap_i64 (by omega) (by omega), ?_⟩
      refine ⟨(i + 1, cs ++ p.cases, t), ⟨by simp only []; omega, (g2.append_right _).trans hstep, ht⟩, ent_of [] [(4, 9)] [] rfl ⟨⟨rfl, rfl⟩, rfl, rfl, ⟨rfl, rfl⟩, rfl, ?_, rfl, rfl, trivial⟩ ⟨⟨_, rfl, rfl, rfl, rfl⟩, ⟨_, rfl, rfl, rfl, rfl⟩, ⟨_, rfl, rfl, rfl, _, rfl, by (repeat' first | exact trivial | exact rfl | exact ⟨rfl, rfl⟩ | exact .inl rfl | refine ⟨_, rfl, rfl, rfl, ?_⟩ | refine ⟨_, _, rfl, ?_, ?_⟩ | refine ⟨_, rfl, ?_⟩ | refine And.intro ?_ ?_)⟩, ⟨_, rfl, rfl, rfl, _, rfl, by (repeat' first | exact trivial | exact rfl | exact ⟨rfl, rfl⟩ | exact .inl rfl | refine ⟨_, rfl, rfl, rfl, ?_⟩ | refine ⟨_, _, rfl, ?_, ?_⟩ | refine ⟨_, rfl, ?_⟩ | refine And.intro ?_ ?_)⟩, trivial⟩ rfl, by show n - (i + 1) < n - i; omega⟩
      exact congrArg (fun n => AV.sl 9 1 0 n) (show cs.length + (p.cases.map ints).length = (cs ++ p.cases).length by rw [List.length_map, List.length_append])
  · have h1 : ¬ (i : Int) < n := h1
    have hi : i = n := by omega
    subst hi
    rw [aheadB_all (by omega)] at g2
    have hsf : s = f.w := by rw [g3, hfw, tab_perm g2]
    have hE := equal_c s f.w (by omega) (by omega)
    rw [decide_eq_true hsf] at hE
    have hcc : ∀ c ∈ x.cases, c.length ≤ 1000 := hz.2.2
    have hcc2 : ∀ c ∈ cs, c.length ≤ 1000 := fun c hc => hcc c (g2.mem_iff.1 hc)
    refine (clone2_c x.cases (by omega)).holds.useN [] [] rfl trivial ⟨_, _, rfl, rfl, rfl⟩ fun e0 H0 hq => ?_
    rcases hq with ⟨rfl, rfl⟩ | ⟨h0, rfl, rfl⟩
    · refine ⟨rfl, ?_⟩
      refine (sort_c x.cases (by omega) hcc).holds.useN [] [(0, 5)] rfl ⟨⟨_, rfl, rfl, rfl, rfl⟩, trivial⟩ (by (repeat' first | exact trivial | exact rfl | exact ⟨rfl, rfl⟩ | exact .inl rfl | refine ⟨_, rfl, rfl, rfl, ?_⟩ | refine ⟨_, _, rfl, ?_, ?_⟩ | refine ⟨_, rfl, ?_⟩ | refine And.intro ?_ ?_)) fun e0 H0 hq => ?_
      obtain ⟨ys, y1, y2, rfl, rfl⟩ := hq
      refine ⟨rfl, ?_⟩
      refine (sort_c cs (by omega) hcc2).holds.useN [] [(0, 4)] rfl ⟨⟨_, rfl, rfl, rfl, rfl⟩, trivial⟩ (by (repeat' first | exact trivial | exact rfl | exact ⟨rfl, rfl⟩ | exact .inl rfl | refine ⟨_, rfl, rfl, rfl, ?_⟩ | refine ⟨_, _, rfl, ?_, ?_⟩ | refine ⟨_, rfl, ?_⟩ | refine And.intro ?_ ?_)) fun e0 H0 hq => ?_
      obtain ⟨zs, z1, z2, rfl, rfl⟩ := hq
      refine ⟨rfl, ?_⟩
      have hyz : ys = zs := sorted_eq y2 z2 ((y1.trans g2.symm).trans z1.symm)
      have yl := y1.length_eq
      have zl := z1.length_eq
      refine hE.lends [3] rfl ⟨_, _, rfl, ⟨_, rfl, by show 0 + s.length ≤ (s.map i64).length; simp, takeAll (by simp)⟩, _, _, rfl, rfl, rfl⟩ ?_
      refine (equalFunc_c ys zs (by omega) (by omega) (fun c hc => hcc c (y1.mem_iff.1 hc)) hyz).lends [4, 5] rfl ⟨_, _, rfl, ⟨_, rfl, by show 0 + x.cases.length ≤ (ys.map ints).length; rw [List.length_map]; omega, takeAll (by rw [List.length_map]; omega)⟩, _, _, rfl, ⟨_, rfl, by show 0 + cs.length ≤ (zs.map ints).length; rw [List.length_map]; omega, takeAll (by rw [List.length_map]; omega)⟩, _, _, rfl, rfl, rfl⟩ ?_
      exact end1 _ rfl rfl rfl
    · refine ⟨rfl, ?_⟩
      have hc0 : cs = [] := by rw [h0] at g2; exact List.Perm.eq_nil g2
      subst hc0
      refine sort_nil.holds.useN [] [] rfl trivial (by (repeat' first | exact trivial | exact rfl | exact ⟨rfl, rfl⟩ | exact .inl rfl | refine ⟨_, rfl, rfl, rfl, ?_⟩ | refine ⟨_, _, rfl, ?_, ?_⟩ | refine ⟨_, rfl, ?_⟩ | refine And.intro ?_ ?_)) fun e0 H0 hq => ?_
      obtain ⟨rfl, rfl⟩ := hq
      refine ⟨rfl, ?_⟩
      refine (sort_c [] (by simp) (by simp)).holds.useN [] [(0, 4)] rfl ⟨⟨_, rfl, rfl, rfl, rfl⟩, trivial⟩ (by (repeat' first | exact trivial | exact rfl | exact ⟨rfl, rfl⟩ | exact .inl rfl | refine ⟨_, rfl, rfl, rfl, ?_⟩ | refine ⟨_, _, rfl, ?_, ?_⟩ | refine ⟨_, rfl, ?_⟩ | refine And.intro ?_ ?_)) fun e0 H0 hq => ?_
      obtain ⟨zs, z1, z2, rfl, rfl⟩ := hq
      refine ⟨rfl, ?_⟩
      have hz0 : zs = [] := List.Perm.eq_nil z1
      subst hz0
      refine hE.lends [3] rfl ⟨_, _, rfl, ⟨_, rfl, by show 0 + s.length ≤ (s.map i64).length; simp, takeAll (by simp)⟩, _, _, rfl, rfl, rfl⟩ ?_
      refine (equalFunc_c [] [] (by simp) (by simp) (by simp) rfl).lends [4] rfl ⟨_, _, rfl, .inr (.inl rfl), _, _, rfl, ⟨_, rfl, by simp, rfl⟩, _, _, rfl, rfl, rfl⟩ ?_
      exact end1 _ rfl rfl rfl
end Go.Proofs.YtmdmjnfdemgpoaaDoor

/- The listed tables, as the rows of data ask. -/
namespace Go.Proofs.YtmdmjnfdemgpoaaDoor
open Go Y
set_option maxRecDepth 100000

theorem own : ownKnob Tryd.prog.godebug = none := by kernel_rfl
abbrev laidD : List (String × DataW Unit) := [("math/bits.deBruijn32tab", Rows.laid_math_bits_deBruijn32tab), ("math/bits.deBruijn64tab", Rows.laid_math_bits_deBruijn64tab), ("internal/strconv.uint64pow10", Rows.laid_internal_strconv_uint64pow10), ("unicode/utf8.acceptRanges", Rows.laid_unicode_utf8_acceptRanges), ("unicode/utf8.first", Rows.laid_unicode_utf8_first)]
theorem door_metD (os : Os) (args : Array Value) : laidMetH Tryd.prog laidD ((World.laidAll Tryd.prog os laidD).forCall (fun _ _ => 0) ⟨#[], args, []⟩).memory := by
  rw [MakeChecks.laidMetH_plain _ _ _ (by kernel_rfl)]
  exact laidMet_laidAll _ (by kernel_rfl) (by kernel_rfl)
theorem glob_okD {W : World} (_ : laidMetH Tryd.prog laidD W) : ∀ g cs, gget cx.gt g = some cs → VP (fzOf W) (.fp cs) (.pointer (some ⟨g, 0, none⟩)) := fun _ _ h => by cases h
end Go.Proofs.YtmdmjnfdemgpoaaDoor

/- DataWhole: the row and the card. All parts of a split together have each case once; the counts of a part and of its rest add up to those of the data; for all drafts, numbers and sets. Conditions: those of the card. -/
namespace Go.Proofs.YtmdmjnfdemgpoaaDoor
open Go Y
set_option maxRecDepth 100000

theorem dataWhole_pure : ∀ xs, ArgsT Tryd.prog 5 Tryd.f9.params.toList xs → Pure cx 9 xs (· = .ret [.bool true]) := by
  intro xs h
  rw [Tryd.params9] at h
  obtain ⟨x0, _, rfl, h0, x1, _, rfl, h1, x2, _, rfl, h2, rfl⟩ := h
  obtain ⟨v0, rfl, g0⟩ := arg_draft h0
  obtain ⟨v1, e1⟩ := ty_u8 (arg_plain (by simp [partsOf, Tryd.underlying5]) h1)
  injection e1 with e1
  subst e1
  obtain ⟨v2, e2⟩ := ty_u8 (arg_plain (by simp [partsOf, Tryd.underlying5]) h2)
  injection e2 with e2
  subst e2
  exact dataWhole_c v0 v1 v2 g0
theorem dataWhole_lifted (os : Os) (started : os.Started) (H : Type) (enc : TypeId × Value → H) :
    ReturnsInHanded {} Tryd.checked os 9 .any (fun w args => (Rows.dataWholeSpec.pre enc Tryd.prog Tryd.f9 [] false w args ∧ laidMetH Tryd.prog laidD w) ∧ sizedMet enc Tryd.prog Tryd.f9 (OpenSpec.ofChange Rows.dataWholeSpec) false w args)
      (Rows.dataWholeSpec.post enc Tryd.prog Tryd.f9 false true false false) := by
  refine returnsInHanded_of_change_and (C := Tryd.checked) (X := fun w _ => laidMetH Tryd.prog laidD w) (fun _ _ _ hh h => h.of_heap hh) own started (by kernel_rfl) Tryd.func9
    (ChangeSpec.witness_shaped (enc := enc) (C := Tryd.checked) (os := os) (X := fun w _ => laidMetH Tryd.prog laidD w) false (World.laidAll Tryd.prog os laidD) #[.agg #[.slice none 0 0, .slice none 0 0, .int .u8 0, .slice none 0 0], .int .u8 0, .int .u8 0] 8 (World.laidAll_os _ _ _) (World.shaped_of_ZipB (by kernel_rfl) (by kernel_rfl)) (by kernel_rfl) (by kernel_rfl) (by kernel_rfl) (door_metD os _)) ?_
  intro W base args ds gs before hval hW _ _ hL _
  obtain ⟨p, q, hA, hV, _⟩ := id hW
  have hs : Tryd.f9.params.toList.all (supp Tryd.prog 5) = true := by kernel_rfl
  obtain ⟨_, _, _, hlen⟩ := args_of hs (fun j t v ht hv => hval j t v (by simpa using ht) (by simpa using hv)) hA
  refine (calls_of_pure (cx := cx) Tryd.func9 (by kernel_rfl) rfl hs dataWhole_pure hval hA (glob_okD hL)).mono fun e W' ⟨he, h1, h2, h3⟩ => ?_
  subst he
  exact ⟨_, rfl, post_of_kept (cx := cx) (m := 5) hs rfl (by kernel_rfl) Tryd.underlying4 (fun ds h => by
    rw [Tryd.params9] at h
    match ds, h with
    | [_, _, _], _ => rfl) hW hlen h1 h2 h3⟩

theorem dataWhole_holds : Rows.DataWholeSaid :=
  OpenClaim.holds_of_wide 9 Tryd.f9 rfl rfl rfl rfl rfl rfl rfl ⟨rfl, rfl, rfl, rfl, rfl⟩ rfl rfl rfl rfl rfl (by kernel_rfl) Tryd.func9 (by kernel_rfl)
    (of_decide_eq_true (by kernel_rfl)) (by unfold Func.isWrapper; first | (rw [if_pos (by decide +kernel)]; kernel_rfl) | (rw [if_neg (by decide +kernel)]; exact ⟨rfl, rfl⟩))
    (fun os started H enc _ => dataWhole_lifted os started H enc)

theorem dataWhole_card : Rows.DataWholeCardSaid :=
  Claim7.holds_tied_plain_at .later [] [.data, .data, .data, .data, .pinned] true (true, "759f20c24ed3b5ae13ada788480a642b750e1419b81eda2f2900b3f48897198e") false
    dataWhole_holds (fun _ h => by cases h) (by kernel_rfl) (fun _ h => by cases h) dataWhole_row_tie rfl ⟨rfl, rfl⟩ (by kernel_rfl) rfl
    (fun f fn hf hfn => by
      obtain rfl : f = 9 := Option.some.inj ((show Tryd.prog.funcNamed "haruspex/haruspexlaw25.DataWhole" = some 9 by kernel_rfl).symm.trans hf) |>.symm
      obtain rfl : fn = Tryd.f9 := (Option.some.inj (Tryd.func9.symm.trans hfn)).symm
      exact ⟨by kernel_rfl, fun j t ht => by
        have hall : (Tryd.f9.params.toList.all fun u => !Tryd.prog.wantsStandIn u) = true := by kernel_rfl
        exact (show Tryd.prog.wantsStandIn t = false by simpa using List.all_eq_true.1 hall t (by simpa using Array.mem_of_getElem? ht))⟩)
    (by kernel_rfl)
#print axioms dataWhole_card
end Go.Proofs.YtmdmjnfdemgpoaaDoor
