/- From contracts on data to the statements of rows. -/
import Derived.Test.YtemlkodkohgmmaaDoorZa
import Derived.ProofKit
import Derived.LaidMore
import Derived.LaidLaws
import Derived.Stop.Joined
import Derived.MakeChecks
namespace Go.Proofs.YtemlkodkohgmmaaDoor.Y
open Go

theorem mapM_mono {α β : Type} {f g : α → Option β} : ∀ {l : List α} {r : List β}, (∀ x ∈ l, ∀ y, f x = some y → g x = some y) → l.mapM f = some r → l.mapM g = some r
  | [], r, _, h => by simpa using h
  | x :: l, r, hfg, h => by
    simp only [List.mapM_cons, Option.bind_eq_bind, Option.bind_eq_some_iff, Option.pure_def, Option.some.injEq] at h ⊢
    obtain ⟨y, h1, ys, h2, h3⟩ := h
    exact ⟨y, hfg x (by simp) y h1, ys, mapM_mono (fun z hz => hfg z (by simp [hz])) h2, h3⟩

/-- All that was there is there as it was. -/
def Kept (W W' : World) : Prop := ∀ (b : Nat) (o : Obj), W.heap[b]? = some o → W'.heap[b]? = some o

section
variable {H : Type} {enc : TypeId × Value → H} {P : Program} {W W' : World} {sp' : Nat → Bool} {held : Bool}

theorem Kept.cell (hk : Kept W W') {a : Addr} {v : Value} (h : W.cell? a = some v) : W'.cell? a = some v := by
  unfold World.cell? at h ⊢
  split at h
  · rename_i c t z hb
    rw [hk _ _ hb]
    exact h
  · cases h
theorem Kept.cells (hk : Kept W W') {a : Addr} {n : Nat} {cs : List Value} (h : W.cells? 0 a n = some cs) : W'.cells? 0 a n = some cs := by
  unfold World.cells? at h ⊢
  rw [if_pos (Nat.zero_le _)] at h ⊢
  exact mapM_mono (fun _ _ _ hx => hk.cell hx) h

theorem trod_kept (hk : Kept W W') (hsp : ∀ b, b < W.heap.size → sp' b = true) : ∀ (m : Nat) (t : TypeId) (n : Nat) (cs : List Value) (x : DataW H × List MemPlace), supp P m t = true → DataW.trod enc P W 0 (fun _ => true) held n t cs = some x → DataW.trod enc P W' 0 sp' held n t cs = some x
  | 0, _, _, _, _, hs, _ => by simp [supp] at hs
  | m + 1, t, 0, cs, x, hs, h => by simp [DataW.trod] at h
  | m + 1, t, n + 1, cs, x, hs, h => by
    have ih := trod_kept hk hsp m
    simp only [supp] at hs
    cases hu : P.underlying t with
    | none =>
      have hp : partsOf P t = none := by simp [partsOf, hu]
      simp [hp, hu] at hs
    | some d =>
      cases d with
      | struct fs =>
        have hp : partsOf P t = some (fs.toList.map fun f => (f.type, f.offset)) := by simp [partsOf, hu]
        simp only [hp, Bool.and_eq_true, List.all_eq_true] at hs
        unfold DataW.trod at h ⊢
        rw [hu] at h ⊢
        simp only [] at h ⊢
        split at h
        · rename_i hl
          rw [if_pos hl]
          rw [Option.map_eq_some_iff] at h ⊢
          obtain ⟨xs, h1, h2⟩ := h
          exact ⟨xs, mapM_mono (fun f hf y hy => ih _ _ _ _ (hs.2 (f.type, f.offset) (List.mem_map_of_mem hf)) hy) h1, h2⟩
        · cases h
      | array k e =>
        have hp : partsOf P t = some ((List.range k).map fun i => (e, i * P.cellsOf e)) := by simp [partsOf, hu]
        simp only [hp, Bool.and_eq_true, List.all_eq_true] at hs
        unfold DataW.trod at h ⊢
        rw [hu] at h ⊢
        simp only [] at h ⊢
        split at h
        · rename_i hl
          rw [if_pos hl]
          rw [Option.map_eq_some_iff] at h ⊢
          obtain ⟨xs, h1, h2⟩ := h
          exact ⟨xs, mapM_mono (fun i hi y hy => ih _ _ _ _ (hs.2 (e, i * P.cellsOf e) (List.mem_map_of_mem hi)) hy) h1, h2⟩
        · cases h
      | bool =>
        obtain ⟨b, rfl, rfl⟩ := DataW.trod_bool hu h
        unfold DataW.trod; rw [hu]
      | int k =>
        obtain ⟨b, rfl, rfl, hw⟩ := DataW.trod_int hu h
        unfold DataW.trod; rw [hu]; simp [hw]
      | string =>
        obtain ⟨s, rfl, rfl, hw⟩ := DataW.trod_string hu h
        unfold DataW.trod; rw [hu]; simp [hw]
      | slice e =>
        have hp : partsOf P t = none := by simp [partsOf, hu]
        simp only [hp, hu, Bool.and_eq_true, decide_eq_true_eq] at hs
        rcases DataW.trod_slice hu h with ⟨rfl, rfl⟩ | ⟨a, len, cap, _, _, _, _, rfl, _⟩
        · unfold DataW.trod; rw [hu]; rfl
        unfold DataW.trod at h ⊢
        rw [hu] at h ⊢
        simp only [if_true] at h ⊢
        split at h
        rotate_left
        · cases h
        rename_i hc
        rw [if_pos hc]
        rw [Option.bind_eq_some_iff] at h ⊢
        obtain ⟨elems, h1, h2⟩ := h
        rw [Option.map_eq_some_iff] at h2
        obtain ⟨rest, h2, h3⟩ := h2
        have el : ∀ i y, (W.cells? 0 (a.add (i * P.cellsOf e)) (P.cellsOf e)).bind (DataW.trod enc P W 0 (fun _ => true) held n e) = some y → (W'.cells? 0 (a.add (i * P.cellsOf e)) (P.cellsOf e)).bind (DataW.trod enc P W' 0 sp' held n e) = some y := by
          intro i y hy
          rw [Option.bind_eq_some_iff] at hy ⊢
          obtain ⟨cs', g1, g2⟩ := hy
          exact ⟨cs', hk.cells g1, ih _ _ _ _ hs.2 g2⟩
        refine ⟨elems, mapM_mono (fun i _ y hy => el i y hy) h1, ?_⟩
        rw [Option.map_eq_some_iff]
        refine ⟨rest, ?_, h3⟩
        by_cases hd : cap - len = 0
        · rw [hd] at h2 ⊢
          simp at h2
          subst h2
          cases sp' a.block <;> simp
        · have hb : a.block < W.heap.size := by
            have hl := mapM_some_length h2
            rw [List.length_range] at hl
            have := mapM_some_get h2 0 0 (by rw [List.getElem?_eq_getElem (by simp; omega)]; simp)
            rw [List.getElem?_eq_getElem (by omega), Option.bind_eq_some_iff] at this
            obtain ⟨cs', g1, _⟩ := this
            obtain ⟨c, t', z, g3, _⟩ := cells_take hs.1 g1
            have hblk : (a.add ((len + 0) * P.cellsOf e)).block = a.block := by unfold Addr.add; split <;> rfl
            rw [hblk] at g3
            exact (Array.getElem?_eq_some_iff.1 g3).1
          rw [if_pos (hsp _ hb)]
          exact mapM_mono (fun i _ y hy => el (len + i) y hy) h2
      | _ =>
        have hp : partsOf P t = none := by simp [partsOf, hu]
        simp [hp, hu, basic] at hs

theorem trodAll_kept (hk : Kept W W') (hsp : ∀ b, b < W.heap.size → sp' b = true) (m : Nat) : ∀ {ts : List TypeId} {vs : List Value} {ds : List (DataW H)} {ps : List MemPlace}, ts.all (supp P m) = true → DataW.TrodAll enc P W 0 (fun _ => true) held ts vs ds ps → DataW.TrodAll enc P W' 0 sp' held ts vs ds ps
  | [], [], [], ps, _, h => h
  | t :: ts, v :: vs, d :: ds, ps, hs, h => by
    simp only [List.all_cons, Bool.and_eq_true] at hs
    obtain ⟨p, q, ⟨fuel, h1⟩, h2, h3⟩ := h
    exact ⟨p, q, ⟨fuel, trod_kept hk hsp m _ _ _ _ hs.1 h1⟩, trodAll_kept hk hsp m hs.2 h2, h3⟩
  | [], [], _ :: _, ps, _, h => by simp [DataW.TrodAll] at h
  | [], _ :: _, _, ps, _, h => by simp [DataW.TrodAll] at h
  | _ :: _, [], _, ps, _, h => by simp [DataW.TrodAll] at h
  | _ :: _, _ :: _, [], ps, _, h => by simp [DataW.TrodAll] at h

/-- An argument of a type. -/
def ArgT (P : Program) (m : Nat) (t : TypeId) (x : PV) : Prop := match partsOf P t with
  | some _ => ∃ xs, x = .agg xs ∧ TyT P m t xs
  | none => TyT P m t [x]
def ArgsT (P : Program) (m : Nat) : List TypeId → List PV → Prop
  | [], xs => xs = []
  | t :: ts, xs => ∃ x r, xs = x :: r ∧ ArgT P m t x ∧ ArgsT P m ts r

def fzOf (W : World) : Fzn := fun b => match W.heap[b]? with
  | some (.cells c _ _) => some c.toList
  | _ => none
theorem fzOf_all (W : World) : AllCells (fzOf W) W := fun b c t z h => by simp [fzOf, h]
theorem fzOf_some {b : Nat} {arr : List Value} (h : fzOf W b = some arr) : ∃ c t z, W.heap[b]? = some (.cells c t z) ∧ arr = c.toList := by
  unfold fzOf at h
  split at h
  · rename_i c t z hb
    injection h with h
    exact ⟨c, t, z, hb, h.symm⟩
  · cases h

theorem arg_of {m : Nat} {base : Nat} {t : TypeId} {v : Value} {d : DataW H} {ps : List MemPlace} (hs : supp P m t = true) (hval : Value.okWide P W .any base t v) (h : DataW.Trod enc P W 0 (fun _ => true) true t v d ps) : ∃ x, VP (fzOf W) x v ∧ ArgT P m t x := by
  obtain ⟨fuel, h⟩ := h
  obtain ⟨xs, h1, h2, h3⟩ := typed_of_trod (fzOf_all W) m t fuel _ _ hs h
  unfold Value.okWide at hval
  cases hp : partsOf P t with
  | some l =>
    have : ∃ cs, v = .agg cs := by
      unfold partsOf at hp
      split at hp
      · rename_i fs hu; simp only [hu] at hval; obtain ⟨cs, h, _⟩ := hval; exact ⟨cs, h⟩
      · rename_i k e hu; simp only [hu] at hval; obtain ⟨cs, h, _⟩ := hval; exact ⟨cs, h⟩
      · cases hp
    obtain ⟨cs, rfl⟩ := this
    exact ⟨.agg xs, by simp only [VP]; exact ⟨cs, rfl, h1⟩, by simp only [ArgT, hp]; exact ⟨xs, rfl, h3⟩⟩
  | none =>
    have hv : v.cells = #[v] := by
      cases m with
      | zero => simp [supp] at hs
      | succ m =>
        simp only [supp, hp] at hs
        cases hu : P.underlying t with
        | none => simp [hu] at hs
        | some d =>
          simp only [hu] at hs hval
          cases d with
          | struct fs => simp [partsOf, hu] at hp
          | array k e => simp [partsOf, hu] at hp
          | bool => cases v <;> simp_all [Cell.okWide, Cell.ok, Value.cells]
          | int k => cases v <;> simp_all [Cell.okWide, Cell.ok, Value.cells]
          | string => cases v <;> simp_all [Cell.okWide, Cell.ok, Value.cells]
          | slice e => cases v <;> simp_all [Cell.okWide, Cell.ok, Value.cells]
          | _ => simp [basic] at hs
    rw [hv] at h1
    obtain ⟨x, rfl, h4⟩ : ∃ x, xs = [x] ∧ VP (fzOf W) x v := by
      match xs, h1 with
      | [], h1 => simp [VPL] at h1
      | x :: r, h1 =>
        simp only [VPL] at h1
        obtain ⟨u, us, e, g1, g2⟩ := h1
        simp only [List.cons.injEq] at e
        obtain ⟨rfl, rfl⟩ := e
        match r, g2 with
        | [], _ => exact ⟨x, rfl, g1⟩
        | y :: r, g2 => simp [VPL] at g2
    exact ⟨x, h4, by simp only [ArgT, hp]; exact h3⟩

theorem args_of {m base : Nat} : ∀ {ts : List TypeId} {vs : List Value} {ds : List (DataW H)} {ps : List MemPlace}, ts.all (supp P m) = true → (∀ (j : Nat) t v, ts[j]? = some t → vs[j]? = some v → Value.okWide P W .any base t v) → DataW.TrodAll enc P W 0 (fun _ => true) true ts vs ds ps →
    ∃ xs, VPL (fzOf W) xs vs ∧ ArgsT P m ts xs ∧ ds.length = ts.length
  | [], [], [], ps, _, _, _ => ⟨[], by simp [VPL], rfl, rfl⟩
  | t :: ts, v :: vs, d :: ds, ps, hs, hv, h => by
    simp only [List.all_cons, Bool.and_eq_true] at hs
    obtain ⟨p, q, h1, h2, h3⟩ := h
    obtain ⟨x, g1, g2⟩ := arg_of hs.1 (hv 0 t v rfl rfl) h1
    obtain ⟨xs, k1, k2, k3⟩ := args_of hs.2 (fun j t v ht hv' => hv (j + 1) t v ht hv') h2
    exact ⟨x :: xs, by simp only [VPL]; exact ⟨v, vs, rfl, g1, k1⟩, ⟨x, xs, rfl, g2, k2⟩, by simp [k3]⟩
  | [], [], _ :: _, ps, _, _, h => by simp [DataW.TrodAll] at h
  | [], _ :: _, _, ps, _, _, h => by simp [DataW.TrodAll] at h
  | _ :: _, [], _, ps, _, _, h => by simp [DataW.TrodAll] at h
  | _ :: _, _ :: _, [], ps, _, _, h => by simp [DataW.TrodAll] at h
end

/-- The tables of the context are those that the row lists. -/
def gtOK (P : Program) (m : Nat) : List (Nat × List PV) → List (String × DataW Unit) → Prop
  | [], _ => True
  | (g, cs) :: r, (n, d) :: r' => P.globalNamed n = some g ∧ (∃ t, (P.globals[g]?).map (·.type) = some t ∧ supp P m t = true) ∧ flatD d = some cs ∧ gtOK P m r r'
  | _ :: _, [] => False

theorem glob_of_laid {P : Program} {m : Nat} {W : World} : ∀ {gt : List (Nat × List PV)} {laid : List (String × DataW Unit)} {ps : List MemPlace}, gtOK P m gt laid → DataW.LaidVars P W laid ps → ∀ g cs, gget gt g = some cs → VP (fzOf W) (.fp cs) (.pointer (some ⟨g, 0, none⟩))
  | [], _, _, _, _, g, cs, h => by simp [gget] at h
  | (g', cs') :: r, [], _, hg, _, g, cs, h => by simp [gtOK] at hg
  | (g', cs') :: r, (n, d) :: r', ps, hg, hl, g, cs, h => by
    obtain ⟨h1, ⟨t, h2, h3⟩, h4, h5⟩ := hg
    obtain ⟨g0, t0, cs0, fuel, p, q, k1, k2, k3, k4, k5, k6⟩ := hl
    rw [h1] at k1
    injection k1 with k1
    subst k1
    rw [h2] at k2
    injection k2 with k2
    subst k2
    simp only [gget] at h
    split at h
    · rename_i he
      have he := Nat.eq_of_beq_eq_true he
      subst he
      injection h with h
      subst h
      obtain ⟨g1, g2⟩ := laid_of_trod (fz := fzOf W) m t fuel _ _ _ h3 k4 h4
      have hb : ∃ ty z, W.heap[g']? = some (.cells cs0 ty z) := by
        unfold World.var? at k3
        rw [h1] at k3
        simp only [Option.bind_some] at k3
        split at k3
        · rename_i c ty z hb
          injection k3 with k3
          subst k3
          exact ⟨ty, z, hb⟩
        · cases k3
      obtain ⟨ty, z, hb⟩ := hb
      simp only [VP]
      exact ⟨g', 0, cs0.toList, cs0.toList, rfl, fzOf_all W _ _ _ _ hb, g1, [], [], by simp, rfl, g2⟩
    · exact glob_of_laid h5 k5 g cs h

section
variable {cx : Cx}

/-- A law on data, called in a world. -/
theorem calls_of_pure {H : Type} {enc : TypeId × Value → H} {W : World} {f : FuncId} {fn : Func} {c : Code} {m base : Nat} {args : Array Value} {ds : List (DataW H)} {ps : List MemPlace}
    (hf : cx.P.funcs[f]? = some fn) (hname : (fn.name == "runtime.NumGoroutine") = false) (hb : fn.body = some c) (hs : fn.params.toList.all (supp cx.P m) = true)
    (hpure : ∀ xs, ArgsT cx.P m fn.params.toList xs → Pure cx f xs (· = .ret [.bool true]))
    (hval : ∀ (j : Nat) t v, fn.params[j]? = some t → args[j]? = some v → Value.okWide cx.P W .any base t v)
    (hA : DataW.TrodAll enc cx.P W 0 (fun _ => true) true fn.params.toList args.toList ds ps)
    (hglob : ∀ g cs, gget cx.gt g = some cs → VP (fzOf W) (.fp cs) (.pointer (some ⟨g, 0, none⟩))) :
    Calls cx.P f args W fun e W' => e = .returned (.bool true) ∧ W'.os = W.os ∧ W'.output = W.output ∧ ∀ k, k < W.heap.size → W'.heap[k]? = W.heap[k]? := by
  obtain ⟨xs, h1, h2, _⟩ := args_of hs (fun j t v ht hv => hval j t v (by simpa using ht) (by simpa using hv)) hA
  have hR : R cx ⟨fun _ => none, fzOf W⟩ ⟨0, []⟩ W := by
    refine ⟨hglob, fun _ _ => rfl, fun b arr hb => ?_, fun n o hn => by simp [lget] at hn, fun n o q hn => by simp [lget] at hn, fun n o m p q q' hn => by simp [lget] at hn⟩
    obtain ⟨c, t, z, g1, rfl⟩ := fzOf_some hb
    exact ⟨t, z, g1⟩
  have key : ∀ e w', Post cx ⟨fun _ => none, fzOf W⟩ ⟨0, []⟩ W (EndP (· = .ret [.bool true])) e w' → e = .returned (.bool true) ∧ w'.os = W.os ∧ w'.output = W.output ∧ ∀ k, k < W.heap.size → w'.heap[k]? = W.heap[k]? := by
    intro e w' hP
    obtain ⟨r, Γ', hq, _, hE, _, hT, _⟩ := pure_post hR hP
    subst hq
    obtain ⟨v', rfl, hv⟩ := hE
    simp only [VR, VP] at hv
    subst hv
    exact ⟨rfl, hT.os, hT.output, fun k hk => hT.kept k hk own_nil⟩
  have hrun := run_enter hf hname hb args W
  rcases hpure xs h2 ⟨fun _ => none, fzOf W⟩ W args.toList hR (VRL_p.2 h1) with ⟨_, h4⟩ | ⟨v', w', h4, _⟩
  · exact h4.mono key
  · rw [hrun] at h4
    injection h4 with h4
    cases h4

/-- What a law's row asks behind the call. -/
theorem post_of_kept {H : Type} {enc : TypeId × Value → H} {W W' : World} {fn : Func} {s : ChangeSpec} {m : Nat} {bt : TypeId} {apart fresh handsOn : Bool} {args : Array Value} {ds gs : List (DataW H)} {before : List MemPlace}
    (hs : fn.params.toList.all (supp cx.P m) = true) (hvars : s.vars = []) (hres : fn.resultTypes = #[bt]) (hbt : cx.P.underlying bt = some .bool)
    (hfn : ∀ ds : List (DataW H), ds.length = fn.params.toList.length → s.fn H ds = { results := [.lit (.bool true)], args := ds })
    (hW : DataW.Whole enc cx.P fn.params.toList s.vars apart W args.toList ds gs before) (hlen : ds.length = fn.params.toList.length)
    (hos : W'.os = W.os) (hout : W'.output = W.output) (hkept : ∀ k, k < W.heap.size → W'.heap[k]? = W.heap[k]?) :
    s.post enc cx.P fn apart fresh handsOn false W args (.bool true) W' := by
  have hk : Kept W W' := fun b o hb => by rw [hkept b (Array.getElem?_eq_some_iff.1 hb).1]; exact hb
  have hW' := hW
  obtain ⟨p, q, h1, h2, _, _, _⟩ := hW'
  rw [hvars] at h2
  obtain ⟨rfl, rfl⟩ := Go.ChangeShapes.trodVars_none h2
  have e : s.fn H (ds ++ []) = { results := [.lit (.bool true)], args := ds } := by rw [List.append_nil]; exact hfn ds hlen
  refine ⟨ds, [], before, [], p, [], hW, ?_, ?_, ?_, ?_, fun h => by cases h⟩
  · rw [e, hres]
    exact Go.ChangeShapes.trodAll_mk1 (Go.RowKit.shut_bool hbt true)
  · rw [e]
    exact trodAll_kept hk (fun b hb => by simpa using hb) m hs h1
  · rw [e, hvars]
    rfl
  · refine ⟨hos, hout, fun i hi => ?_⟩
    rw [hkept i hi]
    have := Array.getElem?_eq_getElem hi
    rw [this]
    cases W.heap[i] <;> simp
end
end Go.Proofs.YtemlkodkohgmmaaDoor.Y
