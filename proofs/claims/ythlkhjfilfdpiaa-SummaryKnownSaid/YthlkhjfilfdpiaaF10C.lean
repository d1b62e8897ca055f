/- ENGINE 2, 10C: two operations of which it is not sure which one comes first: both ways. -/
import Derived.Test.YthlkhjfilfdpiaaF10
namespace Go.Proofs.Ythlkhjfilfdpiaa.Eng
set_option linter.unusedVariables false
set_option linter.unusedSimpArgs false
open Go Go.RowKit

abbrev rdy (ops : List Oper) (l : Array Bool) : List Nat := Region.ready .any ops.toArray l
/-- An order in which the operations may come. -/
def Val (ops : List Oper) : Nat → List Nat → Array Bool → Prop
  | 0, [], _ => True
  | 0, _ :: _, _ => False
  | _ + 1, [], l => rdy ops l = []
  | n + 1, r :: rest, l => r ∈ rdy ops l ∧ Val ops n rest (l.setIfInBounds r true)

theorem val_lin (ops : List Oper) : ∀ (fuel t : Nat) (listed : Array Bool), Val ops fuel (Region.linearise.go .any ops.toArray fuel t listed []) listed := by
  intro fuel
  induction fuel with
  | zero => intro t listed; simp [Region.linearise.go, Val]
  | succ fuel ih =>
    intro t listed
    simp only [Region.linearise.go]
    change Val ops (fuel + 1) (match (Region.ready .any ops.toArray listed)[t % (Region.ready .any ops.toArray listed).length]? with
      | some i => Region.linearise.go .any ops.toArray fuel (t / (Region.ready .any ops.toArray listed).length) (listed.setIfInBounds i true) [i]
      | none => [].reverse) listed
    cases hi : (Region.ready .any ops.toArray listed)[t % (Region.ready .any ops.toArray listed).length]? with
    | none =>
      show rdy ops listed = []
      unfold rdy
      cases hr : Region.ready .any ops.toArray listed with
      | nil => rfl
      | cons x xs =>
        rw [hr] at hi
        have hlt : t % (x :: xs).length < (x :: xs).length := Nat.mod_lt _ (by simp)
        simp at hi
        simp at hlt
        omega
    | some i =>
      simp only []
      rw [linearise_go_acc, List.reverse_singleton, List.singleton_append]
      exact ⟨List.mem_of_getElem? hi, ih _ _⟩
theorem any_val {P : Program} {ops : List Oper} {Q : Exit → Act → World → Prop} : ∀ (fuel : Nat) (order : List Nat) (listed : Array Bool) (a : Act) (w : World), wpAny P .any ops.toArray Q fuel listed a w → Val ops fuel order listed → wpOps P ops.toArray Q order a w
  | 0, [], _, _, _, h, _ => h.2
  | 0, _ :: _, _, _, _, _, hv => hv.elim
  | fuel + 1, [], _, _, _, h, hv => h.1 hv
  | fuel + 1, r :: rest, listed, a, w, h, hv => by
    rw [wpOps_cons]
    exact wpOp_mono (fun a' w' h' => any_val fuel rest _ a' w' h' hv.2) (h.2 r hv.1)
/-- In whatever order. -/
def AnyOrd (P : Program) (ops : List Oper) (Q : Exit → Act → World → Prop) (a : Act) (w : World) : Prop :=
  ∀ order, Val ops ops.length order (Array.replicate ops.length false) → wpOps P ops.toArray Q order a w
theorem anyOrd_region {P : Program} {oa : Array Oper} {Q : Exit → Act → World → Prop} {id : Nat} {a : Act} {w : World} (hm : P.follows .mixedOrders = true)
    (h : AnyOrd P oa.toList Q a { w with drawn := w.drawn + 1 }) : (Code.region id oa true).wp P Q a w :=
  wp_region_draw fun t => by
    simp only [Region.schedule, hm, Bool.true_or, if_true]
    show wpOps P oa Q (Region.linearise.go .any oa oa.size t (Array.replicate oa.size false) []) a _
    have := h _ (val_lin oa.toList oa.toList.length t _)
    simpa using this

/-- Other operations that do the same, at other places; tgt waits for src besides. -/
structure Like (ops ops' : List Oper) (σ ρ : Nat → Nat) (src tgt : Nat) : Prop where
  sr : ∀ j, σ (ρ j) = j
  rs : ∀ j, ρ (σ j) = j
  op : ∀ j, (ops'[j]? = none ∧ ops[σ j]? = none) ∨ ∃ o o', ops'[j]? = some o' ∧ ops[σ j]? = some o ∧ o'.dst = o.dst ∧ o'.op = o.op ∧ o'.type = o.type ∧ o'.pos = o.pos ∧ o'.guard = o.guard.map (fun g => (ρ g.1, g.2)) ∧
    (∀ e ∈ o.after, Region.binds .any e = true → ∃ e' ∈ o'.after, Region.binds .any e' = true ∧ e'.on = ρ e.on) ∧
    (∀ e' ∈ o'.after, Region.binds .any e' = true → (∃ e ∈ o.after, Region.binds .any e = true ∧ e'.on = ρ e.on) ∨ (σ j = tgt ∧ e'.on = ρ src))
def Rel (σ : Nat → Nat) (l l' : Array Bool) : Prop := ∀ j, l'[j]? = l[σ j]?
theorem Rel.getD {σ : Nat → Nat} {l l' : Array Bool} (h : Rel σ l l') (j : Nat) (b : Bool) : l'.getD j b = l.getD (σ j) b := by
  rw [Array.getD_eq_getD_getElem?, Array.getD_eq_getD_getElem?, h j]
section
variable {ops ops' : List Oper} {σ ρ : Nat → Nat} {src tgt : Nat} {l l' : Array Bool}
theorem Rel.back (L : Like ops ops' σ ρ src tgt) (h : Rel σ l l') (r : Nat) (b : Bool) : l'.getD (ρ r) b = l.getD r b := by rw [h.getD, L.sr]
theorem Rel.set (L : Like ops ops' σ ρ src tgt) (h : Rel σ l l') (r : Nat) : Rel σ (l.setIfInBounds r true) (l'.setIfInBounds (ρ r) true) := by
  intro j
  have hs : (l'[ρ r]?).isSome = (l[r]?).isSome := by rw [h, L.sr]
  rw [Array.getElem?_setIfInBounds, Array.getElem?_setIfInBounds]
  by_cases e : ρ r = j
  · subst e
    rw [if_pos rfl, L.sr, if_pos rfl]
    have h1 : (ρ r < l'.size) ↔ (r < l.size) := by
      have := congrArg (· = true) hs
      simpa using this
    by_cases h2 : r < l.size
    · rw [if_pos (h1.2 h2), if_pos h2]
    · rw [if_neg (fun h3 => h2 (h1.1 h3)), if_neg h2]
  · rw [if_neg e, if_neg (fun e' => e (by rw [e', L.rs]))]
    exact h j
theorem rdy_to (L : Like ops ops' σ ρ src tgt) (h : Rel σ l l') {r : Nat} (hr : r ∈ rdy ops l) (ht : r = tgt → l.getD src false = true) : ρ r ∈ rdy ops' l' := by
  rw [mem_ready] at hr ⊢
  obtain ⟨h1, o, ho, h2⟩ := hr
  refine ⟨by rw [h.back L]; exact h1, ?_⟩
  rcases L.op (ρ r) with ⟨_, e⟩ | ⟨o1, o', e1, e2, _, _, _, _, _, _, h3⟩
  · rw [L.sr] at e; simp at ho; rw [e] at ho; cases ho
  · rw [L.sr] at e2
    have : o1 = o := by simp at ho; rw [e2] at ho; injection ho
    subst this
    refine ⟨o', by simpa using e1, fun e' he' hb => ?_⟩
    rcases h3 e' he' hb with ⟨e, he, hbe, hon⟩ | ⟨htg, hon⟩
    · rw [hon, h.back L]; exact h2 e he hbe
    · rw [L.sr] at htg
      rw [hon, h.back L]; exact ht htg
theorem rdy_from (L : Like ops ops' σ ρ src tgt) (h : Rel σ l l') {j : Nat} (hr : j ∈ rdy ops' l') : σ j ∈ rdy ops l := by
  rw [mem_ready] at hr ⊢
  obtain ⟨h1, o', ho', h2⟩ := hr
  refine ⟨by rw [← h.getD]; exact h1, ?_⟩
  rcases L.op j with ⟨e, _⟩ | ⟨o, o1, e1, e2, _, _, _, _, _, h3, _⟩
  · simp at ho'; rw [e] at ho'; cases ho'
  · have : o1 = o' := by simp at ho'; rw [e1] at ho'; injection ho'
    subst this
    refine ⟨o, by simpa using e2, fun e he hb => ?_⟩
    obtain ⟨e', he', hbe', hon⟩ := h3 e he hb
    have := h2 e' he' hbe'
    rw [hon, h.back L] at this
    exact this
theorem rdy_nil (L : Like ops ops' σ ρ src tgt) (h : Rel σ l l') (hr : rdy ops l = []) : rdy ops' l' = [] := by
  cases h' : rdy ops' l' with
  | nil => rfl
  | cons x xs =>
    have := rdy_from L h (j := x) (by rw [h']; simp)
    rw [hr] at this; cases this
theorem getD_set_true {l : Array Bool} {i r : Nat} (h : l.getD i false = true) : (l.setIfInBounds r true).getD i false = true := by
  rw [Array.getD_eq_getD_getElem?] at *
  rw [Array.getElem?_setIfInBounds]
  split
  · split
    · rfl
    · rename_i e h2; subst e; rw [Array.getElem?_eq_none (by omega)] at h; cases h
  · exact h
theorem set_on {l : Array Bool} {i : Nat} (h : l.getD i true = false) : (l.setIfInBounds i true).getD i false = true := by
  rw [Array.getD_eq_getD_getElem?] at *
  rw [Array.getElem?_setIfInBounds, if_pos rfl]
  by_cases hi : i < l.size
  · rw [if_pos hi]; rfl
  · rw [Array.getElem?_eq_none (by omega)] at h; cases h
theorem val_follow (L : Like ops ops' σ ρ src tgt) : ∀ (n : Nat) (order : List Nat) (l l' : Array Bool), Rel σ l l' → l.getD src false = true → Val ops n order l → Val ops' n (order.map ρ) l'
  | 0, [], _, _, _, _, _ => trivial
  | 0, _ :: _, _, _, _, _, hv => hv.elim
  | n + 1, [], l, l', h, _, hv => rdy_nil L h hv
  | n + 1, r :: rest, l, l', h, hs, hv => ⟨rdy_to L h hv.1 (fun _ => hs), val_follow L n rest _ _ (h.set L r) (getD_set_true hs) hv.2⟩
theorem execOp_like {o o' : Oper} (h1 : o'.op = o.op) (h2 : o'.type = o.type) (ρ : Operand → Value) : execOp ρ o' = execOp ρ o := by
  unfold execOp
  rw [h1, h2]
theorem wpOp_like {P : Program} {Q : Exit → Act → World → Prop} (L : Like ops ops' σ ρ src tgt) {r : Nat} {a : Act} {w : World} {K K' : Act → World → Prop} (hK : ∀ a w, K' a w → K a w) (h : wpOp P ops'.toArray Q (ρ r) K' a w) : wpOp P ops.toArray Q r K a w := by
  have hy : ∀ g, yielded ops'.toArray a.tmps (ρ g) = yielded ops.toArray a.tmps g := fun g => by
    unfold yielded
    rcases L.op (ρ g) with ⟨e1, e2⟩ | ⟨o, o', e1, e2, hd, _⟩
    · rw [L.sr] at e2
      simp [e1, e2]
    · rw [L.sr] at e2
      simp [e1, e2, hd]
  unfold wpOp at *
  rcases L.op (ρ r) with ⟨e1, e2⟩ | ⟨o, o', e1, e2, hd, hop, hty, hpos, hg, _⟩
  · rw [L.sr] at e2
    simp only [List.getElem?_toArray, e1, e2] at h ⊢
    exact hK _ _ h
  · rw [L.sr] at e2
    simp only [List.getElem?_toArray, e1, e2] at h ⊢
    have hw : Region.wanted o' (yielded ops'.toArray a.tmps) = Region.wanted o (yielded ops.toArray a.tmps) := by
      unfold Region.wanted
      rw [hg]
      cases o.guard with
      | none => rfl
      | some g => simp only [Option.map_some, hy]
    have hwp : ∀ {K : Act → World → Prop}, o'.wp P a w K Q → o.wp P a w K Q := fun {K} h => by
      unfold Oper.wp at *
      rw [execOp_like hop hty] at h
      generalize (execOp a.eval o).run P w = q at *
      unfold Oper.upon at *
      rw [hd] at h
      exact h
    rw [hw] at h
    split
    · rename_i hw'
      rw [if_pos hw'] at h
      rcases h with h | ⟨h1, h2⟩
      · exact .inl (Oper.wp_mono hK (hwp h))
      · refine .inr ⟨?_, h2⟩
        unfold Oper.asks at *
        rw [execOp_like hop hty] at h1
        exact h1
    · rename_i hw'
      rw [if_neg hw', hd] at h
      exact hK _ _ h
theorem ops_like {P : Program} {Q : Exit → Act → World → Prop} (L : Like ops ops' σ ρ src tgt) : ∀ (order : List Nat) (a : Act) (w : World), wpOps P ops'.toArray Q (order.map ρ) a w → wpOps P ops.toArray Q order a w
  | [], _, _, h => h
  | r :: rest, a, w, h => by
    rw [List.map_cons, wpOps_cons] at h
    rw [wpOps_cons]
    exact wpOp_like L (fun a w h => ops_like L rest a w h) h
end
theorem val_split {ops o1 o2 : List Oper} {σ ρ : Nat → Nat} {i k : Nat} (hik : i ≠ k) (L1 : Like ops o1 id id i k) (L2 : Like ops o2 σ ρ k i) : ∀ (n : Nat) (order : List Nat) (l l1 l2 : Array Bool), Rel id l l1 → Rel σ l l2 → Val ops n order l → Val o1 n (order.map id) l1 ∨ Val o2 n (order.map ρ) l2
  | 0, [], _, _, _, _, _, _ => .inl trivial
  | 0, _ :: _, _, _, _, _, _, hv => hv.elim
  | n + 1, [], l, l1, l2, h1, h2, hv => .inl (rdy_nil L1 h1 hv)
  | n + 1, r :: rest, l, l1, l2, h1, h2, hv => by
    have hoff := (mem_ready.1 hv.1).1
    by_cases e1 : r = i
    · subst e1
      exact .inl ⟨rdy_to L1 h1 hv.1 (fun e => absurd e hik), val_follow L1 n rest _ _ (h1.set L1 r) (set_on hoff) hv.2⟩
    · by_cases e2 : r = k
      · subst e2
        exact .inr ⟨rdy_to L2 h2 hv.1 (fun e => absurd e.symm hik), val_follow L2 n rest _ _ (h2.set L2 r) (set_on hoff) hv.2⟩
      · rcases val_split hik L1 L2 n rest _ _ _ (h1.set L1 r) (h2.set L2 r) hv.2 with hv' | hv'
        · exact .inl ⟨rdy_to L1 h1 hv.1 (fun e => absurd e e2), hv'⟩
        · exact .inr ⟨rdy_to L2 h2 hv.1 (fun e => absurd e e1), hv'⟩

/-! ### The two lists -/
theorem blt_dec (a b : Nat) : Nat.blt a b = decide (a < b) := by
  rw [Bool.eq_iff_iff, Nat.blt_eq]; simp
theorem beq_dec (a b : Nat) : Nat.beq a b = decide (a = b) := by
  rw [Bool.eq_iff_iff]; simp
theorem ble_dec (a b : Nat) : Nat.ble a b = decide (a ≤ b) := by
  rw [Bool.eq_iff_iff]; simp
theorem bif_dec {p : Prop} [Decidable p] {α : Type} (x y : α) : (bif decide p then x else y) = if p then x else y := by
  by_cases h : p <;> simp [h]
theorem rotU_eq (i k j : Nat) : rotU i k j = if j < i then j else if j < k then j + 1 else if j = k then i else j := by
  unfold rotU; simp only [blt_dec, beq_dec, bif_dec]
theorem rotD_eq (i k j : Nat) : rotD i k j = if j < i then j else if j = i then k else if j ≤ k then j - 1 else j := by
  unfold rotD; simp only [blt_dec, beq_dec, ble_dec, bif_dec]
theorem binds_data (s : Nat) : Region.binds .any ⟨s, .data⟩ = true := rfl
theorem getElem_getD {ops : List Oper} {j : Nat} (h : j < ops.length) : ops[j]? = some (ops.getD j default) := by simp [List.getD, h]
theorem like1 {ops : List Oper} {i k : Nat} : Like ops (ops1 ops i k) id id i k := by
  refine ⟨fun _ => rfl, fun _ => rfl, fun j => ?_⟩
  by_cases hj : j < ops.length
  · refine .inr ⟨ops.getD j default, bif Nat.beq j k then waits i (ops.getD j default) else ops.getD j default, ?_, getElem_getD hj, ?_⟩
    · unfold ops1; rw [List.getElem?_map, List.getElem?_range hj]; rfl
    · have hg : ∀ g : Option (Nat × Bool), g = g.map fun g => (id g.1, g.2) := fun g => by cases g <;> rfl
      cases hb : Nat.beq j k with
      | false =>
        exact ⟨rfl, rfl, rfl, rfl, hg _, fun e he hb => ⟨e, he, hb, rfl⟩, fun e he hb => .inl ⟨e, he, hb, rfl⟩⟩
      | true =>
        refine ⟨rfl, rfl, rfl, rfl, hg _, fun e he hb => ⟨e, (by show e ∈ (waits i (ops.getD j default)).after; simp only [waits, Array.mem_def, List.mem_append]; exact .inl (Array.mem_def.1 he)), hb, rfl⟩, fun e he hb' => ?_⟩
        have he : e ∈ (waits i (ops.getD j default)).after := he
        simp only [waits, Array.mem_def, List.mem_append, List.mem_singleton] at he
        rcases he with he | rfl
        · exact .inl ⟨e, Array.mem_def.2 he, hb', rfl⟩
        · exact .inr ⟨Nat.eq_of_beq_eq_true hb, rfl⟩
  · refine .inl ⟨?_, List.getElem?_eq_none (by simp; omega)⟩
    unfold ops1; rw [List.getElem?_map, List.getElem?_eq_none (by simp; omega)]; rfl
theorem like2 {ops : List Oper} {i k : Nat} (hik : i < k) (hk : k < ops.length) : Like ops (ops2 ops i k) (rotU i k) (rotD i k) k i := by
  have hlt : ∀ j, (j < ops.length ↔ rotU i k j < ops.length) := fun j => by rw [rotU_eq]; split <;> (try split) <;> (try split) <;> omega
  refine ⟨fun j => ?_, fun j => ?_, fun j => ?_⟩
  · simp only [rotU_eq, rotD_eq]
    by_cases h1 : j < i
    · simp [h1]
    · by_cases h2 : j = i
      · subst h2; simp; omega
      · by_cases h3 : j ≤ k
        · simp only [if_neg h1, if_neg h2, if_pos h3]
          rw [if_neg (by omega), if_pos (by omega)]; omega
        · simp only [if_neg h1, if_neg h2, if_neg h3]
          rw [if_neg (by omega), if_neg (by omega)]
  · simp only [rotU_eq, rotD_eq]
    by_cases h1 : j < i
    · simp [h1]
    · by_cases h2 : j < k
      · simp only [if_neg h1, if_pos h2]
        rw [if_neg (by omega), if_neg (by omega), if_pos (by omega)]; omega
      · by_cases h3 : j = k
        · simp only [if_neg h1, if_neg h2, if_pos h3]
          rw [if_neg (by omega)]; simp; omega
        · simp only [if_neg h1, if_neg h2, if_neg h3]
          rw [if_neg (by omega), if_neg (by omega)]
  · by_cases hj : j < ops.length
    · refine .inr ⟨ops.getD (rotU i k j) default, bif Nat.beq j k then waits (rotD i k k) (relab (rotD i k) (ops.getD (rotU i k j) default)) else relab (rotD i k) (ops.getD (rotU i k j) default), ?_, getElem_getD ((hlt j).1 hj), ?_⟩
      · unfold ops2; rw [List.getElem?_map, List.getElem?_range hj]; rfl
      · generalize ops.getD (rotU i k j) default = o
        have hr : ∀ e ∈ o.after, Region.binds .any e = true → ∃ e' ∈ (relab (rotD i k) o).after, Region.binds .any e' = true ∧ e'.on = rotD i k e.on := fun e he hb => ⟨{ e with on := rotD i k e.on }, by simp only [relab, Array.mem_def, List.mem_map]; exact ⟨e, Array.mem_def.1 he, rfl⟩, hb, rfl⟩
        have hr' : ∀ e' ∈ (relab (rotD i k) o).after, Region.binds .any e' = true → ∃ e ∈ o.after, Region.binds .any e = true ∧ e'.on = rotD i k e.on := fun e' he hb => by
          simp only [relab, Array.mem_def, List.mem_map] at he
          obtain ⟨e, he, rfl⟩ := he
          exact ⟨e, Array.mem_def.2 he, hb, rfl⟩
        cases hb : Nat.beq j k with
        | false =>
          exact ⟨rfl, rfl, rfl, rfl, rfl, hr, fun e he hb => .inl (hr' e he hb)⟩
        | true =>
          refine ⟨rfl, rfl, rfl, rfl, rfl, fun e he hb => ?_, fun e he hb' => ?_⟩
          · obtain ⟨e', h1, h2, h3⟩ := hr e he hb
            exact ⟨e', (by show e' ∈ (waits (rotD i k k) (relab (rotD i k) o)).after; simp only [waits, Array.mem_def, List.mem_append]; exact .inl (Array.mem_def.1 h1)), h2, h3⟩
          · have he : e ∈ (waits (rotD i k k) (relab (rotD i k) o)).after := he
            simp only [waits, Array.mem_def, List.mem_append, List.mem_singleton] at he
            rcases he with he | rfl
            · exact .inl (hr' e (Array.mem_def.2 he) hb')
            · refine .inr ⟨?_, rfl⟩
              rw [Nat.eq_of_beq_eq_true hb, rotU_eq, if_neg (by omega), if_neg (by omega), if_pos rfl]
    · have hj' : ¬ rotU i k j < ops.length := fun h => hj ((hlt j).2 h)
      refine .inl ⟨?_, List.getElem?_eq_none (by omega)⟩
      unfold ops2; rw [List.getElem?_map, List.getElem?_eq_none (by simp; omega)]; rfl

theorem split_ord {P : Program} {ops : List Oper} {Q : Exit → Act → World → Prop} {a : Act} {w : World} {i k : Nat} (hik : i < k) (hk : k < ops.length) (h1 : AnyOrd P (ops1 ops i k) Q a w) (h2 : AnyOrd P (ops2 ops i k) Q a w) : AnyOrd P ops Q a w := by
  intro order hv
  have l1 : (ops1 ops i k).length = ops.length := by simp [ops1]
  have l2 : (ops2 ops i k).length = ops.length := by simp [ops2]
  have hlt : ∀ j, (j < ops.length ↔ rotU i k j < ops.length) := fun j => by rw [rotU_eq]; split <;> (try split) <;> (try split) <;> omega
  have hR : Rel (rotU i k) (Array.replicate ops.length false) (Array.replicate ops.length false) := fun j => by
    rw [Array.getElem?_replicate, Array.getElem?_replicate]
    by_cases h : j < ops.length
    · rw [if_pos h, if_pos ((hlt j).1 h)]
    · rw [if_neg h, if_neg (fun h' => h ((hlt j).2 h'))]
  rcases val_split (by omega) like1 (like2 hik hk) ops.length order _ _ _ (fun _ => rfl) hR hv with h | h
  · exact ops_like like1 order a w (h1 _ (by rw [l1]; exact h))
  · exact ops_like (like2 hik hk) order a w (h2 _ (by rw [l2]; exact h))

theorem findBad_ok {tab : List (List Nat)} {ops : List Oper} {i k : Nat} (h : findBad tab ops = some (i, k)) : i < k ∧ k < ops.length := by
  unfold findBad at h
  split at h
  · rename_i i' k' _
    cases hb : (Nat.blt i' k' && Nat.blt k' ops.length) with
    | false => rw [hb] at h; cases h
    | true =>
      rw [hb] at h
      simp only [cond_true, Option.some.injEq, Prod.mk.injEq] at h
      obtain ⟨rfl, rfl⟩ := h
      simpa [blt_dec] using hb
  · cases h

/-! ### Frames that say the same -/
theorem look_drop : ∀ (n : Nat) (f : Fr) (t : Nat), ¬ t ∈ takeN n f → look f t = look (dropN n f) t
  | 0, f, t, _ => by cases f <;> rfl
  | n + 1, [], t, _ => rfl
  | n + 1, (s, v) :: r, t, h => by
    simp only [takeN, List.mem_cons, not_or] at h
    simp only [look, dropN]
    rw [beq_ne (fun e => h.1 e.symm)]
    exact look_drop n r t h.2
theorem lookAll_ok : ∀ (l : List Nat) {f g : Fr}, lookAll f l = lookAll g l → ∀ t ∈ l, look f t = look g t
  | [], _, _, _, t, ht => by cases ht
  | s :: r, f, g, h, t, ht => by
    simp only [lookAll, List.cons.injEq] at h
    rcases List.mem_cons.1 ht with rfl | ht
    · exact h.1
    · exact lookAll_ok r h.2 t ht
theorem same_look {n : Nat} {f g : Fr} (h : (dropN n g, lookAll g (takeN n f ++ takeN n g)) = (dropN n f, lookAll f (takeN n f ++ takeN n g))) (t : Nat) : look f t = look g t := by
  injection h with h1 h2
  by_cases ht : t ∈ takeN n f ++ takeN n g
  · exact (lookAll_ok _ h2 t ht).symm
  · rw [List.mem_append, not_or] at ht
    rw [look_drop n f t ht.1, look_drop n g t ht.2, h1]

section
variable {P : Program} {E : Env} {W0 : World} {X : Bd} {Qe : Exit → Act → World → Prop}
theorem drawRun_some {ops : List Oper} {fr : Fr} {hp : List AO} {nx : Nat} {K : Post} (h : drawRun E ops fr hp nx K) : ∃ fr' hp' nx', K fr' hp' nx' := by
  unfold drawRun at h
  split at h
  · unfold runDraw0 at h
    obtain ⟨V, F, H, M, S, D, O, hF, hH, hM, hS, hD, hQ, hs⟩ := runDraw_seq _ 0 nx [] (voids_ok _ h)
    exact ⟨_, _, _, hQ⟩
  · unfold runDraw0 at h
    obtain ⟨V, F, H, M, S, D, O, hF, hH, hM, hS, hD, hQ, hs⟩ := runDraw_seq _ 0 nx [] (voids_ok _ h)
    obtain ⟨fr1, hp1, nx1, hb⟩ := runOps_some _ hQ
    exact ⟨_, _, _, (both_out hb).2⟩
theorem drawAll_some : ∀ (d : Nat) {ops : List Oper} {fr : Fr} {hp : List AO} {nx : Nat} {K : Post}, drawAll E d ops fr hp nx K → ∃ fr' hp' nx', K fr' hp' nx'
  | 0, _, _, _, _, _, h => drawRun_some h.2
  | d + 1, ops, fr, hp, nx, K, h => by
    unfold drawAll at h
    split at h
    · exact drawRun_some h.2
    · obtain ⟨fr1, hp1, nx1, hb⟩ := drawAll_some d h
      exact ⟨_, _, _, (both_out hb).2⟩
theorem drawAll_ok (hE : EnvOk P E) : ∀ (d : Nat) {ops : List Oper} {c : Cx} {fr : Fr} {hp : List AO} {nx : Nat} {a : Act} {Q : Post} {Qe : Exit → Act → World → Prop}, Gam W0 X E.N c fr hp nx a →
    drawAll E d ops fr hp nx Q → (∀ a' w', Is W0 X E.N Q a' w' → Qe .normal a' w') → AnyOrd P ops Qe a c.w
  | 0, ops, c, fr, hp, nx, a, Q, Qe, h, hk, hq => fun order hv => any_val _ order _ a _ (by
      have := draw_any (P := P) (Qe := Qe) hE (oa := ops.toArray) hk.1 h hk.2 hq
      simpa using this) hv
  | d + 1, ops, c, fr, hp, nx, a, Q, Qe, h, hk, hq => by
    unfold drawAll at hk
    split at hk
    · exact fun order hv => any_val _ order _ a _ (by
        have := draw_any (P := P) (Qe := Qe) hE (oa := ops.toArray) hk.1 h hk.2 hq
        simpa using this) hv
    · rename_i i k hb
      obtain ⟨hik, hkl⟩ := findBad_ok hb
      refine split_ord hik hkl (drawAll_ok hE d h hk fun a' w' hI => hq a' w' ?_) ?_
      · obtain ⟨c', fr', hp', nx', e, hG, hK⟩ := hI
        exact ⟨c', fr', hp', nx', e, hG, (both_out hK).2⟩
      · obtain ⟨fr1, hp1, nx1, hb⟩ := drawAll_some d hk
        obtain ⟨p1, p2⟩ := both_out hb
        refine drawAll_ok hE d h p1 fun a' w' hI => hq a' w' ?_
        obtain ⟨c', fr', hp', nx', e, hG, hK⟩ := hI
        obtain ⟨e1, rfl, rfl⟩ := alike_out hK
        exact ⟨c', fr1, hp', nx', e, hG.congr fun t => same_look e1 t, p2⟩
end

end Go.Proofs.Ythlkhjfilfdpiaa.Eng
