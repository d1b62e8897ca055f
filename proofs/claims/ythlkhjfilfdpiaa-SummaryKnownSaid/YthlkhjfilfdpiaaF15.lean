/- ENGINE 2, 15: a law's contract as its row asks. -/
import Derived.Test.YthlkhjfilfdpiaaF14
import Derived.WalkKit
import Derived.ProofKit
import Derived.OpenShut
import Derived.ChangeOld
import Derived.Below
import Derived.Carry
namespace Go.Proofs.Ythlkhjfilfdpiaa.Eng
set_option linter.unusedVariables false
set_option linter.unusedSimpArgs false
open Go Go.RowKit

/-- The beginning: nothing of one's own, nothing shut. -/
def cx0 (w : World) : Cx := ⟨w, fun _ => none, fun _ => none, fun _ => .bool false, fun _ => 0, 0, fun _ => False, 0, fun _ => rfl, fun _ _ _ _ h => by cases h⟩

theorem law_calls {P : Program} {f : FuncId} {k : Con} (h : FnOk P f k) {l : AV} {p : Prop} (hk : k l [] = some ⟨p, B true, [], []⟩) (hp : p) (w : World) (args : Array Value) (hs : sat l (cx0 w) args.toList) :
    Calls P f args w fun e w' => e = .returned (.bool true) ∧ Below w.heap.size w w' := by
  refine ((h l [] _ hk hp (cx0 w) args hs (obs_none rfl (fun b hb => hb.elim) (Nat.zero_le _))).2).mono fun e w' he => ?_
  obtain ⟨x, c', rfl, rfl, hx, _, _, hres⟩ := he
  have : x = .bool true := by simpa [sat] using hres
  rw [this]
  exact ⟨rfl, (ext_below hx rfl).toBelow⟩

/-- A struct or an array all of whose cells are integers of one kind. -/
theorem open_row {P : Program} {w : World} {r : Reach} {b : Nat} {t : TypeId} {v : Value} {n : Nat} {ts : List TypeId} {k : IntKind} (hr : (P.underlying t).map TypeDesc.isRow = some true) (hc : P.cellsOf t = n) (hct : P.cellTypes P.depth t = some ts) (hl : ts.length = n) (hu : ∀ u ∈ ts, P.underlying u = some (.int k)) (h : Value.okWide P w r b t v) :
    ∃ l : List Int, l.length = n ∧ v = .agg (l.map (Value.int k)).toArray ∧ ∀ x ∈ l, k.has x := by
  have hrow : ∃ cs, v = .agg cs ∧ cs.size = P.cellsOf t ∧ Row.okWide P w r b t cs := by
    unfold Value.okWide at h
    cases hq : P.underlying t with
    | none => simp [hq] at hr
    | some d => cases d <;> simp [hq, TypeDesc.isRow] at hr <;> simpa [hq] using h
  obtain ⟨cs, rfl, hsz, ts', hct', _, hall⟩ := hrow
  rw [hct] at hct'; injection hct' with hct'; subst hct'
  have key : ∀ m (l : List Value), l.length = m → (∀ v ∈ l, ∃ x, v = .int k x ∧ k.has x) → ∃ xs : List Int, xs.length = m ∧ l = xs.map (Value.int k) ∧ ∀ x ∈ xs, k.has x := by
    intro m l
    induction l generalizing m with
    | nil => intro hm _; exact ⟨[], by simpa using hm, rfl, fun x hx => by cases hx⟩
    | cons v l ih =>
      intro hm hv
      obtain ⟨x, rfl, hx⟩ := hv v (by simp)
      cases m with
      | zero => simp at hm
      | succ m =>
        obtain ⟨xs, h1, h2, h3⟩ := ih m (by simpa using hm) fun u hu => hv u (by simp [hu])
        refine ⟨x :: xs, by simp [h1], by rw [h2]; rfl, fun y hy => ?_⟩
        rcases List.mem_cons.1 hy with rfl | hy
        · exact hx
        · exact h3 y hy
  obtain ⟨xs, h1, h2, h3⟩ := key n cs.toList (by simp [hsz, hc]) fun v hv => by
    obtain ⟨i, hi⟩ := List.getElem?_of_mem hv
    obtain ⟨u, hu1, hu2⟩ := hall i v (by simpa using hi)
    have hk := hu u (List.mem_of_getElem? hu1)
    unfold Cell.okWide at hu2
    rw [hk] at hu2
    cases v <;> simp [Cell.ok, hk] at hu2
    rename_i k' x
    exact ⟨x, by rw [hu2.1], hu2.2⟩
  exact ⟨xs, h1, by rw [← h2], h3⟩

theorem has_i64 {x : Int} (h : IntKind.i64.has x) : -9223372036854775808 ≤ x ∧ x ≤ 9223372036854775807 := h
theorem has_u8 {x : Int} (h : IntKind.u8.has x) : 0 ≤ x ∧ x ≤ 255 := h
/-- An integer. -/
theorem open_k {P : Program} {w : World} {r : Reach} {b : Nat} {t : TypeId} {v : Value} {k : IntKind} (ht : P.underlying t = some (.int k)) (h : Value.okWide P w r b t v) : ∃ x, v = .int k x ∧ k.has x := by
  unfold Value.okWide at h
  rw [ht] at h
  unfold Cell.okWide at h
  rw [ht] at h
  cases v <;> simp [Cell.ok, ht] at h
  rename_i k' x
  exact ⟨x, by rw [h.1], h.2⟩
end Go.Proofs.Ythlkhjfilfdpiaa.Eng
