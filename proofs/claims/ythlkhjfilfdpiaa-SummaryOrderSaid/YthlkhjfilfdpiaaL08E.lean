/- The statement of SummaryOrder: what the function returns is true, whatever it is given. Conditions: those that the given row states. -/
import Derived.Test.YthlkhjfilfdpiaaC08J
import Derived.Test.YthlkhjfilfdpiaaE15
import Derived.Test.YthlkhjfilfdpiaaRows
namespace Go.Proofs.Ythlkhjfilfdpiaa.lawSummaryOrder
open Go.ChangeShapes Go.WideShapes Go.ChangeAt Go.RowKit Go Go.Proofs.Ythlkhjfilfdpiaa.Eng
set_option linter.unusedVariables false
set_option linter.unusedSimpArgs false

theorem own : ownKnob Try.prog.godebug = none := by kernel_rfl
theorem laidOut : laidOutB Try.prog = true := by kernel_rfl

theorem openT {w : World} {b : Nat} {v : Value} (h : Value.okWide Try.prog w .any b 26 v) : ∃ s : St, sat (shT.put s) (cx0 w) [v] ∧ IntKind.i64.has s.d := by
  obtain ⟨l, hl, rfl, hr⟩ := open_row (n := 5) (ts := [3, 3, 3, 3, 3]) (k := .i64) (by kernel_rfl) (by kernel_rfl) (by kernel_rfl) rfl (fun u hu => by simp at hu; subst hu; kernel_rfl) h
  match l, hl with
  | [d, e, a, b, c], _ => exact ⟨⟨d, e, a, b, c⟩, ⟨_, rfl, _, _, rfl, rfl, _, _, rfl, rfl, _, _, rfl, rfl, _, _, rfl, rfl, _, _, rfl, rfl, rfl⟩, hr d (by simp)⟩
theorem openS {w : World} {b : Nat} {v : Value} (h : Value.okWide Try.prog w .any b 24 v) : ∃ s : Sm, sat (shS.put s) (cx0 w) [v] := by
  obtain ⟨l, hl, rfl, _⟩ := open_row (n := 7) (ts := [3, 3, 3, 3, 3, 3, 3]) (k := .i64) (by kernel_rfl) (by kernel_rfl) (by kernel_rfl) rfl (fun u hu => by simp at hu; subst hu; kernel_rfl) h
  match l, hl with
  | [f, t, k, n, a, b, c], _ => exact ⟨⟨f, t, k, n, a, b, c⟩, _, rfl, _, _, rfl, rfl, _, _, rfl, rfl, _, _, rfl, rfl, _, _, rfl, rfl, _, _, rfl, rfl, _, _, rfl, rfl, _, _, rfl, rfl, rfl⟩

set_option maxRecDepth 100000 in
theorem lifted (os : Os) (started : os.Started) (H : Type) (enc : TypeId × Value → H) :
    ReturnsInHanded {} Try.checked os 7 .any (Rows.summaryOrderSpec.pre6 enc Try.prog Try.f7 Rows.summaryOrderRow.domain false) (Rows.summaryOrderSpec.post enc Try.prog Try.f7 false true false false) := by
  refine returnsInHanded_of_change (C := Try.checked) own started (by kernel_rfl) Try.func7
    (ChangeSpec.witness6 (enc := enc) (C := Try.checked) false ⟨#[], #[.agg #[.int .i64 0, .int .i64 0, .int .i64 0, .int .i64 0, .int .i64 0, .int .i64 0, .int .i64 0], .agg #[.int .i64 0, .int .i64 0, .int .i64 0, .int .i64 0, .int .i64 0, .int .i64 0, .int .i64 0], .agg #[.int .i64 0, .int .i64 0, .int .i64 0, .int .i64 0, .int .i64 0], .agg #[.int .i64 0, .int .i64 0, .int .i64 0, .int .i64 0, .int .i64 0]], []⟩ 8 (by kernel_rfl) (by kernel_rfl) (by kernel_rfl) (by kernel_rfl)) ?_
  intro W base args ds gs before hval0 hW hcnd _
  have hval : ∀ (j : Nat) t v, Try.f7.params[j]? = some t → args[j]? = some v → Value.okWide Try.prog W .any base t v := hval0
  have hW' := hW
  obtain ⟨p, q, hA0, hV, rfl, hfz, hnd⟩ := hW
  have hA : DataW.TrodAll enc Try.prog W 0 (fun _ => true) true Try.f7.params.toList args.toList ds p := hA0
  rw [Try.params7] at hA hval
  obtain ⟨v0, vs0, d0, ds0, p0, q0, hargs, rfl, rfl, h0, r0⟩ := trodAll_cons hA
  obtain ⟨v1, vs1, d1, ds1, p1, q1, rfl, rfl, rfl, h1, r1⟩ := trodAll_cons r0
  obtain ⟨v2, vs2, d2, ds2, p2, q2, rfl, rfl, rfl, h2, r2⟩ := trodAll_cons r1
  obtain ⟨v3, vs3, d3, ds3, p3, q3, rfl, rfl, rfl, h3, r3⟩ := trodAll_cons r2
  obtain ⟨rfl, rfl, rfl⟩ := trodAll_nil r3
  obtain rfl : args = #[v0, v1, v2, v3] := by cases args; simp_all
  obtain ⟨rfl, rfl⟩ := trodVars_none hV
  have lt0 : ∀ x ∈ p0, x.block < W.heap.size := by obtain ⟨m, hm⟩ := h0; exact DataW.trod_lt m _ _ _ hm
  have lt1 : ∀ x ∈ p1, x.block < W.heap.size := by obtain ⟨m, hm⟩ := h1; exact DataW.trod_lt m _ _ _ hm
  have lt2 : ∀ x ∈ p2, x.block < W.heap.size := by obtain ⟨m, hm⟩ := h2; exact DataW.trod_lt m _ _ _ hm
  have lt3 : ∀ x ∈ p3, x.block < W.heap.size := by obtain ⟨m, hm⟩ := h3; exact DataW.trod_lt m _ _ _ hm
  obtain ⟨x0, e0⟩ := openS (hval 0 24 v0 rfl rfl)
  obtain ⟨x1, e1⟩ := openS (hval 1 24 v1 rfl rfl)
  obtain ⟨x2, e2, b2⟩ := openT (hval 2 26 v2 rfl rfl)
  obtain ⟨x3, e3, b3⟩ := openT (hval 3 26 v3 rfl rfl)
  clear hA0 hval0
  refine (law_calls c_lawOrder (l := .cons (shS.put x0) (.cons (shS.put x1) (.cons (shT.put x2) (.cons (shT.put x3) (.nil))))) rfl (has_i64 b2) W _ ⟨_, _, rfl, e0, ⟨_, _, rfl, e1, ⟨_, _, rfl, e2, ⟨_, _, rfl, e3, rfl⟩⟩⟩⟩).mono fun e W' ⟨he, bel⟩ => ?_
  subst he
  exact ⟨_, rfl, _, _, _, [], _, [], hW', trodAll_mk1 (shut_bool Try.underlying4 _), (trodAll_cons_mk (Below.trod laidOut (by kernel_rfl) (of_decide_eq_true (by kernel_rfl)) h0 bel lt0) (trodAll_cons_mk (Below.trod laidOut (by kernel_rfl) (of_decide_eq_true (by kernel_rfl)) h1 bel lt1) (trodAll_cons_mk (Below.trod laidOut (by kernel_rfl) (of_decide_eq_true (by kernel_rfl)) h2 bel lt2) (trodAll_cons_mk (Below.trod laidOut (by kernel_rfl) (of_decide_eq_true (by kernel_rfl)) h3 bel lt3) trodAll_mk0)))), rfl, bel.frame _, fun h => by cases h⟩

theorem over : Rows.summaryOrderRow.holds Try.pinned (OpenSpec.ofChange Rows.summaryOrderSpec) :=
  OpenClaim.holds_of_wide 7 Try.f7 rfl rfl rfl rfl rfl rfl rfl ⟨rfl, rfl, rfl, rfl, rfl⟩ rfl rfl rfl rfl rfl (by kernel_rfl) Try.func7 (by kernel_rfl)
    (of_decide_eq_true (by kernel_rfl)) (by unfold Func.isWrapper; first | (rw [if_pos (by decide +kernel)]; kernel_rfl) | (rw [if_neg (by decide +kernel)]; exact ⟨rfl, rfl⟩))
    (fun os started H enc _ => lifted os started H enc)

/-- The statement. -/
theorem proved : Rows.SummaryOrderSaid := over
end Go.Proofs.Ythlkhjfilfdpiaa.lawSummaryOrder
