/- ENGINE 2, 10B: a run of operations says more of more. -/
import Derived.Test.YthlkhjfilfdpiaaF9
namespace Go.Proofs.Ythlkhjfilfdpiaa.Eng
set_option linter.unusedVariables false
set_option linter.unusedSimpArgs false
open Go Go.RowKit

section
variable {E : Env} {N : Nat} {K K' : Post}
theorem putK_mono {fr : Fr} {d : Option Nat} {v : AV} {K K' : Fr → Prop} (h : putK N fr d v K) (hm : ∀ fr, K fr → K' fr) : putK N fr d v K' :=
  (putK_F h).2 fr K' (hm _ (putK_F h).1)
theorem stepR_mono {dr : Bool} {fr : Fr} {hp : List AO} {nx : Nat} {d : Option Nat} {g : Option Bool} {r : R} (hm : ∀ fr hp nx, K fr hp nx → K' fr hp nx) (hk : stepR N dr fr hp nx d g r K) : stepR N dr fr hp nx d g r K' := by
  cases r with
  | no => exact hk
  | ok v =>
    refine force_swap v hk ?_
    have h1 := force_ok v hk
    cases g <;> exact putK_mono h1 fun fr h => hm _ _ _ h
  | ob p v =>
    refine force_swap v hk ?_
    have h1 := force_ok v hk
    cases g <;> exact ⟨h1.1, putK_mono h1.2 fun fr h => hm _ _ _ h⟩
  | call r =>
    refine force_swap r.res hk ?_
    have h1 := force_ok r.res hk
    cases g <;> exact ⟨h1.1, putK_mono h1.2 fun fr h => hm _ _ _ h⟩
  | act m p v hp' =>
    cases g with
    | some b => cases dr <;> exact hk
    | none =>
      cases dr with
      | true => exact hk
      | false =>
        have hk2 : force v (fun v => forceH hp' fun hp' => p ∧ putK N fr d v fun fr => K fr hp' (lenO hp')) := hk
        have h1 := forceH_ok hp' (force_ok v hk2)
        show force v (fun v => forceH hp' fun hp' => p ∧ putK N fr d v fun fr => K' fr hp' (lenO hp'))
        exact force_swap v hk2 (forceH_swap hp' (force_ok v hk2) ⟨h1.1, putK_mono h1.2 fun fr h => hm _ _ _ h⟩)
  | new v ob =>
    cases g with
    | some b => cases dr <;> exact hk
    | none =>
      cases dr with
      | true => exact hk
      | false =>
        have hk2 : forceO ob (fun o' => snocK hp o' fun hp => putK N fr d v fun fr => K fr hp (nx + 1)) := hk
        have h1 := snocK_ok hp (forceO_ok ob hk2)
        show forceO ob (fun o' => snocK hp o' fun hp => putK N fr d v fun fr => K' fr hp (nx + 1))
        exact forceO_swap ob hk2 (snocK_mk hp (putK_mono h1 fun fr h => hm _ _ _ h))
  | set v i ob =>
    cases g with
    | some b => cases dr <;> exact hk
    | none =>
      cases dr with
      | true => exact hk
      | false =>
        have hk2 : forceO ob (fun o' => setK hp i o' fun hp => putK N fr d v fun fr => K fr hp nx) := hk
        obtain ⟨hi, h1⟩ := setK_ok hp (forceO_ok ob hk2)
        show forceO ob (fun o' => setK hp i o' fun hp => putK N fr d v fun fr => K' fr hp nx)
        exact forceO_swap ob hk2 (setK_mk hp hi (putK_mono h1 fun fr h => hm _ _ _ h))
  | upd v i ob =>
    cases g with
    | some b => cases dr <;> exact hk
    | none =>
      cases dr with
      | true => exact hk
      | false =>
        have hk2 : forceO ob (fun o' => setK hp i o' fun hp => putK N fr d v fun fr => K fr hp nx) := hk
        obtain ⟨hi, h1⟩ := setK_ok hp (forceO_ok ob hk2)
        show forceO ob (fun o' => setK hp i o' fun hp => putK N fr d v fun fr => K' fr hp nx)
        exact forceO_swap ob hk2 (setK_mk hp hi (putK_mono h1 fun fr h => hm _ _ _ h))
theorem pickO_mono {fr : Fr} {hp : List AO} {nx : Nat} {d : Option Nat} {g : Option Bool} {x : Bool} {a b : AV} (hm : ∀ fr hp nx, K fr hp nx → K' fr hp nx) (hk : pickO N fr hp nx d g x a b K) : pickO N fr hp nx d g x a b K' := by
  unfold pickO at *
  cases g with
  | none =>
    obtain ⟨y, hy, hs⟩ := pickB_loc hk
    exact hs _ (putK_mono hy fun fr h => hm _ _ _ h)
  | some g =>
    obtain ⟨y, hy, hs⟩ := pickB_loc hk
    exact hs _ (putK_mono hy fun fr h => hm _ _ _ h)
theorem obsO_mono {fr : Fr} {g : Option Bool} {l : List Operand} {K K' : Prop} (hk : obsO fr g l K) (h : K → K') : obsO fr g l K' := obsO_loc (fun _ _ => rfl) hk h
theorem stepO_mono {dr : Bool} {fr : Fr} {hp : List AO} {nx : Nat} {o : Oper} {g : Option Bool} (hm : ∀ fr hp nx, K fr hp nx → K' fr hp nx) (hk : stepO E dr fr hp nx o g K) : stepO E dr fr hp nx o g K' := by
  unfold stepO at *
  split
  · rename_i x p q hop
    simp only [hop] at hk
    split
    · rename_i b hb
      simp only [hb] at hk
      exact obsO_mono hk (pickO_mono hm)
    · rename_i hne
      split at hk
      · rename_i b hb; exact absurd hb (hne b)
      · exact hk
  · rename_i hne
    split at hk
    · rename_i x p q hop; exact absurd hop (hne x p q)
    · exact obsO_mono hk (stepR_mono hm)
theorem stepS_mono {dr : Bool} {fr : Fr} {hp : List AO} {nx : Nat} {o : Oper} {g : Bool} (hm : ∀ fr hp nx, K fr hp nx → K' fr hp nx) (hk : stepS E dr fr hp nx o g K) : stepS E dr fr hp nx o g K' := by
  unfold stepS at *
  cases hmk : makesO o with
  | true => rw [hmk] at hk; exact ⟨hk.1, stepO_mono hm hk.2⟩
  | false => rw [hmk] at hk; exact stepO_mono hm hk
theorem stepG_mono {dr : Bool} {all : List Oper} {fr : Fr} {hp : List AO} {nx : Nat} {o : Oper} (hm : ∀ fr hp nx, K fr hp nx → K' fr hp nx) (hk : stepG E dr all o fr hp nx K) : stepG E dr all o fr hp nx K' := by
  unfold stepG at *
  cases hgd : o.guard with
  | none => simp only [hgd] at hk ⊢; exact stepO_mono hm hk
  | some p =>
    obtain ⟨j, want⟩ := p
    simp only [hgd] at hk ⊢
    cases hd : dstAt all j with
    | none => simp [hd] at hk
    | some d =>
      simp only [hd] at hk ⊢
      unfold guardOf at *
      split
      · rename_i b e
        simp only [e] at hk
        exact stepS_mono hm hk
      · rename_i c b e
        simp only [e] at hk
        exact stepS_mono hm hk
      · rename_i h1 h2
        split at hk
        · rename_i b e; exact absurd e (h1 b)
        · rename_i c b e; exact absurd e (h2 c b)
        · exact hk
theorem runOps_mono {all : List Oper} (hm : ∀ fr hp nx, K fr hp nx → K' fr hp nx) : ∀ (l : List Oper) {fr : Fr} {hp : List AO} {nx : Nat}, runOps E all l fr hp nx K → runOps E all l fr hp nx K'
  | [], _, _, _, h => hm _ _ _ h
  | o :: r, _, _, _, h => stepG_mono (fun _ _ _ h => runOps_mono hm r h) h
end

end Go.Proofs.Ythlkhjfilfdpiaa.Eng
