/- Times and summaries as shapes. -/
import Derived.Test.YthlkhjfilfdpiaaF16
import Derived.Test.YthlkhjfilfdpiaaP05
namespace Go.Proofs.Ythlkhjfilfdpiaa
set_option linter.unusedVariables false
open Go Go.Proofs.Ythlkhjfilfdpiaa.Eng

def gSt : AV → Option St
  | .agg l => match gL 5 l with
    | some [d, e, a, b, c] => some ⟨d, e, a, b, c⟩
    | _ => none
  | _ => none
abbrev pSt (s : St) : AV := .agg (.cons (I s.d) (.cons (I s.e) (.cons (I s.a) (.cons (I s.b) (.cons (I s.c) .nil)))))
theorem gSt_ok {v : AV} {x : St} (h : gSt v = some x) : v = pSt x := by
  unfold gSt at h
  split at h
  · split at h
    · rename_i hl
      injection h with h; subst h
      rw [(gL_ok 5 hl).1]; rfl
    · cases h
  · cases h
def shSt : Sh St := .mk' gSt pSt (fun _ _ h => gSt_ok h)
def gSm : AV → Option Sm
  | .agg l => match gL 7 l with
    | some [f, t, k, n, a, b, c] => some ⟨f, t, k, n, a, b, c⟩
    | _ => none
  | _ => none
abbrev pSm (s : Sm) : AV := .agg (.cons (I s.f) (.cons (I s.t) (.cons (I s.k) (.cons (I s.n) (.cons (I s.a) (.cons (I s.b) (.cons (I s.c) .nil)))))))
theorem gSm_ok {v : AV} {x : Sm} (h : gSm v = some x) : v = pSm x := by
  unfold gSm at h
  split at h
  · split at h
    · rename_i hl
      injection h with h; subst h
      rw [(gL_ok 7 hl).1]; rfl
    · cases h
  · cases h
def shSm : Sh Sm := .mk' gSm pSm (fun _ _ h => gSm_ok h)
abbrev pP (a b : AV) : AV := .tup (.cons a (.cons b .nil))

end Go.Proofs.Ythlkhjfilfdpiaa
