/- ENGINE, 8: a region that draws its order: the lexical run serves every order. -/
import Derived.Test.YthlkhjfilfdpiaaE7
import Derived.Orders
namespace Go.Proofs.Ythlkhjfilfdpiaa.Eng
set_option linter.unusedVariables false
set_option linter.unusedSimpArgs false
open Go Go.RowKit

def putF (d : Option Nat) (v : AV) (fr : Fr) : Fr :=
  match d with
  | some d => (d, v) :: fr
  | none => fr

theorem force_swap : ∀ (x : AV) {K K' : AV → Prop}, force x K → K' x → force x K'
  | .u, _, _, _, h => h
  | .v x, _, _, hk, h => by cases x <;> first | exact h | exact hk.elim
  | .nil, _, _, _, h => h
  | .cons a b, K, K', hk, h => force_swap a hk (force_swap b (K := fun t => K (.cons a t)) (force_ok a hk) h)
  | .agg l, _, _, hk, h => force_swap l hk h
  | .tup l, _, _, hk, h => force_swap l hk h
  | .fn _ l, _, _, hk, h => force_swap l hk h
  | .gd _ x, _, _, hk, h => force_swap x hk h
  | .ptr _ _, _, _, _, h => h
  | .sc _ _ _ _, _, _, _, h => h
  | .rd _ _ _, _, _, _, h => h
  | .rp _ _ _, _, _, _, h => h
  | .ow _, _, _, _, h => h
  | .op _ _ _ _, _, _, _, h => h
theorem forceO_swap (o : AO) {K K' : AO → Prop} (hk : forceO o K) (h : K' o) : forceO o K' := by
  cases o with
  | cells l => exact force_swap l hk h
  | _ => exact h
theorem snocK_mk : ∀ (l : List AO) {x : AO} {K : List AO → Prop}, K (l ++ [x]) → snocK l x K
  | [], _, _, h => h
  | o :: r, x, K, h => snocK_mk r (K := fun r' => K (o :: r')) h
theorem setK_mk : ∀ (l : List AO) {n : Nat} {x : AO} {K : List AO → Prop}, n < l.length → K (l.set n x) → setK l n x K
  | [], _, _, _, h, _ => absurd h (Nat.not_lt_zero _)
  | _ :: r, 0, _, _, _, h => h
  | o :: r, n + 1, x, K, hl, h => setK_mk r (K := fun r' => K (o :: r')) (Nat.lt_of_succ_lt_succ hl) h
theorem putK_F {N : Nat} {fr : Fr} {d : Option Nat} {v : AV} {K : Fr → Prop} (h : putK N fr d v K) : K (putF d v fr) ∧ ∀ fr' (K' : Fr → Prop), K' (putF d v fr') → putK N fr' d v K' := by
  unfold putK at h
  cases d with
  | none => exact ⟨h, fun _ _ h => h⟩
  | some i =>
    simp only at h
    cases hb : Nat.blt i N with
    | true => simp only [hb, cond_true] at h; exact ⟨h, fun fr' K' h' => by unfold putK; simp only [hb, cond_true]; exact h'⟩
    | false => simp only [hb, cond_false] at h

/-- The frame, the objects behind an operation. -/
abbrev To (d : Option Nat) (v : AV) (fr : Fr) (hp : List AO) (nx : Nat) : Post := fun fr' hp' nx' => fr' = putF d v fr ∧ hp' = hp ∧ nx' = nx

section
variable {E : Env} {fr : Fr} {hp : List AO} {nx : Nat} {o : Oper} {N : Nat}

theorem stepR_loc {dr : Bool} {d : Option Nat} {g : Option Bool} {r : R} {K : Post} (hk : stepR N dr fr hp nx d g r K) :
    ∃ v hp' nx', K (putF d v fr) hp' nx' ∧ (dr = true → hp' = hp ∧ nx' = nx) ∧ ∀ fr', stepR N dr fr' hp nx d g r (To d v fr' hp' nx') := by
  cases r with
  | no => exact Stuck.out hk
  | ok v =>
    have h1 := force_ok v hk
    cases g with
    | none => exact ⟨v, hp, nx, (putK_F h1).1, fun _ => ⟨rfl, rfl⟩, fun fr' => force_swap v hk ((putK_F h1).2 fr' _ ⟨rfl, rfl, rfl⟩)⟩
    | some b => exact ⟨.gd b v, hp, nx, (putK_F h1).1, fun _ => ⟨rfl, rfl⟩, fun fr' => force_swap v hk ((putK_F h1).2 fr' _ ⟨rfl, rfl, rfl⟩)⟩
  | ob p v =>
    have h1 := force_ok v hk
    cases g with
    | none => exact ⟨v, hp, nx, (putK_F h1.2).1, fun _ => ⟨rfl, rfl⟩, fun fr' => force_swap v hk ⟨h1.1, (putK_F h1.2).2 fr' _ ⟨rfl, rfl, rfl⟩⟩⟩
    | some b => exact ⟨.gd b v, hp, nx, (putK_F h1.2).1, fun _ => ⟨rfl, rfl⟩, fun fr' => force_swap v hk ⟨h1.1, (putK_F h1.2).2 fr' _ ⟨rfl, rfl, rfl⟩⟩⟩
  | call r =>
    have h1 := force_ok r.res hk
    cases g with
    | none => exact ⟨r.res, hp, nx, (putK_F h1.2).1, fun _ => ⟨rfl, rfl⟩, fun fr' => force_swap r.res hk ⟨h1.1, (putK_F h1.2).2 fr' _ ⟨rfl, rfl, rfl⟩⟩⟩
    | some b => exact ⟨.gd b r.res, hp, nx, (putK_F h1.2).1, fun _ => ⟨rfl, rfl⟩, fun fr' => force_swap r.res hk ⟨h1.1, (putK_F h1.2).2 fr' _ ⟨rfl, rfl, rfl⟩⟩⟩
  | new v ob =>
    cases g with
    | some b => cases dr <;> exact Stuck.out hk
    | none =>
      cases dr with
      | true => exact Stuck.out hk
      | false =>
        have hk2 : forceO ob (fun o' => snocK hp o' fun hp => putK N fr d v fun fr => K fr hp (nx + 1)) := hk
        have h1 := snocK_ok hp (forceO_ok ob hk2)
        exact ⟨v, hp ++ [ob], nx + 1, (putK_F h1).1, fun h => (by cases h), fun fr' => by
          show forceO ob (fun o' => snocK hp o' fun hp' => putK N fr' d v fun fr'' => To d v fr' (hp ++ [ob]) (nx + 1) fr'' hp' (nx + 1))
          exact forceO_swap ob hk2 (snocK_mk hp ((putK_F h1).2 fr' _ ⟨rfl, rfl, rfl⟩))⟩
  | set v i ob =>
    cases g with
    | some b => cases dr <;> exact Stuck.out hk
    | none =>
      cases dr with
      | true => exact Stuck.out hk
      | false =>
        have hk2 : forceO ob (fun o' => setK hp i o' fun hp => putK N fr d v fun fr => K fr hp nx) := hk
        obtain ⟨hi, h1⟩ := setK_ok hp (forceO_ok ob hk2)
        exact ⟨v, hp.set i ob, nx, (putK_F h1).1, fun h => (by cases h), fun fr' => by
          show forceO ob (fun o' => setK hp i o' fun hp' => putK N fr' d v fun fr'' => To d v fr' (hp.set i ob) nx fr'' hp' nx)
          exact forceO_swap ob hk2 (setK_mk hp hi ((putK_F h1).2 fr' _ ⟨rfl, rfl, rfl⟩))⟩
  | upd v i ob =>
    cases g with
    | some b => cases dr <;> exact Stuck.out hk
    | none =>
      cases dr with
      | true => exact Stuck.out hk
      | false =>
        have hk2 : forceO ob (fun o' => setK hp i o' fun hp => putK N fr d v fun fr => K fr hp nx) := hk
        obtain ⟨hi, h1⟩ := setK_ok hp (forceO_ok ob hk2)
        exact ⟨v, hp.set i ob, nx, (putK_F h1).1, fun h => (by cases h), fun fr' => by
          show forceO ob (fun o' => setK hp i o' fun hp' => putK N fr' d v fun fr'' => To d v fr' (hp.set i ob) nx fr'' hp' nx)
          exact forceO_swap ob hk2 (setK_mk hp hi ((putK_F h1).2 fr' _ ⟨rfl, rfl, rfl⟩))⟩

theorem foldr_congr {ρ ρ' : Operand → AV} (l : List Operand) (h : ∀ x ∈ l, ρ x = ρ' x) : (l.foldr (fun x l => AV.cons (ρ x) l) .nil) = (l.foldr (fun x l => AV.cons (ρ' x) l) .nil) := by
  induction l with
  | nil => rfl
  | cons x l ih => simp only [List.foldr_cons]; rw [h x (by simp), ih fun y hy => h y (by simp [hy])]

theorem evalOp_congr {ρ ρ' : Operand → AV} (op : Op) (h : ∀ x ∈ op.operands.toList, ρ x = ρ' x) : evalOp E ρ hp nx op = evalOp E ρ' hp nx op := by
  cases op with
  | build t parts =>
    have : (parts.toList.map fun p => (p.1, ρ p.2)) = (parts.toList.map fun p => (p.1, ρ' p.2)) := by
      refine List.map_congr_left fun p hp' => ?_
      rw [h p.2 (by simp [Op.operands]; exact ⟨p.1, by simpa using hp'⟩)]
    simp only [evalOp, this]
  | call c =>
    have list : ∀ l : List Operand, (∀ x ∈ l, ρ x = ρ' x) → (l.foldr (fun x l => AV.cons (ρ x) l) .nil) = (l.foldr (fun x l => AV.cons (ρ' x) l) .nil) := foldr_congr
    simp only [evalOp]
    cases hc : c.callee with
    | value f =>
      have hf := h f (by simp [Op.operands, Call.operands, hc])
      have ha := list c.args.toList fun x hx => h x (by simp [Op.operands, Call.operands, hc]; exact .inr (by simpa using hx))
      simp only [hf, ha]
    | builtin b =>
      have ha := list c.args.toList fun x hx => h x (by simp [Op.operands, Call.operands, hc]; simpa using hx)
      simp only [ha]
    | _ => rfl
  | makeFunc f first cap =>
    have ha := foldr_congr cap.toList fun x hx => h x (by simp [Op.operands]; exact .inr (by simpa using hx))
    cases f <;> simp only [evalOp, ha]
  | slice t x lo hi mx =>
    have hl : lo.map ρ = lo.map ρ' := by
      cases lo with
      | none => rfl
      | some p => simp [h p (by simp [Op.operands])]
    have hh : hi.map ρ = hi.map ρ' := by
      cases hi with
      | none => rfl
      | some p => simp [h p (by simp [Op.operands])]
    have hm : mx.map ρ = mx.map ρ' := by
      cases mx with
      | none => rfl
      | some p => simp [h p (by simp [Op.operands])]
    simp only [evalOp, hl, hh, hm, h x (by simp [Op.operands])]
  | _ => simp_all [evalOp, Op.operands]

def Agree (all : List Oper) (o : Oper) (fr fr' : Fr) : Prop := ∀ t ∈ lookAt all o, look fr' t = look fr t

theorem raw_agree {all : List Oper} {fr' : Fr} (ha : Agree all o fr fr') (x : Operand) (hx : x ∈ o.op.operands.toList) : raw fr' x = raw fr x := by
  cases x with
  | tmp t =>
    refine ha t ?_
    unfold lookAt
    refine List.mem_append_left _ (List.mem_filterMap.2 ⟨.tmp t, hx, rfl⟩)
  | _ => rfl

theorem obs_loc {fr' : Fr} {g : Bool} : ∀ (l : List Operand) {K K' : Prop}, (∀ x ∈ l, raw fr' x = raw fr x) → obs fr g l K → (K → K') → obs fr' g l K'
  | [], K, K', _, hk, h => h hk
  | x :: r, K, K', ha, hk, h => by
    unfold obs at hk ⊢
    rw [ha x (by simp)]
    split at hk
    · exact ⟨hk.1, obs_loc r (fun y hy => ha y (by simp [hy])) hk.2 h⟩
    · exact obs_loc r (fun y hy => ha y (by simp [hy])) hk h

theorem obsO_loc {fr' : Fr} {g : Option Bool} {l : List Operand} {K K' : Prop} (ha : ∀ x ∈ l, raw fr' x = raw fr x) (hk : obsO fr g l K) (h : K → K') : obsO fr' g l K' := by
  cases g with
  | none => exact obs_loc l ha hk h
  | some g => exact obs_loc l ha hk h
theorem obsO_K {g : Option Bool} {l : List Operand} {K : Prop} (hk : obsO fr g l K) : K := by
  cases g with
  | none => exact obs_K l hk
  | some g => exact obs_K l hk

theorem pickB_loc {g x : Bool} {p q : AV} {K : Bool → Prop} (hk : pickB g x p q K) : ∃ y, K y ∧ ∀ K' : Bool → Prop, K' y → pickB g x p q K' := by
  unfold pickB at hk
  split at hk
  · exact ⟨_, hk, fun K' h => h⟩
  · exact ⟨_, hk.2, fun K' h => ⟨hk.1, h⟩⟩
  · exact ⟨_, hk.2, fun K' h => ⟨hk.1, h⟩⟩
  · exact ⟨_, hk.2.2, fun K' h => ⟨hk.1, hk.2.1, h⟩⟩
  · exact hk.elim

theorem stepO_loc {all : List Oper} {dr : Bool} {g : Option Bool} {K : Post} (hk : stepO E dr fr hp nx o g K) :
    ∃ v hp' nx', K (putF o.dst v fr) hp' nx' ∧ (dr = true → hp' = hp ∧ nx' = nx) ∧ ∀ fr', Agree all o fr fr' → stepO E dr fr' hp nx o g (To o.dst v fr' hp' nx') := by
  unfold stepO at hk
  split at hk
  · rename_i x p q hop
    split at hk
    · rename_i b hb
      have hpk := obsO_K hk
      have main : ∃ v, K (putF o.dst v fr) hp nx ∧ ∀ fr', pickO E.N fr' hp nx o.dst g b (raw fr p) (raw fr q) (To o.dst v fr' hp nx) := by
        unfold pickO at hpk
        cases g with
        | none =>
          obtain ⟨y, hy, hs⟩ := pickB_loc hpk
          exact ⟨.v (.bool y), (putK_F hy).1, fun fr' => by
            show pickB true b (raw fr p) (raw fr q) fun z => putK E.N fr' o.dst (.v (.bool z)) fun fr'' => To o.dst (.v (.bool y)) fr' hp nx fr'' hp nx
            exact hs _ ((putK_F hy).2 fr' _ ⟨rfl, rfl, rfl⟩)⟩
        | some g =>
          obtain ⟨y, hy, hs⟩ := pickB_loc hpk
          exact ⟨.gd g (.v (.bool y)), (putK_F hy).1, fun fr' => by
            show pickB g b (raw fr p) (raw fr q) fun z => putK E.N fr' o.dst (.gd g (.v (.bool z))) fun fr'' => To o.dst (.gd g (.v (.bool y))) fr' hp nx fr'' hp nx
            exact hs _ ((putK_F hy).2 fr' _ ⟨rfl, rfl, rfl⟩)⟩
      obtain ⟨v, hK, hs⟩ := main
      refine ⟨v, hp, nx, hK, fun _ => ⟨rfl, rfl⟩, fun fr' ha => ?_⟩
      have hr : ∀ z ∈ [x, p, q], raw fr' z = raw fr z := fun z hz => raw_agree ha z (by rw [hop]; simpa [Op.operands] using hz)
      unfold stepO
      simp only [hop]
      have hb' : opd fr' x = .v (.bool b) := by unfold opd at hb ⊢; rw [hr x (by simp)]; exact hb
      simp only [hb']
      rw [hr p (by simp), hr q (by simp)]
      exact obsO_loc (fun z hz => hr z (by simp at hz; simp [hz])) hk fun _ => hs fr'
    · exact hk.elim
  · rename_i hne
    have hpk := obsO_K hk
    obtain ⟨v, hp', nx', hK, hd, hs⟩ := stepR_loc hpk
    refine ⟨v, hp', nx', hK, hd, fun fr' ha => ?_⟩
    have hr : ∀ z ∈ o.op.operands.toList, raw fr' z = raw fr z := fun z hz => raw_agree ha z hz
    have he : evalOp E (opd fr') hp nx o.op = evalOp E (opd fr) hp nx o.op := evalOp_congr o.op fun z hz => by unfold opd; rw [hr z hz]
    unfold stepO
    split
    · rename_i x p q hop
      exact absurd hop (hne x p q)
    · rw [he]
      exact obsO_loc hr hk fun _ => hs fr'

theorem stepG_loc {all : List Oper} {dr : Bool} {K : Post} (hk : stepG E dr all o fr hp nx K) :
    ∃ v hp' nx', K (putF o.dst v fr) hp' nx' ∧ (dr = true → hp' = hp ∧ nx' = nx) ∧ ∀ fr', Agree all o fr fr' → stepG E dr all o fr' hp nx (To o.dst v fr' hp' nx') := by
  unfold stepG at hk
  cases hgd : o.guard with
  | none =>
    simp only [hgd] at hk
    obtain ⟨v, hp', nx', hK, hd, hs⟩ := stepO_loc (all := all) hk
    exact ⟨v, hp', nx', hK, hd, fun fr' ha => by unfold stepG; simp only [hgd]; exact hs fr' ha⟩
  | some p =>
    obtain ⟨j, want⟩ := p
    simp only [hgd] at hk
    cases hda : dstAt all j with
    | none => simp [hda] at hk
    | some d =>
      simp only [hda] at hk
      have main : ∃ g : Bool, stepO E dr fr hp nx o (some g) K ∧ ∀ fr', look fr' d = look fr d → ∀ K' : Bool → Prop, K' g → guardOf fr' d want K' := by
        unfold guardOf at hk
        split at hk
        · rename_i b e
          exact ⟨_, hk, fun fr' he K' h => by unfold guardOf; rw [he, e]; exact h⟩
        · rename_i c b e
          exact ⟨_, hk, fun fr' he K' h => by unfold guardOf; rw [he, e]; exact h⟩
        · exact hk.elim
      obtain ⟨g, hg, hgu⟩ := main
      obtain ⟨v, hp', nx', hK, hd, hs⟩ := stepO_loc (all := all) hg
      refine ⟨v, hp', nx', hK, hd, fun fr' ha => ?_⟩
      unfold stepG
      simp only [hgd, hda]
      refine hgu fr' (ha d ?_) _ (hs fr' ha)
      unfold lookAt
      exact List.mem_append_right _ (by simp [hgd, hda])
end

/-! ### More objects, the same step -/
/-- What is there on the left is there on the right. -/
def Alive (hp hp' : List AO) : Prop := ∀ j l, getAO hp j = .cells l → getAO hp' j = .cells l

section
variable {E : Env} {N : Nat}
def Quiet : R → Prop
  | .ok _ => True
  | .ob _ _ => True
  | .call _ => True
  | _ => False

theorem lift_quiet {x : Option AV} {f : AV → R} (hf : ∀ v, ¬ Quiet (f v)) : ¬ Quiet (lift x f) := by
  cases x with
  | none => exact fun h => h
  | some v => exact hf v

theorem setR_quiet {j o : Nat} {l c v : AV} : ¬ Quiet (setR j l o c v) := by
  unfold setR
  cases ones c with
  | false => exact fun h => h
  | true =>
    simp only [cond_true]
    split <;> exact fun h => h

theorem copyR_quiet {hp : List AO} {k : Nat} {x y : AV} : ¬ Quiet (copyR hp k x y) := by
  unfold copyR
  split
  · split
    · split
      · exact setR_quiet
      · exact fun h => h
    · exact fun h => h
  · cases (Nat.beq _ 1 && Nat.beq k 1) with
    | false => exact fun h => h
    | true =>
      simp only [cond_true]
      split
      · exact setR_quiet
      · exact fun h => h
  · exact fun h => h

theorem evalOp_alive {ρ : Operand → AV} {hp hp' : List AO} {nx : Nat} (ha : Alive hp hp') (op : Op) (hq : Quiet (evalOp E ρ hp nx op)) : evalOp E ρ hp' nx op = evalOp E ρ hp nx op := by
  cases op with
  | load t x =>
    simp only [evalOp] at hq ⊢
    split
    · rename_i i hi
      simp only [hi] at hq
      unfold loadR at hq ⊢
      split
      · rename_i j o hx
        simp only [hx] at hq
        cases hj : getAO hp j with
        | cells l => simp only [ha j l hj]
        | _ => simp only [hj] at hq; exact hq.elim
      · rfl
      · rfl
    · rfl
  | store t x y =>
    simp only [evalOp] at hq
    exfalso
    split at hq
    · unfold storeR at hq
      split at hq
      · rename_i j o c hx hc
        cases hb : lenIs c _ with
        | false => rw [hb] at hq; exact hq
        | true =>
          rw [hb] at hq
          simp only [cond_true] at hq
          split at hq
          · rename_i l hl
            revert hq
            exact lift_quiet (f := fun l' => .set .u j (.cells l')) (fun v h => h)
          · exact hq
      · exact hq
    · exact hq
  | call c =>
    simp only [evalOp] at hq ⊢
    split
    · rfl
    · rename_i b hb
      rw [hb] at hq
      simp only at hq
      unfold callB at hq ⊢
      split
      · rfl
      · rfl
      · rfl
      · rename_i t ts x y e1 e2 e3
        simp only [e2, e3] at hq
        split
        · rename_i i hi
          simp only [hi] at hq
          split
          · rename_i ie hie
            simp only [hie] at hq
            cases hk : Nat.beq i.kd 3 with
            | false => rfl
            | true =>
              rw [hk] at hq
              exact absurd hq copyR_quiet
          · rfl
        · rfl
      · rfl
    · rfl
  | makeFunc f first cap => cases f <;> rfl
  | _ => rfl

theorem stepR_alive {fr : Fr} {hp hp' : List AO} {nx : Nat} {d : Option Nat} {g : Option Bool} {r : R} {v : AV} (h : stepR N true fr hp nx d g r (To d v fr hp nx)) : Quiet r ∧ stepR N true fr hp' nx d g r (To d v fr hp' nx) := by
  cases r with
  | no => exact Stuck.out h
  | ok w =>
    refine ⟨trivial, force_swap w h ?_⟩
    have h1 := force_ok w h
    cases g with
    | none => exact (putK_F h1).2 fr _ ⟨(putK_F h1).1.1, rfl, rfl⟩
    | some b => exact (putK_F h1).2 fr _ ⟨(putK_F h1).1.1, rfl, rfl⟩
  | ob p w =>
    refine ⟨trivial, force_swap w h ?_⟩
    have h1 := force_ok w h
    cases g with
    | none => exact ⟨h1.1, (putK_F h1.2).2 fr _ ⟨(putK_F h1.2).1.1, rfl, rfl⟩⟩
    | some b => exact ⟨h1.1, (putK_F h1.2).2 fr _ ⟨(putK_F h1.2).1.1, rfl, rfl⟩⟩
  | call r =>
    refine ⟨trivial, force_swap r.res h ?_⟩
    have h1 := force_ok r.res h
    cases g with
    | none => exact ⟨h1.1, (putK_F h1.2).2 fr _ ⟨(putK_F h1.2).1.1, rfl, rfl⟩⟩
    | some b => exact ⟨h1.1, (putK_F h1.2).2 fr _ ⟨(putK_F h1.2).1.1, rfl, rfl⟩⟩
  | new w ob => cases g <;> exact Stuck.out h
  | set w i ob => cases g <;> exact Stuck.out h
  | upd w i ob => cases g <;> exact Stuck.out h

theorem stepO_alive {fr : Fr} {hp hp' : List AO} {nx : Nat} {o : Oper} {g : Option Bool} {v : AV} (ha : Alive hp hp') (h : stepO E true fr hp nx o g (To o.dst v fr hp nx)) : stepO E true fr hp' nx o g (To o.dst v fr hp' nx) := by
  unfold stepO at h ⊢
  split
  · rename_i x p q hop
    simp only [hop] at h
    split
    · rename_i b hb
      simp only [hb] at h
      refine obsO_loc (fun _ _ => rfl) h fun hk => ?_
      unfold pickO at hk ⊢
      cases g with
      | none =>
        obtain ⟨y, hy, hs⟩ := pickB_loc hk
        exact hs _ ((putK_F hy).2 fr _ ⟨(putK_F hy).1.1, rfl, rfl⟩)
      | some g =>
        obtain ⟨y, hy, hs⟩ := pickB_loc hk
        exact hs _ ((putK_F hy).2 fr _ ⟨(putK_F hy).1.1, rfl, rfl⟩)
    · rename_i hne
      split at h
      · rename_i b hb; exact absurd hb (hne b)
      · exact h
  · rename_i hne
    split at h
    · rename_i x p q hop; exact absurd hop (hne x p q)
    · refine obsO_loc (fun _ _ => rfl) h fun hk => ?_
      obtain ⟨hq, hs⟩ := stepR_alive (hp' := hp') hk
      rw [evalOp_alive ha o.op hq]
      exact hs
theorem stepG_alive {all : List Oper} {fr : Fr} {hp hp' : List AO} {nx : Nat} {o : Oper} {v : AV} (ha : Alive hp hp') (h : stepG E true all o fr hp nx (To o.dst v fr hp nx)) : stepG E true all o fr hp' nx (To o.dst v fr hp' nx) := by
  unfold stepG at h ⊢
  cases hgd : o.guard with
  | none => simp only [hgd] at h ⊢; exact stepO_alive ha h
  | some p =>
    obtain ⟨j, want⟩ := p
    simp only [hgd] at h ⊢
    cases hd : dstAt all j with
    | none => simp [hd] at h
    | some d =>
      simp only [hd] at h ⊢
      unfold guardOf at h ⊢
      split
      · rename_i b e; simp only [e] at h; exact stepO_alive ha h
      · rename_i c b e; simp only [e] at h; exact stepO_alive ha h
      · rename_i h1 h2
        split at h
        · rename_i b e; exact absurd e (h1 b)
        · rename_i c b e; exact absurd e (h2 c b)
        · exact h
theorem new_hp {ρ : Operand → AV} {hp hp' : List AO} {sl : Nat} {o : Oper} (hn : isNew o = true) : evalOp E ρ hp' sl o.op = evalOp E ρ hp sl o.op := by
  unfold isNew at hn
  simp only [Bool.and_eq_true] at hn
  have h2 := hn.2
  split at h2
  · rename_i t hop; rw [hop]; rfl
  · rename_i t x hop; rw [hop]; rfl
  · cases h2
/-- An operation that asks for nothing of the function's own: its step, whatever is there. -/
theorem callB_free {hp hp' : List AO} {b : Builtin} (hb : b ≠ .copy) (ts : List TypeId) (l : AV) : callB E hp' b ts l = callB E hp b ts l := by
  unfold callB
  split <;> first | rfl | exact absurd rfl hb
theorem evalOp_free {ρ : Operand → AV} {hp hp' : List AO} {nx nx' : Nat} {o : Oper} (hf : hsen o = false) : evalOp E ρ hp' nx' o.op = evalOp E ρ hp nx o.op := by
  revert hf
  unfold hsen
  generalize o.op = op
  cases op with
  | makeFunc f first cap => intro _; cases f <;> rfl
  | call c =>
    intro hf
    simp only at hf
    split at hf
    · rename_i f hc; simp only [evalOp, hc]
    · rename_i hc; simp only [evalOp, hc]; exact callB_free (by simp) _ _
    · rename_i hc; simp only [evalOp, hc]; exact callB_free (by simp) _ _
    · rename_i hc; simp only [evalOp, hc]; exact callB_free (by simp) _ _
    · cases hf
  | _ => intro hf; first | rfl | (cases hf; done)
theorem stepR_free {fr : Fr} {hp hp' : List AO} {nx nx' : Nat} {d : Option Nat} {g : Option Bool} {r : R} {v : AV} (h : stepR N true fr hp nx d g r (To d v fr hp nx)) : stepR N true fr hp' nx' d g r (To d v fr hp' nx') := by
  cases r with
  | no => exact Stuck.out h
  | ok w =>
    refine force_swap w h ?_
    have h1 := force_ok w h
    cases g with
    | none => exact (putK_F h1).2 fr _ ⟨(putK_F h1).1.1, rfl, rfl⟩
    | some b => exact (putK_F h1).2 fr _ ⟨(putK_F h1).1.1, rfl, rfl⟩
  | ob p w =>
    refine force_swap w h ?_
    have h1 := force_ok w h
    cases g with
    | none => exact ⟨h1.1, (putK_F h1.2).2 fr _ ⟨(putK_F h1.2).1.1, rfl, rfl⟩⟩
    | some b => exact ⟨h1.1, (putK_F h1.2).2 fr _ ⟨(putK_F h1.2).1.1, rfl, rfl⟩⟩
  | call r =>
    refine force_swap r.res h ?_
    have h1 := force_ok r.res h
    cases g with
    | none => exact ⟨h1.1, (putK_F h1.2).2 fr _ ⟨(putK_F h1.2).1.1, rfl, rfl⟩⟩
    | some b => exact ⟨h1.1, (putK_F h1.2).2 fr _ ⟨(putK_F h1.2).1.1, rfl, rfl⟩⟩
  | new w ob => cases g <;> exact Stuck.out h
  | set w i ob => cases g <;> exact Stuck.out h
  | upd w i ob => cases g <;> exact Stuck.out h
theorem stepO_free {fr : Fr} {hp hp' : List AO} {nx nx' : Nat} {o : Oper} {g : Option Bool} {v : AV} (hf : hsen o = false) (h : stepO E true fr hp nx o g (To o.dst v fr hp nx)) : stepO E true fr hp' nx' o g (To o.dst v fr hp' nx') := by
  unfold stepO at h ⊢
  split
  · rename_i x p q hop
    simp only [hop] at h
    split
    · rename_i b hb
      simp only [hb] at h
      refine obsO_loc (fun _ _ => rfl) h fun hk => ?_
      unfold pickO at hk ⊢
      cases g with
      | none =>
        obtain ⟨y, hy, hs⟩ := pickB_loc hk
        exact hs _ ((putK_F hy).2 fr _ ⟨(putK_F hy).1.1, rfl, rfl⟩)
      | some g =>
        obtain ⟨y, hy, hs⟩ := pickB_loc hk
        exact hs _ ((putK_F hy).2 fr _ ⟨(putK_F hy).1.1, rfl, rfl⟩)
    · rename_i hne
      split at h
      · rename_i b hb; exact absurd hb (hne b)
      · exact h
  · rename_i hne
    split at h
    · rename_i x p q hop; exact absurd hop (hne x p q)
    · refine obsO_loc (fun _ _ => rfl) h fun hk => ?_
      rw [evalOp_free (hp := hp) (nx := nx) hf]
      exact stepR_free hk
theorem stepG_free {all : List Oper} {fr : Fr} {hp hp' : List AO} {nx nx' : Nat} {o : Oper} {v : AV} (hf : hsen o = false) (h : stepG E true all o fr hp nx (To o.dst v fr hp nx)) : stepG E true all o fr hp' nx' (To o.dst v fr hp' nx') := by
  unfold stepG at h ⊢
  cases hgd : o.guard with
  | none => simp only [hgd] at h ⊢; exact stepO_free hf h
  | some p =>
    obtain ⟨j, want⟩ := p
    simp only [hgd] at h ⊢
    cases hd : dstAt all j with
    | none => simp [hd] at h
    | some d =>
      simp only [hd] at h ⊢
      unfold guardOf at h ⊢
      split
      · rename_i b e; simp only [e] at h; exact stepO_free hf h
      · rename_i c b e; simp only [e] at h; exact stepO_free hf h
      · rename_i h1 h2
        split at h
        · rename_i b e; exact absurd e (h1 b)
        · rename_i c b e; exact absurd e (h2 c b)
        · exact h
theorem new_hsen {o : Oper} (h : isNew o = true) : hsen o = true := by
  unfold isNew at h
  simp only [Bool.and_eq_true] at h
  have h2 := h.2
  unfold hsen
  split at h2
  · rename_i t hop; rw [hop]
  · rename_i t x hop; rw [hop]
  · cases h2
end

end Go.Proofs.Ythlkhjfilfdpiaa.Eng
