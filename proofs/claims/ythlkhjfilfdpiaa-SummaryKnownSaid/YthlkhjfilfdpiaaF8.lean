/- ENGINE 2, 8: a region that draws its order: the lexical run serves every order. -/
import Derived.Test.YthlkhjfilfdpiaaF7
import Derived.Orders
namespace Go.Proofs.Ythlkhjfilfdpiaa.Eng
set_option linter.unusedVariables false
set_option linter.unusedSimpArgs false
open Go Go.RowKit

def putF (d : Option Nat) (v : AV) (fr : Fr) : Fr :=
  match d with
  | some d => (d, v) :: fr
  | none => fr

theorem force_swap : ∀ (x : AV) {K K' : AV → Prop}, force x K → K' x → force x K'
  | .u, _, _, _, h => h
  | .v x, _, _, hk, h => by cases x <;> first | exact h | exact hk.elim
  | .nil, _, _, _, h => h
  | .cons a b, K, K', hk, h => force_swap a hk (force_swap b (K := fun t => K (.cons a t)) (force_ok a hk) h)
  | .agg l, _, _, hk, h => force_swap l hk h
  | .tup l, _, _, hk, h => force_swap l hk h
  | .fn _ l, _, _, hk, h => force_swap l hk h
  | .gd _ x, _, _, hk, h => force_swap x hk h
  | .ptr _ _, _, _, _, h => h
  | .sc _ _ _ _ _, _, _, _, h => h
  | .rl _ _ _, _, _, _, h => h
  | .rc _ _ _, _, _, _, h => h
  | .em, _, _, _, h => h
  | .rp _ _ _, _, _, _, h => h
  | .ow _ _ _, _, _, _, h => h
  | .ws _ _ _ _, _, _, _, h => h
  | .op _ _ _ _, _, _, _, h => h
theorem forceO_swap (o : AO) {K K' : AO → Prop} (hk : forceO o K) (h : K' o) : forceO o K' := by
  cases o with
  | cells l => exact force_swap l hk h
  | _ => exact h
theorem forceH_swap : ∀ (l : List AO) {K K' : List AO → Prop}, forceH l K → K' l → forceH l K'
  | [], _, _, _, h => h
  | o :: r, K, K', hk, h => forceO_swap o hk (forceH_swap r (K := fun r => K (o :: r)) (forceO_ok o hk) h)
theorem snocK_mk : ∀ (l : List AO) {x : AO} {K : List AO → Prop}, K (l ++ [x]) → snocK l x K
  | [], _, _, h => h
  | o :: r, x, K, h => snocK_mk r (K := fun r' => K (o :: r')) h
theorem setK_mk : ∀ (l : List AO) {n : Nat} {x : AO} {K : List AO → Prop}, n < l.length → K (l.set n x) → setK l n x K
  | [], _, _, _, h, _ => absurd h (Nat.not_lt_zero _)
  | _ :: r, 0, _, _, _, h => h
  | o :: r, n + 1, x, K, hl, h => setK_mk r (K := fun r' => K (o :: r')) (Nat.lt_of_succ_lt_succ hl) h
theorem putK_F {N : Nat} {fr : Fr} {d : Option Nat} {v : AV} {K : Fr → Prop} (h : putK N fr d v K) : K (putF d v fr) ∧ ∀ fr' (K' : Fr → Prop), K' (putF d v fr') → putK N fr' d v K' := by
  unfold putK at h
  cases d with
  | none => exact ⟨h, fun _ _ h => h⟩
  | some i =>
    simp only at h
    cases hb : Nat.blt i N with
    | true => simp only [hb, cond_true] at h; exact ⟨h, fun fr' K' h' => by unfold putK; simp only [hb, cond_true]; exact h'⟩
    | false => simp only [hb, cond_false] at h

/-- The frame, the objects behind an operation. -/
abbrev To (d : Option Nat) (v : AV) (fr : Fr) (hp : List AO) (nx : Nat) : Post := fun fr' hp' nx' => fr' = putF d v fr ∧ hp' = hp ∧ nx' = nx

section
variable {E : Env} {fr : Fr} {hp : List AO} {nx : Nat} {o : Oper} {N : Nat}

theorem stepR_loc {dr : Bool} {d : Option Nat} {g : Option Bool} {r : R} {K : Post} (hk : stepR N dr fr hp nx d g r K) :
    ∃ v hp' nx', K (putF d v fr) hp' nx' ∧ (dr = true → hp' = hp ∧ nx' = nx) ∧ ∀ fr', stepR N dr fr' hp nx d g r (To d v fr' hp' nx') := by
  cases r with
  | no => exact Stuck.out hk
  | ok v =>
    have h1 := force_ok v hk
    cases g with
    | none => exact ⟨v, hp, nx, (putK_F h1).1, fun _ => ⟨rfl, rfl⟩, fun fr' => force_swap v hk ((putK_F h1).2 fr' _ ⟨rfl, rfl, rfl⟩)⟩
    | some b => exact ⟨.gd b v, hp, nx, (putK_F h1).1, fun _ => ⟨rfl, rfl⟩, fun fr' => force_swap v hk ((putK_F h1).2 fr' _ ⟨rfl, rfl, rfl⟩)⟩
  | ob p v =>
    have h1 := force_ok v hk
    cases g with
    | none => exact ⟨v, hp, nx, (putK_F h1.2).1, fun _ => ⟨rfl, rfl⟩, fun fr' => force_swap v hk ⟨h1.1, (putK_F h1.2).2 fr' _ ⟨rfl, rfl, rfl⟩⟩⟩
    | some b => exact ⟨.gd b v, hp, nx, (putK_F h1.2).1, fun _ => ⟨rfl, rfl⟩, fun fr' => force_swap v hk ⟨h1.1, (putK_F h1.2).2 fr' _ ⟨rfl, rfl, rfl⟩⟩⟩
  | call r =>
    have h1 := force_ok r.res hk
    cases g with
    | none => exact ⟨r.res, hp, nx, (putK_F h1.2).1, fun _ => ⟨rfl, rfl⟩, fun fr' => force_swap r.res hk ⟨h1.1, (putK_F h1.2).2 fr' _ ⟨rfl, rfl, rfl⟩⟩⟩
    | some b => exact ⟨.gd b r.res, hp, nx, (putK_F h1.2).1, fun _ => ⟨rfl, rfl⟩, fun fr' => force_swap r.res hk ⟨h1.1, (putK_F h1.2).2 fr' _ ⟨rfl, rfl, rfl⟩⟩⟩
  | new v ob =>
    cases g with
    | some b => cases dr <;> exact Stuck.out hk
    | none =>
      cases dr with
      | true => exact Stuck.out hk
      | false =>
        have hk2 : forceO ob (fun o' => snocK hp o' fun hp => putK N fr d v fun fr => K fr hp (nx + 1)) := hk
        have h1 := snocK_ok hp (forceO_ok ob hk2)
        exact ⟨v, hp ++ [ob], nx + 1, (putK_F h1).1, fun h => (by cases h), fun fr' => by
          show forceO ob (fun o' => snocK hp o' fun hp' => putK N fr' d v fun fr'' => To d v fr' (hp ++ [ob]) (nx + 1) fr'' hp' (nx + 1))
          exact forceO_swap ob hk2 (snocK_mk hp ((putK_F h1).2 fr' _ ⟨rfl, rfl, rfl⟩))⟩
  | set v i ob =>
    cases g with
    | some b => cases dr <;> exact Stuck.out hk
    | none =>
      cases dr with
      | true => exact Stuck.out hk
      | false =>
        have hk2 : forceO ob (fun o' => setK hp i o' fun hp => putK N fr d v fun fr => K fr hp nx) := hk
        obtain ⟨hi, h1⟩ := setK_ok hp (forceO_ok ob hk2)
        exact ⟨v, hp.set i ob, nx, (putK_F h1).1, fun h => (by cases h), fun fr' => by
          show forceO ob (fun o' => setK hp i o' fun hp' => putK N fr' d v fun fr'' => To d v fr' (hp.set i ob) nx fr'' hp' nx)
          exact forceO_swap ob hk2 (setK_mk hp hi ((putK_F h1).2 fr' _ ⟨rfl, rfl, rfl⟩))⟩
  | upd v i ob =>
    cases g with
    | some b => cases dr <;> exact Stuck.out hk
    | none =>
      cases dr with
      | true => exact Stuck.out hk
      | false =>
        have hk2 : forceO ob (fun o' => setK hp i o' fun hp => putK N fr d v fun fr => K fr hp nx) := hk
        obtain ⟨hi, h1⟩ := setK_ok hp (forceO_ok ob hk2)
        exact ⟨v, hp.set i ob, nx, (putK_F h1).1, fun h => (by cases h), fun fr' => by
          show forceO ob (fun o' => setK hp i o' fun hp' => putK N fr' d v fun fr'' => To d v fr' (hp.set i ob) nx fr'' hp' nx)
          exact forceO_swap ob hk2 (setK_mk hp hi ((putK_F h1).2 fr' _ ⟨rfl, rfl, rfl⟩))⟩

  | act m p v hp' =>
    cases g with
    | some b => cases dr <;> exact Stuck.out hk
    | none =>
      cases dr with
      | true => exact Stuck.out hk
      | false =>
        have hk2 : force v (fun v => forceH hp' fun hp' => p ∧ putK N fr d v fun fr => K fr hp' (lenO hp')) := hk
        have h1 := forceH_ok hp' (force_ok v hk2)
        exact ⟨v, hp', lenO hp', (putK_F h1.2).1, fun h => (by cases h), fun fr' => by
          show force v (fun v => forceH hp' fun hp'' => p ∧ putK N fr' d v fun fr'' => To d _ fr' hp' (lenO hp') fr'' hp'' (lenO hp''))
          exact force_swap v hk2 (forceH_swap hp' (force_ok v hk2) ⟨h1.1, (putK_F h1.2).2 fr' _ ⟨rfl, rfl, rfl⟩⟩)⟩

theorem foldr_congr {ρ ρ' : Operand → AV} (l : List Operand) (h : ∀ x ∈ l, ρ x = ρ' x) : (l.foldr (fun x l => AV.cons (ρ x) l) .nil) = (l.foldr (fun x l => AV.cons (ρ' x) l) .nil) := by
  induction l with
  | nil => rfl
  | cons x l ih => simp only [List.foldr_cons]; rw [h x (by simp), ih fun y hy => h y (by simp [hy])]

theorem evalOp_congr {ρ ρ' : Operand → AV} (op : Op) (h : ∀ x ∈ op.operands.toList, ρ x = ρ' x) : evalOp E ρ hp nx op = evalOp E ρ' hp nx op := by
  cases op with
  | build t parts =>
    have : (parts.toList.map fun p => (p.1, ρ p.2)) = (parts.toList.map fun p => (p.1, ρ' p.2)) := by
      refine List.map_congr_left fun p hp' => ?_
      rw [h p.2 (by simp [Op.operands]; exact ⟨p.1, by simpa using hp'⟩)]
    simp only [evalOp, this]
  | buildSlice t n parts =>
    have : (parts.toList.map fun p => (p.1, ρ p.2)) = (parts.toList.map fun p => (p.1, ρ' p.2)) := by
      refine List.map_congr_left fun p hp' => ?_
      rw [h p.2 (by simp [Op.operands]; exact ⟨p.1, by simpa using hp'⟩)]
    simp only [evalOp, this]
  | call c =>
    have list : ∀ l : List Operand, (∀ x ∈ l, ρ x = ρ' x) → (l.foldr (fun x l => AV.cons (ρ x) l) .nil) = (l.foldr (fun x l => AV.cons (ρ' x) l) .nil) := foldr_congr
    simp only [evalOp]
    cases hc : c.callee with
    | value f =>
      have hf := h f (by simp [Op.operands, Call.operands, hc])
      have ha := list c.args.toList fun x hx => h x (by simp [Op.operands, Call.operands, hc]; exact .inr (by simpa using hx))
      simp only [hf, ha]
    | builtin b =>
      have ha := list c.args.toList fun x hx => h x (by simp [Op.operands, Call.operands, hc]; simpa using hx)
      simp only [ha]
    | _ => rfl
  | makeFunc f first cap =>
    have ha := foldr_congr cap.toList fun x hx => h x (by simp [Op.operands]; exact .inr (by simpa using hx))
    cases f <;> simp only [evalOp, ha]
  | slice t x lo hi mx =>
    have hl : lo.map ρ = lo.map ρ' := by
      cases lo with
      | none => rfl
      | some p => simp [h p (by simp [Op.operands])]
    have hh : hi.map ρ = hi.map ρ' := by
      cases hi with
      | none => rfl
      | some p => simp [h p (by simp [Op.operands])]
    have hm : mx.map ρ = mx.map ρ' := by
      cases mx with
      | none => rfl
      | some p => simp [h p (by simp [Op.operands])]
    simp only [evalOp, hl, hh, hm, h x (by simp [Op.operands])]
  | move x => simp only [evalOp, h x (by simp [Op.operands])]
  | assign x => simp only [evalOp, h x (by simp [Op.operands])]
  | box t x => simp only [evalOp, h x (by simp [Op.operands])]
  | load t x => simp only [evalOp, h x (by simp [Op.operands])]
  | nilCheck x => simp only [evalOp, h x (by simp [Op.operands])]
  | unOp q t x => simp only [evalOp, h x (by simp [Op.operands])]
  | convert q t x => simp only [evalOp, h x (by simp [Op.operands])]
  | extract x i => simp only [evalOp, h x (by simp [Op.operands])]
  | fieldAddr t x i => simp only [evalOp, h x (by simp [Op.operands])]
  | field t x i => simp only [evalOp, h x (by simp [Op.operands])]
  | store t x y => simp only [evalOp, h x (by simp [Op.operands]), h y (by simp [Op.operands])]
  | binOp q t x y t' => simp only [evalOp, h x (by simp [Op.operands]), h y (by simp [Op.operands])]
  | indexAddr t x y => simp only [evalOp, h x (by simp [Op.operands]), h y (by simp [Op.operands])]
  | index t x y => simp only [evalOp, h x (by simp [Op.operands]), h y (by simp [Op.operands])]
  | makeSlice t x y => simp only [evalOp, h x (by simp [Op.operands]), h y (by simp [Op.operands])]
  | _ => rfl

def Agree (all : List Oper) (o : Oper) (fr fr' : Fr) : Prop := ∀ t ∈ lookAt all o, look fr' t = look fr t

theorem raw_agree {all : List Oper} {fr' : Fr} (ha : Agree all o fr fr') (x : Operand) (hx : x ∈ o.op.operands.toList) : raw fr' x = raw fr x := by
  cases x with
  | tmp t =>
    refine ha t ?_
    unfold lookAt
    refine List.mem_append_left _ (List.mem_filterMap.2 ⟨.tmp t, hx, rfl⟩)
  | _ => rfl

theorem obs_loc {fr' : Fr} {g : Bool} : ∀ (l : List Operand) {K K' : Prop}, (∀ x ∈ l, raw fr' x = raw fr x) → obs fr g l K → (K → K') → obs fr' g l K'
  | [], K, K', _, hk, h => h hk
  | x :: r, K, K', ha, hk, h => by
    unfold obs at hk ⊢
    rw [ha x (by simp)]
    split at hk
    · exact ⟨hk.1, obs_loc r (fun y hy => ha y (by simp [hy])) hk.2 h⟩
    · exact obs_loc r (fun y hy => ha y (by simp [hy])) hk h

theorem obsO_loc {fr' : Fr} {g : Option Bool} {l : List Operand} {K K' : Prop} (ha : ∀ x ∈ l, raw fr' x = raw fr x) (hk : obsO fr g l K) (h : K → K') : obsO fr' g l K' := by
  cases g with
  | none => exact obs_loc l ha hk h
  | some g => exact obs_loc l ha hk h
theorem obsO_K {g : Option Bool} {l : List Operand} {K : Prop} (hk : obsO fr g l K) : K := by
  cases g with
  | none => exact obs_K l hk
  | some g => exact obs_K l hk

theorem pickB_loc {g x : Bool} {p q : AV} {K : Bool → Prop} (hk : pickB g x p q K) : ∃ y, K y ∧ ∀ K' : Bool → Prop, K' y → pickB g x p q K' := by
  unfold pickB at hk
  split at hk
  · exact ⟨_, hk, fun K' h => h⟩
  · exact ⟨_, hk.2, fun K' h => ⟨hk.1, h⟩⟩
  · exact ⟨_, hk.2, fun K' h => ⟨hk.1, h⟩⟩
  · exact ⟨_, hk.2.2, fun K' h => ⟨hk.1, hk.2.1, h⟩⟩
  · exact hk.elim

theorem stepO_loc {all : List Oper} {dr : Bool} {g : Option Bool} {K : Post} (hk : stepO E dr fr hp nx o g K) :
    ∃ v hp' nx', K (putF o.dst v fr) hp' nx' ∧ (dr = true → hp' = hp ∧ nx' = nx) ∧ ∀ fr', Agree all o fr fr' → stepO E dr fr' hp nx o g (To o.dst v fr' hp' nx') := by
  unfold stepO at hk
  split at hk
  · rename_i x p q hop
    split at hk
    · rename_i b hb
      have hpk := obsO_K hk
      have main : ∃ v, K (putF o.dst v fr) hp nx ∧ ∀ fr', pickO E.N fr' hp nx o.dst g b (raw fr p) (raw fr q) (To o.dst v fr' hp nx) := by
        unfold pickO at hpk
        cases g with
        | none =>
          obtain ⟨y, hy, hs⟩ := pickB_loc hpk
          exact ⟨.v (.bool y), (putK_F hy).1, fun fr' => by
            show pickB true b (raw fr p) (raw fr q) fun z => putK E.N fr' o.dst (.v (.bool z)) fun fr'' => To o.dst (.v (.bool y)) fr' hp nx fr'' hp nx
            exact hs _ ((putK_F hy).2 fr' _ ⟨rfl, rfl, rfl⟩)⟩
        | some g =>
          obtain ⟨y, hy, hs⟩ := pickB_loc hpk
          exact ⟨.gd g (.v (.bool y)), (putK_F hy).1, fun fr' => by
            show pickB g b (raw fr p) (raw fr q) fun z => putK E.N fr' o.dst (.gd g (.v (.bool z))) fun fr'' => To o.dst (.gd g (.v (.bool y))) fr' hp nx fr'' hp nx
            exact hs _ ((putK_F hy).2 fr' _ ⟨rfl, rfl, rfl⟩)⟩
      obtain ⟨v, hK, hs⟩ := main
      refine ⟨v, hp, nx, hK, fun _ => ⟨rfl, rfl⟩, fun fr' ha => ?_⟩
      have hr : ∀ z ∈ [x, p, q], raw fr' z = raw fr z := fun z hz => raw_agree ha z (by rw [hop]; simpa [Op.operands] using hz)
      unfold stepO
      simp only [hop]
      have hb' : opd fr' x = .v (.bool b) := by unfold opd at hb ⊢; rw [hr x (by simp)]; exact hb
      simp only [hb']
      rw [hr p (by simp), hr q (by simp)]
      exact obsO_loc (fun z hz => hr z (by simp at hz; simp [hz])) hk fun _ => hs fr'
    · exact hk.elim
  · rename_i hne
    have hpk := obsO_K hk
    obtain ⟨v, hp', nx', hK, hd, hs⟩ := stepR_loc hpk
    refine ⟨v, hp', nx', hK, hd, fun fr' ha => ?_⟩
    have hr : ∀ z ∈ o.op.operands.toList, raw fr' z = raw fr z := fun z hz => raw_agree ha z hz
    have he : evalOp E (opd fr') hp nx o.op = evalOp E (opd fr) hp nx o.op := evalOp_congr o.op fun z hz => by unfold opd; rw [hr z hz]
    unfold stepO
    split
    · rename_i x p q hop
      exact absurd hop (hne x p q)
    · rw [he]
      exact obsO_loc hr hk fun _ => hs fr'

theorem stepS_loc {all : List Oper} {dr : Bool} {g : Bool} {K : Post} (hk : stepS E dr fr hp nx o g K) :
    ∃ v hp' nx', K (putF o.dst v fr) hp' nx' ∧ (dr = true → hp' = hp ∧ nx' = nx) ∧ ∀ fr', Agree all o fr fr' → stepS E dr fr' hp nx o g (To o.dst v fr' hp' nx') := by
  unfold stepS at hk
  cases hm : makesO o with
  | true =>
    rw [hm] at hk
    obtain ⟨v, hp', nx', hK, hd, hs⟩ := stepO_loc (all := all) hk.2
    exact ⟨v, hp', nx', hK, hd, fun fr' ha => by unfold stepS; rw [hm]; exact ⟨hk.1, hs fr' ha⟩⟩
  | false =>
    rw [hm] at hk
    obtain ⟨v, hp', nx', hK, hd, hs⟩ := stepO_loc (all := all) hk
    exact ⟨v, hp', nx', hK, hd, fun fr' ha => by unfold stepS; rw [hm]; exact hs fr' ha⟩
theorem stepG_loc {all : List Oper} {dr : Bool} {K : Post} (hk : stepG E dr all o fr hp nx K) :
    ∃ v hp' nx', K (putF o.dst v fr) hp' nx' ∧ (dr = true → hp' = hp ∧ nx' = nx) ∧ ∀ fr', Agree all o fr fr' → stepG E dr all o fr' hp nx (To o.dst v fr' hp' nx') := by
  unfold stepG at hk
  cases hgd : o.guard with
  | none =>
    simp only [hgd] at hk
    obtain ⟨v, hp', nx', hK, hd, hs⟩ := stepO_loc (all := all) hk
    exact ⟨v, hp', nx', hK, hd, fun fr' ha => by unfold stepG; simp only [hgd]; exact hs fr' ha⟩
  | some p =>
    obtain ⟨j, want⟩ := p
    simp only [hgd] at hk
    cases hda : dstAt all j with
    | none => simp [hda] at hk
    | some d =>
      simp only [hda] at hk
      have main : ∃ g : Bool, stepS E dr fr hp nx o g K ∧ ∀ fr', look fr' d = look fr d → ∀ K' : Bool → Prop, K' g → guardOf fr' d want K' := by
        unfold guardOf at hk
        split at hk
        · rename_i b e
          exact ⟨_, hk, fun fr' he K' h => by unfold guardOf; rw [he, e]; exact h⟩
        · rename_i c b e
          exact ⟨_, hk, fun fr' he K' h => by unfold guardOf; rw [he, e]; exact h⟩
        · exact hk.elim
      obtain ⟨g, hg, hgu⟩ := main
      obtain ⟨v, hp', nx', hK, hd, hs⟩ := stepS_loc (all := all) hg
      refine ⟨v, hp', nx', hK, hd, fun fr' ha => ?_⟩
      unfold stepG
      simp only [hgd, hda]
      refine hgu fr' (ha d ?_) _ (hs fr' ha)
      unfold lookAt
      exact List.mem_append_right _ (by simp [hgd, hda])
end

/-! ### More objects, the same step -/
/-- What is there on the left is there on the right. -/
def Alive (hp hp' : List AO) : Prop := ∀ j, liveO (getAO hp j) = true → getAO hp' j = getAO hp j

theorem reach_acc (hp : List AO) : ∀ (d : Nat) (todo acc : List Nat) (i : Nat), i ∈ acc → i ∈ reach hp d todo acc
  | 0, todo, acc, i, h => by cases todo <;> exact h
  | d + 1, [], acc, i, h => h
  | d + 1, k :: r, acc, i, h => by
    simp only [reach]
    cases hk : hasN acc k with
    | true => exact reach_acc hp d r acc i h
    | false => exact reach_acc hp d _ _ i (List.mem_append_left _ h)
theorem live_mem {hp : List AO} : ∀ (l : List Nat), live hp l = true → ∀ i ∈ l, liveO (getAO hp i) = true
  | [], _, i, hi => by cases hi
  | x :: r, h, i, hi => by
    simp only [live, Bool.and_eq_true] at h
    rcases List.mem_cons.1 hi with rfl | hi
    · exact h.1
    · exact live_mem r h.2 i hi
theorem reach_alive {hp hp' : List AO} (ha : Alive hp hp') : ∀ (d : Nat) (todo acc : List Nat), (∀ i ∈ reach hp d todo acc, liveO (getAO hp i) = true) → reach hp' d todo acc = reach hp d todo acc
  | 0, todo, acc, _ => by cases todo <;> rfl
  | d + 1, [], acc, _ => rfl
  | d + 1, k :: r, acc, h => by
    simp only [reach] at h ⊢
    cases hk : hasN acc k with
    | true =>
      rw [hk] at h
      exact reach_alive ha d r acc h
    | false =>
      rw [hk] at h
      simp only [cond_false] at h ⊢
      have hkl : liveO (getAO hp k) = true := h k (reach_acc hp d _ _ k (by simp))
      rw [ha k hkl]
      exact reach_alive ha d _ _ h
theorem live_alive {hp hp' : List AO} (ha : Alive hp hp') : ∀ (l : List Nat), live hp l = true → live hp' l = true
  | [], _ => rfl
  | x :: r, h => by
    simp only [live, Bool.and_eq_true] at h ⊢
    exact ⟨by rw [ha x h.1]; exact h.1, live_alive ha r h.2⟩
theorem lentOf_alive {π0 : List Nat} {hp hp' : List AO} (ha : Alive hp hp') : ∀ (l : List Nat), live hp l = true → lentOf π0 hp' l = lentOf π0 hp l
  | [], _ => rfl
  | x :: r, h => by
    simp only [live, Bool.and_eq_true] at h
    simp only [lentOf, ha x h.1, lentOf_alive ha r h.2]
theorem viewW_alive {Pf Pf' : Nat → Nat → AV} {hp hp' : List AO} (ha : Alive hp hp') (hP : ∀ i o, shut (Pf i o) = true → Pf' i o = Pf i o) : ∀ (v : AV), shut (viewW Pf hp v) = true → viewW Pf' hp' v = viewW Pf hp v
  | .u, hs => by cases hs
  | .v _, _ => rfl
  | .nil, _ => rfl
  | .em, _ => rfl
  | .cons a b, hs => by
    simp only [viewW, shut, Bool.and_eq_true] at hs
    simp only [viewW, viewW_alive ha hP a hs.1, viewW_alive ha hP b hs.2]
  | .agg l, hs => by simp only [viewW, viewW_alive ha hP l hs]
  | .tup l, hs => by simp only [viewW, viewW_alive ha hP l hs]
  | .fn _ l, hs => by simp only [viewW, viewW_alive ha hP l hs]
  | .gd _ _, hs => by cases hs
  | .ptr i o, hs => hP i o hs
  | .rl q t l, _ => rfl
  | .rc q t l, _ => rfl
  | .rp k e o, _ => rfl
  | .ow i k n, hs => by
    have hl : liveO (getAO hp i) = true := by
      simp only [viewW] at hs
      cases hg : getAO hp i with
      | dead => rw [hg] at hs; cases hs
      | void => rw [hg] at hs; cases hs
      | _ => rfl
    simp only [viewW, ha i hl]
  | .ws i k lo n, hs => by
    have hl : liveO (getAO hp i) = true := by
      simp only [viewW] at hs
      cases hg : getAO hp i with
      | dead => rw [hg] at hs; cases hs
      | void => rw [hg] at hs; cases hs
      | _ => rfl
    simp only [viewW, ha i hl]
  | .sc i o n m t, hs => by
    have hl : liveO (getAO hp i) = true := by
      simp only [viewW] at hs
      cases hg : getAO hp i with
      | dead => rw [hg] at hs; cases hs
      | void => rw [hg] at hs; cases hs
      | _ => rfl
    simp only [viewW, ha i hl]
  | .op _ _ _ _, hs => by cases hs
theorem view_alive {hp hp' : List AO} (ha : Alive hp hp') : ∀ (d : Nat) (v : AV), shut (view hp d v) = true → view hp' d v = view hp d v
  | 0, v, hs => viewW_alive ha (fun i o _ => rfl) v hs
  | d + 1, v, hs => by
    refine viewW_alive ha (fun i o hsp => ?_) v hs
    have hl : liveO (getAO hp i) = true := by
      cases hg : getAO hp i with
      | cells l => rfl
      | row q t e l => rfl
      | fz q t l => rfl
      | dead => rw [hg] at hsp; cases hsp
      | void => rw [hg] at hsp; cases hsp
    rw [ha i hl]
    cases hg : getAO hp i with
    | cells l =>
      simp only [hg] at hsp ⊢
      cases hc : (shut (view hp d l) && lenIs l (lenA l)) with
      | false => rw [hc] at hsp; cases hsp
      | true =>
        have h1 := hc
        simp only [Bool.and_eq_true] at h1
        rw [view_alive ha d l h1.1, hc]
    | _ => rfl

section
variable {E : Env} {N : Nat}
def Quiet : R → Prop
  | .ok _ => True
  | .ob _ _ => True
  | .call _ => True
  | _ => False

theorem lift_quiet {x : Option AV} {f : AV → R} (hf : ∀ v, ¬ Quiet (f v)) : ¬ Quiet (lift x f) := by
  cases x with
  | none => exact fun h => h
  | some v => exact hf v

theorem setR_quiet {j o : Nat} {l c v : AV} : ¬ Quiet (setR j l o c v) := by
  unfold setR
  cases ones c with
  | false => exact fun h => h
  | true =>
    simp only [cond_true]
    split <;> exact fun h => h

theorem copyR_quiet {hp : List AO} {k : Nat} {x y : AV} : ¬ Quiet (copyR hp k x y) := by
  unfold copyR
  split
  · split
    · split
      · exact setR_quiet
      · exact fun h => h
    · exact fun h => h
  · exact fun h => h

theorem part_quiet {i : TI} {l : AV} {o : Nat} : Quiet (partR i l o) ∨ partR i l o = .no := by
  rcases partR_ok (i := i) (l := l) (off := o) with ⟨v, hv⟩ | hv
  · rw [hv]; exact .inl trivial
  · exact .inr hv
theorem loadR_alive {hp hp' : List AO} (ha : Alive hp hp') {i : TI} {v : AV} (hq : Quiet (loadR i hp v)) : loadR i hp' v = loadR i hp v := by
  cases v with
  | ptr j o =>
    simp only [loadR] at hq ⊢
    cases hg : getAO hp j with
    | cells l => rw [ha j (by rw [hg]; rfl), hg]
    | _ => simp only [hg] at hq; exact hq.elim
  | op j k x o =>
    simp only [loadR] at hq ⊢
    cases hg : getAO hp j with
    | row q t e l => rw [ha j (by rw [hg]; rfl), hg]
    | fz q t l => rw [ha j (by rw [hg]; rfl), hg]
    | _ => simp only [hg] at hq; exact hq.elim
  | _ => rfl
theorem bif_quiet {b : Bool} {x : R} (h : ¬ Quiet x) : ¬ Quiet (bif b then x else .no) := by
  cases b
  · exact fun h => h
  · exact h
theorem putR_quiet {hp : List AO} {j : Nat} {ows : List Nat} {o : AO} : ¬ Quiet (putR hp j ows o) := by
  unfold putR
  split <;> exact fun h => h
theorem castK_quiet {t t' : Ty} {l : List (El t)} {K : List (El t') → R} (h : ∀ l, ¬ Quiet (K l)) : ¬ Quiet (castK t t' l .no K) := by
  refine castK_ok (P := fun r => ¬ Quiet r) (fun h => h) fun e => ?_
  subst e; exact h _
theorem decK_quiet : ∀ (t : Ty) (l : AV) (K : Bool → El t → R), (∀ q x, ¬ Quiet (K q x)) → ¬ Quiet (decK t l .no K)
  | .nil, l, K, h => by cases l <;> first | exact h _ _ | exact fun h => h
  | .int k r, l, K, h => by
    cases l with
    | cons a m =>
      cases a with
      | v z =>
        cases z with
        | int k' n =>
          simp only [decK]
          split
          · exact decK_quiet r m _ fun q x => h q _
          · exact fun h => h
        | _ => exact fun h => h
      | _ => exact fun h => h
    | _ => exact fun h => h
  | .bool r, l, K, h => by
    cases l with
    | cons a m =>
      cases a with
      | v z =>
        cases z with
        | bool n => exact decK_quiet r m _ fun q x => h q _
        | _ => exact fun h => h
      | _ => exact fun h => h
    | _ => exact fun h => h
  | .str r, l, K, h => by
    cases l with
    | cons a m =>
      cases a with
      | v z =>
        cases z with
        | string n => exact decK_quiet r m _ fun q x => h q _
        | _ => exact fun h => h
      | _ => exact fun h => h
    | _ => exact fun h => h
  | .sl a r, l, K, h => by
    cases l with
    | cons b m =>
      cases b with
      | rl q t l => exact castK_quiet fun l => decK_quiet r m _ fun q' x => h _ _
      | rc q t l => exact castK_quiet fun l => decK_quiet r m _ fun q' x => h _ _
      | em => exact decK_quiet r m _ fun q x => h q _
      | v z =>
        cases z with
        | slice A n cp =>
          cases A with
          | none =>
            simp only [decK]
            cases Nat.beq n 0 with
            | false => exact fun h => h
            | true => exact decK_quiet r m _ fun q x => h q _
          | some ad => exact fun h => h
        | _ => exact fun h => h
      | _ => exact fun h => h
    | _ => exact fun h => h
theorem storeR_quiet {i : TI} {hp : List AO} {x y : AV} : ¬ Quiet (storeR i hp x y) := by
  unfold storeR
  split
  · cases lenIs _ i.sz with
    | false => exact fun h => h
    | true =>
      simp only [cond_true]
      split
      · exact lift_quiet fun v h => h
      · exact fun h => h
  · cases (lenIs _ i.sz && !hasN (owsOf _) _) with
    | false => exact fun h => h
    | true =>
      simp only [cond_true]
      split
      · cases Nat.beq (tsz _) _ with
        | false => exact fun h => h
        | true =>
          simp only [cond_true]
          split
          · exact decK_quiet _ _ _ fun q x => putR_quiet
          · exact fun h => h
      · exact fun h => h
  · exact fun h => h
theorem srcK_quiet {hp : List AO} {t : Ty} {x : AV} {K : Bool → List (El t) → List Nat → R} (h : ∀ q l ows, ¬ Quiet (K q l ows)) : ¬ Quiet (srcK hp t x .no K) := by
  unfold srcK
  split
  · exact castK_quiet fun l => h _ _ _
  · exact castK_quiet fun l => h _ _ _
  · split
    · exact castK_quiet fun l => h _ _ _
    · exact castK_quiet fun l => h _ _ _
    · exact fun h => h
  · split
    · cases Nat.beq (tsz _) _ with
      | false => exact fun h => h
      | true => exact castK_quiet fun l => h _ _ _
    · cases Nat.beq (tsz _) _ with
      | false => exact fun h => h
      | true => exact castK_quiet fun l => h _ _ _
    · exact fun h => h
  · cases Nat.beq _ 0 with
    | false => exact fun h => h
    | true => exact h _ _ _
  · exact h _ _ _
  · split
    · split
      · rw [decN_eq]
        split
        · exact h _ _ _
        · exact fun h => h
      · exact fun h => h
    · exact fun h => h
  · exact fun h => h
theorem appR_quiet {hp : List AO} {nx : Nat} {e : TypeId} {ie : TI} {t : Ty} {s x : AV} : ¬ Quiet (appR hp nx e ie t s x) := by
  unfold appR
  refine srcK_quiet fun q l ows => ?_
  unfold appQ
  split
  · cases (Nat.beq _ 0 && Nat.beq _ 0) with
    | false => exact fun h => h
    | true => exact fun h => h
  · cases hasN ows _ with
    | true => exact fun h => h
    | false =>
      simp only [cond_false]
      split
      · cases Nat.beq _ e with
        | false => exact fun h => h
        | true => exact castK_quiet fun l h => h
      · exact fun h => h
  · exact castK_quiet fun l h => h
  · exact fun h => h
  · exact fun h => h
theorem appZ_quiet {hp : List AO} {nx : Nat} {e : TypeId} {t : Ty} {z : Value} {s : AV} {n : Int} : ¬ Quiet (appZ hp nx e t z s n) := by
  unfold appZ
  refine decK_quiet _ _ _ fun q x => ?_
  split
  · split
    · cases Nat.beq _ e with
      | false => exact fun h => h
      | true => exact castK_quiet fun l h => h
    · exact fun h => h
  · cases (Nat.beq _ 0 && Nat.beq _ 0) with
    | false => exact fun h => h
    | true => exact fun h => h
  · exact fun h => h
theorem viewR_alive {hp hp' : List AO} (ha : Alive hp hp') {g : FuncId} {args : AV} (hq : Quiet (viewR E hp g (view hp 3 args))) : viewR E hp' g (view hp' 3 args) = viewR E hp g (view hp 3 args) := by
  have hs : shut (view hp 3 args) = true := by
    unfold viewR at hq
    cases hs : shut (view hp 3 args) with
    | true => rfl
    | false => rw [hs] at hq; exact hq.elim
  rw [view_alive ha 3 args hs]
  rfl
theorem callR_alive {hp hp' : List AO} {nx : Nat} (ha : Alive hp hp') {g : FuncId} {args : AV} (hq : Quiet (callR E hp nx g args)) : callR E hp' nx g args = callR E hp nx g args := by
  unfold callR at hq ⊢
  cases hs : shut args with
  | true =>
    rw [hs] at hq
    simp only [cond_true] at hq ⊢
    split
    · rename_i r hr
      simp only [hr] at hq
      split
      · rfl
      · rename_i nw hl hnw
        simp only [hl] at hq
        cases hfr : E.free g with
        | true => rfl
        | false => rw [hfr] at hq; exact hq.elim
      · rfl
    · rfl
  | false =>
    rw [hs] at hq
    simp only [cond_false] at hq ⊢
    cases hl : live hp (reach hp 40 (refs args) []) with
    | false => rw [hl] at hq; simp only [Bool.not_false, Bool.or_true, cond_true] at hq; exact hq.elim
    | true =>
      have hre := reach_alive ha 40 (refs args) [] (live_mem _ hl)
      rw [hre, live_alive ha _ hl, lentOf_alive ha _ hl]
      cases hfr : E.free g with
      | true => rfl
      | false =>
        rw [hl, hfr] at hq
        simp only [Bool.not_true, Bool.or_false, cond_false] at hq ⊢
        split
        · rename_i a' ls e1 e2
          simp only [e1, e2] at hq
          split
          · rename_i r hr
            simp only [hr] at hq
            cases hn : Nat.beq (lenO r.lent) (lenO ls) with
            | false => rfl
            | true => rw [hn] at hq; exact hq.elim
          · rename_i hr
            simp only [hr] at hq
            exact viewR_alive ha hq
        · rename_i hne
          split at hq
          · rename_i a' ls e1 e2; exact absurd e2 (hne a' ls e1)
          · exact viewR_alive ha hq

theorem txtR_alive {hp hp' : List AO} (ha : Alive hp hp') {v : AV} (hq : Quiet (txtR hp v)) : txtR hp' v = txtR hp v := by
  have one : ∀ (j : Nat) (F : AO → R), (∀ o, liveO o = false → F o = .no) → Quiet (F (getAO hp j)) → F (getAO hp' j) = F (getAO hp j) := fun j F hF hq => by
    cases hj : liveO (getAO hp j) with
    | true => rw [ha j hj]
    | false => rw [hF _ hj] at hq; exact hq.elim
  cases v with
  | ow j k n =>
    exact one j (fun o => match o with
      | .row q t' _ l => castK t' tyU8 l .no fun l => .ok (.v (.string (bytesOf l)))
      | .fz q t' l => castK t' tyU8 l .no fun l => .ok (.v (.string (bytesOf l)))
      | _ => .no) (fun o ho => by cases o <;> first | rfl | cases ho) hq
  | ws j k lo n =>
    exact one j (fun o => match o with
      | .row q t' _ l => bif Nat.beq (tsz t') k then castK t' tyU8 l .no (fun l => .ok (.v (.string (bytesOf ((l.drop lo).take n))))) else .no
      | .fz q t' l => bif Nat.beq (tsz t') k then castK t' tyU8 l .no (fun l => .ok (.v (.string (bytesOf ((l.drop lo).take n))))) else .no
      | _ => .no) (fun o ho => by cases o <;> first | rfl | cases ho) hq
  | v x => 
    cases x <;> try rfl
    rename_i A n m
    cases A <;> rfl
  | _ => rfl
theorem convR_alive {hp hp' : List AO} {nx : Nat} (ha : Alive hp hp') {s i : TI} {v : AV} (hq : Quiet (convR E hp nx s i v)) : convR E hp' nx s i v = convR E hp nx s i v := by
  unfold convR at *
  cases h1 : Nat.beq s.kd 3 && Nat.beq i.kd 5 with
  | true =>
    simp only [h1, cond_true] at hq ⊢
    split
    · rename_i ie hie
      simp only [hie] at hq
      split
      · rename_i hik
        simp only [hik] at hq
        exact txtR_alive ha hq
      · rfl
    · rfl
  | false =>
    simp only [h1, cond_false] at hq ⊢
    cases h2 : Nat.beq s.kd 5 && Nat.beq i.kd 3 with
    | true =>
      exfalso
      simp only [h2, cond_true] at hq
      split at hq
      · split at hq <;> exact hq
      · exact hq
    | false => rfl
theorem clearR_quiet {hp : List AO} {k : Nat} {z : Value} {x : AV} : ¬ Quiet (clearR hp k z x) := by
  unfold clearR
  split
  · split
    · refine bif_quiet ?_
      refine decK_quiet _ _ _ (fun q x => ?_)
      exact fun h => h
    · exact fun h => h
  · exact fun h => h
theorem evalOp_alive {ρ : Operand → AV} {hp hp' : List AO} {nx : Nat} (ha : Alive hp hp') (op : Op) (hq : Quiet (evalOp E ρ hp nx op)) : evalOp E ρ hp' nx op = evalOp E ρ hp nx op := by
  cases op with
  | load t x =>
    simp only [evalOp] at hq ⊢
    split
    · rename_i i hi
      simp only [hi] at hq
      exact loadR_alive ha hq
    · rfl
  | store t x y =>
    simp only [evalOp] at hq
    exfalso
    split at hq
    · exact storeR_quiet hq
    · exact hq
  | convert s t x =>
    simp only [evalOp] at hq ⊢
    split
    · rfl
    · rename_i is i his hi hz
      simp only [his, hi] at hq
      exact convR_alive ha hq
    · rfl
  | makeSlice t x y =>
    simp only [evalOp] at hq
    exfalso
    split at hq
    · split at hq
      · split at hq
        · refine bif_quiet ?_ hq
          refine decK_quiet _ _ _ (fun q x => ?_)
          exact fun h => h
        · exact hq
      · exact hq
    · exact hq
  | buildSlice t n parts =>
    simp only [evalOp] at hq
    exfalso
    split at hq
    · split at hq
      · split at hq
        · refine bif_quiet ?_ hq
          split
          · rw [decN_eq]
            split
            · split <;> exact fun h => h
            · exact fun h => h
          · exact fun h => h
        · exact hq
      · exact hq
    · exact hq
  | call c =>
    simp only [evalOp] at hq ⊢
    split
    · rename_i f hf
      simp only [hf] at hq
      split
      · rename_i g cap hg
        simp only [hg] at hq
        split
        · rename_i f0
          cases hf0 : Nat.beq f0 g with
          | false => rfl
          | true =>
            simp only [hf0, cond_true] at hq ⊢
            exact callR_alive ha hq
        · rename_i hne
          split at hq
          · rename_i f0; exact absurd rfl (hne f0)
          · cases hfr : E.free g with
            | true => rfl
            | false =>
              rw [hfr] at hq
              simp only [cond_false] at hq ⊢
              exact callR_alive ha hq
      · rfl
    · rename_i b hb
      rw [hb] at hq
      simp only at hq
      unfold callB at hq ⊢
      split
      · rfl
      · rfl
      · rfl
      · rename_i t ts x y e1 e2 e3
        simp only [e2, e3] at hq
        split
        · rename_i i hi
          simp only [hi] at hq
          split
          · rename_i ie hie
            simp only [hie] at hq
            cases hk : Nat.beq i.kd 3 with
            | false => rfl
            | true =>
              rw [hk] at hq
              exact absurd hq copyR_quiet
          · rfl
        · rfl
      · rename_i t ts x e1 e2 e3
        simp only [e2, e3] at hq
        split
        · rename_i i hi
          simp only [hi] at hq
          split
          · rename_i ie hie
            simp only [hie] at hq
            split
            · rename_i z hz
              simp only [hz] at hq
              cases hk : Nat.beq i.kd 3 with
              | false => rfl
              | true =>
                rw [hk] at hq
                exact absurd hq clearR_quiet
            · rfl
          · rfl
        · rfl
      · rename_i e2 e3
        simp only [e2, e3] at hq
        split
        · rename_i i hi
          simp only [hi] at hq
          split
          · rename_i ie hie
            simp only [hie] at hq
            split
            · rename_i ro z hro hz
              simp only [hro, hz] at hq
              refine absurd hq (bif_quiet ?_)
              rename_i t t' _ y _ _ _ _
              cases Nat.beq _ _ with
              | true => exact appR_quiet
              | false =>
                simp only [cond_false]
                split
                · split
                  · exact appZ_quiet
                  · exact fun h => h
                · exact fun h => h
            · rfl
          · rfl
        · rfl
      · rfl
    · rfl
  | makeFunc f first cap => cases f <;> rfl
  | _ => rfl

theorem stepR_alive {fr : Fr} {hp hp' : List AO} {nx : Nat} {d : Option Nat} {g : Option Bool} {r : R} {v : AV} (h : stepR N true fr hp nx d g r (To d v fr hp nx)) : Quiet r ∧ stepR N true fr hp' nx d g r (To d v fr hp' nx) := by
  cases r with
  | no => exact Stuck.out h
  | ok w =>
    refine ⟨trivial, force_swap w h ?_⟩
    have h1 := force_ok w h
    cases g with
    | none => exact (putK_F h1).2 fr _ ⟨(putK_F h1).1.1, rfl, rfl⟩
    | some b => exact (putK_F h1).2 fr _ ⟨(putK_F h1).1.1, rfl, rfl⟩
  | ob p w =>
    refine ⟨trivial, force_swap w h ?_⟩
    have h1 := force_ok w h
    cases g with
    | none => exact ⟨h1.1, (putK_F h1.2).2 fr _ ⟨(putK_F h1.2).1.1, rfl, rfl⟩⟩
    | some b => exact ⟨h1.1, (putK_F h1.2).2 fr _ ⟨(putK_F h1.2).1.1, rfl, rfl⟩⟩
  | call r =>
    refine ⟨trivial, force_swap r.res h ?_⟩
    have h1 := force_ok r.res h
    cases g with
    | none => exact ⟨h1.1, (putK_F h1.2).2 fr _ ⟨(putK_F h1.2).1.1, rfl, rfl⟩⟩
    | some b => exact ⟨h1.1, (putK_F h1.2).2 fr _ ⟨(putK_F h1.2).1.1, rfl, rfl⟩⟩
  | new w ob => cases g <;> exact Stuck.out h
  | set w i ob => cases g <;> exact Stuck.out h
  | upd w i ob => cases g <;> exact Stuck.out h
  | act m p w hp2 => cases g <;> exact Stuck.out h

theorem stepO_alive {fr : Fr} {hp hp' : List AO} {nx : Nat} {o : Oper} {g : Option Bool} {v : AV} (ha : Alive hp hp') (h : stepO E true fr hp nx o g (To o.dst v fr hp nx)) : stepO E true fr hp' nx o g (To o.dst v fr hp' nx) := by
  unfold stepO at h ⊢
  split
  · rename_i x p q hop
    simp only [hop] at h
    split
    · rename_i b hb
      simp only [hb] at h
      refine obsO_loc (fun _ _ => rfl) h fun hk => ?_
      unfold pickO at hk ⊢
      cases g with
      | none =>
        obtain ⟨y, hy, hs⟩ := pickB_loc hk
        exact hs _ ((putK_F hy).2 fr _ ⟨(putK_F hy).1.1, rfl, rfl⟩)
      | some g =>
        obtain ⟨y, hy, hs⟩ := pickB_loc hk
        exact hs _ ((putK_F hy).2 fr _ ⟨(putK_F hy).1.1, rfl, rfl⟩)
    · rename_i hne
      split at h
      · rename_i b hb; exact absurd hb (hne b)
      · exact h
  · rename_i hne
    split at h
    · rename_i x p q hop; exact absurd hop (hne x p q)
    · refine obsO_loc (fun _ _ => rfl) h fun hk => ?_
      obtain ⟨hq, hs⟩ := stepR_alive (hp' := hp') hk
      rw [evalOp_alive ha o.op hq]
      exact hs
theorem stepS_alive {fr : Fr} {hp hp' : List AO} {nx : Nat} {o : Oper} {g : Bool} {v : AV} (ha : Alive hp hp') (h : stepS E true fr hp nx o g (To o.dst v fr hp nx)) : stepS E true fr hp' nx o g (To o.dst v fr hp' nx) := by
  unfold stepS at h ⊢
  cases hm : makesO o with
  | true => rw [hm] at h; exact ⟨h.1, stepO_alive ha h.2⟩
  | false => rw [hm] at h; exact stepO_alive ha h
theorem stepG_alive {all : List Oper} {fr : Fr} {hp hp' : List AO} {nx : Nat} {o : Oper} {v : AV} (ha : Alive hp hp') (h : stepG E true all o fr hp nx (To o.dst v fr hp nx)) : stepG E true all o fr hp' nx (To o.dst v fr hp' nx) := by
  unfold stepG at h ⊢
  cases hgd : o.guard with
  | none => simp only [hgd] at h ⊢; exact stepO_alive ha h
  | some p =>
    obtain ⟨j, want⟩ := p
    simp only [hgd] at h ⊢
    cases hd : dstAt all j with
    | none => simp [hd] at h
    | some d =>
      simp only [hd] at h ⊢
      unfold guardOf at h ⊢
      split
      · rename_i b e; simp only [e] at h; exact stepS_alive ha h
      · rename_i c b e; simp only [e] at h; exact stepS_alive ha h
      · rename_i h1 h2
        split at h
        · rename_i b e; exact absurd e (h1 b)
        · rename_i c b e; exact absurd e (h2 c b)
        · exact h
theorem unow_nil {hp : List AO} : ∀ (l : AV), owsOf l = [] → unow hp l = l
  | .cons h m, e => by
    have hm : owsOf m = [] := by cases h <;> first | exact e | (simp [owsOf] at e)
    have hh : unow1 hp h = h := by cases h <;> first | rfl | (simp [owsOf] at e)
    simp only [unow, hh, unow_nil m hm]
  | .u, _ => rfl
  | .v _, _ => rfl
  | .nil, _ => rfl
  | .em, _ => rfl
  | .agg _, _ => rfl
  | .tup _, _ => rfl
  | .fn _ _, _ => rfl
  | .gd _ _, _ => rfl
  | .ptr _ _, _ => rfl
  | .sc _ _ _ _ _, _ => rfl
  | .rl _ _ _, _ => rfl
  | .rc _ _ _, _ => rfl
  | .rp _ _ _, _ => rfl
  | .ow _ _ _, _ => rfl
  | .ws _ _ _ _, _ => rfl
  | .op _ _ _ _, _ => rfl
theorem new_hp {ρ : Operand → AV} {hp hp' : List AO} {sl : Nat} {o : Oper} (hn : isNew o = true) {v : AV} {ob : AO} (he : evalOp E ρ hp sl o.op = .new v ob) : evalOp E ρ hp' sl o.op = .new v ob := by
  unfold isNew at hn
  simp only [Bool.and_eq_true] at hn
  have h2 := hn.2
  split at h2
  · rename_i t hop; rw [hop] at he ⊢; exact he
  · rename_i t x hop; rw [hop] at he ⊢; exact he
  · rename_i t n parts hop
    rw [hop] at he ⊢
    simp only [evalOp] at he ⊢
    split
    · rename_i i hi
      simp only [hi] at he
      split
      · rename_i ie hie
        simp only [hie] at he
        split
        · rename_i ro z hro hz
          simp only [hro, hz] at he
          cases hk : (Nat.beq i.kd 3 && Nat.blt 0 ie.sz && Nat.ble n 10000 && Nat.ble ie.sz 1000) with
          | false => rw [hk] at he; cases he
          | true =>
            rw [hk] at he
            simp only [cond_true] at he ⊢
            split
            · rename_i l hl
              simp only [hl] at he
              rw [decN_eq] at he ⊢
              have hnil : owsOf l = [] := by
                split at he
                · split at he
                  · assumption
                  · cases he
                · cases he
              rw [unow_nil l hnil] at he ⊢
              split
              · rename_i pr hpr
                rw [hpr] at he
                simp only [hnil] at he ⊢
                exact he
              · rename_i hpr
                rw [hpr] at he
                cases he
            · rename_i hl
              simp only [hl] at he
              cases he
        · rename_i hne
          split at he
          · rename_i ro z hro hz; exact absurd hz (hne ro z hro)
          · cases he
      · rename_i hie
        simp only [hie] at he
        cases he
    · rename_i hi
      simp only [hi] at he
      cases he
  · cases h2
/-- An operation that asks for nothing of the function's own: its step, whatever is there. -/
theorem callB_free {hp hp' : List AO} {nx nx' : Nat} {b : Builtin} (hb : b ≠ .copy) (hb' : b ≠ .append) (hb2 : b ≠ .clear) (ts : List TypeId) (l : AV) : callB E hp' nx' b ts l = callB E hp nx b ts l := by
  unfold callB
  split <;> first | rfl | exact absurd rfl hb | exact absurd rfl hb' | exact absurd rfl hb2
theorem callR_free {hp hp' : List AO} {nx nx' : Nat} {g : FuncId} {args : AV} (hf : E.free g = true) : callR E hp' nx' g args = callR E hp nx g args := by
  unfold callR
  simp only [hf, cond_true, Bool.true_or]
theorem evalOp_free {ρ : Operand → AV} {hp hp' : List AO} {nx nx' : Nat} {o : Oper} (hf : hsen E o = false) : evalOp E ρ hp' nx' o.op = evalOp E ρ hp nx o.op := by
  revert hf
  unfold hsen
  generalize o.op = op
  cases op with
  | makeFunc f first cap => intro _; cases f <;> rfl
  | convert s t x =>
    intro hf
    simp only [evalOp]
    cases hs : tyOf E.ty s with
    | none => rfl
    | some i =>
      cases ht : tyOf E.ty t with
      | none => rfl
      | some j =>
        have hf : (match tyOf E.ty s, tyOf E.ty t with
          | some i, some j => (bif Nat.beq i.kd 0 then false else true) || (bif Nat.beq j.kd 0 then false else true)
          | _, _ => true) = false := hf
        rw [hs, ht] at hf
        have hk : i.kd = 0 ∧ j.kd = 0 := by
          cases h1 : Nat.beq i.kd 0 with
          | false => simp [h1] at hf
          | true =>
            cases h2 : Nat.beq j.kd 0 with
            | false => simp [h1, h2] at hf
            | true => exact ⟨Nat.eq_of_beq_eq_true h1, Nat.eq_of_beq_eq_true h2⟩
        have hc : ∀ hp nx v, convR E hp nx i j v = .no := fun hp nx v => by unfold convR; rw [hk.1, hk.2]; rfl
        generalize ρ x = v
        cases v with
        | v y => cases y <;> first | rfl | exact (hc _ _ _).trans (hc _ _ _).symm
        | _ => exact (hc _ _ _).trans (hc _ _ _).symm
  | call c =>
    intro hf
    simp only at hf
    split at hf
    · rename_i f0 hc
      have hfr : E.free f0 = true := by simpa using hf
      simp only [evalOp, hc]
      split
      · rename_i g cap hg
        cases hf0 : Nat.beq f0 g with
        | false => rfl
        | true =>
          have := Nat.eq_of_beq_eq_true hf0
          subst this
          simp only [cond_true]
          exact callR_free hfr
      · rfl
    · cases hf
    · rename_i hc; simp only [evalOp, hc]; exact callB_free (by simp) (by simp) (by simp) _ _
    · rename_i hc; simp only [evalOp, hc]; exact callB_free (by simp) (by simp) (by simp) _ _
    · rename_i hc; simp only [evalOp, hc]; exact callB_free (by simp) (by simp) (by simp) _ _
    · cases hf
  | _ => intro hf; first | rfl | (cases hf; done)
theorem stepR_free {fr : Fr} {hp hp' : List AO} {nx nx' : Nat} {d : Option Nat} {g : Option Bool} {r : R} {v : AV} (h : stepR N true fr hp nx d g r (To d v fr hp nx)) : stepR N true fr hp' nx' d g r (To d v fr hp' nx') := by
  cases r with
  | no => exact Stuck.out h
  | ok w =>
    refine force_swap w h ?_
    have h1 := force_ok w h
    cases g with
    | none => exact (putK_F h1).2 fr _ ⟨(putK_F h1).1.1, rfl, rfl⟩
    | some b => exact (putK_F h1).2 fr _ ⟨(putK_F h1).1.1, rfl, rfl⟩
  | ob p w =>
    refine force_swap w h ?_
    have h1 := force_ok w h
    cases g with
    | none => exact ⟨h1.1, (putK_F h1.2).2 fr _ ⟨(putK_F h1.2).1.1, rfl, rfl⟩⟩
    | some b => exact ⟨h1.1, (putK_F h1.2).2 fr _ ⟨(putK_F h1.2).1.1, rfl, rfl⟩⟩
  | call r =>
    refine force_swap r.res h ?_
    have h1 := force_ok r.res h
    cases g with
    | none => exact ⟨h1.1, (putK_F h1.2).2 fr _ ⟨(putK_F h1.2).1.1, rfl, rfl⟩⟩
    | some b => exact ⟨h1.1, (putK_F h1.2).2 fr _ ⟨(putK_F h1.2).1.1, rfl, rfl⟩⟩
  | new w ob => cases g <;> exact Stuck.out h
  | set w i ob => cases g <;> exact Stuck.out h
  | upd w i ob => cases g <;> exact Stuck.out h
  | act m p w hp2 => cases g <;> exact Stuck.out h
theorem stepO_free {fr : Fr} {hp hp' : List AO} {nx nx' : Nat} {o : Oper} {g : Option Bool} {v : AV} (hf : hsen E o = false) (h : stepO E true fr hp nx o g (To o.dst v fr hp nx)) : stepO E true fr hp' nx' o g (To o.dst v fr hp' nx') := by
  unfold stepO at h ⊢
  split
  · rename_i x p q hop
    simp only [hop] at h
    split
    · rename_i b hb
      simp only [hb] at h
      refine obsO_loc (fun _ _ => rfl) h fun hk => ?_
      unfold pickO at hk ⊢
      cases g with
      | none =>
        obtain ⟨y, hy, hs⟩ := pickB_loc hk
        exact hs _ ((putK_F hy).2 fr _ ⟨(putK_F hy).1.1, rfl, rfl⟩)
      | some g =>
        obtain ⟨y, hy, hs⟩ := pickB_loc hk
        exact hs _ ((putK_F hy).2 fr _ ⟨(putK_F hy).1.1, rfl, rfl⟩)
    · rename_i hne
      split at h
      · rename_i b hb; exact absurd hb (hne b)
      · exact h
  · rename_i hne
    split at h
    · rename_i x p q hop; exact absurd hop (hne x p q)
    · refine obsO_loc (fun _ _ => rfl) h fun hk => ?_
      rw [evalOp_free (hp := hp) (nx := nx) hf]
      exact stepR_free hk
theorem stepS_free {fr : Fr} {hp hp' : List AO} {nx nx' : Nat} {o : Oper} {g : Bool} {v : AV} (hf : hsen E o = false) (h : stepS E true fr hp nx o g (To o.dst v fr hp nx)) : stepS E true fr hp' nx' o g (To o.dst v fr hp' nx') := by
  unfold stepS at h ⊢
  cases hm : makesO o with
  | true => rw [hm] at h; exact ⟨h.1, stepO_free hf h.2⟩
  | false => rw [hm] at h; exact stepO_free hf h
theorem stepG_free {all : List Oper} {fr : Fr} {hp hp' : List AO} {nx nx' : Nat} {o : Oper} {v : AV} (hf : hsen E o = false) (h : stepG E true all o fr hp nx (To o.dst v fr hp nx)) : stepG E true all o fr hp' nx' (To o.dst v fr hp' nx') := by
  unfold stepG at h ⊢
  cases hgd : o.guard with
  | none => simp only [hgd] at h ⊢; exact stepO_free hf h
  | some p =>
    obtain ⟨j, want⟩ := p
    simp only [hgd] at h ⊢
    cases hd : dstAt all j with
    | none => simp [hd] at h
    | some d =>
      simp only [hd] at h ⊢
      unfold guardOf at h ⊢
      split
      · rename_i b e; simp only [e] at h; exact stepS_free hf h
      · rename_i c b e; simp only [e] at h; exact stepS_free hf h
      · rename_i h1 h2
        split at h
        · rename_i b e; exact absurd e (h1 b)
        · rename_i c b e; exact absurd e (h2 c b)
        · exact h
theorem new_hsen {o : Oper} (h : isNew o = true) : hsen E o = true := by
  unfold isNew at h
  simp only [Bool.and_eq_true] at h
  have h2 := h.2
  unfold hsen
  split at h2
  · rename_i t hop; rw [hop]
  · rename_i t x hop; rw [hop]
  · rename_i t n parts hop; rw [hop]
  · cases h2
end

end Go.Proofs.Ythlkhjfilfdpiaa.Eng
