/- ENGINE 2, 5F: bytes and text. -/
import Derived.Test.YthlkhjfilfdpiaaF5D
import Derived.Laws.BytesString
import Derived.Lib.ConvBytes
namespace Go.Proofs.Ythlkhjfilfdpiaa.Eng
set_option linter.unusedVariables false
set_option linter.unusedSimpArgs false
open Go Go.RowKit
section
variable {P : Program} {E : Env} {W0 : World} {X : Bd} {N : Nat} {c : Cx} {fr : Fr} {hp : List AO} {nx : Nat} {a : Act} {o : Oper} {ρ : Operand → AV}

/-! ### Bytes and text -/
theorem push_bytes : ∀ (ns : List Int) (s : ByteArray), ns.foldl (fun r n => r.push (UInt8.ofNat n.toNat)) s = ⟨s.data ++ (ns.map fun n => UInt8.ofNat n.toNat).toArray⟩
  | [], s => by simp
  | n :: r, s => by
    rw [List.foldl_cons, push_bytes r]
    simp [ByteArray.push]
theorem flat_u8 {c : Cx} {b : Nat} : ∀ {l : List (El tyU8)} {news : List Value}, flatC c b tyU8 l news → news = (l.map fun x => x.1).map (Value.int .u8) := by
  intro l news h
  have hlen : news.length = l.length := by simpa [tsz] using h.1
  refine List.ext_getElem? fun j => ?_
  by_cases hj : j < l.length
  · have hx := h.2 j l[j] (List.getElem?_eq_getElem hj)
    obtain ⟨vs, e, _⟩ := hx
    simp only [tsz, Nat.zero_add, Nat.mul_one] at e
    have : ((news.drop j).take 1)[0]? = some (Value.int .u8 l[j].1) := by rw [e]; rfl
    simp at this
    simp [this, hj]
  · rw [List.getElem?_eq_none (by omega), List.getElem?_eq_none (by simp; omega)]
theorem run_loadCells_flat {w : World} {ad : Addr} {n : Nat} {news : List Value} (hl : news.length = n) (hc : ∀ j u, news[j]? = some u → w.cell? (ad.add j) = some u) : (loadCells ad n).run P w = .ok news.toArray w := by
  have := run_firstCells_some (P := P) w 1 n ad n n news (by omega) hc
  simpa [Builtin.firstCells] using this
theorem good_txt (h : Gam W0 X N c fr hp nx a) (s t : TypeId) (x : Operand) (hop : o.op = .convert s t x) {is i ie : TI} (his : TIok P s is) (hi : TIok P t i) (hie : TIok P is.el ie) (hk : is.kd = 3) (hk' : i.kd = 5) (hik : ie.ik = some .u8) {v : AV} (hx : sat v c [a.eval x]) :
    GoodR P W0 X N c fr hp nx a o (txtR hp v) := by
  have key : GoodR P W0 X N c fr hp nx a o (srcK hp tyU8 v .no fun _ l _ => .ok (.v (.string (bytesOf l)))) := by
    refine srcK_ok (no := R.no) (PP := GoodR P W0 X N c fr hp nx a o) h hx tyU8 trivial fun q l ows hsrc => ?_
    obtain ⟨c1, w1, n1, v1, b1, k1, kk, g1, s1, ln1, o1, f1⟩ := h.freeze ows
    have hS := hsrc c1 ⟨s1, w1, f1⟩
    obtain ⟨news, hf, _, hshape⟩ := hS.src (P := P) (his.sl hk)
    have hn := flat_u8 hf
    have hlen : news.length = l.length := by simpa [tsz] using hf.1
    refine ⟨.string (bytesOf l), ?_, rfl⟩
    have hconv : (convert s t (a.eval x)).run P c.w = .ok (.string (bytesOf l)) c.w := by
      rw [← w1]
      have hrun : ∀ A m, a.eval x = .slice A l.length m → (convert s t (.slice A l.length m)).run P c1.w = (Conv.bytesToString (.slice A l.length m)).run P c1.w := fun A m _ =>
        run_convert_bytes_string c1.w s t is.el A l.length m (his.sl hk) (by have := hie.ik _ hik; exact this) (hi.tx hk')
      rcases hshape with ⟨hl, m, hv⟩ | ⟨ad, m, hv, hcell⟩
      · subst hl
        rw [hv]
        exact (hrun none m hv).trans rfl
      · rw [hv, hrun _ _ hv]
        have := run_bytesToString (P := P) c1.w ad l.length m (l.map fun x => x.1) (by rw [← hn]; exact run_loadCells_flat hlen hcell)
        rw [this, push_bytes]
        simp [bytesOf]
    unfold execOp; rw [hop]
    simp only [Sem.run_bind, hconv, Result.andThen_ok, Sem.run_pure]
  unfold txtR
  split
  · trivial
  · exact key
theorem good_bytes (h : Gam W0 X N c fr hp nx a) (s t : TypeId) (x : Operand) (hop : o.op = .convert s t x) {is i ie : TI} (his : TIok P s is) (hi : TIok P t i) (hie : TIok P i.el ie) (hk : is.kd = 5) (hk' : i.kd = 3) (hik : ie.ik = some .u8) {b : ByteArray} (hx : a.eval x = .string b) :
    GoodR P W0 X N c fr hp nx a o (.act 1 (b.size ≤ 1000000000) (.ow nx 1 b.size) (snoc hp (.row true tyU8 i.el (ofBytes b)))) := by
  intro hsz
  have hr := Lib.run_convert_string_bytes (P := P) c.w s t i.el b (his.tx hk) (hi.sl hk') (hie.ik _ hik)
  have hcap := grownCap_ge c.w b.size 0 i.el
  have hcm := grownCap_le_maxLen c.w b.size 0 i.el (by unfold maxLen; omega)
  have hbs : (Lib.bytesCells c.w i.el b).size = grownCap c.w b.size 0 i.el := by simp [Lib.bytesCells]; omega
  have hlb : (ofBytes b).length = b.size := by simp [ofBytes]
  have hnew : rowHeap (Lib.bytesWorld c.w i.el b) c.w.heap.size (Lib.bytesCells c.w i.el b) i.el := ⟨_, Lib.bytesWorld_at_new c.w i.el b, .inr (Nat.le_refl _)⟩
  have hos : (Lib.bytesWorld c.w i.el b).os = c.w.os ∧ (Lib.bytesWorld c.w i.el b).tape = c.w.tape ∧ (Lib.bytesWorld c.w i.el b).output = c.w.output := ⟨rfl, rfl, rfl⟩
  have hflat : ∀ (w' : World) (O : Nat → Prop) (bb : Nat) (j : Nat) (y : El tyU8), (ofBytes b)[j]? = some y → memE w' O bb tyU8 y ((((Lib.bytesCells c.w i.el b).toList.take ((ofBytes b).length * tsz tyU8)).drop (j * tsz tyU8)).take (tsz tyU8)) := fun w' O bb j y hj => by
    have hjb : j < b.size := by have := (List.getElem?_eq_some_iff.1 hj).1; omega
    refine ⟨[], ?_, rfl⟩
    have hy : y = (((b.data.toList[j]'(by simpa using hjb)).toNat : Int), ()) := by
      unfold ofBytes at hj
      rw [List.getElem?_map, List.getElem?_eq_getElem (by simpa using hjb)] at hj
      simpa using hj.symm
    subst hy
    refine List.ext_getElem? fun p => ?_
    simp only [tsz, Nat.zero_add, Nat.mul_one]
    rw [List.getElem?_take]
    cases p with
    | zero =>
      rw [if_pos (by omega), List.getElem?_drop, List.getElem?_take, if_pos (by omega)]
      have : j < b.data.size := hjb
      simp [Lib.bytesCells]
      rw [List.getElem?_append_left (by simpa using hjb)]
      simp [this]
      exact ⟨b.data[j], by simp [this], rfl⟩
    | succ p => rw [if_neg (by omega)]; rfl
  have key := h.add (w' := Lib.bytesWorld c.w i.el b) (ix := c.n) (n' := c.n + 1) (ln := b.size) (k := some c.w.heap.size) (lo := none) (v := .slice (some ⟨c.w.heap.size, 0, none⟩) b.size (grownCap c.w b.size 0 i.el)) (hv := at0_slice _ _ _) (ob := .row true tyU8 i.el (ofBytes b)) (fun _ => False)
    (.inl ⟨rfl, rfl, rfl⟩) (fun b hb => hb.elim) (by rw [Lib.bytesWorld_size]; omega) (fun b' hb _ => Lib.bytesWorld_at_old _ _ _ _ hb) hos.1 hos.2.1 hos.2.2 (fun g hg => by injection hg with hg; subst hg; rw [Lib.bytesWorld_size]; omega)
  obtain ⟨hG, _⟩ := key ⟨by decide, hlb.trans (updF_at c.len c.n b.size).symm, fun _ g hg => by
      have := (updF_at c.key c.n (some c.w.heap.size)).symm.trans hg
      injection this with this; subst this; exact h.ob.bz, _, (by rw [List.length_take]; simp only [tsz]; simp [hbs, hlb]; omega), .inr ⟨c.w.heap.size, grownCap c.w b.size 0 i.el, Lib.bytesCells c.w i.el b, (by rw [hlb]; exact updF_at _ _ _), updF_at _ _ _, hnew, by rw [hlb]; exact hcap, hcm, by rw [hbs]; simp [tsz], rfl⟩, fun j y hj => hflat _ _ _ j y hj⟩
  rw [snoc_eq]
  refine ⟨.slice (some ⟨c.w.heap.size, 0, none⟩) b.size (grownCap c.w b.size 0 i.el), _, ?_, hG, ?_⟩
  · unfold execOp; rw [hop]; simp only [hx]
    simp only [Sem.run_bind, hr, Result.andThen_ok, Sem.run_pure]
    rfl
  · rw [nx_n h]
    exact ⟨Nat.lt_succ_self _, (updF_at c.len c.n b.size).symm, by congr 1; exact (updF_at _ _ _).symm, _, _, updF_at _ _ _, hcap⟩
theorem good_conv (hT : ∀ t i, tyOf E.ty t = some i → TIok P t i) (h : Gam W0 X N c fr hp nx a) (s t : TypeId) (x : Operand) (hop : o.op = .convert s t x) {is i : TI} (his : TIok P s is) (hi : TIok P t i) {v : AV} (hx : sat v c [a.eval x]) :
    GoodR P W0 X N c fr hp nx a o (convR E hp nx is i v) := by
  unfold convR
  cases h1 : Nat.beq is.kd 3 && Nat.beq i.kd 5 with
  | true =>
    simp only [Bool.and_eq_true] at h1
    simp only [cond_true]
    split
    · rename_i ie hie
      split
      · rename_i hik
        exact good_txt h s t x hop his hi (hT _ _ hie) (Nat.eq_of_beq_eq_true h1.1) (Nat.eq_of_beq_eq_true h1.2) hik hx
      · trivial
    · trivial
  | false =>
    simp only [cond_false]
    cases h2 : Nat.beq is.kd 5 && Nat.beq i.kd 3 with
    | true =>
      simp only [Bool.and_eq_true] at h2
      simp only [cond_true]
      split
      · rename_i ie b hie
        split
        · rename_i hik
          exact good_bytes h s t x hop his hi (hT _ _ hie) (Nat.eq_of_beq_eq_true h2.1) (Nat.eq_of_beq_eq_true h2.2) hik (by simpa [sat] using hx)
        · trivial
      · trivial
    | false => trivial
end
end Go.Proofs.Ythlkhjfilfdpiaa.Eng
