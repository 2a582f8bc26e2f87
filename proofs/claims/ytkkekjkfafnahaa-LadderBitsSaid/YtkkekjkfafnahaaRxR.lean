/- RX, part R: parameters that are structs and arrays of plain parts, as a row reads them. -/
import Derived.Test.YtkkekjkfafnahaaRxM
import Derived.WideKeyPair
noncomputable section
namespace Go.Proofs.Ytkkekjkfafnahaa.RX
open Go Go.ChangeShapes Go.WideShapes Go.ChangeAt Go.RowKit
section
variable {H : Type} {enc : TypeId × Value → H} {P : Program} {w : World} {base : Nat} {sp : Nat → Bool} {held : Bool}
theorem trod_struct {t : TypeId} {fs : Array Field} {cs : Array Value} {d : DataW H} {ps : List MemPlace} (ht : P.underlying t = some (.struct fs)) (h : DataW.Trod enc P w base sp held t (.agg cs) d ps) :
    ∃ n xs, cs.size = P.cellsOf t ∧ (fs.toList.mapM fun f => DataW.trod enc P w base sp held n f.type ((cs.toList.drop f.offset).take (P.cellsOf f.type))) = some xs ∧ d = .agg (xs.map (·.1)) ∧ ps = xs.flatMap (·.2) := by
  obtain ⟨fuel, hf⟩ := h
  cases fuel with
  | zero => simp [DataW.trod] at hf
  | succ n =>
    rw [DataW.trod_step] at hf
    unfold DataW.trodStep at hf
    simp only [ht, Value.cells] at hf
    split at hf
    · rename_i hl
      simp only [Option.map_eq_some_iff] at hf
      obtain ⟨xs, hx, e⟩ := hf
      simp only [Prod.mk.injEq] at e
      exact ⟨n, xs, by simpa using hl, hx, e.1.symm, e.2.symm⟩
    · cases hf
theorem trod_array {t e : TypeId} {m : Nat} {cs : Array Value} {d : DataW H} {ps : List MemPlace} (ht : P.underlying t = some (.array m e)) (h : DataW.Trod enc P w base sp held t (.agg cs) d ps) :
    ∃ n xs, cs.size = P.cellsOf t ∧ ((List.range m).mapM fun i => DataW.trod enc P w base sp held n e ((cs.toList.drop (i * P.cellsOf e)).take (P.cellsOf e))) = some xs ∧ d = .agg (xs.map (·.1)) ∧ ps = xs.flatMap (·.2) := by
  obtain ⟨fuel, hf⟩ := h
  cases fuel with
  | zero => simp [DataW.trod] at hf
  | succ n =>
    rw [DataW.trod_step] at hf
    unfold DataW.trodStep at hf
    simp only [ht, Value.cells] at hf
    split at hf
    · rename_i hl
      simp only [Option.map_eq_some_iff] at hf
      obtain ⟨xs, hx, e⟩ := hf
      simp only [Prod.mk.injEq] at e
      exact ⟨n, xs, by simpa using hl, hx, e.1.symm, e.2.symm⟩
    · cases hf
theorem okWide_array {r : Reach} {b0 : Nat} {t e : TypeId} {m : Nat} {v : Value} (ht : P.underlying t = some (.array m e)) (h : Value.okWide P w r b0 t v) : ∃ cs, v = .agg cs ∧ cs.size = P.cellsOf t := by
  simp only [Value.okWide, ht] at h
  obtain ⟨cs, h1, h2, _⟩ := h
  exact ⟨cs, h1, h2⟩
theorem three_of {cs : Array Value} (h : cs.size = 3) : ∃ a b c, cs = #[a, b, c] := by
  obtain ⟨l⟩ := cs
  match l, h with
  | [a, b, c], _ => exact ⟨a, b, c, rfl⟩
theorem map3 {α γ : Type} {f : α → γ} {l : List α} {x y z : γ} (h : l.map f = [x, y, z]) : ∃ a b c, l = [a, b, c] ∧ f a = x ∧ f b = y ∧ f c = z := by
  obtain ⟨a, l1, rfl, ha, h1⟩ := List.map_eq_cons_iff.1 h
  obtain ⟨b, l2, rfl, hb, h2⟩ := List.map_eq_cons_iff.1 h1
  obtain ⟨c, l3, rfl, hc, h3⟩ := List.map_eq_cons_iff.1 h2
  rw [List.map_eq_nil_iff] at h3
  subst h3
  exact ⟨a, b, c, rfl, ha, hb, hc⟩
/-- A struct of two strings and a number. -/
theorem open_ssi {r : Reach} {b0 : Nat} {t ts ti : TypeId} {k : IntKind} {fs : Array Field} {v : Value} {d : DataW H} {ps : List MemPlace} (ht : P.underlying t = some (.struct fs)) (hfs : fs.toList.map (fun f => (f.type, f.offset)) = [(ts, 0), (ts, 1), (ti, 2)])
    (hs : P.underlying ts = some .string) (hi : P.underlying ti = some (.int k)) (cs : P.cellsOf ts = 1) (ci : P.cellsOf ti = 1) (ct : P.cellsOf t = 3) (hval : Value.okWide P w r b0 t v) (hd : DataW.Trod enc P w base sp held t v d ps) :
    ∃ a b n, v = .agg #[.string a, .string b, .int k n] ∧ d = .agg [.lit (.string a.data.toList), .lit (.string b.data.toList), .lit (.int k n)] ∧ ps = [] ∧ a.size ≤ maxLen ∧ b.size ≤ maxLen ∧ (Lit.int k n).wf = true := by
  obtain ⟨vs, rfl, hsz⟩ := okWide_struct ht hval
  obtain ⟨n, xs, _, hx, rfl, rfl⟩ := trod_struct ht hd
  rw [ct] at hsz
  obtain ⟨v0, v1, v2, rfl⟩ := three_of hsz
  obtain ⟨f0, f1, f2, efs, e0, e1, e2⟩ := map3 hfs
  simp only [Prod.mk.injEq] at e0 e1 e2
  obtain ⟨a1, a2⟩ := e0
  obtain ⟨b1, b2⟩ := e1
  obtain ⟨c1, c2⟩ := e2
  rw [efs] at hx
  simp only [List.mapM_cons, List.mapM_nil, bind, Option.bind_eq_some_iff, pure, Option.some.injEq, a1, a2, b1, b2, c1, c2, cs, ci] at hx
  obtain ⟨y0, h0, _, ⟨y1, h1, _, ⟨y2, h2, _, rfl, rfl⟩, rfl⟩, rfl⟩ := hx
  obtain ⟨s0, e0, rfl, w0⟩ := DataW.trod_string hs h0
  obtain ⟨s1, e1, rfl, w1⟩ := DataW.trod_string hs h1
  obtain ⟨z, e2, rfl, w2⟩ := DataW.trod_int hi h2
  simp at e0 e1 e2
  subst e0; subst e1; subst e2
  exact ⟨s0, s1, z, rfl, rfl, rfl, w0, w1, w2⟩
theorem shut_ssi {t ts ti : TypeId} {k : IntKind} {fs : Array Field} (ht : P.underlying t = some (.struct fs)) (hfs : fs.toList.map (fun f => (f.type, f.offset)) = [(ts, 0), (ts, 1), (ti, 2)])
    (hs : P.underlying ts = some .string) (hi : P.underlying ti = some (.int k)) (cs : P.cellsOf ts = 1) (ci : P.cellsOf ti = 1) (ct : P.cellsOf t = 3) {a b : ByteArray} {n : Int} (wa : a.size ≤ maxLen) (wb : b.size ≤ maxLen) (wn : (Lit.int k n).wf = true) :
    DataW.Trod enc P w base sp held t (.agg #[.string a, .string b, .int k n]) (.agg [.lit (.string a.data.toList), .lit (.string b.data.toList), .lit (.int k n)]) [] :=
  ⟨2, by
    obtain ⟨f0, f1, f2, efs, e0, e1, e2⟩ := map3 hfs
    simp only [Prod.mk.injEq] at e0 e1 e2
    obtain ⟨a1, a2⟩ := e0
    obtain ⟨b1, b2⟩ := e1
    obtain ⟨c1, c2⟩ := e2
    show DataW.trod enc P w base sp held (1 + 1) t [.string a, .string b, .int k n] = _
    rw [DataW.trod_step]
    unfold DataW.trodStep
    simp only [ht]
    rw [if_pos (by rw [ct]; rfl), efs, List.mapM_cons, List.mapM_cons, List.mapM_cons, List.mapM_nil]
    simp [a1, a2, b1, b2, c1, c2, cs, ci, DataW.trod, hs, hi, wa, wb, wn]⟩
/-- An array of three numbers. -/
theorem open_int3 {r : Reach} {b0 : Nat} {t e : TypeId} {k : IntKind} {v : Value} {d : DataW H} {ps : List MemPlace} (ht : P.underlying t = some (.array 3 e)) (he : P.underlying e = some (.int k)) (ce : P.cellsOf e = 1) (ct : P.cellsOf t = 3)
    (hval : Value.okWide P w r b0 t v) (hd : DataW.Trod enc P w base sp held t v d ps) :
    ∃ a b c, v = .agg #[.int k a, .int k b, .int k c] ∧ d = .agg [.lit (.int k a), .lit (.int k b), .lit (.int k c)] ∧ ps = [] ∧ (Lit.int k a).wf = true ∧ (Lit.int k b).wf = true ∧ (Lit.int k c).wf = true := by
  obtain ⟨vs, rfl, hsz⟩ := okWide_array ht hval
  obtain ⟨n, xs, _, hx, rfl, rfl⟩ := trod_array ht hd
  rw [ct] at hsz
  obtain ⟨v0, v1, v2, rfl⟩ := three_of hsz
  rw [show List.range 3 = [0, 1, 2] from rfl] at hx
  simp only [List.mapM_cons, List.mapM_nil, bind, Option.bind_eq_some_iff, pure, Option.some.injEq, ce] at hx
  obtain ⟨y0, h0, _, ⟨y1, h1, _, ⟨y2, h2, _, rfl, rfl⟩, rfl⟩, rfl⟩ := hx
  obtain ⟨z0, e0, rfl, w0⟩ := DataW.trod_int he h0
  obtain ⟨z1, e1, rfl, w1⟩ := DataW.trod_int he h1
  obtain ⟨z2, e2, rfl, w2⟩ := DataW.trod_int he h2
  simp at e0 e1 e2
  subst e0; subst e1; subst e2
  exact ⟨z0, z1, z2, rfl, rfl, rfl, w0, w1, w2⟩
theorem shut_int3 {t e : TypeId} {k : IntKind} (ht : P.underlying t = some (.array 3 e)) (he : P.underlying e = some (.int k)) (ce : P.cellsOf e = 1) (ct : P.cellsOf t = 3) {a b c : Int} (wa : (Lit.int k a).wf = true) (wb : (Lit.int k b).wf = true) (wc : (Lit.int k c).wf = true) :
    DataW.Trod enc P w base sp held t (.agg #[.int k a, .int k b, .int k c]) (.agg [.lit (.int k a), .lit (.int k b), .lit (.int k c)]) [] :=
  ⟨2, by
    show DataW.trod enc P w base sp held (1 + 1) t [.int k a, .int k b, .int k c] = _
    rw [DataW.trod_step]
    unfold DataW.trodStep
    simp only [ht]
    rw [if_pos (by rw [ct]; rfl), show List.range 3 = [0, 1, 2] from rfl, List.mapM_cons, List.mapM_cons, List.mapM_cons, List.mapM_nil]
    simp [ce, DataW.trod, he, wa, wb, wc]⟩
end
end Go.Proofs.Ytkkekjkfafnahaa.RX
