/- RX, part D: addresses, parts, slices of strings and of memory, conversions; 'pureOp': every operation that only computes. -/
import Derived.Test.YtihmhnfjdkkbgaaRxC
noncomputable section
namespace Go.Proofs.Ytihmhnfjdkkbgaa.RX
set_option linter.unusedSimpArgs false
open Go Go.RowKit

def natLit (tv : TV) : Option Nat :=
  match tv.num with
  | some (true, _, .ofNat n) => some n
  | _ => none
theorem natLit_is {β : Env} {tv : TV} {n : Nat} (h : natLit tv = some n) {v : Value} (r : tv.is β v) : ∃ k, v = .int k (n : Int) := by
  unfold natLit at h
  split at h
  · rename_i k m hn
    cases h
    exact ⟨k, TV.num_is hn r⟩
  · cases h

/-! ### Addresses -/
def fieldAddrOp (P : Program) (s : TypeId) (x : TV) (f : Nat) : Option TV :=
  match P.underlying s, x with
  | some (.struct fields), .sv (.one (.ptr n off)) =>
    match fields[f]? with
    | some fd => match P.info? fd.type with
      | some i => if i.size = 0 then none else some (.sv (.one (.ptr n (off + fd.offset))))
      | none => none
    | none => none
  | some (.struct fields), .sv (.one (.co cs off)) =>
    match fields[f]? with
    | some fd => match P.info? fd.type with
      | some i => if i.size = 0 then none else some (.sv (.one (.co cs (off + fd.offset))))
      | none => none
    | none => none
  | _, _ => none
theorem fieldAddrOp_sound {P : Program} {s : TypeId} {x : TV} {f : Nat} {tv : TV} (h : fieldAddrOp P s x f = some tv) {β : Env} {u : Value} (r : x.is β u) (w : World) :
    ∃ v, (Instr.fieldAt s u f).run P w = .ok v w ∧ tv.is β v := by
  unfold fieldAddrOp at h
  split at h
  · rename_i fields n off hu
    split at h
    · rename_i fd hf
      split at h
      · rename_i i hi
        split at h
        · cases h
        · rename_i h0
          cases h
          obtain ⟨b, hb, e⟩ := r
          subst e
          exact ⟨_, by simp [Instr.fieldAt, run_underlying hu, hf, Instr.sureAddr, fieldPlace, run_sizeOf' hi, h0, add_plain], b, hb, rfl⟩
      · cases h
    · cases h
  · rename_i fields cs off hu
    split at h
    · rename_i fd hf
      split at h
      · rename_i i hi
        split at h
        · cases h
        · rename_i h0
          cases h
          simp only [TV.is, SV.is, RC.is, CV.is] at r
          obtain ⟨b, e, ho, hc⟩ := r
          subst e
          refine ⟨_, by simp [Instr.fieldAt, run_underlying hu, hf, Instr.sureAddr, fieldPlace, run_sizeOf' hi, h0, add_plain]; rfl, ?_⟩
          simp only [TV.is, SV.is, RC.is, CV.is]
          exact ⟨b, rfl, ho, hc⟩
      · cases h
    · cases h
  · cases h

def indexAddrOp (P : Program) (t : TypeId) (x ix : TV) : Option TV :=
  match natLit ix with
  | none => none
  | some i => match P.underlying t, x with
    | some (.array len elem), .sv (.one (.ptr n off)) => match P.info? elem with
      | some inf => if i < len then some (.sv (.one (.ptr n (off + i * inf.size)))) else none
      | none => none
    | some (.array len elem), .sv (.one (.co cs off)) => match P.info? elem with
      | some inf => if i < len then some (.sv (.one (.co cs (off + i * inf.size)))) else none
      | none => none
    | some (.slice elem), .sv (.one (.slc n off len _)) => match P.info? elem with
      | some inf => if i < len then some (.sv (.one (.ptr n (off + i * inf.size)))) else none
      | none => none
    | some (.slice elem), .sv (.one (.frz k L len)) => match P.info? elem with
      | some inf => if i < len ∧ inf.size = 1 then some (.sv (.one (.fpt k L len i))) else none
      | none => none
    | _, _ => none
theorem indexAddrOp_sound {P : Program} {t : TypeId} {x ix : TV} {tv : TV} (h : indexAddrOp P t x ix = some tv) {β : Env} {u y : Value} (r : x.is β u) (ry : ix.is β y) (w : World) :
    ∃ v, (Instr.indexAt t u y).run P w = .ok v w ∧ tv.is β v := by
  unfold indexAddrOp at h
  split at h
  · cases h
  · rename_i i hi
    obtain ⟨k, e⟩ := natLit_is hi ry
    subst e
    split at h
    · rename_i len elem n off hu
      split at h
      · rename_i inf hinf
        split at h
        · rename_i hlt
          cases h
          obtain ⟨b, hb, e⟩ := r
          subst e
          exact ⟨_, by simp [Instr.indexAt, asIntOf, run_underlying hu, Instr.sureAddr, run_sizeOf' hinf, add_plain, hlt], b, hb, rfl⟩
        · cases h
      · cases h
    · rename_i len elem cs off hu
      split at h
      · rename_i inf hinf
        split at h
        · rename_i hlt
          cases h
          simp only [TV.is, SV.is, RC.is, CV.is] at r
          obtain ⟨b, e, ho, hc⟩ := r
          subst e
          refine ⟨_, by simp [Instr.indexAt, asIntOf, run_underlying hu, Instr.sureAddr, run_sizeOf' hinf, add_plain, hlt]; rfl, ?_⟩
          simp only [TV.is, SV.is, RC.is, CV.is]
          exact ⟨b, rfl, ho, hc⟩
        · cases h
      · cases h
    · rename_i elem n off len cap hu
      split at h
      · rename_i inf hinf
        split at h
        · rename_i hlt
          cases h
          obtain ⟨b, c, hb, _, _, _, e⟩ := r
          subst e
          exact ⟨_, by simp [Instr.indexAt, asIntOf, run_underlying hu, run_sizeOf' hinf, add_plain, hlt], b, hb, rfl⟩
        · cases h
      · cases h
    · rename_i elem k' L len hu
      split at h
      · rename_i inf hinf
        split at h
        · rename_i hlt
          cases h
          obtain ⟨b, off, c, _, e, hf⟩ := r
          subst e
          exact ⟨.pointer (some ⟨b, off + i, none⟩), by simp [Instr.indexAt, asIntOf, run_underlying hu, run_sizeOf' hinf, add_plain, hlt.1, hlt.2], b, off, rfl, hlt.1, hf⟩
        · cases h
      · cases h
    · cases h

/-! ### Parts -/
def fieldOp (P : Program) (t : TypeId) (x : TV) (f : Nat) : Option TV :=
  match P.underlying t, x with
  | some (.struct fields), .sv (.agg cs) => match fields[f]? with
    | some fd => (partC P fd.type cs fd.offset).map .sv
    | none => none
  | _, _ => none
theorem fieldOp_sound {P : Program} {t : TypeId} {x : TV} {f : Nat} {tv : TV} (h : fieldOp P t x f = some tv) {β : Env} {u : Value} (r : x.is β u) (w : World) :
    ∃ v, (Instr.field t u f).run P w = .ok v w ∧ tv.is β v := by
  unfold fieldOp at h
  split at h
  · rename_i fields cs hu
    split at h
    · rename_i fd hf
      cases hp : partC P fd.type cs fd.offset with
      | none => rw [hp] at h; cases h
      | some s =>
        rw [hp] at h; cases h
        obtain ⟨vs, rfl, h2⟩ := r
        obtain ⟨v, hv, rv⟩ := partC_sound hp h2 w
        exact ⟨v, by simp [Instr.field, run_underlying hu, hf, asAgg, hv], rv⟩
    · cases h
  · cases h

/-- A byte of a string. -/
def sbyte (s : ByteArray) (i : Int) : Int := ((s.data.toList.getD i.toNat 0).toNat : Int)

def indexOp (P : Program) (t : TypeId) (x ix : TV) : Option (List Prop × TV) :=
  match P.underlying t with
  | some (.array len elem) => match natLit ix, x, P.info? elem with
    | some i, .sv (.agg cs), some inf => if i < len then (partC P elem cs (i * inf.size)).map fun s => ([], .sv s) else none
    | _, _, _ => none
  | some .string => match x.string?, ix.num with
    | some s, some (_, _, i) => some (match x, natLit ix with
      | .sv (.one (.strn _ m _)), some j => (if j < m then [] else [False], .sv (.one (.int .u8 (sbyte s i))))
      | _, _ => ([0 ≤ i, i < s.size], .sv (.one (.int .u8 (sbyte s i)))))
    | _, _ => none
  | _ => none
theorem run_index_string' {P : Program} {t : TypeId} (hu : P.underlying t = some .string) (s : ByteArray) (k : IntKind) (i : Int) (h0 : 0 ≤ i) (h1 : i < s.size) (w : World) :
    (Instr.index t (.string s) (.int k i)).run P w = .ok (.int .u8 (sbyte s i)) w := by
  have hlt : i.toNat < s.size := by omega
  have hget : s[i.toNat]? = some (s.data.toList.getD i.toNat 0) := by
    rw [ByteArray.getElem?_lt' s _ hlt]
    have h2 : i.toNat < s.data.toList.length := by simpa using hlt
    rw [List.getD_eq_getElem?_getD, List.getElem?_eq_getElem h2]
    simp
    rfl
  simp [Instr.index, asIntOf, run_underlying hu, h0, hget, sbyte]
theorem indexOp_sound {P : Program} {t : TypeId} {x ix : TV} {need : List Prop} {tv : TV} (h : indexOp P t x ix = some (need, tv)) (hn : ∀ p ∈ need, p) {β : Env} {u y : Value} (r : x.is β u) (ry : ix.is β y) (w : World) :
    ∃ v, (Instr.index t u y).run P w = .ok v w ∧ tv.is β v := by
  unfold indexOp at h
  split at h
  · rename_i len elem hu
    split at h
    · rename_i i cs inf hi hinf
      split at h
      · rename_i hlt
        obtain ⟨k, e⟩ := natLit_is hi ry
        subst e
        cases hp : partC P elem cs (i * inf.size) with
        | none => rw [hp] at h; cases h
        | some s =>
          rw [hp] at h; cases h
          obtain ⟨vs, rfl, h2⟩ := r
          obtain ⟨v, hv, rv⟩ := partC_sound hp h2 w
          exact ⟨v, by simp [Instr.index, asIntOf, run_underlying hu, hlt, run_sizeOf' hinf, hv], rv⟩
      · cases h
    · cases h
  · rename_i hu
    split at h
    · rename_i s l k i hs hi
      have e1 := TV.string_is hs r
      have e2 := TV.num_is hi ry
      subst e1 e2
      injection h with h
      split at h
      · rename_i _ _ s' m hm j hj
        cases h
        have hjm : j < m := by
          by_cases hjm : j < m
          · exact hjm
          · rw [if_neg hjm] at hn; exact (hn False (by simp)).elim
        obtain ⟨k', e⟩ := natLit_is hj ry
        injection e with e3 e4
        simp [TV.string?, RC.string?] at hs
        subst hs
        exact ⟨_, run_index_string' hu _ _ _ (by omega) (by omega) w, rfl⟩
      · cases h
        exact ⟨_, run_index_string' hu _ _ _ (hn _ (by simp)) (hn _ (by simp)) w, rfl⟩
    · cases h
  · cases h

/-! ### Slices -/
theorem size_extract' {s : ByteArray} {m : Nat} (hs : s.size = m) {l h : Nat} (h2 : h ≤ m) : (s.extract l h).size = h - l := by
  rw [ByteArray.size_extract]; omega

def bound (d : Nat) : Option TV → Option Nat
  | none => some d
  | some tv => natLit tv
def boundI (d : Int) : Option TV → Option Int
  | none => some d
  | some tv => tv.num.map fun x => x.2.2

def sliceStr (x : TV) (lo hi : Option TV) : Option (List Prop × TV) :=
  match x with
  | .sv (.one (.strn s m hs)) =>
    (match bound 0 lo, bound m hi with
    | some l, some h => if hh : l ≤ h ∧ h ≤ m then some ([], .sv (.one (.strn (s.extract l h) (h - l) (size_extract' hs hh.2)))) else none
    | _, _ => match boundI 0 lo, boundI m hi with
      | some l, some h => some ([0 ≤ l, l ≤ h, h ≤ s.size], .sv (.one (.str (s.extract l.toNat h.toNat))))
      | _, _ => none)
  | .sv (.one (.str s)) => (match boundI 0 lo, boundI s.size hi with
      | some l, some h => some ([0 ≤ l, l ≤ h, h ≤ s.size], .sv (.one (.str (s.extract l.toNat h.toNat))))
      | _, _ => none)
  | _ => none

def optIs (β : Env) : Option TV → Option Value → Prop
  | none, none => True
  | some tv, some v => tv.is β v
  | _, _ => False

theorem bound_is {d : Nat} {o : Option TV} {n : Nat} (h : bound d o = some n) {β : Env} {ov : Option Value} (r : optIs β o ov) : (ov = none ∧ n = d) ∨ ∃ k, ov = some (.int k (n : Int)) := by
  cases o with
  | none => cases ov with
    | none => simp [bound] at h; exact .inl ⟨rfl, h.symm⟩
    | some v => exact r.elim
  | some tv => cases ov with
    | none => exact r.elim
    | some v => obtain ⟨k, e⟩ := natLit_is h r; exact .inr ⟨k, by rw [e]⟩
theorem boundI_is {d : Int} {o : Option TV} {n : Int} (h : boundI d o = some n) {β : Env} {ov : Option Value} (r : optIs β o ov) : (ov = none ∧ n = d) ∨ ∃ k, ov = some (.int k n) := by
  cases o with
  | none => cases ov with
    | none => simp [boundI] at h; exact .inl ⟨rfl, h.symm⟩
    | some v => exact r.elim
  | some tv => cases ov with
    | none => exact r.elim
    | some v =>
      simp only [boundI] at h
      cases hnum : tv.num with
      | none => rw [hnum] at h; cases h
      | some x =>
        obtain ⟨l, k, m⟩ := x
        rw [hnum] at h; simp at h; subst h
        exact .inr ⟨k, by rw [TV.num_is hnum r]⟩

theorem run_sliceStr {P : Program} {t : TypeId} (hu : P.underlying t = some .string) (s : ByteArray) {lo hi : Option Value} {l h : Int}
    (hl : (lo = none ∧ l = 0) ∨ ∃ k, lo = some (.int k l)) (hh : (hi = none ∧ h = s.size) ∨ ∃ k, hi = some (.int k h)) (h0 : 0 ≤ l) (h1 : l ≤ h) (h2 : h ≤ s.size) (w : World) :
    (Instr.sliceAt t (.string s) lo hi none).run P w = .ok (.string (s.extract l.toNat h.toNat)) w := by
  have h01 : 0 ≤ h := by omega
  have e1 : (h.toNat : Int) = h := by omega
  rcases hl with ⟨rfl, rfl⟩ | ⟨k, rfl⟩ <;> rcases hh with ⟨rfl, rfl⟩ | ⟨k', rfl⟩ <;>
    simp [Instr.sliceAt, Instr.slice, run_underlying hu, Instr.sliceBounds, Instr.sliceBound, asIntOf, h0, h1, h2, h01, e1]

theorem sliceStr_sound {P : Program} {t : TypeId} (hu : P.underlying t = some .string) {x : TV} {lo hi : Option TV} {need : List Prop} {tv : TV} (h : sliceStr x lo hi = some (need, tv)) (hn : ∀ p ∈ need, p)
    {β : Env} {u : Value} {lv hv : Option Value} (r : x.is β u) (rl : optIs β lo lv) (rh : optIs β hi hv) (w : World) :
    ∃ v, (Instr.sliceAt t u lv hv none).run P w = .ok v w ∧ tv.is β v := by
  unfold sliceStr at h
  split at h
  · rename_i s m hs
    have e : u = .string s := r
    subst e
    split at h
    · rename_i l h' hl hh
      split at h
      · rename_i hc
        cases h
        have b1 := bound_is hl rl
        have b2 := bound_is hh rh
        refine ⟨_, run_sliceStr hu s (l := l) (h := h') ?_ ?_ (by omega) (by omega) (by omega) w, ?_⟩
        · rcases b1 with ⟨a, b⟩ | ⟨k, b⟩
          · exact .inl ⟨a, by omega⟩
          · exact .inr ⟨k, b⟩
        · rcases b2 with ⟨a, b⟩ | ⟨k, b⟩
          · exact .inl ⟨a, by omega⟩
          · exact .inr ⟨k, b⟩
        · rfl
      · cases h
    · split at h
      · rename_i l h' hl hh
        cases h
        have b1 := boundI_is hl rl
        have b2 := boundI_is hh rh
        refine ⟨_, run_sliceStr hu s (l := l) (h := h') b1 ?_ (hn _ (by simp)) (hn _ (by simp)) (hn _ (by simp)) w, rfl⟩
        rcases b2 with ⟨a, b⟩ | ⟨k, b⟩
        · exact .inl ⟨a, by omega⟩
        · exact .inr ⟨k, b⟩
      · cases h
  · rename_i s
    have e : u = .string s := r
    subst e
    split at h
    · rename_i l h' hl hh
      cases h
      exact ⟨_, run_sliceStr hu s (l := l) (h := h') (boundI_is hl rl) (boundI_is hh rh) (hn _ (by simp)) (hn _ (by simp)) (hn _ (by simp)) w, rfl⟩
    · cases h
  · cases h

def sliceMem (P : Program) (t : TypeId) (x : TV) (lo hi : Option TV) : Option TV :=
  match P.underlying t, x with
  | some (.array n elem), .sv (.one (.ptr b off)) => match bound 0 lo, bound n hi, P.info? elem with
    | some l, some h, some inf => if l ≤ h ∧ h ≤ n then some (.sv (.one (.slc b (if n = l then off else off + l * inf.size) (h - l) (some (n - l))))) else none
    | _, _, _ => none
  | some (.slice elem), .sv (.one (.slc b off len cap)) => match bound 0 lo, bound len hi, P.info? elem with
    | some l, some h, some inf =>
      if l ≤ h ∧ h ≤ cap.getD len ∧ (l = 0 ∨ l < cap.getD len) ∧ (cap = none → inf.size = 1) then some (.sv (.one (.slc b (off + l * inf.size) (h - l) (cap.map (· - l))))) else none
    | _, _, _ => none
  | some (.slice elem), .sv (.one (.frz k L len)) => match bound 0 lo, bound len hi, P.info? elem with
    | some l, some h, some inf =>
      if l ≤ h ∧ h ≤ len ∧ (l = 0 ∨ l < len) ∧ inf.size = 1 then some (.sv (.one (.frz k (L.drop l) (h - l)))) else none
    | _, _, _ => none
  | _, _ => none
theorem sliceMem_sound {P : Program} {t : TypeId} {x : TV} {lo hi : Option TV} {tv : TV} (h : sliceMem P t x lo hi = some tv)
    {β : Env} {u : Value} {lv hv : Option Value} (r : x.is β u) (rl : optIs β lo lv) (rh : optIs β hi hv) (w : World) :
    ∃ v, (Instr.sliceAt t u lv hv none).run P w = .ok v w ∧ tv.is β v := by
  unfold sliceMem at h
  split at h
  · rename_i n elem b off hu
    split at h
    · rename_i l h' inf hl hh hinf
      split at h
      · rename_i hc
        cases h
        obtain ⟨k, hb, e⟩ := r
        subst e
        refine ⟨.slice (some (if n - l = 0 then ⟨k, off, none⟩ else ⟨k, off + l * inf.size, none⟩)) (h' - l) (n - l), ?_, ?_⟩
        · have b1 := bound_is hl rl
          have b2 := bound_is hh rh
          have hq : (n = l) ↔ (n - l = 0) := by omega
          rcases b1 with ⟨rfl, rfl⟩ | ⟨k1, rfl⟩ <;> rcases b2 with ⟨rfl, rfl⟩ | ⟨k2, rfl⟩ <;>
            simp [Instr.sliceAt, run_underlying hu, Instr.sureAddr, Instr.sliceBounds, Instr.sliceBound, asIntOf, run_sizeOf' hinf, add_plain, hc.1, hc.2, hq] <;> (split <;> rfl)
        · refine ⟨k, n - l, hb, ?_, by omega, ?_, ?_⟩
          · intro m hm; cases hm; rfl
          · intro hm; cases hm
          · by_cases hnl : n = l
            · subst hnl; simp
            · rw [if_neg (by omega), if_neg hnl]
      · cases h
    · cases h
  · rename_i elem b off len cap hu
    split at h
    · rename_i l h' inf hl hh hinf
      split at h
      · rename_i hc
        cases h
        obtain ⟨k, c, hb, hcap, hle, hroom, e⟩ := r
        subst e
        have hg : cap.getD len ≤ c := by
          cases cap with
          | none => simpa using hle
          | some m => simp [hcap m rfl]
        obtain ⟨c1, c2, c3, c4⟩ := hc
        refine ⟨.slice (some ⟨k, off + l * inf.size, none⟩) (h' - l) (c - l), ?_, ?_⟩
        · have b1 := bound_is hl rl
          have b2 := bound_is hh rh
          have e6 : h' ≤ c := by omega
          have key : c = l → l = 0 := by omega
          rcases b1 with ⟨rfl, rfl⟩ | ⟨k1, rfl⟩ <;> rcases b2 with ⟨rfl, rfl⟩ | ⟨k2, rfl⟩ <;>
            simp [Instr.sliceAt, Instr.slice, run_underlying hu, Instr.sliceBounds, Instr.sliceBound, asIntOf, run_sizeOf' hinf, c1, e6, add_plain] <;> (intro hcl; simp [key hcl])
        · refine ⟨k, c - l, hb, ?_, by omega, ?_, rfl⟩
          · intro m hm
            cases cap with
            | none => simp at hm
            | some m' => simp at hm; rw [hcap m' rfl]; exact hm
          · intro hm
            cases cap with
            | none => have := hroom rfl; rw [c4 rfl]; simp only [Option.getD_none] at c2; omega
            | some m' => simp at hm
      · cases h
    · cases h
  · rename_i elem k L len hu
    split at h
    · rename_i l h' inf hl hh hinf
      split at h
      · rename_i hc
        cases h
        obtain ⟨b, off, c, hle, e, hf⟩ := r
        subst e
        obtain ⟨c1, c2, c3, c4⟩ := hc
        refine ⟨.slice (some ⟨b, off + l, none⟩) (h' - l) (c - l), ?_, ?_⟩
        · have b1 := bound_is hl rl
          have b2 := bound_is hh rh
          have e6 : h' ≤ c := by omega
          have key : c = l → l = 0 := by omega
          rcases b1 with ⟨rfl, rfl⟩ | ⟨k1, rfl⟩ <;> rcases b2 with ⟨rfl, rfl⟩ | ⟨k2, rfl⟩ <;>
            simp [Instr.sliceAt, Instr.slice, run_underlying hu, Instr.sliceBounds, Instr.sliceBound, asIntOf, run_sizeOf' hinf, c1, c4, e6, add_plain] <;> (intro hcl; simp [key hcl])
        · refine ⟨b, off + l, c - l, by omega, rfl, hf.lt, hf.no, hf.far, ?_⟩
          obtain ⟨cs, t', fr, h1, h2⟩ := hf.cells
          refine ⟨cs, t', fr, h1, fun j hj => ?_⟩
          rw [Nat.add_assoc, h2 (l + j) (by omega)]
          simp
      · cases h
    · cases h
  · cases h

/-! ### Slices of any length -/
def sliceSeq (P : Program) (t : TypeId) (n len : Nat) (lo hi : Option TV) : Option (List Prop × TV) :=
  match P.underlying t, boundI 0 lo, boundI len hi with
  | some (.slice elem), some l, some h => match P.info? elem with
    | some inf => if inf.size = 1 then some ([0 ≤ l, l ≤ h, h ≤ len], .sv (.one (.sqs n l.toNat h.toNat))) else none
    | none => none
  | _, _, _ => none
theorem sliceSeq_sound {P : Program} {t : TypeId} {n len : Nat} {lo hi : Option TV} {need : List Prop} {tv : TV} (h : sliceSeq P t n len lo hi = some (need, tv)) (hn : ∀ p ∈ need, p)
    {β : Env} {u : Value} {lv hv : Option Value} (r : (RC.sq n len).is β u) (rl : optIs β lo lv) (rh : optIs β hi hv) (w : World) :
    ∃ v, (Instr.sliceAt t u lv hv none).run P w = .ok v w ∧ tv.is β v := by
  unfold sliceSeq at h
  split at h
  · rename_i elem l h' hu hl hh
    split at h
    · rename_i inf hinf
      split at h
      · rename_i hsz
        cases h
        have n1 : 0 ≤ l := hn _ (by simp)
        have n2 : l ≤ h' := hn _ (by simp)
        have n3 : h' ≤ len := hn _ (by simp)
        obtain ⟨l, rfl⟩ := Int.eq_ofNat_of_zero_le n1
        obtain ⟨h', rfl⟩ := Int.eq_ofNat_of_zero_le (show 0 ≤ h' by omega)
        have e2 : l ≤ h' := by omega
        have e3 : h' ≤ len := by omega
        have b1 := boundI_is hl rl
        have b2 := boundI_is hh rh
        rcases r with ⟨b, c, hb, hle, hroom, e⟩ | ⟨e0, e⟩
        · subst e
          have e6 : h' ≤ c := by omega
          have key : c = l → l = 0 ∨ h' = l := by omega
          have hrun : (Instr.sliceAt t (.slice (some ⟨b, 0, none⟩) len c) lv hv none).run P w = .ok (.slice (some ⟨b, if c = l then 0 else l, none⟩) (h' - l) (c - l)) w := by
            have fin : ∀ (lv hv : Option Value), (lv = none ∧ l = 0 ∨ ∃ k, lv = some (.int k (l : Int))) → (hv = none ∧ h' = len ∨ ∃ k, hv = some (.int k (h' : Int))) →
                (Instr.sliceAt t (.slice (some ⟨b, 0, none⟩) len c) lv hv none).run P w = .ok (.slice (some ⟨b, if c = l then 0 else l, none⟩) (h' - l) (c - l)) w := by
              rintro lv hv (⟨rfl, q1⟩ | ⟨k1, rfl⟩) (⟨rfl, q2⟩ | ⟨k2, rfl⟩)
              · subst q1; subst q2
                simp [Instr.sliceAt, Instr.slice, run_underlying hu, Instr.sliceBounds, run_sizeOf' hinf, e6, add_plain, hsz]
              · subst q1
                simp [Instr.sliceAt, Instr.slice, run_underlying hu, Instr.sliceBounds, Instr.sliceBound, asIntOf, run_sizeOf' hinf, e2, e6, add_plain, hsz]
              · subst q2
                simp [Instr.sliceAt, Instr.slice, run_underlying hu, Instr.sliceBounds, Instr.sliceBound, asIntOf, run_sizeOf' hinf, e2, e6, add_plain, hsz]
                split <;> rfl
              · simp [Instr.sliceAt, Instr.slice, run_underlying hu, Instr.sliceBounds, Instr.sliceBound, asIntOf, run_sizeOf' hinf, e2, e6, add_plain, hsz]
                split <;> rfl
            exact fin lv hv (b1.imp (fun h => ⟨h.1, by have := h.2; omega⟩) id) (b2.imp (fun h => ⟨h.1, by have := h.2; omega⟩) id)
          refine ⟨_, hrun, ?_⟩
          simp only [Int.toNat_natCast, TV.is, SV.is]
          rcases Nat.lt_or_ge l h' with hlt | hge
          · rw [if_neg (by omega)]
            exact .inl ⟨hlt, b, c - l, hb, by omega, rfl⟩
          · have : h' - l = 0 := by omega
            rw [this]
            exact .inr ⟨by omega, c - l, .inr ⟨b, _, rfl⟩⟩
        · subst e
          have z1 : l = 0 := by omega
          have z2 : h' = 0 := by omega
          subst z1; subst z2
          have hrun : (Instr.sliceAt t (.slice none 0 0) lv hv none).run P w = .ok (.slice none 0 0) w := by
            rcases b1 with ⟨rfl, q1⟩ | ⟨k1, rfl⟩ <;> rcases b2 with ⟨rfl, q2⟩ | ⟨k2, rfl⟩ <;>
              simp [Instr.sliceAt, Instr.slice, run_underlying hu, Instr.sliceBounds, Instr.sliceBound, asIntOf, run_sizeOf' hinf]
          exact ⟨_, hrun, .inr ⟨rfl, 0, .inl rfl⟩⟩
      · cases h
    · cases h
  · cases h

def indexSeq (P : Program) (t : TypeId) (n len : Nat) (ix : TV) : Option (List Prop × TV) :=
  match P.underlying t, ix.num with
  | some (.slice elem), some (_, _, i) => match P.info? elem with
    | some inf => if inf.size = 1 then some ([0 ≤ i, i < len], .sv (.one (.sqp n i.toNat))) else none
    | none => none
  | _, _ => none
theorem indexSeq_sound {P : Program} {t : TypeId} {n len : Nat} {ix : TV} {need : List Prop} {tv : TV} (h : indexSeq P t n len ix = some (need, tv)) (hn : ∀ p ∈ need, p)
    {β : Env} {u y : Value} (r : (RC.sq n len).is β u) (ry : ix.is β y) (w : World) :
    ∃ v, (Instr.indexAt t u y).run P w = .ok v w ∧ tv.is β v := by
  unfold indexSeq at h
  split at h
  · rename_i elem l k i hu hi
    split at h
    · rename_i inf hinf
      split at h
      · rename_i hsz
        cases h
        have n1 : 0 ≤ i := hn _ (by simp)
        have n2 : i < len := hn _ (by simp)
        have e := TV.num_is hi ry
        subst e
        obtain ⟨i, rfl⟩ := Int.eq_ofNat_of_zero_le n1
        have e2 : i < len := by omega
        rcases r with ⟨b, c, hb, hle, hroom, e⟩ | ⟨e0, e⟩
        · subst e
          exact ⟨.pointer (some ⟨b, i, none⟩), by simp [Instr.indexAt, asIntOf, run_underlying hu, run_sizeOf' hinf, add_plain, e2, hsz], b, hb, by simp⟩
        · omega
      · cases h
    · cases h
  · cases h

/-- A place in an array that is told by its number alone. -/
def indexArr (P : Program) (t : TypeId) (n off : Nat) (ix : TV) : Option (List Prop × TV) :=
  match P.underlying t, ix.num with
  | some (.array len elem), some (_, _, i) => match P.info? elem with
    | some inf => if inf.size = 1 then some ([0 ≤ i, i < len], .sv (.one (.sqp n (off + i.toNat)))) else none
    | none => none
  | _, _ => none
theorem indexArr_sound {P : Program} {t : TypeId} {n off : Nat} {ix : TV} {need : List Prop} {tv : TV} (h : indexArr P t n off ix = some (need, tv)) (hn : ∀ p ∈ need, p)
    {β : Env} {u y : Value} (r : (RC.ptr n off).is β u) (ry : ix.is β y) (w : World) :
    ∃ v, (Instr.indexAt t u y).run P w = .ok v w ∧ tv.is β v := by
  unfold indexArr at h
  split at h
  · rename_i len elem l k i hu hi
    split at h
    · rename_i inf hinf
      split at h
      · rename_i hsz
        cases h
        have n1 : 0 ≤ i := hn _ (by simp)
        have n2 : i < len := hn _ (by simp)
        have e := TV.num_is hi ry
        subst e
        obtain ⟨i, rfl⟩ := Int.eq_ofNat_of_zero_le n1
        have e2 : i < len := by omega
        obtain ⟨b, hb, e⟩ := r
        subst e
        exact ⟨.pointer (some ⟨b, off + i, none⟩), by simp [Instr.indexAt, asIntOf, run_underlying hu, Instr.sureAddr, run_sizeOf' hinf, add_plain, e2, hsz], b, hb, by simp⟩
      · cases h
    · cases h
  · cases h

/-- A place in a slice that is told by its number alone. -/
def indexSlc (P : Program) (t : TypeId) (n off len : Nat) (ix : TV) : Option (List Prop × TV) :=
  match P.underlying t, ix.num with
  | some (.slice elem), some (_, _, i) => match P.info? elem with
    | some inf => if inf.size = 1 then some ([0 ≤ i, i < len], .sv (.one (.sqp n (off + i.toNat)))) else none
    | none => none
  | _, _ => none
theorem indexSlc_sound {P : Program} {t : TypeId} {n off len : Nat} {cap : Option Nat} {ix : TV} {need : List Prop} {tv : TV} (h : indexSlc P t n off len ix = some (need, tv)) (hn : ∀ p ∈ need, p)
    {β : Env} {u y : Value} (r : (RC.slc n off len cap).is β u) (ry : ix.is β y) (w : World) :
    ∃ v, (Instr.indexAt t u y).run P w = .ok v w ∧ tv.is β v := by
  unfold indexSlc at h
  split at h
  · rename_i elem l k i hu hi
    split at h
    · rename_i inf hinf
      split at h
      · rename_i hsz
        cases h
        have n1 : 0 ≤ i := hn _ (by simp)
        have n2 : i < len := hn _ (by simp)
        have e := TV.num_is hi ry
        subst e
        obtain ⟨i, rfl⟩ := Int.eq_ofNat_of_zero_le n1
        have e2 : i < len := by omega
        obtain ⟨b, c, hb, _, _, _, e⟩ := r
        subst e
        exact ⟨.pointer (some ⟨b, off + i, none⟩), by simp [Instr.indexAt, asIntOf, run_underlying hu, run_sizeOf' hinf, add_plain, e2, hsz], b, hb, by simp⟩
      · cases h
    · cases h
  · cases h
/-- The numbers of an object that nobody writes. -/
def CV.numsL (k : IntKind) : List CV → Option (List Int)
  | [] => some []
  | .lit k' n :: r => match CV.numsL k r with
    | some l => if k' = k then some (n :: l) else none
    | none => none
  | .int k' n :: r => match CV.numsL k r with
    | some l => if k' = k then some (n :: l) else none
    | none => none
  | _ :: _ => none
theorem CV.numsL_is {β : Env} {k : IntKind} : ∀ {cs : List CV} {l : List Int} {vs : List Value}, CV.numsL k cs = some l → all2 (CV.is β) cs vs → vs = l.map (Value.int k)
  | [], l, vs, h, r => by simp [CV.numsL] at h; subst h; rw [all2_nil_left r]; rfl
  | c :: cs, l, vs, h, r => by
    obtain ⟨v, vs', rfl, r1, r2⟩ := all2_cons_left r
    cases c <;> simp only [CV.numsL] at h <;> try (cases h; done)
    all_goals
      split at h
      · rename_i l' hl
        split at h
        · rename_i hk
          subst hk
          cases h
          rw [CV.numsL_is hl r2]
          simp only [CV.is] at r1
          rw [r1]; rfl
        · cases h
      · cases h
def CV.kind? : List CV → Option IntKind
  | .lit k _ :: _ => some k
  | .int k _ :: _ => some k
  | _ => none
/-- A place in an array that nobody writes, told by its number alone. -/
def indexCo (P : Program) (t : TypeId) (cs : List CV) (off : Nat) (ix : TV) : Option (List Prop × TV) :=
  match P.underlying t, ix.num, CV.kind? cs, off with
  | some (.array len elem), some (_, _, i), some k, 0 => match P.info? elem, CV.numsL k cs with
    | some inf, some L => if inf.size = 1 ∧ L.length = len then some ([0 ≤ i, i < len], .sv (.one (.fpt k L len i.toNat))) else none
    | _, _ => none
  | _, _, _, _ => none
theorem indexCo_sound {P : Program} {t : TypeId} {cs : List CV} {off : Nat} {ix : TV} {need : List Prop} {tv : TV} (h : indexCo P t cs off ix = some (need, tv)) (hn : ∀ p ∈ need, p)
    {β : Env} {u y : Value} (r : (RC.co cs off).is β u) (ry : ix.is β y) (w : World) :
    ∃ v, (Instr.indexAt t u y).run P w = .ok v w ∧ tv.is β v := by
  unfold indexCo at h
  split at h
  · rename_i len elem l k' i k hu hi hk
    split at h
    · rename_i inf L hinf hL
      split at h
      · rename_i hsz
        obtain ⟨hsz, hlen⟩ := hsz
        cases h
        have n1 : 0 ≤ i := hn _ (by simp)
        have n2 : i < len := hn _ (by simp)
        have e := TV.num_is hi ry
        subst e
        obtain ⟨i, rfl⟩ := Int.eq_ofNat_of_zero_le n1
        have e2 : i < len := by omega
        simp only [RC.is, CV.is] at r
        obtain ⟨b, e, ho, vs, more, bt, fr, hb, hc⟩ := r
        subst e
        rw [CV.isL_all2] at hc
        have hv := CV.numsL_is hL hc
        subst hv
        refine ⟨.pointer (some ⟨b, i, none⟩), by simp [Instr.indexAt, asIntOf, run_underlying hu, Instr.sureAddr, run_sizeOf' hinf, add_plain, e2, hsz], b, 0, by simp, by simpa using e2, ho.1, ho.2.1, ho.2.2, _, _, _, hb, fun j hj => ?_⟩
        simp [List.getElem?_append_left (show j < (L.map (Value.int k)).length by simp; omega), List.getElem?_eq_getElem (show j < L.length by omega)]
      · cases h
    · cases h
  · cases h

end Go.Proofs.Ytihmhnfjdkkbgaa.RX
