/- RX, part G: operations that read, make and write memory. -/
import Derived.Test.YtihmhnfjdkkbgaaRxF
import Derived.IntWalk
noncomputable section
namespace Go.Proofs.Ytihmhnfjdkkbgaa.RX
set_option linter.unusedSimpArgs false
open Go Go.RowKit

/-! ### Reading -/
theorem Holds.cell {β : Env} {w : World} {k : Nat} {t : TypeId} {cs : List RC} (h : Holds β w k t cs) {i : Nat} {c : RC} (hc : cs[i]? = some c) : ∃ v, w.cell? ⟨k, i, none⟩ = some v ∧ c.is β v := by
  obtain ⟨vs, more, fr, h1, h2, _⟩ := h
  obtain ⟨v, hv, r⟩ := all2_get i h2 hc
  refine ⟨v, ?_, r⟩
  have hlt : i < vs.length := by
    rcases Nat.lt_or_ge i vs.length with h' | h'
    · exact h'
    · simp [List.getElem?_eq_none h'] at hv
  simp [World.cell?, h1, List.getElem?_append_left hlt, hv]
theorem Holds.frozen {β : Env} {w : World} {k : Nat} {t : TypeId} {cs : List RC} (h : Holds β w k t cs) {i : Nat} (hi : i < cs.length) : w.frozen? ⟨k, i, none⟩ = false := by
  obtain ⟨vs, more, fr, h1, h2, h3⟩ := h
  have hl := all2_length h2
  have := h3 i (by simp; omega)
  simp only [World.frozen?, h1]
  simpa using this

def blkAt (mem : List Slot) (n : Nat) : Option (TypeId × List RC) :=
  match mem[n]? with
  | some (.blk t cs) => some (t, cs)
  | _ => none
theorem blkAt_eq {mem : List Slot} {n : Nat} {t : TypeId} {cs : List RC} (h : blkAt mem n = some (t, cs)) : mem[n]? = some (.blk t cs) := by
  unfold blkAt at h
  split at h
  · rename_i t' cs' e; cases h; exact e
  · cases h

/-- A cell of an object that nobody writes. -/
def CV.rc : CV → RC
  | .any => .any
  | .lit k n => .lit k n
  | .int k x => .int k x
  | .str s => .str s
  | .ptr cs off => .co cs off
  | .clo f caps => .clo f caps
theorem CV.rc_is {β : Env} {c : CV} {v : Value} (h : CV.is β c v) : (CV.rc c).is β v := by
  cases c <;> first
    | exact h
    | (simp only [CV.is] at h; exact h)
    | trivial
def loadC (P : Program) (mem : List Slot) (t : TypeId) (p : TV) : Option TV :=
  match p with
  | .sv (.one (.ptr n off)) => match blkAt mem n, isAggT P t with
    | some (_, cs), some true => match P.info? t with
      | some i => if off + i.size ≤ cs.length then some (.sv (.agg ((cs.drop off).take i.size))) else none
      | none => none
    | some (_, cs), some false => match cs[off]? with
      | some c => some (.sv (.one c))
      | none => none
    | _, _ => none
  | .sv (.one (.fpt k L n j)) => match isAggT P t with
    | some false => some (.sv (.one (.int k (L.getD j 0))))
    | some true => match P.info? t with
      | some i => if j + i.size ≤ n then some (.sv (.agg ((List.range i.size).map fun m => .int k (L.getD (j + m) 0)))) else none
      | none => none
    | _ => none
  | .sv (.one (.co cs off)) => match isAggT P t with
    | some false => match cs[off]? with
      | some c => some (.sv (.one c.rc))
      | none => none
    | some true => match P.info? t with
      | some i => if off + i.size ≤ cs.length then some (.sv (.agg (((cs.drop off).take i.size).map CV.rc))) else none
      | none => none
    | _ => none
  | _ => none

theorem all2_mapR {α δ γ : Type} {R : α → γ → Prop} {R' : δ → γ → Prop} {f : α → δ} (h : ∀ a v, R a v → R' (f a) v) : ∀ {l : List α} {vs : List γ}, all2 R l vs → all2 R' (l.map f) vs
  | [], [], _ => trivial
  | _ :: _, _ :: _, r => ⟨h _ _ r.1, all2_mapR h r.2⟩
  | [], _ :: _, r => r.elim
  | _ :: _, [], r => r.elim
section
variable {P : Program} {S : Nat → Option Nat} {B : Base} {w0 : World} {β : Env} {mem : List Slot} {w : World}

theorem MemRel.at (hm : MemRel S B w0 β mem w) {n : Nat} {t : TypeId} {cs : List RC} (h : blkAt mem n = some (t, cs)) {b : Nat} (hb : β n = some b) : Holds β w b t cs := by
  obtain ⟨k, hk, hh⟩ := hm.blk n t cs (blkAt_eq h)
  rw [hb] at hk; cases hk; exact hh

theorem loadC_sound (hm : MemRel S B w0 β mem w) {t : TypeId} {p tv : TV} (h : loadC P mem t p = some tv) {u : Value} (r : p.is β u) : ∃ v, (Instr.loadAt t u).run P w = .ok v w ∧ tv.is β v := by
  unfold loadC at h
  split at h
  · rename_i n off
    obtain ⟨b, hb, e⟩ := r
    subst e
    split at h
    · rename_i bt cs hblk hag
      split at h
      · rename_i i hi
        split at h
        · rename_i hle
          cases h
          have hh := hm.at hblk hb
          obtain ⟨vs, more, fr, h1, h2, h3⟩ := hh
          have hl := all2_length h2
          have hlen : ((vs.drop off).take i.size).length = i.size := by simp; omega
          refine ⟨.agg ⟨(vs.drop off).take i.size⟩, ?_, _, rfl, all2_take _ (all2_drop _ h2)⟩
          have hcells := run_loadCells_list (P := P) w ⟨b, off, none⟩ ((vs.drop off).take i.size) (fun j v hv => by
            have hj : j < i.size := by
              rcases Nat.lt_or_ge j i.size with h' | h'
              · exact h'
              · rw [List.getElem?_eq_none (by omega)] at hv; cases hv
            rw [List.getElem?_take_of_lt hj, List.getElem?_drop] at hv
            have hlt : off + j < vs.length := by omega
            rw [add_plain]
            simp [World.cell?, h1, List.getElem?_append_left hlt, hv])
          rw [hlen] at hcells
          simp only [Instr.loadAt, Instr.sureAddr, loadVar, Sem.run_bind, Sem.run_pure, Result.andThen_ok, run_isAgg hag, if_true, run_sizeOf' hi, hcells]
        · cases h
      · cases h
    · rename_i bt cs hblk hag
      split at h
      · rename_i c hc
        cases h
        obtain ⟨v, hv, rv⟩ := (hm.at hblk hb).cell hc
        exact ⟨v, by simp [Instr.loadAt, Instr.sureAddr, loadVar, run_isAgg hag, hv], rv⟩
      · cases h
    · cases h
  · rename_i k L n j
    split at h
    · rename_i hag
      cases h
      obtain ⟨b, off, e, hj, hf⟩ := r
      subst e
      obtain ⟨cs, bt, fr, hb, hc⟩ := hf.cells
      rw [hm.wd] at hb
      have hcell : w.cell? ⟨b, off + j, none⟩ = some (.int k (L.getD j 0)) := by simp only [World.cell?, hb]; exact hc j hj
      exact ⟨.int k (L.getD j 0), by simp only [Instr.loadAt, Instr.sureAddr, loadVar, Sem.run_pure, Sem.run_bind, Result.andThen_ok, run_isAgg hag, Bool.false_eq_true, if_false, run_load, hcell], rfl⟩
    · rename_i hag
      split at h
      · rename_i i hi
        split at h
        · rename_i hle
          cases h
          obtain ⟨b, off, e, hj, hf⟩ := r
          subst e
          obtain ⟨cs, bt, fr, hb, hc⟩ := hf.cells
          rw [hm.wd] at hb
          refine ⟨.agg ⟨(List.range i.size).map fun m => .int k (L.getD (j + m) 0)⟩, ?_, _, rfl, all2_map (R := RC.is β) (fun m => RC.int k (L.getD (j + m) 0)) (fun m => Value.int k (L.getD (j + m) 0)) (fun _ => rfl) _⟩
          have hcells := run_loadCells_list (P := P) w ⟨b, off + j, none⟩ ((List.range i.size).map fun m => Value.int k (L.getD (j + m) 0)) (fun m v hv => by
            have hlt : m < i.size := by
              rcases Nat.lt_or_ge m i.size with h' | h'
              · exact h'
              · rw [List.getElem?_eq_none (by simpa using h')] at hv; cases hv
            rw [List.getElem?_map, List.getElem?_range hlt] at hv
            rw [add_plain]
            simp only [World.cell?, hb, Nat.add_assoc]
            rw [hc (j + m) (by omega)]
            exact hv)
          rw [List.length_map, List.length_range] at hcells
          simp only [Instr.loadAt, Instr.sureAddr, loadVar, Sem.run_bind, Sem.run_pure, Result.andThen_ok, run_isAgg hag, if_true, run_sizeOf' hi, hcells]
        · cases h
      · cases h
    · cases h
  · rename_i cs off
    simp only [TV.is, SV.is, RC.is, CV.is] at r
    obtain ⟨b, e, ho, vs, more, bt, fr, hb, hc⟩ := r
    subst e
    rw [hm.wd] at hb
    rw [CV.isL_all2] at hc
    have hvl := all2_length hc
    split at h
    · rename_i hag
      split at h
      · rename_i c hcs
        cases h
        obtain ⟨v, hv, rv⟩ := all2_get off hc hcs
        have hlt : off < vs.length := by
          rcases Nat.lt_or_ge off vs.length with h' | h'
          · exact h'
          · rw [List.getElem?_eq_none h'] at hv; cases hv
        have hcell : w.cell? ⟨b, off, none⟩ = some v := by simp [World.cell?, hb, List.getElem?_append_left hlt, hv]
        exact ⟨v, by simp [Instr.loadAt, Instr.sureAddr, loadVar, run_isAgg hag, hcell], CV.rc_is rv⟩
      · cases h
    · rename_i hag
      split at h
      · rename_i i hi
        split at h
        · rename_i hle
          cases h
          have hlen : ((vs.drop off).take i.size).length = i.size := by simp; omega
          refine ⟨.agg ⟨(vs.drop off).take i.size⟩, ?_, _, rfl, all2_mapR (fun _ _ q => CV.rc_is q) (all2_take _ (all2_drop _ hc))⟩
          have hcells := run_loadCells_list (P := P) w ⟨b, off, none⟩ ((vs.drop off).take i.size) (fun m v hv => by
            have hlt : m < i.size := by
              rcases Nat.lt_or_ge m i.size with h' | h'
              · exact h'
              · rw [List.getElem?_eq_none (by omega)] at hv; cases hv
            rw [List.getElem?_take_of_lt hlt, List.getElem?_drop] at hv
            rw [add_plain]
            have hlt2 : off + m < vs.length := by omega
            simp [World.cell?, hb, List.getElem?_append_left hlt2, hv])
          rw [hlen] at hcells
          simp only [Instr.loadAt, Instr.sureAddr, loadVar, Sem.run_bind, Sem.run_pure, Result.andThen_ok, run_isAgg hag, if_true, run_sizeOf' hi, hcells]
        · cases h
      · cases h
    · cases h
  · cases h

/-- A slice of bytes as a string. -/
def bytesStr (P : Program) (mem : List Slot) (src dst : TypeId) (x : TV) : Option TV :=
  match P.underlying src, P.underlying dst with
  | some (.slice e), some .string => match P.underlying e, x with
    | some (.int .u8), .sv (.one (.slc n off len _)) => match blkAt mem n with
      | some (_, cs) => match numsOf .u8 ((cs.drop off).take len) with
        | some xs => if h : xs.length = len then some (.sv (.one (.strn (strOfNums xs) len ((strOfNums_size xs).trans h)))) else none
        | none => none
      | none => none
    | some (.int .u8), .sv (.one (.frz .u8 L len)) => some (.sv (.one (.strn (strOfNums ((List.range len).map fun j => L.getD j 0)) len (by rw [strOfNums_size]; simp))))
    | some (.int .u8), .sv (.one (.val (.slice none 0 0))) => some (.sv (.one (.strn .empty 0 rfl)))
    | _, _ => none
  | _, _ => none

theorem bytesStr_sound (hm : MemRel S B w0 β mem w) {src dst : TypeId} {x tv : TV} (h : bytesStr P mem src dst x = some tv) {u : Value} (r : x.is β u) : ∃ v, (convert src dst u).run P w = .ok v w ∧ tv.is β v := by
  unfold bytesStr at h
  split at h
  · rename_i e hs hd
    split at h
    · rename_i n off len cap he
      split at h
      · rename_i bt cs hblk
        split at h
        · rename_i xs hx
          split at h
          · rename_i hlen
            cases h
            obtain ⟨b, c, hb, _, _, _, ev⟩ := r
            subst ev
            obtain ⟨vs, more, fr, h1, h2, h3⟩ := hm.at hblk hb
            have hv := numsOf_is hx (all2_take len (all2_drop off h2))
            refine ⟨.string (strOfNums xs), ?_, rfl⟩
            refine run_convert_bytes_arg w src e hs he b off len c xs hlen (fun i hi => ?_) dst hd
            have e1 : ((vs.drop off).take len)[i]? = some (.int .u8 (xs.getD i 0)) := by
              rw [hv]
              simp [List.getElem?_eq_getElem (show i < xs.length by omega)]
            rw [List.getElem?_take_of_lt hi, List.getElem?_drop] at e1
            have hlt : off + i < vs.length := by
              rcases Nat.lt_or_ge (off + i) vs.length with h' | h'
              · exact h'
              · rw [List.getElem?_eq_none h'] at e1; cases e1
            simp [World.cell?, h1, List.getElem?_append_left hlt, e1]
          · cases h
        · cases h
      · cases h
    · rename_i L len he
      cases h
      obtain ⟨b, off, c, _, ev, hf⟩ := r
      subst ev
      obtain ⟨cs, bt, fr, hb, hc⟩ := hf.cells
      rw [hm.wd] at hb
      refine ⟨_, run_convert_bytes_arg w src e hs he b off len c _ (by simp) (fun i hi => ?_) dst hd, rfl⟩
      simp only [World.cell?, hb]
      rw [hc i hi]
      simp [hi]
    · rename_i he
      cases h
      have ev : u = .slice none 0 0 := r
      subst ev
      exact ⟨_, run_convert_bytes_nil w src e hs he 0 0 dst hd, rfl⟩
    · cases h
  · cases h

/-! ### Reading what has any length -/
def seqAt (mem : List Slot) (n : Nat) : Option (TypeId × IntKind × List Int) :=
  match mem[n]? with
  | some (.seq t k L) => some (t, k, L)
  | _ => none
theorem seqAt_eq {mem : List Slot} {n : Nat} {t : TypeId} {k : IntKind} {L : List Int} (h : seqAt mem n = some (t, k, L)) : mem[n]? = some (.seq t k L) := by
  unfold seqAt at h
  split at h
  · rename_i t' k' L' e; cases h; exact e
  · cases h
/-- The numbers that a block holds. -/
def numsAt (mem : List Slot) (n : Nat) : Option (IntKind × List Int) :=
  match mem[n]? with
  | some (.seq _ k L) => some (k, L)
  | some (.blk _ (c :: cs)) => match c.num with
    | some (_, k, _) => match numsOf k (c :: cs) with
      | some L => some (k, L)
      | none => none
    | none => none
  | _ => none
def loadSeq (P : Program) (mem : List Slot) (t : TypeId) (n j : Nat) : Option (List Prop × TV) :=
  match numsAt mem n, isAggT P t with
  | some (k, L), some false => some ([j < L.length], .sv (.one (.int k (L.getD j 0))))
  | _, _ => none
theorem HoldsS.cell {w : World} {b : Nat} {t : TypeId} {k : IntKind} {L : List Int} (h : HoldsS w b t k L) {j : Nat} (hj : j < L.length) : w.cell? ⟨b, j, none⟩ = some (.int k (L.getD j 0)) := by
  obtain ⟨more, fr, h1, _⟩ := h
  have hl : (L.map (Value.int k)).length = L.length := by simp
  simp [World.cell?, h1, List.getElem?_append_left (show j < (L.map (Value.int k)).length by omega), List.getElem?_eq_getElem hj]
theorem numsAt_cell (hm : MemRel S B w0 β mem w) {n b : Nat} {k : IntKind} {L : List Int} (h : numsAt mem n = some (k, L)) (hb : β n = some b) {j : Nat} (hj : j < L.length) : w.cell? ⟨b, j, none⟩ = some (.int k (L.getD j 0)) := by
  unfold numsAt at h
  split at h
  · rename_i t k' L' e
    cases h
    exact ((hm.seq n t k L e).1 b hb).cell hj
  · rename_i t c cs e
    split at h
    · rename_i l k' x hc
      split at h
      · rename_i L' hL
        cases h
        obtain ⟨b', hb', hh⟩ := hm.blk n t _ e
        rw [hb] at hb'; cases hb'
        obtain ⟨vs, more, fr, h1, h2, h3⟩ := hh
        have hv := numsOf_is hL h2
        subst hv
        simp [World.cell?, h1, List.getElem?_append_left (show j < (L.map (Value.int k)).length by simpa using hj), List.getElem?_eq_getElem hj]
      · cases h
    · cases h
  · cases h
theorem loadSeq_sound (hm : MemRel S B w0 β mem w) {t : TypeId} {n j : Nat} {need : List Prop} {tv : TV} (h : loadSeq P mem t n j = some (need, tv)) (hn : ∀ p ∈ need, p) {u : Value} (r : (RC.sqp n j).is β u) : ∃ v, (Instr.loadAt t u).run P w = .ok v w ∧ tv.is β v := by
  unfold loadSeq at h
  split at h
  · rename_i k L hs hag
    cases h
    have hj : j < L.length := hn _ (by simp)
    obtain ⟨b, hb, e⟩ := r
    subst e
    have hc := numsAt_cell hm hs hb hj
    exact ⟨_, by simp only [Instr.loadAt, Instr.sureAddr, loadVar, Sem.run_bind, Sem.run_pure, Result.andThen_ok, run_isAgg hag, Bool.false_eq_true, if_false, run_load, hc], rfl⟩
  · cases h
def strU8 (P : Program) (src dst : TypeId) : Bool :=
  match P.underlying src, P.underlying dst with
  | some (.slice e), some .string => (match P.underlying e with
    | some (.int .u8) => true
    | _ => false)
  | _, _ => false
theorem strU8_is {P : Program} {src dst : TypeId} (h : strU8 P src dst = true) : ∃ e, P.underlying src = some (.slice e) ∧ P.underlying dst = some .string ∧ P.underlying e = some (.int .u8) := by
  unfold strU8 at h
  split at h
  · rename_i e h1 h2
    split at h
    · rename_i h3; exact ⟨e, h1, h2, h3⟩
    · cases h
  · cases h
/-- A slice of any length as a string. -/
def bytesSeq (P : Program) (mem : List Slot) (src dst : TypeId) (x : RC) : Option (List Prop × TV) :=
  match strU8 P src dst with
  | false => none
  | true => match x with
    | .sq n len => match seqAt mem n with
      | some (_, .u8, L) => some ([len = L.length], .sv (.one (.str (strOfNums L))))
      | _ => none
    | .sqs n lo hi => match seqAt mem n with
      | some (_, .u8, L) => some ([hi ≤ L.length], .sv (.one (.str (strOfNums ((L.drop lo).take (hi - lo))))))
      | _ => none
    | _ => none
theorem bytesSeq_sound (hm : MemRel S B w0 β mem w) {src dst : TypeId} {x : RC} {need : List Prop} {tv : TV} (h : bytesSeq P mem src dst x = some (need, tv)) (hn : ∀ p ∈ need, p) {u : Value} (r : x.is β u) : ∃ v, (convert src dst u).run P w = .ok v w ∧ tv.is β v := by
  unfold bytesSeq at h
  split at h
  · cases h
  · rename_i hu
    obtain ⟨e, hs, hd, he⟩ := strU8_is hu
    split at h
    · rename_i n len
      split at h
      · rename_i bt L hq
        cases h
        have hl : len = L.length := hn _ (by simp)
        rcases r with ⟨b, c, hb, hle, hroom, ev⟩ | ⟨e0, ev⟩
        · subst ev
          have hh := (hm.seq n bt .u8 L (seqAt_eq hq)).1 b hb
          exact ⟨_, run_convert_bytes_arg w src e hs he b 0 len c L hl.symm (fun i hi => by rw [Nat.zero_add]; exact hh.cell (by omega)) dst hd, rfl⟩
        · subst ev
          have : L = [] := List.eq_nil_of_length_eq_zero (by omega)
          subst this
          exact ⟨_, run_convert_bytes_nil w src e hs he 0 0 dst hd, rfl⟩
      · cases h
    · rename_i n lo hi
      split at h
      · rename_i bt L hq
        cases h
        have hle : hi ≤ L.length := hn _ (by simp)
        rcases r with ⟨hlt, b, c, hb, hc, ev⟩ | ⟨el, c, ev⟩
        · subst ev
          have hh := (hm.seq n bt .u8 L (seqAt_eq hq)).1 b hb
          refine ⟨_, run_convert_bytes_arg w src e hs he b lo (hi - lo) c ((L.drop lo).take (hi - lo)) (by simp; omega) (fun i hi' => ?_) dst hd, rfl⟩
          rw [hh.cell (show lo + i < L.length by omega)]
          simp [List.getElem?_take_of_lt hi']
        · subst el
          have : (L.drop lo).take (lo - lo) = [] := by simp
          rw [this]
          rcases ev with ev | ⟨b, o, ev⟩
          · subst ev
            exact ⟨_, run_convert_bytes_nil w src e hs he 0 c dst hd, rfl⟩
          · subst ev
            exact ⟨_, run_convert_bytes_arg w src e hs he b o 0 c [] rfl (fun i hi => absurd hi (Nat.not_lt_zero i)) dst hd, rfl⟩
      · cases h
    · cases h

/-! ### Making -/
/-- The bytes of a text. -/
def strNums (s : ByteArray) : List Int := s.data.toList.map fun b => (b.toNat : Int)
theorem strNums_length (s : ByteArray) : (strNums s).length = s.size := by simp [strNums]
theorem strNums_map (s : ByteArray) : (strNums s).map (Value.int .u8) = s.data.toList.map fun b => Value.int .u8 b.toNat := by simp [strNums]
/-- What a new block holds: the value that leads to it (its name is 'nm'), and what is known of it. -/
def newC (P : Program) (ρ : Operand → Option TV) (nm : Nat) (op : Op) : Option (TV × Slot) :=
  match op with
  | .alloc t => (zeroC P t).map fun cs => (.sv (.one (.ptr nm 0)), .blk t cs)
  | .box t x => ((ρ x).bind TV.cells).map fun cs => (.sv (.one (.ptr nm 0)), .blk t cs)
  | .buildSlice t len parts => match P.underlying t, partsC ρ parts.toList with
    | some (.slice e), some ps => match P.info? e, zeroC P e with
      | some i, some [z] => if i.size = 1 ∧ len ≤ 16777216 ∧ len ≠ 0 then
          match fillC (fun j => some (j * i.size, i.size)) (List.replicate len z) ps with
          | some cs => some (.sv (.one (.slc nm 0 len (some len))), .blk e cs)
          | none => none
        else none
      | _, _ => none
    | _, _ => none
  | .makeSlice t l c => match P.underlying t, (ρ l).bind natLit, (ρ c).bind natLit with
    | some (.slice e), some l, some c => match P.info? e, zeroC P e with
      | some i, some [z] => if i.size = 1 ∧ i.bytes * c ≤ 281474976710656 ∧ c ≤ 281474976710656 ∧ l ≤ c ∧ c ≠ 0 then some (.sv (.one (.slc nm 0 l (some c))), .blk e (List.replicate c z)) else none
      | _, _ => none
    | _, _, _ => none
  | .convert src dst x => match P.underlying src, P.underlying dst, ρ x with
    | some _, some (.slice e), some (.sv (.one (.strn s m _))) => match P.underlying e with
      | some (.int .u8) => some (.sv (.one (.slc nm 0 m none)), .blk e ((List.range m).map fun (j : Nat) => .int .u8 (sbyte s j)))
      | _ => none
    | some _, some (.slice e), some (.sv (.one (.str s))) => match P.underlying e with
      | some (.int .u8) => some (.sv (.one (.sq nm (strNums s).length)), .seq e .u8 (strNums s))
      | _ => none
    | _, _, _ => none
  | _ => none
/-- What has come to be is spoken of. -/
theorem newC_live {P : Program} {ρ : Operand → Option TV} {nm : Nat} {op : Op} {tv : TV} {s : Slot} (h : newC P ρ nm op = some (tv, s)) : s.live = true := by
  unfold newC at h
  split at h
  · obtain ⟨_, _, e⟩ := Option.map_eq_some_iff.1 h; cases e; rfl
  · obtain ⟨_, _, e⟩ := Option.map_eq_some_iff.1 h; cases e; rfl
  all_goals (repeat' split at h)
  all_goals first | (cases h; done) | (cases h; rfl)

theorem all2_bytes (s : ByteArray) : ∀ (m : Nat), s.size = m → all2 (RC.is β) ((List.range m).map fun (j : Nat) => RC.int .u8 (sbyte s j)) (s.data.toList.map fun b => Value.int .u8 b.toNat) := by
  intro m hm
  have e : (s.data.toList.map fun b => Value.int .u8 b.toNat) = (List.range m).map fun (j : Nat) => Value.int .u8 (sbyte s j) := by
    apply List.ext_getElem?
    intro j
    have hl : s.data.toList.length = m := by simpa using hm
    by_cases hj : j < m
    · simp only [List.getElem?_map, sbyte, Int.toNat_natCast, List.getD_eq_getElem?_getD]
      rw [List.getElem?_eq_getElem (by omega), List.getElem?_range hj]
      simp only [Option.map_some]
      congr 3
      rw [List.getElem?_eq_getElem (by omega)]
      rfl
    · rw [List.getElem?_eq_none (by simp; omega), List.getElem?_eq_none (by simp; omega)]
  rw [e]
  exact all2_map (R := RC.is β) (fun (j : Nat) => RC.int .u8 (sbyte s j)) (fun (j : Nat) => Value.int .u8 (sbyte s j)) (fun d => rfl) _

theorem push_modify (a : Array Obj) (x : Obj) (f : Obj → Obj) : (a.push x).modify a.size f = a.push (f x) := by
  apply Array.ext
  · simp
  · intro i h1 h2
    simp only [Array.getElem_modify, Array.getElem_push]
    split
    · rename_i e; subst e; simp
    · rename_i e
      simp at h1
      have : i < a.size := by omega
      simp [this]

theorem toList_all2 {cs : List RC} {vs : Array Value} (h : all2 (RC.is β) cs vs.toList) : ∃ l : List Value, vs = ⟨l⟩ ∧ all2 (RC.is β) cs l := ⟨vs.toList, by simp, h⟩

theorem newC_sound (hm : MemRel S B w0 β mem w) {ρ : Operand → Option TV} {e : Operand → Value} (hρ : ∀ x tv, ρ x = some tv → tv.is β (e x)) {nm : Nat} (hfree : mem[nm]? = some .free) {o : Oper} {tv : TV} {sl : Slot}
    (h : newC P ρ nm o.op = some (tv, sl)) :
    ∃ v w' β', (execOp e o).run P w = .ok (.value v) w' ∧ Ext β β' ∧ tv.is β' v ∧ MemRel S B w0 β' (mem.set nm sl) w' := by
  obtain ⟨dst, op, type, pos, after, guard⟩ := o
  dsimp only at h
  unfold newC at h
  have put : ∀ (t : TypeId) (cs : List RC) (l : List Value), all2 (RC.is β) cs l → Ext β (updβ β nm w.heap.size (w.alloc (.cells ⟨l⟩ t))) ∧ MemRel S B w0 (updβ β nm w.heap.size (w.alloc (.cells ⟨l⟩ t))) (mem.set nm (.blk t cs)) (w.alloc (.cells ⟨l⟩ t)) := fun t cs l hl => by
    have := hm.new hfree (t := t) (vs := l) (more := []) (0, 0) (fun j _ => by simp) hl
    simpa using this
  split at h
  · rename_i t'
    cases hz : zeroC P t' with
    | none => rw [hz] at h; cases h
    | some z =>
      rw [hz] at h; cases h
      obtain ⟨zv, h1, h2⟩ := zeroC_sound hz β w
      obtain ⟨l, e1, h3⟩ := toList_all2 h2
      refine ⟨.pointer (some ⟨w.heap.size, 0, none⟩), w.alloc (.cells ⟨l⟩ t'), _, ?_, (put _ _ l h3).1, ⟨_, updβ_self _ _ _ _, rfl⟩, (put _ _ l h3).2⟩
      simp only [execOp, Instr.alloc, Sem.run_bind, h1, Result.andThen_ok, newVar, newRow, e1, run_newObj, Sem.run_pure]
      rfl
  · rename_i t' x
    cases hz : (ρ x).bind TV.cells with
    | none => rw [hz] at h; cases h
    | some z =>
      rw [hz] at h; cases h
      obtain ⟨tvx, hx1, hx2⟩ := Option.bind_eq_some_iff.1 hz
      obtain ⟨l, e1, h3⟩ := toList_all2 (TV.cells_is hx2 (hρ _ _ hx1))
      refine ⟨.pointer (some ⟨w.heap.size, 0, none⟩), w.alloc (.cells ⟨l⟩ t'), _, ?_, (put _ _ l h3).1, ⟨_, updβ_self _ _ _ _, rfl⟩, (put _ _ l h3).2⟩
      simp only [execOp, Instr.box, Sem.run_bind, Result.andThen_ok, newVar, newRow, e1, run_newObj, Sem.run_pure]
      rfl
  · rename_i t' len parts
    split at h
    · rename_i el ps hu hps
      split at h
      · rename_i i z hi hz
        split at h
        · rename_i hc
          split at h
          · rename_i cs' hf
            cases h
            obtain ⟨zv, h1, h2⟩ := zeroC_sound hz β w
            obtain ⟨z0, rest, e1, r1, r2⟩ := all2_cons_left h2
            have e2 := all2_nil_left r2
            subst e2
            have e3 : zv.cells = #[z0] := by rw [← Array.toList_inj]; simpa using e1
            have hz0 : all2 (RC.is β) (List.replicate len z) (Array.replicate len z0).toList := by simpa using all2_replicate r1 len
            obtain ⟨ws, hw1, hw2⟩ := fillC_sound hf (partsC_sound hρ hps) hz0
            obtain ⟨l, e4, h3⟩ := toList_all2 hw2
            refine ⟨.slice (some ⟨w.heap.size, 0, none⟩) len len, w.alloc (.cells ⟨l⟩ el), _, ?_, (put _ _ l h3).1, ⟨_, _, updβ_self _ _ _ _, by simp, Nat.le_refl _, (by simp), rfl⟩, (put _ _ l h3).2⟩
            have e5 : ((Array.range (len * i.size)).map fun x => (#[z0] : Array Value)[x % (#[z0] : Array Value).size]!) = Array.replicate len z0 := by
              rw [hc.1, Nat.mul_one]
              apply Array.ext'
              simp [Nat.mod_one, List.map_const']
            have e6 : (parts.map fun (x : Nat × Operand) => (x.1, e x.2)).toList = parts.toList.map fun x => (x.1, e x.2) := by simp
            have hn1 : ¬ (len * i.size > 2 ^ 24) := by rw [hc.1]; omega
            have hn2 : ¬ (len * i.size = 0) := by rw [hc.1]; omega
            simp only [execOp, Instr.buildSlice, Sem.run_bind, run_underlying hu, Result.andThen_ok, run_sizeOf' hi, if_neg hn1, if_neg hn2, Sem.run_pure, h1, e3, e5, e6, hw1, newRow, run_newObj, e4]
            rfl
          · cases h
        · cases h
      · cases h
    · cases h
  · rename_i t' lo co
    split at h
    · rename_i el l c hu hl hc
      split at h
      · rename_i i z hi hz
        split at h
        · rename_i hcond
          obtain ⟨c1, c2, c3, c4, c5⟩ := hcond
          cases h
          obtain ⟨tl, hl1, hl2⟩ := Option.bind_eq_some_iff.1 hl
          obtain ⟨tc, hc1, hc2⟩ := Option.bind_eq_some_iff.1 hc
          obtain ⟨k1, el'⟩ := natLit_is hl2 (hρ _ _ hl1)
          obtain ⟨k2, ec'⟩ := natLit_is hc2 (hρ _ _ hc1)
          obtain ⟨zv, h1, h2⟩ := zeroC_sound hz β w
          obtain ⟨z0, rest, e1, r1, r2⟩ := all2_cons_left h2
          have e2 := all2_nil_left r2
          subst e2
          have e3 : zv.cells = #[z0] := by rw [← Array.toList_inj]; simpa using e1
          refine ⟨.slice (some ⟨w.heap.size, 0, none⟩) l c, w.alloc (.cells ⟨List.replicate c z0⟩ el), _, ?_, (put el _ _ (all2_replicate r1 c)).1, ⟨_, _, updβ_self _ _ _ _, by simp, c4, (by simp), rfl⟩, (put el _ _ (all2_replicate r1 c)).2⟩
          have wl : IntKind.i64.wrap (l : Int) = l := IntWalk.i64_in _ (by omega)
          have wc : IntKind.i64.wrap (c : Int) = c := IntWalk.i64_in _ (by omega)
          have e5 : ((Array.range (c * 1)).map fun x => (#[z0] : Array Value)[x % (#[z0] : Array Value).size]!) = ⟨List.replicate c z0⟩ := by
            apply Array.ext'
            simp [Nat.mod_one, List.map_const']
          have h48 : (2 : Int) ^ 48 = 281474976710656 := by decide
          have hbig : ¬ ((i.bytes : Int) * (c : Int) > 2 ^ 48) := by
            have : ((i.bytes * c : Nat) : Int) ≤ 281474976710656 := Int.ofNat_le.2 c2
            rw [h48]
            rw [Int.natCast_mul] at this; omega
          have hn2 : ¬ (c * 1 = 0) := by omega
          have hcc : ((decide ((c : Int) < 0) || decide ((i.bytes : Int) * (c : Int) > 2 ^ 48)) || decide ((l : Int) < 0) || decide ((l : Int) > (c : Int))) = false := by
            simp only [Bool.or_eq_false_iff, decide_eq_false_iff_not]
            exact ⟨⟨⟨by omega, hbig⟩, by omega⟩, by omega⟩
          simp only [execOp, Instr.makeSlice, Sem.run_bind, run_underlying hu, Result.andThen_ok, el', ec', asInt, asIntOf, Sem.run_pure, typeInfo, run_program, hi, wl, wc]
          rw [if_neg (by simp only [Bool.not_eq_true]; exact hcc)]
          simp only [Sem.run_pure, Result.andThen_ok, Sem.run_bind, run_askRoom, Int.toNat_natCast, run_sizeOf' hi, c1, if_neg hn2, h1, e3, e5, newRow, run_newObj]
          rfl
        · cases h
      · cases h
    · cases h
  · rename_i src d x
    split at h
    · rename_i dsrc el s m hs hsrc hd hx
      split at h
      · rename_i he
        cases h
        have ev : e x = .string s := hρ _ _ hx
        obtain ⟨ed, hmd⟩ := MemRel.drew hm
        have hvs := all2_mono (RC.is.ext ed) (all2_bytes (β := β) s m hs)
        let cap := (Question.appendCap s.size 0 el).cut (w.tape w.drawn (Question.appendCap s.size 0 el))
        have hcap : m ≤ cap := by show m ≤ s.size + _ ; omega
        have hnew := hmd.new (n := nm) (t := el) (cs := (List.range m).map fun (j : Nat) => RC.int .u8 (sbyte s j)) hfree (vs := s.data.toList.map fun b => Value.int .u8 b.toNat) (more := List.replicate (cap - m) (.int .u8 0))
          (m + (cap - m), m + (cap - m) + 1) (fun j hj => by simp [hs] at hj ⊢; omega) hvs
        refine ⟨.slice (some ⟨w.heap.size, 0, none⟩) m cap, _, _, ?_, ed.trans hnew.1, ⟨_, _, updβ_self _ _ _ _, by simp, hcap, fun _ => ?_, rfl⟩, hnew.2⟩
        rotate_left
        · have hge : roomAt ({ w with drawn := w.drawn + 1 } : World) w.heap.size = 0 := roomAt_out (Nat.le_refl _)
          show 0 + cap ≤ roomAt (World.alloc _ _) w.heap.size
          have hr : ∀ (W : World) (o : Obj), (W.alloc o).heap[W.heap.size]? = some o := fun W o => by show (W.heap.push o)[W.heap.size]? = some o; simp
          have hr' := hr { w with drawn := w.drawn + 1 } (.cells ⟨(s.data.toList.map fun b => Value.int .u8 b.toNat) ++ List.replicate (cap - m) (.int .u8 0)⟩ el (m + (cap - m), m + (cap - m) + 1))
          unfold roomAt
          rw [hr']
          simp [hs]; omega
        have hconv : (convert src d (.string s)).run P w = (Conv.stringToBytes el s).run P w := by
          simp only [convert, Sem.run_bind, run_underlying hsrc, run_underlying hd, Result.andThen_ok]
          cases dsrc <;> simp [run_underlying he]
        simp only [execOp, Sem.run_bind, ev, hconv, Conv.stringToBytes, run_choose, Question.forced, Bool.false_eq_true, if_false, Result.andThen_ok, newRow, run_newObj, Sem.run_pure, markStringish, run_shape, hs]
        have hsh : ∀ (W : World), ({ W with heap := W.heap.push (.cells (s.data.map (fun b => Value.int .u8 b.toNat) ++ Array.replicate (cap - m) (.int .u8 0)) el) } : World).shape? W.heap.size = some (el, m + (cap - m)) := fun W => by
          simp [World.shape?, hs]
        have hcells : (s.data.map (fun b => Value.int .u8 b.toNat) ++ Array.replicate (cap - m) (.int .u8 0)) = ⟨(s.data.toList.map fun b => Value.int .u8 b.toNat) ++ List.replicate (cap - m) (.int .u8 0)⟩ := by
          apply Array.ext'
          simp
        have hq : (Question.appendCap m 0 el).cut (w.tape w.drawn (Question.appendCap m 0 el)) = cap := by rw [← hs]
        rw [hq]
        have hsh' := hsh { w with drawn := w.drawn + 1 }
        rw [hsh']
        simp only [run_freeze, Result.andThen_ok, World.freeze, Nat.succ_ne_self, if_false, push_modify, hcells]
        rfl
      · cases h
    · rename_i dsrc el s hsrc hd hx
      split at h
      · rename_i he
        cases h
        have ev : e x = .string s := hρ _ _ hx
        obtain ⟨ed, hmd⟩ := MemRel.drew hm
        let cap := (Question.appendCap s.size 0 el).cut (w.tape w.drawn (Question.appendCap s.size 0 el))
        have hcap : s.size ≤ cap := by show s.size ≤ s.size + _ ; omega
        have hnew := hmd.newSeq (n := nm) (t := el) (k := .u8) (L := strNums s) hfree (more := List.replicate (cap - s.size) (.int .u8 0))
          (s.size + (cap - s.size), s.size + (cap - s.size) + 1) (fun j hj => by simp [strNums] at hj ⊢; omega)
        rw [strNums_map] at hnew
        refine ⟨.slice (some ⟨w.heap.size, 0, none⟩) s.size cap, _, _, ?_, ed.trans hnew.1, ?_, hnew.2⟩
        rotate_left
        · refine .inl ⟨w.heap.size, cap, updβ_self _ _ _ _, by rw [strNums_length]; exact hcap, ?_, by rw [strNums_length]⟩
          show cap ≤ roomAt (World.alloc _ _) w.heap.size
          have hr' := heap_alloc_self { w with drawn := w.drawn + 1 } (.cells ⟨(s.data.toList.map fun b => Value.int .u8 b.toNat) ++ List.replicate (cap - s.size) (.int .u8 0)⟩ el (s.size + (cap - s.size), s.size + (cap - s.size) + 1))
          unfold roomAt
          rw [hr']
          simp; omega
        have hconv : (convert src d (.string s)).run P w = (Conv.stringToBytes el s).run P w := by
          simp only [convert, Sem.run_bind, run_underlying hsrc, run_underlying hd, Result.andThen_ok]
          cases dsrc <;> simp [run_underlying he]
        simp only [execOp, Sem.run_bind, ev, hconv, Conv.stringToBytes, run_choose, Question.forced, Bool.false_eq_true, if_false, Result.andThen_ok, newRow, run_newObj, Sem.run_pure, markStringish, run_shape]
        have hsh : ∀ (W : World), ({ W with heap := W.heap.push (.cells (s.data.map (fun b => Value.int .u8 b.toNat) ++ Array.replicate (cap - s.size) (.int .u8 0)) el) } : World).shape? W.heap.size = some (el, s.size + (cap - s.size)) := fun W => by
          simp [World.shape?]
        have hcells : (s.data.map (fun b => Value.int .u8 b.toNat) ++ Array.replicate (cap - s.size) (.int .u8 0)) = ⟨(s.data.toList.map fun b => Value.int .u8 b.toNat) ++ List.replicate (cap - s.size) (.int .u8 0)⟩ := by
          apply Array.ext'
          simp
        have hq : (Question.appendCap s.size 0 el).cut (w.tape w.drawn (Question.appendCap s.size 0 el)) = cap := rfl
        rw [hq]
        have hsh' := hsh { w with drawn := w.drawn + 1 }
        rw [hsh']
        simp only [run_freeze, Result.andThen_ok, World.freeze, Nat.succ_ne_self, if_false, push_modify, hcells]
        rfl
      · cases h
    · cases h
  · cases h
end

end Go.Proofs.Ytihmhnfjdkkbgaa.RX
