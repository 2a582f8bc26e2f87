/- RX, part H: stores, calls by contract, and one operation whatever it is ('step'). -/
import Derived.Test.YtihmhnfjdkkbgaaRxG
import Derived.Laws.AppendOwn
noncomputable section
namespace Go.Proofs.Ytihmhnfjdkkbgaa.RX
set_option linter.unusedSimpArgs false
open Go Go.RowKit

/-! ### Writing -/
def setRow (w : World) (k : Nat) (o : Obj) : World := { w with heap := w.heap.setIfInBounds k o }

theorem setCell_row {w : World} {k : Nat} {cur : List Value} {t : TypeId} {fr : Nat × Nat} (h : w.heap[k]? = some (.cells ⟨cur⟩ t fr)) (p : Nat) (v : Value) :
    w.setCell ⟨k, p, none⟩ v = setRow w k (.cells ⟨cur.set p v⟩ t fr) := by
  have hlt : k < w.heap.size := (Array.getElem?_eq_some_iff.1 h).1
  unfold World.setCell setRow
  congr 1
  apply Array.ext_getElem?
  intro i
  rw [Array.getElem?_modify]
  by_cases e : k = i
  · subst e; rw [if_pos rfl, h, Array.getElem?_setIfInBounds_self_of_lt hlt]; simp
  · rw [if_neg e, Array.getElem?_setIfInBounds_ne e]
theorem setRow_same {w : World} {k : Nat} {o : Obj} (h : w.heap[k]? = some o) : setRow w k o = w := by
  have hlt : k < w.heap.size := (Array.getElem?_eq_some_iff.1 h).1
  have : w.heap.setIfInBounds k o = w.heap := by
    apply Array.ext_getElem?
    intro i
    by_cases e : k = i
    · subst e; rw [h, Array.getElem?_setIfInBounds_self_of_lt hlt]
    · rw [Array.getElem?_setIfInBounds_ne e]
  unfold setRow
  rw [this]

theorem setRow_get {w : World} {k : Nat} {o : Obj} (h : k < w.heap.size) : (setRow w k o).heap[k]? = some o := by simp [setRow, h]
theorem setRow_ne {w : World} {k j : Nat} {o : Obj} (h : j ≠ k) : (setRow w k o).heap[j]? = w.heap[j]? := by
  simp only [setRow]
  rw [Array.getElem?_setIfInBounds_ne (Ne.symm h)]
theorem setRow_row (w : World) (k : Nat) (o o' : Obj) : setRow (setRow w k o) k o' = setRow w k o' := by simp [setRow]

theorem run_storeCells' {P : Program} {k off : Nat} {t : TypeId} {fr : Nat × Nat} : ∀ (vs : List Value) (i : Nat) (cur : List Value) (w : World), w.heap[k]? = some (.cells ⟨cur⟩ t fr) → off + i + vs.length ≤ cur.length →
    (∀ j, j < cur.length → ¬ (fr.1 ≤ j ∧ j < fr.2)) → (∀ v ∈ vs, v.oneCell' = true) → (storeCells ⟨k, off, none⟩ vs i).run P w = .ok () (setRow w k (.cells ⟨splice cur (off + i) vs⟩ t fr))
  | [], i, cur, w, h, _, _, _ => by
    simp only [storeCells, Sem.run_pure, splice]
    rw [setRow_same h]
  | v :: vs, i, cur, w, h, hl, hf, h1 => by
    simp only [List.length_cons] at hl
    have hv : v.oneCell' = true := h1 v (by simp)
    have hcell : w.cell? ⟨k, off + i, none⟩ = some (cur[off + i]'(by omega)) := by
      simp [World.cell?, h, List.getElem?_eq_getElem (show off + i < cur.length by omega)]
    have hfr : w.frozen? ⟨k, off + i, none⟩ = false := by
      simp only [World.frozen?, h]
      have := hf (off + i) (by omega)
      simpa using this
    have hlt : k < w.heap.size := (Array.getElem?_eq_some_iff.1 h).1
    simp only [storeCells, Sem.run_bind, add_plain, run_store P w _ v .plain hv, hcell, hfr, Bool.false_eq_true, if_false, Result.andThen_ok]
    rw [setCell_row h]
    rw [run_storeCells' vs (i + 1) (cur.set (off + i) v) (setRow w k (.cells ⟨cur.set (off + i) v⟩ t fr)) (setRow_get hlt) (by simp; omega) (by simpa using hf) (fun u hu => h1 u (by simp [hu]))]
    rw [setRow_row]
    rfl

def storeC (P : Program) (mem : List Slot) (t : TypeId) (p x : TV) : Option (Nat × TypeId × List RC) :=
  match p, x.cells with
  | .sv (.one (.ptr n off)), some vs => match blkAt mem n, P.info? t with
    | some (bt, cs), some i => if i.size = vs.length ∧ off + vs.length ≤ cs.length ∧ vs.all RC.cellOk = true then some (n, bt, splice cs off vs) else none
    | _, _ => none
  | _, _ => none

theorem all2_cellOk {β : Env} : ∀ {cs : List RC} {vs : List Value}, all2 (RC.is β) cs vs → cs.all RC.cellOk = true → ∀ v ∈ vs, v.oneCell' = true
  | [], [], _, _ => by simp
  | c :: cs, v :: vs, h, ho => by
    simp only [List.all_cons, Bool.and_eq_true] at ho
    intro u hu
    rcases List.mem_cons.1 hu with rfl | hu
    · exact RC.cellOk_is ho.1 h.1
    · exact all2_cellOk h.2 ho.2 u hu
  | [], _ :: _, h, _ => h.elim
  | _ :: _, [], h, _ => h.elim

theorem splice_append {α : Type} : ∀ (vs l m : List α) (p : Nat), p + vs.length ≤ l.length → splice (l ++ m) p vs = splice l p vs ++ m
  | [], _, _, _, _ => rfl
  | v :: vs, l, m, p, h => by
    simp only [List.length_cons] at h
    simp only [splice]
    rw [List.set_append_left _ _ (by omega), splice_append vs _ m (p + 1) (by simp; omega)]

section
variable {P : Program} {S : Nat → Option Nat} {B : Base} {w0 : World} {β : Env} {mem : List Slot} {w : World}

/-- What is known of a block that is spoken of. -/
theorem MemRel.slot (hm : MemRel S B w0 β mem w) {n k : Nat} {s : Slot} (hn : mem[n]? = some s) (hl : s.live = true) (hb : β n = some k) : SlotIs β w k s := by
  cases s with
  | free => cases hl
  | dead => cases hl
  | blk t cs =>
    obtain ⟨k', hk, hh⟩ := hm.blk n t cs hn
    rw [hb] at hk; cases hk; exact hh
  | seq t i L => exact (hm.seq n t i L hn).1 k hb
theorem SlotIs.same {β : Env} {w w' : World} {k : Nat} {s : Slot} (h : SlotIs β w k s) (e : w'.heap[k]? = w.heap[k]?) : SlotIs β w' k s := by
  cases s with
  | blk t cs => exact Holds.same h e
  | seq t i L => exact HoldsS.same h e
  | _ => exact h
/-- One named block has changed, and whatever bears no name came to be. -/
theorem MemRel.changeS (hm : MemRel S B w0 β mem w) {n k : Nat} (hb : β n = some k) {s0 : Slot} (hlive : mem[n]? = some s0) (hl0 : s0.live = true) {w' : World} (hos : w'.os = w.os) (htape : w'.tape = w.tape) (hout : w'.output = w.output)
    (hsz : w.heap.size ≤ w'.heap.size) (hne : ∀ j, j < w.heap.size → j ≠ k → w'.heap[j]? = w.heap[j]?) (hroom : roomAt w k ≤ roomAt w' k) {s1 : Slot} (hh : ∀ β', Ext β β' → SlotIs β' w' k s1) :
    Ext β (β.to w') ∧ MemRel S B w0 (β.to w') (mem.set n s1) w' := by
  have hk := hm.rng n k hb
  have hw := hm.wd
  have hrooms : ∀ j, roomAt w j ≤ roomAt w' j := fun j => by
    by_cases ej : j = k
    · subst ej; exact hroom
    · rcases Nat.lt_or_ge j w.heap.size with h' | h'
      · rw [roomAt_same (hne j h' ej)]; exact Nat.le_refl _
      · rw [roomAt_out h']; exact Nat.zero_le _
  have e : Ext β (β.to w') := Ext.moved (by rw [hw]; exact hsz) (fun j hj hn => by rw [hw] at hj ⊢; exact hne j hj (fun ej => hn n (ej ▸ hb))) (fun j => by rw [hw]; exact hrooms j)
  have hlt := slot_lt hlive
  have hs1 : s1 ≠ .free := by rintro rfl; exact hh _ e
  have other : ∀ m s j, m ≠ n → mem[m]? = some s → s.live = true → β m = some j → w'.heap[j]? = w.heap[j]? := fun m s j em h hl hj =>
    hne j (hm.rng m j hj).2 fun ej => em (hm.inj m n _ _ k h hlive hl hl0 (ej ▸ hj) hb)
  refine ⟨e, rfl, hm.aw, hm.far, fun m t' cs' h => ?_, fun m t' k' L' h => ?_, fun a b sa sb j ha hb' la lb h1 h2 => ?_, fun m j h => ?_, fun m j h => ?_, hm.came, ?_, Nat.le_trans hm.sz hsz⟩
  · by_cases em : m = n
    · subst em
      rw [List.getElem?_set_self hlt] at h
      injection h with h; subst h
      exact ⟨k, hb, hh _ e⟩
    · rw [List.getElem?_set_ne (fun e' => em e'.symm)] at h
      obtain ⟨j, hj, hj'⟩ := hm.blk m t' cs' h
      exact ⟨j, hj, (hj'.ext e).same (other m _ j em h rfl hj)⟩
  · by_cases em : m = n
    · subst em
      rw [List.getElem?_set_self hlt] at h
      injection h with h; subst h
      refine ⟨fun b hb' => ?_, fun hno => ?_⟩
      · have hb'' : β m = some b := hb'
        rw [hb] at hb''; cases hb''
        exact hh _ e
      · have hno' : β m = none := hno
        rw [hb] at hno'; cases hno'
    · rw [List.getElem?_set_ne (fun e' => em e'.symm)] at h
      obtain ⟨h1, h2⟩ := hm.seq m t' k' L' h
      exact ⟨fun b hb' => (h1 b hb').same (other m _ b em h rfl hb'), h2⟩
  · have live : ∀ (m : Nat) (s : Slot), (mem.set n s1)[m]? = some s → s.live = true → ∃ s', mem[m]? = some s' ∧ s'.live = true := by
      intro m s hm' hl
      by_cases em : m = n
      · subst em; exact ⟨_, hlive, hl0⟩
      · rw [List.getElem?_set_ne (fun e' => em e'.symm)] at hm'; exact ⟨_, hm', hl⟩
    obtain ⟨_, la1, la2⟩ := live a sa ha la
    obtain ⟨_, lb1, lb2⟩ := live b sb hb' lb
    exact hm.inj a b _ _ j la1 lb1 la2 lb2 h1 h2
  · have := hm.rng m j h
    exact ⟨this.1, Nat.lt_of_lt_of_le this.2 hsz⟩
  · obtain ⟨s, hs, hne'⟩ := hm.used m j h
    by_cases em : m = n
    · subst em
      exact ⟨_, List.getElem?_set_self hlt, hs1⟩
    · exact ⟨s, by rw [List.getElem?_set_ne (fun e' => em e'.symm)]; exact hs, hne'⟩
  · refine hm.kept.trans ⟨hos, htape, hout, hsz, fun j hj hs => ?_, hrooms⟩
    refine hne j (Nat.lt_of_lt_of_le hj hm.sz) (fun ej => ?_)
    subst ej
    rcases hk.1 with h | h
    · exact hs h
    · omega
theorem MemRel.set (hm : MemRel S B w0 β mem w) {n k : Nat} (hb : β n = some k) {t : TypeId} {cs : List RC} {vs more : List Value} {fr : Nat × Nat}
    (hfr : ∀ j, j < (vs ++ more).length → ¬ (fr.1 ≤ j ∧ j < fr.2)) (hc : all2 (RC.is β) cs vs) {t0 : TypeId} {cs0 : List RC} (hlive : mem[n]? = some (.blk t0 cs0)) (hold : roomAt w k ≤ (vs ++ more).length) :
    Ext β (β.to (setRow w k (.cells ⟨vs ++ more⟩ t fr))) ∧ MemRel S B w0 (β.to (setRow w k (.cells ⟨vs ++ more⟩ t fr))) (mem.set n (.blk t cs)) (setRow w k (.cells ⟨vs ++ more⟩ t fr)) :=
  hm.changeS (w' := setRow w k (.cells ⟨vs ++ more⟩ t fr)) (s1 := .blk t cs) hb hlive rfl rfl rfl rfl (by simp [setRow]) (fun j _ hj => setRow_ne hj) (Nat.le_trans hold (Nat.le_of_eq (by simp only [roomAt, setRow_get (hm.rng n k hb).2]; simp)))
    (fun _ e => ⟨vs, more, fr, setRow_get (hm.rng n k hb).2, all2_mono (RC.is.ext e) hc, hfr⟩)

theorem storeC_sound (hm : MemRel S B w0 β mem w) {t : TypeId} {p x : TV} {n : Nat} {bt : TypeId} {cs : List RC} (h : storeC P mem t p x = some (n, bt, cs)) {u v : Value} (rp : p.is β u) (rx : x.is β v) :
    ∃ w', (Instr.storeAt t u v).run P w = .ok () w' ∧ Ext β (β.to w') ∧ MemRel S B w0 (β.to w') (mem.set n (.blk bt cs)) w' := by
  unfold storeC at h
  split at h
  · rename_i n' off vs hcells
    split at h
    · rename_i bt' cs' i hblk hi
      split at h
      · rename_i hc
        obtain ⟨c1, c2, c3⟩ := hc
        cases h
        obtain ⟨b, hb, e⟩ := rp
        subst e
        obtain ⟨ws, more, fr, h1, h2, h3⟩ := hm.at hblk hb
        have hv := TV.cells_is hcells rx
        have l1 := all2_length hv
        have l2 := all2_length h2
        have hsz : v.cells.size = vs.length := by rw [l1]; simp
        refine ⟨_, ?_, hm.set hb (fr := fr) (more := more) ?_ (all2_splice off h2 hv) (blkAt_eq hblk) (by simp only [roomAt, h1]; simp [splice_length])⟩
        · have hrun := run_storeCells' (P := P) (k := b) (off := off) v.cells.toList 0 (ws ++ more) w h1 (by simp only [Nat.add_zero, List.length_append, ← l1]; omega) h3 (all2_cellOk hv c3)
          simp only [Instr.storeAt, Instr.sureAddr, Sem.run_pure, Sem.run_bind, Result.andThen_ok, storeVar, run_sizeOf' hi, hsz, c1, ne_eq, not_true_eq_false, if_false, hrun, Nat.add_zero]
          rw [splice_append _ _ _ _ (by rw [← l1]; omega)]
        · intro j hj
          exact h3 j (by simp only [List.length_append, splice_length] at hj ⊢; exact hj)
      · cases h
    · cases h
  · cases h
end

/-! ### Appending -/
section
variable {P : Program} {S : Nat → Option Nat} {B : Base} {w0 : World} {β : Env} {mem : List Slot} {w : World}

/-- A block is not spoken of from here on. -/
theorem MemRel.kill (hm : MemRel S B w0 β mem w) (n : Nat) : MemRel S B w0 β (mem.set n .dead) w := by
  have live : ∀ (m : Nat) (s : Slot), (mem.set n Slot.dead)[m]? = some s → s.live = true → mem[m]? = some s := by
    intro m s h hl
    by_cases em : n = m
    · subst em
      rw [List.getElem?_set_self (by have := slot_lt h; rwa [List.length_set] at this)] at h
      injection h with h; subst h; cases hl
    · rwa [List.getElem?_set_ne em] at h
  refine ⟨hm.wd, hm.aw, hm.far, fun m t cs h => hm.blk m t cs (live m _ h rfl), fun m t k L h => hm.seq m t k L (live m _ h rfl), fun a b sa sb k h1 h2 l1 l2 => hm.inj a b sa sb k (live a sa h1 l1) (live b sb h2 l2) l1 l2, hm.rng, fun m k h => ?_, hm.came, hm.kept, hm.sz⟩
  obtain ⟨s, hs, hne⟩ := hm.used m k h
  have hlt := slot_lt hs
  by_cases em : n = m
  · subst em; exact ⟨_, List.getElem?_set_self hlt, by simp⟩
  · exact ⟨s, by rw [List.getElem?_set_ne em]; exact hs, hne⟩

/-- A block takes another name. -/
theorem MemRel.renameS (hm : MemRel S B w0 β mem w) {n nm k : Nat} {s : Slot} (hn : mem[n]? = some s) (hl : s.live = true) (hb : β n = some k) (hf : mem[nm]? = some .free) :
    Ext β (updβ β nm k w) ∧ MemRel S B w0 (updβ β nm k w) ((mem.set n .dead).set nm s) w := by
  have hfree := hm.free hf
  have hw := hm.wd
  have hne : nm ≠ n := fun e => by subst e; rw [hf] at hn; cases hn; cases hl
  have e : Ext β (updβ β nm k w) := updβ_ext hfree (.inl ⟨n, hb⟩) (by rw [hw]; exact Nat.le_refl _) (fun j _ _ => by rw [hw]) (fun j => by rw [hw]; exact Nat.le_refl _)
  have hlt : nm < (mem.set n Slot.dead).length := by rw [List.length_set]; exact slot_lt hf
  have live : ∀ (m : Nat) (s' : Slot), ((mem.set n Slot.dead).set nm s)[m]? = some s' → s'.live = true → (m = nm ∧ s' = s) ∨ (m ≠ nm ∧ m ≠ n ∧ mem[m]? = some s') := by
    intro m s' h hl'
    by_cases em : nm = m
    · subst em
      rw [List.getElem?_set_self hlt] at h
      injection h with h
      exact .inl ⟨rfl, h.symm⟩
    · rw [List.getElem?_set_ne em] at h
      by_cases en : n = m
      · subst en
        rw [List.getElem?_set_self (slot_lt hn)] at h
        injection h with h; subst h; cases hl'
      · rw [List.getElem?_set_ne en] at h
        exact .inr ⟨fun e' => em e'.symm, fun e' => en e'.symm, h⟩
  have old : ∀ m j, m ≠ nm → updβ β nm k w m = some j → β m = some j := by
    intro m j hm' h
    have h' : (if m = nm then some k else β m) = some j := h
    rwa [if_neg hm'] at h'
  have new : ∀ j, updβ β nm k w nm = some j → j = k := by
    intro j h
    rw [updβ_self] at h; injection h with h; exact h.symm
  have hs := SlotIs.ext e (hm.slot hn hl hb)
  refine ⟨e, rfl, hm.aw, hm.far, fun m t' cs' h => ?_, fun m t' k' L' h => ?_, fun a b sa sb j h1 h2 l1 l2 ha hb' => ?_, fun m j h => ?_, fun m j h => ?_, fun m j h => e.keep m j (hm.came m j h), hm.kept, hm.sz⟩
  · rcases live m _ h rfl with ⟨rfl, rfl⟩ | ⟨h1, h2, h3⟩
    · exact ⟨k, updβ_self _ _ _ _, hs⟩
    · obtain ⟨k', hk', hh⟩ := hm.blk m t' cs' h3
      exact ⟨k', e.keep m k' hk', hh.ext e⟩
  · rcases live m _ h rfl with ⟨rfl, rfl⟩ | ⟨h1, h2, h3⟩
    · exact ⟨fun b hb' => by rw [new b hb']; exact hs, fun hno => by rw [updβ_self] at hno; cases hno⟩
    · obtain ⟨q1, q2⟩ := hm.seq m t' k' L' h3
      refine ⟨fun b hb' => q1 b (old m b h1 hb'), fun hno => q2 ?_⟩
      have h' : (if m = nm then some k else β m) = none := hno
      rwa [if_neg h1] at h'
  · rcases live a sa h1 l1 with ⟨rfl, _⟩ | ⟨a1, a2, a3⟩ <;> rcases live b sb h2 l2 with ⟨e2, _⟩ | ⟨b1, b2, b3⟩
    · exact e2.symm
    · have := new j ha
      subst this
      exact absurd (hm.inj b n _ _ j b3 hn l2 hl (old b j b1 hb') hb) b2
    · subst e2
      have := new j hb'
      subst this
      exact absurd (hm.inj a n _ _ j a3 hn l1 hl (old a j a1 ha) hb) a2
    · exact hm.inj a b _ _ j a3 b3 l1 l2 (old a j a1 ha) (old b j b1 hb')
  · by_cases em : m = nm
    · subst em
      have := new j h
      subst this
      exact hm.rng n j hb
    · exact hm.rng m j (old m j em h)
  · by_cases em : m = nm
    · subst em; exact ⟨_, List.getElem?_set_self hlt, Slot.live_free hl⟩
    · obtain ⟨s, hs, hs'⟩ := hm.used m j (old m j em h)
      by_cases en : n = m
      · subst en
        refine ⟨.dead, ?_, by simp⟩
        rw [List.getElem?_set_ne (fun e' => em e'.symm), List.getElem?_set_self (slot_lt hn)]
      · exact ⟨s, by rw [List.getElem?_set_ne (fun e' => em e'.symm), List.getElem?_set_ne en]; exact hs, hs'⟩
theorem MemRel.rename (hm : MemRel S B w0 β mem w) {n nm k : Nat} {t : TypeId} {cs : List RC} (hn : mem[n]? = some (.blk t cs)) (hb : β n = some k) (hf : mem[nm]? = some .free) :
    Ext β (updβ β nm k w) ∧ MemRel S B w0 (updβ β nm k w) ((mem.set n .dead).set nm (.blk t cs)) w := hm.renameS hn rfl hb hf

/-- The cells of what is appended. -/
def newsC (mem : List Slot) (x : TV) : Option (List RC) :=
  match x with
  | .sv (.one (.slc n off len _)) => match blkAt mem n with
    | some (_, cs) => if off + len ≤ cs.length then some ((cs.drop off).take len) else none
    | none => none
  | .sv (.one (.frz k L n)) => some ((List.range n).map fun j => .int k (L.getD j 0))
  | .sv (.one (.strn s m _)) => some ((List.range m).map fun (j : Nat) => .int .u8 (sbyte s j))
  | .sv (.one (.val (.slice none 0 0))) => some []
  | _ => none

theorem newsC_sound (hm : MemRel S B w0 β mem w) {x : TV} {news : List RC} (h : newsC mem x = some news) {v : Value} (r : x.is β v) :
    ∃ us : List Value, all2 (RC.is β) news us ∧ (Builtin.lenOf v).run P w = .ok us.length w ∧ ∀ w', w'.heap = w.heap → (Builtin.firstCells 1 us.length v).run P w' = .ok us.toArray w' := by
  unfold newsC at h
  split at h
  · rename_i n off len cap
    split at h
    · rename_i t cs hblk
      split at h
      · rename_i hle
        cases h
        obtain ⟨b, c, hb, _, _, _, e⟩ := r
        subst e
        obtain ⟨vs, more, fr, h1, h2, h3⟩ := hm.at hblk hb
        have hl := all2_length h2
        have hlen : ((vs.drop off).take len).length = len := by simp; omega
        refine ⟨(vs.drop off).take len, all2_take _ (all2_drop _ h2), by rw [hlen]; rfl, fun w' hw' => ?_⟩
        refine run_firstCells_some w' 1 _ _ _ _ _ (by simp) (fun j u hu => ?_)
        have hj : j < len := by
          rcases Nat.lt_or_ge j len with h' | h'
          · exact h'
          · rw [List.getElem?_eq_none (by omega)] at hu; cases hu
        rw [List.getElem?_take_of_lt hj, List.getElem?_drop] at hu
        rw [add_plain]
        simp [World.cell?, hw', h1, List.getElem?_append_left (show off + j < vs.length by omega), hu]
      · cases h
    · cases h
  · rename_i k L n
    cases h
    obtain ⟨b, off, c, _, e, hf⟩ := r
    subst e
    obtain ⟨cs, bt, fr, hb, hc⟩ := hf.cells
    rw [hm.wd] at hb
    refine ⟨(List.range n).map fun j => .int k (L.getD j 0), all2_map (R := RC.is β) (fun j => RC.int k (L.getD j 0)) (fun j => Value.int k (L.getD j 0)) (fun _ => rfl) _, by simp [Builtin.lenOf], fun w' hw' => ?_⟩
    refine run_firstCells_some w' 1 _ _ _ _ _ (by simp) (fun j u hu => ?_)
    have hj : j < n := by
      rcases Nat.lt_or_ge j n with h' | h'
      · exact h'
      · rw [List.getElem?_eq_none (by simpa using h')] at hu; cases hu
    rw [List.getElem?_map, List.getElem?_range hj] at hu
    rw [add_plain]
    simp only [World.cell?, hw', hb]
    rw [hc j hj]; exact hu
  · rename_i s m hs
    cases h
    have e : v = .string s := r
    subst e
    have hx : (Array.map (fun b : UInt8 => Value.int IntKind.u8 (b.toNat : Int)) (s.extract 0 s.size).data) = (s.data.toList.map fun b => Value.int .u8 b.toNat).toArray := by
      apply Array.ext'
      simp
    refine ⟨s.data.toList.map fun b => Value.int .u8 b.toNat, all2_bytes s m hs, by simp [Builtin.lenOf], fun w' hw' => ?_⟩
    have hl : (s.data.toList.map fun b => Value.int .u8 b.toNat).length = s.size := by simp
    rw [hl]
    simp only [Builtin.firstCells, Sem.run_pure, hx]
  · cases h
    have e : v = .slice none 0 0 := r
    subst e
    exact ⟨[], trivial, rfl, fun w' _ => rfl⟩
  · cases h

def sliceOrStr : TypeDesc → Bool
  | .slice _ | .string => true
  | _ => false
theorem sliceOrStr_is {d : TypeDesc} (h : sliceOrStr d = true) : (∃ e, d = .slice e) ∨ d = .string := by
  cases d <;> first | (simp [sliceOrStr] at h; done) | exact .inl ⟨_, rfl⟩ | exact .inr rfl
/-- What 'append' comes to: its value, and the memory behind it. -/
def appC (P : Program) (ρ : Operand → Option TV) (nm : Nat) (mem : List Slot) (op : Op) : Option (TV × List Slot) :=
  match op with
  | .call { callee := .builtin .append, args, argTypes } => match args.toList, argTypes.toList with
    | [s, x], [t, u] => match P.underlying t, P.underlying u, ρ s, (ρ x).bind (newsC mem), mem[nm]? with
      | some (.slice e), some ud, some sv, some news, some .free => match P.info? e, zeroC P e with
        | some i, some [_] => if sliceOrStr ud = true ∧ i.size = 1 ∧ news.all RC.cellOk = true then
            match sv with
            | .sv (.one (.val (.slice none 0 0))) => if news.length = 0 then some (sv, mem) else
                if news.length * i.bytes ≤ 140737488355328 ∧ news.length ≤ 140737488355328 then some (.sv (.one (.slc nm 0 news.length none)), mem.set nm (.blk e news)) else none
            | .sv (.one (.slc n off len cap)) => match blkAt mem n with
              | some (bt, cs) => if news.length = 0 then some (sv, mem) else
                if off + len ≤ cs.length ∧ (len + news.length) * i.bytes ≤ 140737488355328 ∧ len + news.length ≤ 140737488355328 then
                  match cap with
                  | some c => if len + news.length ≤ c then
                      (if off + len + news.length ≤ cs.length then some (.sv (.one (.slc n off (len + news.length) (some c))), mem.set n (.blk bt (splice cs (off + len) news))) else none)
                    else some (.sv (.one (.slc nm 0 (len + news.length) none)), mem.set nm (.blk e ((cs.drop off).take len ++ news)))
                  | none => if off = 0 ∧ bt = e then some (.sv (.one (.slc nm 0 (len + news.length) none)), (mem.set n .dead).set nm (.blk e (cs.take len ++ news))) else none
                else none
              | none => none
            | _ => none
          else none
        | _, _ => none
      | _, _, _, _, _ => none
    | _, _ => none
  | _ => none

theorem run_app_in {t u ty e : TypeId} {e' : TypeId} (ht : P.underlying t = some (.slice e)) (hu : P.underlying u = some (.slice e') ∨ P.underlying u = some .string) {i : TypeInfo} (hi : P.info? e = some i) (h1 : i.size = 1)
    {x : Value} {us : List Value} (hl : (Builtin.lenOf x).run P w = .ok us.length w) (hf : ∀ w', w'.heap = w.heap → (Builtin.firstCells 1 us.length x).run P w' = .ok us.toArray w')
    {b off sLen sCap : Nat} {cur : List Value} {t0 : TypeId} {fr : Nat × Nat} (hb : w.heap[b]? = some (.cells ⟨cur⟩ t0 fr)) (hroom : sLen + us.length ≤ sCap) (hle : off + sLen + us.length ≤ cur.length)
    (hfr : ∀ j, j < cur.length → ¬ (fr.1 ≤ j ∧ j < fr.2)) (hone : ∀ v ∈ us, v.oneCell' = true) :
    (Builtin.append_ #[t, u] ty #[.slice (some ⟨b, off, none⟩) sLen sCap, x]).run P w = .ok (.slice (some ⟨b, off, none⟩) (sLen + us.length) sCap) (setRow w b (.cells ⟨splice cur (off + sLen) us⟩ t0 fr)) := by
  have hst := run_storeCells' (P := P) (k := b) (off := off + sLen) us 0 cur w hb (by omega) hfr hone
  simp only [Nat.add_zero] at hst
  rcases hu with hu | hu <;> simp [Builtin.append_, run_underlying ht, run_underlying hu, sizeOf, typeInfo, hi, h1, hl, hroom, hf w rfl, add_plain, hst]

theorem run_app_zero {t u ty e : TypeId} {e' : TypeId} (ht : P.underlying t = some (.slice e)) (hu : P.underlying u = some (.slice e') ∨ P.underlying u = some .string) {i : TypeInfo} (hi : P.info? e = some i) (h1 : i.size = 1)
    {x : Value} (hl : (Builtin.lenOf x).run P w = .ok 0 w) (hf : (Builtin.firstCells 1 0 x).run P w = .ok #[] w) {base : Option Addr} {sLen sCap : Nat} (hroom : sLen ≤ sCap) :
    (Builtin.append_ #[t, u] ty #[.slice base sLen sCap, x]).run P w = .ok (.slice base sLen sCap) w := by
  rcases hu with hu | hu <;> cases base <;> simp [Builtin.append_, run_underlying ht, run_underlying hu, sizeOf, typeInfo, hi, h1, hl, hroom, hf, storeCells]

theorem run_app_grow {t u ty e : TypeId} {e' : TypeId} (ht : P.underlying t = some (.slice e)) (hu : P.underlying u = some (.slice e') ∨ P.underlying u = some .string) {i : TypeInfo} (hi : P.info? e = some i) (h1 : i.size = 1)
    {x : Value} {us : List Value} (hl : (Builtin.lenOf x).run P w = .ok us.length w) (hf : ∀ w', w'.heap = w.heap → (Builtin.firstCells 1 us.length x).run P w' = .ok us.toArray w')
    {base : Option Addr} {sLen sCap : Nat} {olds : List Value} (ho : ∀ w', w'.heap = w.heap → (Builtin.firstCells 1 sLen (.slice base sLen sCap)).run P w' = .ok olds.toArray w')
    {zv z0 : Value} (hz : ∀ w', (zeroValue e).run P w' = .ok zv w') (hz0 : zv.cells = #[z0])
    (hg : sCap < sLen + us.length) (h63 : sLen + us.length ≤ 140737488355328) (hby : (sLen + us.length) * i.bytes ≤ 140737488355328) :
    (Builtin.append_ #[t, u] ty #[.slice base sLen sCap, x]).run P w = .ok (.slice (some ⟨w.heap.size, 0, none⟩) (sLen + us.length) (grownCap w (sLen + us.length) sCap e))
      (w.drew.alloc (.cells ⟨olds ++ us ++ List.replicate (grownCap w (sLen + us.length) sCap e - (sLen + us.length)) z0⟩ e)) := by
  have hn : ¬ (sLen + us.length ≤ sCap) := by omega
  have h63' : ¬ ((9223372036854775807 : Int) < ((sLen : Int) + (us.length : Int))) := by omega
  have hfit := growslice_fits hg hby
  have h48' : ¬ (281474976710656 < Builtin.nextslicecap (sLen + us.length) sCap * i.bytes) := by omega
  have hzz : ∀ k, Builtin.zeroCells #[z0] k = (List.replicate k z0).toArray := by
    intro k
    unfold Builtin.zeroCells
    apply Array.ext'
    simp [Nat.mod_one, List.map_const']
  have hf' := hf w.drew rfl
  have ho' := ho w.drew rfl
  rcases hu with hu | hu <;> simp [Builtin.append_, run_underlying ht, run_underlying hu, sizeOf, typeInfo, hi, h1, hl, hn, h63', h48', Question.forced, hf', ho', newRow, grownCap, hz, hz0, hzz] <;> (congr 2; apply Array.ext'; simp)

theorem splice_eq {α : Type} : ∀ (us l : List α) (p : Nat), p + us.length ≤ l.length → splice l p us = l.take p ++ us ++ l.drop (p + us.length)
  | [], l, p, _ => by simp [splice]
  | u :: us, l, p, h => by
    simp only [List.length_cons] at h
    simp only [splice]
    rw [splice_eq us (l.set p u) (p + 1) (by simp; omega)]
    rw [List.take_set, List.drop_set_of_lt (by omega)]
    have e1 : (l.take (p + 1)).set p u = l.take p ++ [u] := by
      have hlen : (l.take p).length = p := by simp; omega
      rw [List.take_add_one, List.getElem?_eq_getElem (show p < l.length by omega)]
      rw [List.set_append_right _ _ (by omega), hlen]
      simp
    rw [e1]
    simp [Nat.add_comm, Nat.add_left_comm]

theorem appC_sound (hm : MemRel S B w0 β mem w) {ρ : Operand → Option TV} {e : Operand → Value} (hρ : ∀ x tv, ρ x = some tv → tv.is β (e x)) {nm : Nat} {o : Oper} {tv : TV} {mem' : List Slot}
    (h : appC P ρ nm mem o.op = some (tv, mem')) :
    ∃ v w' β', (execOp e o).run P w = .ok (.value v) w' ∧ Ext β β' ∧ tv.is β' v ∧ MemRel S B w0 β' mem' w' := by
  obtain ⟨dst, op, type, pos, after, guard⟩ := o
  dsimp only at h
  unfold appC at h
  split at h
  · rename_i args argTypes
    split at h
    · rename_i s x t u hargs htypes
      split at h
      · rename_i el ud sv news ht hu hs hx hfree
        obtain ⟨xv, hx1, hx2⟩ := Option.bind_eq_some_iff.1 hx
        split at h
        · rename_i i z hi hz
          split at h
          · rename_i hc
            obtain ⟨c1, c2, c3⟩ := hc
            obtain ⟨us, hus, hl, hf⟩ := newsC_sound (P := P) hm hx2 (hρ _ _ hx1)
            have hlen := all2_length hus
            have hone := all2_cellOk hus c3
            have hexec : (execOp e ⟨dst, .call { callee := .builtin .append, args := args, argTypes := argTypes }, type, pos, after, guard⟩).run P w =
                ((Builtin.append_ #[t, u] type #[e s, e x]).run P w).andThen fun v w => .ok (.value v) w := by
              have ha : args = #[s, x] := by rw [← Array.toList_inj]; exact hargs
              have hb : argTypes = #[t, u] := by rw [← Array.toList_inj]; exact htypes
              subst ha; subst hb
              simp [execOp, resolve, invoke, builtin]
            have hud : ∃ e', P.underlying u = some (.slice e') ∨ P.underlying u = some .string := by
              rcases sliceOrStr_is c1 with ⟨e', he'⟩ | he'
              · exact ⟨e', .inl (by rw [hu, he'])⟩
              · exact ⟨0, .inr (by rw [hu, he'])⟩
            obtain ⟨e', hud⟩ := hud
            obtain ⟨zv, hz1, hz2⟩ := zeroC_val hz β
            obtain ⟨z0, rest, e1, r1, r2⟩ := all2_cons_left hz2
            have e2 := all2_nil_left r2
            subst e2
            have hz0 : zv.cells = #[z0] := by rw [← Array.toList_inj]; simpa using e1
            have grow : ∀ (base : Option Addr) (sLen sCap : Nat) (olds : List Value) (ocs : List RC), e s = .slice base sLen sCap → all2 (RC.is β) ocs olds → olds.length = sLen → sLen ≤ sCap →
                (∀ w', w'.heap = w.heap → (Builtin.firstCells 1 sLen (.slice base sLen sCap)).run P w' = .ok olds.toArray w') → sCap < sLen + us.length → (sLen + us.length) * i.bytes ≤ 140737488355328 → sLen + us.length ≤ 140737488355328 →
                ∃ v w' β', ((Builtin.append_ #[t, u] type #[e s, e x]).run P w) = .ok v w' ∧ Ext β β' ∧ (RC.slc nm 0 (sLen + us.length) none).is β' v ∧ MemRel S B w0 β' (mem.set nm (.blk el (ocs ++ news))) w' := by
              intro base sLen sCap olds ocs hes hocs holds hsc hfc hg hby h63
              have hrun := run_app_grow (ty := type) ht hud hi c2 hl hf hfc hz1 hz0 hg h63 hby
              obtain ⟨ed, hmd⟩ := MemRel.drew hm
              have hge := grownCap_ge w (sLen + us.length) sCap el
              have hcells : all2 (RC.is (β.to { w with drawn := w.drawn + 1 })) (ocs ++ news) (olds ++ us) := all2_mono (RC.is.ext ed) (all2_append hocs hus)
              have hnew := hmd.new (n := nm) (t := el) (cs := ocs ++ news) hfree (vs := olds ++ us) (more := List.replicate (grownCap w (sLen + us.length) sCap el - (sLen + us.length)) z0) (0, 0) (fun j _ => by simp) hcells
              refine ⟨_, _, _, by rw [hes]; exact hrun, ed.trans hnew.1, ⟨w.heap.size, _, updβ_self _ _ _ _, by simp, hge, fun _ => ?_, rfl⟩, hnew.2⟩
              have hr : ∀ (W : World) (o : Obj), (W.alloc o).heap[W.heap.size]? = some o := fun W o => by show (W.heap.push o)[W.heap.size]? = some o; simp
              have hr' := hr { w with drawn := w.drawn + 1 } (.cells ⟨olds ++ us ++ List.replicate (grownCap w (sLen + us.length) sCap el - (sLen + us.length)) z0⟩ el)
              show 0 + _ ≤ roomAt (World.alloc _ _) w.heap.size
              unfold roomAt
              rw [hr']
              simp
              omega
            have zero : news.length = 0 → ∀ (base : Option Addr) (sLen sCap : Nat), e s = .slice base sLen sCap → sLen ≤ sCap → ((Builtin.append_ #[t, u] type #[e s, e x]).run P w) = .ok (e s) w := by
              intro h0 base sLen sCap hes hsc
              have hu0 : us = [] := List.eq_nil_of_length_eq_zero (by omega)
              subst hu0
              rw [hes]
              exact run_app_zero ht hud hi c2 hl (hf w rfl) hsc
            rw [hexec]
            split at h
            · have es : e s = .slice none 0 0 := hρ _ _ hs
              split at h
              · rename_i h0
                cases h
                rw [zero h0 _ _ _ es (Nat.le_refl _)]
                exact ⟨_, _, β, rfl, Ext.refl β, hρ _ _ hs, hm⟩
              · rename_i h0
                split at h
                · rename_i hb
                  cases h
                  obtain ⟨v, w', β', h1, h2, h3, h4⟩ := grow none 0 0 [] [] es trivial rfl (Nat.le_refl _) (fun w' _ => rfl) (by omega) (by rw [Nat.zero_add, ← hlen]; exact hb.1) (by rw [Nat.zero_add, ← hlen]; exact hb.2)
                  rw [h1]
                  rw [Nat.zero_add, ← hlen] at h3
                  exact ⟨v, w', β', rfl, h2, h3, h4⟩
                · cases h
            · rename_i n off len cap
              obtain ⟨b, c, hb, hcap, hle, hroom, es⟩ := hρ _ _ hs
              split at h
              · rename_i bt cs hblk
                split at h
                · rename_i h0
                  cases h
                  rw [zero h0 _ _ _ es hle]
                  exact ⟨_, _, β, rfl, Ext.refl β, hρ _ _ hs, hm⟩
                · rename_i h0
                  split at h
                  · rename_i hg
                    obtain ⟨g1, g2, g3⟩ := hg
                    obtain ⟨vs, more, fr, q1, q2, q3⟩ := hm.at hblk hb
                    have hvl := all2_length q2
                    have hol : ((vs.drop off).take len).length = len := by simp; omega
                    have hfc : ∀ w', w'.heap = w.heap → (Builtin.firstCells 1 len (.slice (some ⟨b, off, none⟩) len c)).run P w' = .ok ((vs.drop off).take len).toArray w' := by
                      intro w' hw'
                      refine run_firstCells_some w' 1 _ _ _ _ _ (by omega) (fun j u hu => ?_)
                      have hj : j < len := by
                        rcases Nat.lt_or_ge j len with h' | h'
                        · exact h'
                        · rw [List.getElem?_eq_none (by omega)] at hu; cases hu
                      rw [List.getElem?_take_of_lt hj, List.getElem?_drop] at hu
                      rw [add_plain]
                      simp [World.cell?, hw', q1, List.getElem?_append_left (show off + j < vs.length by omega), hu]
                    have hocs : all2 (RC.is β) ((cs.drop off).take len) ((vs.drop off).take len) := all2_take _ (all2_drop _ q2)
                    have fits : len + us.length ≤ c → off + len + us.length ≤ (vs ++ more).length → ∃ v w', ((Builtin.append_ #[t, u] type #[e s, e x]).run P w) = .ok v w' ∧ v = .slice (some ⟨b, off, none⟩) (len + us.length) c ∧ w' = setRow w b (.cells ⟨splice (vs ++ more) (off + len) us⟩ bt fr) := by
                      intro f1 f2
                      refine ⟨_, _, ?_, rfl, rfl⟩
                      rw [es]
                      exact run_app_in ht hud hi c2 hl hf q1 f1 f2 q3 hone
                    split at h
                    · rename_i c'
                      have hcc := hcap c' rfl
                      subst hcc
                      split at h
                      · rename_i k1
                        split at h
                        · rename_i k2
                          cases h
                          obtain ⟨v, w', h1, h2, h3⟩ := fits (by omega) (by simp only [List.length_append]; omega)
                          rw [h1]
                          rw [splice_append _ _ _ _ (by omega)] at h3
                          have hset := hm.set hb (t := bt) (fr := fr) (more := more) (vs := splice vs (off + len) us) (cs := splice cs (off + len) news) (by intro j hj; exact q3 j (by simp only [List.length_append, splice_length] at hj ⊢; exact hj)) (all2_splice (off + len) q2 hus) (blkAt_eq hblk) (by simp only [roomAt, q1]; simp [splice_length])
                          subst h3
                          refine ⟨v, _, _, rfl, hset.1, ⟨b, c, hb, fun m hm' => by cases hm'; rfl, by omega, (by simp), by rw [h2, hlen]⟩, hset.2⟩
                        · cases h
                      · rename_i k1
                        cases h
                        obtain ⟨v, w', β', h1, h2, h3, h4⟩ := grow _ _ _ _ _ es hocs hol hle hfc (by omega) (by rw [← hlen]; exact g2) (by rw [← hlen]; exact g3)
                        rw [h1]
                        rw [← hlen] at h3
                        exact ⟨v, w', β', rfl, h2, h3, h4⟩
                    · split at h
                      · rename_i hz'
                        obtain ⟨z1, z2⟩ := hz'
                        subst z1; subst z2
                        cases h
                        have hnn : nm ≠ n := fun e' => by
                          have := blkAt_eq hblk
                          rw [← e', hfree] at this; cases this
                        rcases Nat.lt_or_ge c (len + us.length) with hlt | hge
                        · obtain ⟨v, w', β', h1, h2, h3, h4⟩ := grow _ _ _ _ _ es hocs hol hle hfc hlt (by rw [← hlen]; exact g2) (by rw [← hlen]; exact g3)
                          rw [h1]
                          rw [← hlen] at h3
                          refine ⟨v, w', β', rfl, h2, h3, ?_⟩
                          have h5 := h4.kill n
                          rw [List.drop_zero, List.set_comm _ _ hnn] at h5
                          exact h5
                        · have hr := hroom rfl
                          rw [hm.wd] at hr
                          simp only [roomAt, q1, List.size_toArray] at hr
                          obtain ⟨v, w', h1, h2, h3⟩ := fits hge (by omega)
                          rw [h1]
                          rw [splice_eq _ _ _ (by omega), Nat.zero_add, List.take_append_of_le_length (by omega)] at h3
                          have htot : (vs.take len ++ us ++ (vs ++ more).drop (len + us.length)).length = (vs ++ more).length := by
                            rw [List.length_append, List.length_append, List.length_drop]
                            have : (vs.take len).length = len := by simp; omega
                            omega
                          have hset := hm.set hb (t := bt) (fr := fr) (more := (vs ++ more).drop (len + us.length)) (vs := vs.take len ++ us) (cs := cs.take len ++ news) (by intro j hj; rw [htot] at hj; exact q3 j hj) (all2_append (all2_take len q2) hus) (blkAt_eq hblk) (by simp only [roomAt, q1, List.size_toArray]; rw [htot]; exact Nat.le_refl _)
                          obtain ⟨s1, s2⟩ := hset
                          rw [← h3] at s1 s2
                          have hlt : n < mem.length := by
                            rcases Nat.lt_or_ge n mem.length with h' | h'
                            · exact h'
                            · have := blkAt_eq hblk
                              simp [List.getElem?_eq_none h'] at this
                          obtain ⟨r1, r2⟩ := s2.rename (nm := nm) (List.getElem?_set_self hlt) hb (by rw [List.getElem?_set_ne (fun e' => hnn e'.symm)]; exact hfree)
                          rw [List.set_set] at r2
                          refine ⟨v, w', _, rfl, s1.trans r1, ⟨b, c, updβ_self _ _ _ _, (by simp), by omega, fun _ => ?_, by rw [h2, hlen]⟩, r2⟩
                          show 0 + c ≤ roomAt w' b
                          have hrm := s1.room b
                          rw [hm.wd] at hrm
                          have : roomAt w b ≤ roomAt w' b := hrm
                          have e6 : roomAt w b = (vs ++ more).length := by simp only [roomAt, q1, List.size_toArray]
                          omega
                      · cases h
                  · cases h
              · cases h
            · cases h
          · cases h
        · cases h
      · cases h
    · cases h
  · cases h
/-! ### Appending to what has any length -/
/-- The numbers of what is appended. -/
def newsS (mem : List Slot) (x : TV) : Option (List Prop × IntKind × List Int) :=
  match x with
  | .sv (.one (.str s)) => some ([], .u8, strNums s)
  | .sv (.one (.sq m len)) => match seqAt mem m with
    | some (_, k, L) => some ([len = L.length], k, L)
    | none => none
  | x => match newsC mem x with
    | some (c :: cs) => match c.num with
      | some (_, k, _) => match numsOf k (c :: cs) with
        | some xs => some ([], k, xs)
        | none => none
      | none => none
    | _ => none
theorem newsS_sound (hm : MemRel S B w0 β mem w) {x : TV} {need : List Prop} {k : IntKind} {N : List Int} (h : newsS mem x = some (need, k, N)) (hn : ∀ p ∈ need, p) {v : Value} (r : x.is β v) :
    (Builtin.lenOf v).run P w = .ok N.length w ∧ ∀ w', w'.heap = w.heap → (Builtin.firstCells 1 N.length v).run P w' = .ok (N.map (Value.int k)).toArray w' := by
  unfold newsS at h
  split at h
  · rename_i s
    cases h
    have e : v = .string s := r
    subst e
    have hx : (Array.map (fun b : UInt8 => Value.int IntKind.u8 (b.toNat : Int)) (s.extract 0 s.size).data) = ((strNums s).map (Value.int .u8)).toArray := by
      apply Array.ext'
      simp [strNums]
    refine ⟨by rw [strNums_length]; simp [Builtin.lenOf], fun w' _ => ?_⟩
    rw [strNums_length]
    simp only [Builtin.firstCells, Sem.run_pure, hx]
  · rename_i m len
    split at h
    · rename_i t k' L hq
      cases h
      have hl : len = N.length := hn _ (by simp)
      rcases r with ⟨b, c, hb, hle, hroom, e⟩ | ⟨e0, e⟩
      · subst e
        subst hl
        have hh := (hm.seq m t k N (seqAt_eq hq)).1 b hb
        refine ⟨by simp [Builtin.lenOf], fun w' hw' => ?_⟩
        have := run_firstCells_some (P := P) w' 1 N.length ⟨b, 0, none⟩ N.length c (N.map (Value.int k)) (by simp) (fun j u hu => ?_)
        · simpa using this
        · have hj : j < N.length := by
            rcases Nat.lt_or_ge j N.length with h' | h'
            · exact h'
            · rw [List.getElem?_eq_none (by simpa using h')] at hu; cases hu
          rw [add_plain, Nat.zero_add]
          have hc := hh.cell hj
          simp only [World.cell?, hw'] at hc ⊢
          rw [hc, ← hu]
          simp [List.getElem?_eq_getElem hj]
      · subst e
        have : N = [] := List.eq_nil_of_length_eq_zero (by omega)
        subst this
        exact ⟨rfl, fun w' _ => rfl⟩
    · cases h
  · split at h
    · rename_i c cs hx
      split at h
      · rename_i l k' n hc
        split at h
        · rename_i xs hxs
          cases h
          obtain ⟨us, hus, h1, h2⟩ := newsC_sound (P := P) hm hx r
          have e := numsOf_is hxs hus
          subst e
          simp only [List.length_map] at h1 h2
          exact ⟨h1, h2⟩
        · cases h
      · cases h
    · cases h

/-- What is appended to: its block's name, if it has one, and its numbers. -/
def baseS (mem : List Slot) (e : TypeId) (k : IntKind) (x : TV) : Option (List Prop × Option Nat × List Int) :=
  match x with
  | .sv (.one (.val (.slice none 0 0))) => some ([], none, [])
  | .sv (.one (.sq n len)) => match seqAt mem n with
    | some (bt, k', L) => if bt = e ∧ k' = k then some ([len = L.length], some n, L) else none
    | none => none
  | _ => none
def killO (mem : List Slot) : Option Nat → List Slot
  | none => mem
  | some n => mem.set n .dead
def appS (P : Program) (ρ : Operand → Option TV) (nm : Nat) (mem : List Slot) (op : Op) : Option (List Prop × TV × List Slot) :=
  match op with
  | .call { callee := .builtin .append, args, argTypes } => match args.toList, argTypes.toList with
    | [s, x], [t, u] => match P.underlying t, P.underlying u, ρ s, (ρ x).bind (newsS mem), mem[nm]? with
      | some (.slice e), some ud, some sv, some (nd, k, N), some .free => match P.info? e, zeroC P e, baseS mem e k sv with
        | some i, some [_], some (nd', o, L) => if sliceOrStr ud = true ∧ i.size = 1 ∧ i.bytes ≤ 16 then
            some ([(L ++ N).length ≤ 8796093022208] ++ nd' ++ nd, .sv (.one (.sq nm (L ++ N).length)), (killO mem o).set nm (.seq e k (L ++ N)))
          else none
        | _, _, _ => none
      | _, _, _, _, _ => none
    | _, _ => none
  | _ => none

theorem appS_sound (hm : MemRel S B w0 β mem w) {ρ : Operand → Option TV} {e : Operand → Value} (hρ : ∀ x tv, ρ x = some tv → tv.is β (e x)) {nm : Nat} {o : Oper} {need : List Prop} {tv : TV} {mem' : List Slot}
    (h : appS P ρ nm mem o.op = some (need, tv, mem')) (hn : ∀ p ∈ need, p) :
    ∃ v w' β', (execOp e o).run P w = .ok (.value v) w' ∧ Ext β β' ∧ tv.is β' v ∧ MemRel S B w0 β' mem' w' := by
  obtain ⟨dst, op, type, pos, after, guard⟩ := o
  dsimp only at h
  unfold appS at h
  split at h <;> try (cases h; done)
  rename_i args argTypes
  split at h <;> try (cases h; done)
  rename_i s x t u hargs htypes
  split at h <;> try (cases h; done)
  rename_i el ud sv nd k N ht hu hs hx hfree
  split at h <;> try (cases h; done)
  rename_i i z nd' o L hi hz hbase
  split at h <;> try (cases h; done)
  rename_i hc
  obtain ⟨c1, c2, c3⟩ := hc
  cases h
  obtain ⟨xv, hx1, hx2⟩ := Option.bind_eq_some_iff.1 hx
  have hbig : (L ++ N).length ≤ 8796093022208 := hn _ (by simp)
  obtain ⟨hl, hf⟩ := newsS_sound (P := P) hm hx2 (fun p hp => hn p (by simp [hp])) (hρ _ _ hx1)
  have hexec : (execOp e ⟨dst, .call { callee := .builtin .append, args := args, argTypes := argTypes }, type, pos, after, guard⟩).run P w =
      ((Builtin.append_ #[t, u] type #[e s, e x]).run P w).andThen fun v w => .ok (.value v) w := by
    have ha : args = #[s, x] := by rw [← Array.toList_inj]; exact hargs
    have hb : argTypes = #[t, u] := by rw [← Array.toList_inj]; exact htypes
    subst ha; subst hb
    simp [execOp, resolve, invoke, builtin]
  have hud : ∃ e', P.underlying u = some (.slice e') ∨ P.underlying u = some .string := by
    rcases sliceOrStr_is c1 with ⟨e', he'⟩ | he'
    · exact ⟨e', .inl (by rw [hu, he'])⟩
    · exact ⟨0, .inr (by rw [hu, he'])⟩
  obtain ⟨e', hud⟩ := hud
  obtain ⟨zv, hz1, hz2⟩ := zeroC_val hz β
  obtain ⟨z0, rest, e1, r1, r2⟩ := all2_cons_left hz2
  have e2 := all2_nil_left r2
  subst e2
  have hz0 : zv.cells = #[z0] := by rw [← Array.toList_inj]; simpa using e1
  have hlN : (Builtin.lenOf (e x)).run P w = .ok (N.map (Value.int k)).length w := by rw [List.length_map]; exact hl
  have hfN : ∀ w', w'.heap = w.heap → (Builtin.firstCells 1 (N.map (Value.int k)).length (e x)).run P w' = .ok (N.map (Value.int k)).toArray w' := by rw [List.length_map]; exact hf
  have hbig2 : L.length + N.length ≤ 8796093022208 := by simpa using hbig
  have hby : (L.length + (N.map (Value.int k)).length) * i.bytes ≤ 140737488355328 := by
    rw [List.length_map]
    exact Nat.le_trans (Nat.mul_le_mul hbig2 c3) (by decide)
  have grow : ∀ (mem0 : List Slot), MemRel S B w0 β mem0 w → mem0[nm]? = some .free → ∀ (base : Option Addr) (sCap : Nat), e s = .slice base L.length sCap →
      (∀ w', w'.heap = w.heap → (Builtin.firstCells 1 L.length (.slice base L.length sCap)).run P w' = .ok (L.map (Value.int k)).toArray w') → sCap < L.length + N.length →
      ∃ v w' β', ((Builtin.append_ #[t, u] type #[e s, e x]).run P w) = .ok v w' ∧ Ext β β' ∧ (RC.sq nm (L ++ N).length).is β' v ∧ MemRel S B w0 β' (mem0.set nm (.seq el k (L ++ N))) w' := by
    intro mem0 hm0 hfree0 base sCap hes hfc hg
    have hrun := run_app_grow (ty := type) ht hud hi c2 hlN hfN (olds := L.map (Value.int k)) hfc hz1 hz0 (by rw [List.length_map]; exact hg) (by rw [List.length_map]; omega) hby
    rw [List.length_map] at hrun
    obtain ⟨ed, hmd⟩ := MemRel.drew hm0
    have hge := grownCap_ge w (L.length + N.length) sCap el
    have hnew := hmd.newSeq (n := nm) (t := el) (k := k) (L := L ++ N) hfree0 (more := List.replicate (grownCap w (L.length + N.length) sCap el - (L.length + N.length)) z0) (0, 0) (fun j _ => by simp)
    rw [List.map_append] at hnew
    refine ⟨_, _, _, by rw [hes]; exact hrun, ed.trans hnew.1, .inl ⟨w.heap.size, _, updβ_self _ _ _ _, by rw [List.length_append]; exact hge, ?_, by rw [List.length_append]⟩, hnew.2⟩
    have hr' := heap_alloc_self { w with drawn := w.drawn + 1 } (.cells ⟨L.map (Value.int k) ++ N.map (Value.int k) ++ List.replicate (grownCap w (L.length + N.length) sCap el - (L.length + N.length)) z0⟩ el)
    show _ ≤ roomAt (World.alloc _ _) w.heap.size
    unfold roomAt
    rw [hr']
    simp
    omega
  have nil : ∀ (mem0 : List Slot), MemRel S B w0 β mem0 w → mem0[nm]? = some .free → L = [] → e s = .slice none 0 0 →
      ∃ v w' β', ((Builtin.append_ #[t, u] type #[e s, e x]).run P w) = .ok v w' ∧ Ext β β' ∧ (RC.sq nm (L ++ N).length).is β' v ∧ MemRel S B w0 β' (mem0.set nm (.seq el k (L ++ N))) w' := by
    intro mem0 hm0 hfree0 hL hes
    subst hL
    rcases Nat.eq_zero_or_pos N.length with h0 | h0
    · have hN := List.eq_nil_of_length_eq_zero h0
      subst hN
      refine ⟨_, w, β, ?_, Ext.refl β, .inr ⟨rfl, rfl⟩, hm0.emptyS hfree0 el k⟩
      rw [hes]
      exact run_app_zero ht hud hi c2 hl (hf w rfl) (Nat.le_refl _)
    · exact grow mem0 hm0 hfree0 none 0 hes (fun w' _ => rfl) (by simpa using h0)
  suffices hgoal : ∃ v w' β', ((Builtin.append_ #[t, u] type #[e s, e x]).run P w) = .ok v w' ∧ Ext β β' ∧ (RC.sq nm (L ++ N).length).is β' v ∧ MemRel S B w0 β' ((killO mem o).set nm (.seq el k (L ++ N))) w' by
    obtain ⟨v, w', β', h1, h2, h3, h4⟩ := hgoal
    rw [hexec, h1]
    exact ⟨v, w', β', rfl, h2, h3, h4⟩
  unfold baseS at hbase
  split at hbase
  · cases hbase
    exact nil mem hm hfree rfl (hρ _ _ hs)
  · rename_i n len
    split at hbase <;> try (cases hbase; done)
    rename_i bt k' L' hq
    split at hbase <;> try (cases hbase; done)
    rename_i hk
    obtain ⟨rfl, rfl⟩ := hk
    cases hbase
    have hlen : len = L.length := hn _ (by simp)
    have hslot := seqAt_eq hq
    have hnn : nm ≠ n := fun e' => by rw [← e', hfree] at hslot; cases hslot
    have hfree' : (mem.set n .dead)[nm]? = some .free := by rw [List.getElem?_set_ne (Ne.symm hnn)]; exact hfree
    rcases hρ _ _ hs with ⟨b, c, hb, hle, hroom, es⟩ | ⟨e0, es⟩
    · rw [hlen] at es hle
      have hh := (hm.seq n bt k' L hslot).1 b hb
      rcases Nat.lt_or_ge c (L.length + N.length) with hlt | hge
      · refine grow _ (hm.kill n) hfree' _ c es (fun w' hw' => ?_) hlt
        have := run_firstCells_some (P := P) w' 1 L.length ⟨b, 0, none⟩ L.length c (L.map (Value.int k')) (by simp) (fun j u hu => ?_)
        · simpa using this
        · have hj : j < L.length := by
            rcases Nat.lt_or_ge j L.length with h' | h'
            · exact h'
            · rw [List.getElem?_eq_none (by simpa using h')] at hu; cases hu
          rw [add_plain, Nat.zero_add]
          have hc := hh.cell hj
          simp only [World.cell?, hw'] at hc ⊢
          rw [hc, ← hu]
          simp [List.getElem?_eq_getElem hj]
      · obtain ⟨more, fr, q1, q2⟩ := hh
        rw [hm.wd] at hroom
        simp only [roomAt, q1, List.size_toArray] at hroom
        have hrun := run_app_in (ty := type) (w := w) ht hud hi c2 hlN hfN (b := b) (off := 0) (sLen := L.length) (sCap := c) (cur := L.map (Value.int k') ++ more) q1 (by rw [List.length_map]; exact hge) (by rw [List.length_map, Nat.zero_add]; omega) q2 (by intro v hv; obtain ⟨y, _, rfl⟩ := List.mem_map.1 hv; rfl)
        rw [List.length_map, Nat.zero_add] at hrun
        have hsp : splice (L.map (Value.int k') ++ more) L.length (N.map (Value.int k')) = (L ++ N).map (Value.int k') ++ more.drop N.length := by
          rw [splice_eq _ _ _ (by simp at hroom ⊢; omega)]
          simp [List.take_append_of_le_length, List.drop_append]
        rw [hsp] at hrun
        have htot : ((L ++ N).map (Value.int k') ++ more.drop N.length).length = (L.map (Value.int k') ++ more).length := by
          simp at hroom ⊢; omega
        have hlive : (Slot.seq bt k' L).live = true := rfl
        have hset := hm.changeS (w' := setRow w b (.cells ⟨(L ++ N).map (Value.int k') ++ more.drop N.length⟩ bt fr)) (s1 := .seq bt k' (L ++ N)) hb hslot hlive rfl rfl rfl (by simp [setRow]) (fun j _ hj => setRow_ne hj)
          (by simp only [roomAt, q1, setRow_get (hm.rng n b hb).2, List.size_toArray]; rw [htot]; exact Nat.le_refl _)
          (fun _ _ => ⟨more.drop N.length, fr, setRow_get (hm.rng n b hb).2, fun j hj => q2 j (by rw [htot] at hj; exact hj)⟩)
        obtain ⟨s1, s2⟩ := hset
        have hlt := slot_lt hslot
        obtain ⟨g1, g2⟩ := s2.renameS (nm := nm) (List.getElem?_set_self hlt) rfl hb (by rw [List.getElem?_set_ne (Ne.symm hnn)]; exact hfree)
        rw [List.set_set] at g2
        refine ⟨_, _, _, by rw [es]; exact hrun, s1.trans g1, .inl ⟨b, c, updβ_self _ _ _ _, by rw [List.length_append]; exact hge, ?_, by rw [List.length_append]⟩, g2⟩
        show c ≤ roomAt (setRow w b _) b
        simp only [roomAt, setRow_get (hm.rng n b hb).2, List.size_toArray]
        rw [htot]
        omega
    · have hL : L = [] := List.eq_nil_of_length_eq_zero (by omega)
      exact nil _ (hm.kill n) hfree' hL es
  · cases hbase
/-! ### Copying -/
def copyC (P : Program) (ρ : Operand → Option TV) (mem : List Slot) (op : Op) : Option (List Prop × TV × List Slot) :=
  match op with
  | .call { callee := .builtin .copy, args, argTypes } => match args.toList, argTypes.toList with
    | [d, x], [t, _] => match P.underlying t, ρ d, (ρ x).bind TV.string? with
      | some (.slice e), some (.sv (.one (.slc n off len _))), some s => match P.info? e, blkAt mem n with
        | some i, some (bt, cs) => match numsOf .u8 ((cs.drop off).take len) with
          | some xs => if i.size = 1 ∧ xs.length = len ∧ 0 < len then
              some ([], .sv (.one (.int .i64 (min s.size len : Nat))), mem.set n (.blk bt (splice cs off ((List.range len).map fun (j : Nat) => .int .u8 (bif decide (j < s.size) then sbyte s j else xs.getD j 0)))))
            else none
          | none => none
        | _, _ => none
      | _, _, _ => none
    | _, _ => none
  | _ => none
theorem splice_get {α : Type} (us l : List α) (p : Nat) (h : p + us.length ≤ l.length) (i : Nat) : (splice l p us)[i]? = if p ≤ i ∧ i < p + us.length then us[i - p]? else l[i]? := by
  rw [splice_eq us l p h]
  have hl : (l.take p).length = p := by simp; omega
  by_cases h1 : i < p
  · rw [if_neg (by omega), List.append_assoc, List.getElem?_append_left (by omega), List.getElem?_take_of_lt h1]
  · by_cases h2 : i < p + us.length
    · rw [if_pos ⟨by omega, h2⟩, List.append_assoc, List.getElem?_append_right (by omega), hl, List.getElem?_append_left (by omega)]
    · rw [if_neg (by omega), List.getElem?_append_right (by simp; omega), List.getElem?_drop]
      congr 1
      simp; omega
theorem copyC_sound (hm : MemRel S B w0 β mem w) {ρ : Operand → Option TV} {e : Operand → Value} (hρ : ∀ x tv, ρ x = some tv → tv.is β (e x)) {o : Oper} {need : List Prop} {tv : TV} {mem' : List Slot}
    (h : copyC P ρ mem o.op = some (need, tv, mem')) (_hn : ∀ p ∈ need, p) :
    ∃ v w' β', (execOp e o).run P w = .ok (.value v) w' ∧ Ext β β' ∧ tv.is β' v ∧ MemRel S B w0 β' mem' w' := by
  obtain ⟨dst, op, type, pos, after, guard⟩ := o
  dsimp only at h
  unfold copyC at h
  split at h <;> try (cases h; done)
  rename_i args argTypes
  split at h <;> try (cases h; done)
  rename_i d x t t' hargs htypes
  split at h <;> try (cases h; done)
  rename_i el n off len cap s ht hd hx
  split at h <;> try (cases h; done)
  rename_i i bt cs hi hblk
  split at h <;> try (cases h; done)
  rename_i xs hxs
  split at h <;> try (cases h; done)
  rename_i hc
  obtain ⟨c1, c2, c3⟩ := hc
  cases h
  obtain ⟨tx, hx1, hx2⟩ := Option.bind_eq_some_iff.1 hx
  have ex : e x = .string s := TV.string_is hx2 (hρ _ _ hx1)
  obtain ⟨b, c, hb, _, hle, _, ed⟩ := hρ _ _ hd
  obtain ⟨vs, more, fr, h1, h2, h3⟩ := hm.at hblk hb
  have hvl := all2_length h2
  have hlen : ((cs.drop off).take len).length = len := by rw [← numsOf_length hxs]; exact c2
  have hoff : off + len ≤ vs.length := by rw [← hvl]; simp at hlen; omega
  have hvx := numsOf_is hxs (all2_take len (all2_drop off h2))
  have hexec : (execOp e ⟨dst, .call { callee := .builtin .copy, args := args, argTypes := argTypes }, type, pos, after, guard⟩).run P w =
      ((Builtin.copy_ #[t, t'] type #[e d, e x]).run P w).andThen fun v w => .ok (.value v) w := by
    have ha : args = #[d, x] := by rw [← Array.toList_inj]; exact hargs
    have hb : argTypes = #[t, t'] := by rw [← Array.toList_inj]; exact htypes
    subst ha; subst hb
    simp [execOp, resolve, invoke, builtin]
  let m := Nat.min s.size len
  have hmle : m ≤ len := Nat.min_le_right _ _
  have hms : m ≤ s.size := Nat.min_le_left _ _
  let us : List Value := (List.range m).map fun (j : Nat) => Value.int .u8 (sbyte s j)
  have husl : us.length = m := by simp [us]
  have hcells : (Builtin.firstCells 1 m (.string s)).run P w = .ok us.toArray w := by
    have hx : (Array.map (fun b : UInt8 => Value.int IntKind.u8 (b.toNat : Int)) (s.extract 0 m).data) = us.toArray := by
      apply Array.ext'
      apply List.ext_getElem?
      intro j
      simp only [us, Array.toList_map, List.getElem?_map, ByteArray.data_extract, Array.toList_extract]
      by_cases hj : j < m
      · rw [List.getElem?_range hj]
        simp only [Option.map_some, sbyte, Int.toNat_natCast, List.getD_eq_getElem?_getD]
        have hjs : j < s.data.toList.length := by simpa using (show j < s.size by omega)
        simp [List.getElem?_take_of_lt hj, List.getElem?_eq_getElem hjs, hj]
      · rw [List.getElem?_eq_none (by simp; omega), List.getElem?_eq_none (by simp; omega)]
        rfl
    simp only [Builtin.firstCells, Sem.run_pure, hx]
  have hst := run_storeCells' (P := P) (k := b) (off := off) us 0 (vs ++ more) w h1 (by rw [husl]; simp only [Nat.add_zero, List.length_append]; omega) h3 (by intro v hv; obtain ⟨y, _, rfl⟩ := List.mem_map.1 hv; rfl)
  have hrun : (Builtin.copy_ #[t, t'] type #[e d, e x]).run P w = .ok (.int .i64 (m : Nat)) (setRow w b (.cells ⟨splice vs off us ++ more⟩ bt fr)) := by
    rw [ed, ex]
    rw [Nat.add_zero, splice_append _ _ _ _ (by rw [husl]; omega)] at hst
    have hmm : s.size.min len = m := rfl
    simp [Builtin.copy_, run_underlying ht, Builtin.lenOf, sizeOf, typeInfo, hi, c1, hmm, hcells, hst, goInt]
  let us' : List Value := (List.range len).map fun (j : Nat) => Value.int .u8 (bif decide (j < s.size) then sbyte s j else xs.getD j 0)
  have hus' : us'.length = len := by simp [us']
  have hsame : splice vs off us = splice vs off us' := by
    apply List.ext_getElem?
    intro j
    rw [splice_get _ _ _ (by rw [husl]; omega), splice_get _ _ _ (by rw [hus']; omega), husl, hus']
    by_cases h1 : off ≤ j ∧ j < off + m
    · rw [if_pos h1, if_pos ⟨h1.1, by omega⟩]
      simp only [us, us', List.getElem?_map]
      rw [List.getElem?_range (show j - off < m by omega), List.getElem?_range (show j - off < len by omega)]
      simp [show j - off < s.size by omega]
    · rw [if_neg h1]
      by_cases h2 : off ≤ j ∧ j < off + len
      · rw [if_pos h2]
        simp only [us', List.getElem?_map]
        rw [List.getElem?_range (show j - off < len by omega)]
        have hns : ¬ (j - off < s.size) := by
          intro h4
          have : j - off < m := Nat.lt_min.2 ⟨h4, by omega⟩
          omega
        have hv := congrArg (fun l : List Value => l[j - off]?) hvx
        simp only [List.getElem?_map] at hv
        rw [List.getElem?_take_of_lt (show j - off < len by omega), List.getElem?_drop, show off + (j - off) = j by omega, List.getElem?_eq_getElem (show j - off < xs.length by omega)] at hv
        rw [hv]
        simp [hns, List.getD_eq_getElem?_getD, List.getElem?_eq_getElem (show j - off < xs.length by omega)]
      · rw [if_neg h2]
  rw [hsame] at hrun
  have hset := hm.set hb (t := bt) (fr := fr) (more := more) (vs := splice vs off us') (cs := splice cs off ((List.range len).map fun (j : Nat) => RC.int .u8 (bif decide (j < s.size) then sbyte s j else xs.getD j 0)))
    (by intro j hj; exact h3 j (by simp only [List.length_append, splice_length] at hj ⊢; exact hj))
    (all2_splice off h2 (all2_map (R := RC.is β) (fun (j : Nat) => RC.int .u8 (bif decide (j < s.size) then sbyte s j else xs.getD j 0)) (fun (j : Nat) => Value.int .u8 (bif decide (j < s.size) then sbyte s j else xs.getD j 0)) (fun _ => rfl) _)) (blkAt_eq hblk) (by simp only [roomAt, h1]; simp [splice_length])
  rw [hexec, hrun]
  exact ⟨_, _, _, rfl, hset.1, rfl, hset.2⟩
end

/-! ### What an operation does -/
def Does (P : Program) (r : Result Next) (R : Value → World → Prop) : Prop :=
  match r with
  | .ok (.value v) w => R v w
  | .ok .skip w => R undef w
  | .ok (.enter f args) w => Calls P f args w fun e w' => ∃ v, e = .returned v ∧ R v w'
  | _ => False

theorem Does.mono {P : Program} {r : Result Next} {R R' : Value → World → Prop} (h : Does P r R) (hr : ∀ v w, R v w → R' v w) : Does P r R' := by
  cases r with
  | ok n w =>
    cases n <;> simp only [Does] at h ⊢ <;> first
      | exact hr _ _ h
      | exact h.mono fun e w' ⟨v, he, hv⟩ => ⟨v, he, hr _ _ hv⟩
  | halt x w => exact h

theorem wp_of_does {P : Program} {o : Oper} {a : Act} {w : World} {R : Value → World → Prop} {next : Act → World → Prop} {Q : Exit → Act → World → Prop}
    (h : Does P ((execOp a.eval o).run P w) R) (hr : ∀ v w', R v w' → next (a.put o.dst v) w') : o.wp P a w next Q := by
  unfold Oper.wp
  generalize (execOp a.eval o).run P w = r at h
  cases r with
  | ok n w' =>
    cases n <;> simp only [Does] at h <;> simp only [Oper.upon] <;> first
      | exact hr _ _ h
      | exact h.mono fun e w'' ⟨v, he, hv⟩ => by subst he; exact hr _ _ hv
  | halt x w' => exact h.elim

/-! ### Contracts: a function that only computes ('comp'), or one that knows memory ('memo') -/
def kindOf : List RC → Option IntKind
  | c :: _ => match c.num with
    | some (_, k, _) => some k
    | none => none
  | [] => none
/-- An argument as it is at the call: a slice of numbers by its numbers. -/
def viewS (mem : List Slot) : SV → Option SV
  | .one (.slc n off len _) => match blkAt mem n with
    | some (_, cs) => match kindOf cs with
      | some k => match numsOf k ((cs.drop off).take len) with
        | some xs => if xs.length = len then some (.one (.frz k xs len)) else none
        | none => none
      | none => none
    | none => none
  | s => some s
def viewAll (mem : List Slot) : List SV → Option (List SV)
  | [] => some []
  | s :: r => match viewS mem s, viewAll mem r with
    | some t, some l => some (t :: l)
    | _, _ => none

inductive CtKind where
  | comp (g : List SV → Option (List Prop × TV))
  | view (g : List SV → Option TV)
  | own (g : List SV → Nat → Option (TV × TypeId × List RC))
  | memo (news : Nat) (g : List SV → List Slot → Nat → Option (List Prop × TV × List Slot))

def isFree : Slot → Bool
  | .free => true
  | _ => false
/-- What is there stays there. -/
def monoB : List Slot → List Slot → Bool
  | [], _ => true
  | s :: r, t :: q => (isFree s || !isFree t) && monoB r q
  | s :: r, [] => isFree s && monoB r []
def Mono (m m' : List Slot) : Prop := ∀ (n : Nat) (s : Slot), m[n]? = some s → isFree s = false → ∃ s', m'[n]? = some s' ∧ isFree s' = false
theorem monoB_is : ∀ {m m' : List Slot}, monoB m m' = true → Mono m m'
  | [], _, _, n, s, h, _ => by simp at h
  | x :: m, y :: m', h, n, s, hn, hs => by
    simp only [monoB, Bool.and_eq_true, Bool.or_eq_true] at h
    cases n with
    | zero =>
      simp at hn; subst hn
      refine ⟨y, by simp, ?_⟩
      rcases h.1 with h' | h'
      · rw [hs] at h'; cases h'
      · simpa using h'
    | succ n =>
      obtain ⟨s', h1, h2⟩ := monoB_is h.2 n s (by simpa using hn) hs
      exact ⟨s', by simpa using h1, h2⟩
  | x :: m, [], h, n, s, hn, hs => by
    simp only [monoB, Bool.and_eq_true] at h
    cases n with
    | zero => simp at hn; subst hn; rw [hs] at h; cases h.1
    | succ n =>
      obtain ⟨s', h1, _⟩ := monoB_is h.2 n s (by simpa using hn) hs
      simp at h1
theorem Mono.refl (m : List Slot) : Mono m m := fun _ s h hs => ⟨s, h, hs⟩
theorem Mono.trans {a b c : List Slot} (h : Mono a b) (h' : Mono b c) : Mono a c := fun n s hn hs =>
  let ⟨_, h1, h2⟩ := h n s hn hs
  h' n _ h1 h2
theorem Mono.set (m : List Slot) (n : Nat) {s : Slot} (hs : isFree s = false) : Mono m (m.set n s) := by
  intro i t hi ht
  have hlt : i < m.length := by
    rcases Nat.lt_or_ge i m.length with h' | h'
    · exact h'
    · rw [List.getElem?_eq_none h'] at hi; cases hi
  by_cases e : n = i
  · subst e; exact ⟨s, List.getElem?_set_self hlt, hs⟩
  · exact ⟨t, by rw [List.getElem?_set_ne e]; exact hi, ht⟩

structure Ct where
  f : FuncId
  kind : CtKind

def Ct.run (c : Ct) (args : List SV) (mem : List Slot) (nm : Nat) : Option (List Prop × TV × List Slot) :=
  match c.kind with
  | .comp g => match g args with
    | some (need, tv) => some (need, tv, mem)
    | none => none
  | .view g => match (viewAll mem args).bind g with
    | some tv => some ([], tv, mem)
    | none => none
  | .own g => match mem[nm]?, g args nm with
    | some .free, some (tv, t, cs) => some ([], tv, mem.set nm (.blk t cs))
    | _, _ => none
  | .memo _ g => match g args mem nm with
    | some (need, tv, mem') => if monoB mem mem' = true then some (need, tv, mem') else none
    | none => none
def Ct.news (c : Ct) : Nat := match c.kind with | .comp _ => 0 | .view _ => 0 | .own _ => 1 | .memo n _ => n

def CtOk (P : Program) (c : Ct) : Prop :=
  ∀ args mem nm need tv mem', c.run args mem nm = some (need, tv, mem') → (∀ p ∈ need, p) → ∀ S B w0 β w vs, all2 (SV.is β) args vs → MemRel S B w0 β mem w →
    Does P ((callFunc c.f ⟨vs⟩).run P w) fun v w' => ∃ β', Ext β β' ∧ tv.is β' v ∧ MemRel S B w0 β' mem' w'

def findCt (f : FuncId) : List Ct → Option Ct
  | [] => none
  | c :: r => if c.f = f then some c else findCt f r
theorem findCt_mem {f : FuncId} : ∀ {l : List Ct} {c : Ct}, findCt f l = some c → c ∈ l ∧ c.f = f
  | [], c, h => by cases h
  | d :: r, c, h => by
    unfold findCt at h
    split at h
    · rename_i e; cases h; exact ⟨by simp, e⟩
    · have := findCt_mem h; exact ⟨by simp [this.1], this.2⟩

def argsC (ρ : Operand → Option TV) : List Operand → Option (List SV)
  | [] => some []
  | x :: r => match ρ x, argsC ρ r with
    | some (.sv s), some l => some (s :: l)
    | _, _ => none
theorem argsC_sound {ρ : Operand → Option TV} {β : Env} {e : Operand → Value} (hρ : ∀ x tv, ρ x = some tv → tv.is β (e x)) : ∀ {l : List Operand} {out : List SV}, argsC ρ l = some out → all2 (SV.is β) out (l.map e)
  | [], out, h => by simp [argsC] at h; subst h; trivial
  | x :: r, out, h => by
    unfold argsC at h
    split at h
    · rename_i s l h1 h2
      cases h
      exact ⟨hρ _ _ h1, argsC_sound hρ h2⟩
    · cases h

def capSV (c : Nat × Nat) : SV := .one (.ptr c.1 c.2)
theorem capSV_is {β : Env} : ∀ {l : List (Nat × Nat)} {vs : List Value}, all2 (capIs β) l vs → all2 (SV.is β) (l.map capSV) vs
  | [], [], _ => trivial
  | _ :: _, _ :: _, h => ⟨h.1, capSV_is h.2⟩
  | [], _ :: _, h => h.elim
  | _ :: _, [], h => h.elim

/-! ### One operation: its class, and what it does -/
inductive Cls where
  | comp | rd | wr | nw | call | app
  deriving DecidableEq

def callCls (cts : List Ct) : Operand → Cls
  | .func f => match findCt f cts with
    | some c => match c.kind with
      | .comp _ => .comp
      | .view _ => .rd
      | .own _ => .nw
      | .memo _ _ => .call
    | none => .call
  | _ => .comp

def cls (P : Program) (cts : List Ct) : Op → Cls
  | .load _ _ => .rd
  | .store _ _ _ => .wr
  | .alloc _ | .box _ _ | .buildSlice _ _ _ | .makeSlice _ _ _ => .nw
  | .convert src dst _ => match P.underlying src, P.underlying dst with
    | some (.slice _), _ => .rd
    | _, some (.slice _) => .nw
    | _, _ => .comp
  | .call { callee := .value fo, .. } => callCls cts fo
  | .call { callee := .builtin .append, .. } => .app
  | .call { callee := .builtin .copy, .. } => .app
  | _ => .comp

def calleeC (cts : List Ct) (ρ : Operand → Option TV) (op : Op) : Option (Ct × List SV) :=
  match op with
  | .call { callee := .value fo, args, .. } => match ρ fo, argsC ρ args.toList with
    | some (.sv (.one (.fn f caps))), some vs => match findCt f cts with
      | some c => some (c, vs ++ caps.map capSV)
      | none => none
    | some (.sv (.one (.clo f caps))), some vs => match findCt f cts with
      | some c => some (c, vs ++ caps.map fun c => .one (CV.rc c))
      | none => none
    | _, _ => none
  | _ => none
def viewC (cts : List Ct) (ρ : Operand → Option TV) (mem : List Slot) (op : Op) : Option TV :=
  match calleeC cts ρ op with
  | some (c, vs) => match c.kind with
    | .view g => (viewAll mem vs).bind g
    | _ => none
  | none => none
def bare (o : Option TV) : Option (List Prop × TV) := match o with
  | some tv => some ([], tv)
  | none => none
theorem bare_is {o : Option TV} {need : List Prop} {tv : TV} (h : bare o = some (need, tv)) : o = some tv ∧ need = [] := by
  cases o with
  | none => cases h
  | some a => cases h; exact ⟨rfl, rfl⟩
def readC (P : Program) (cts : List Ct) (ρ : Operand → Option TV) (mem : List Slot) (op : Op) : Option (List Prop × TV) :=
  match op with
  | .load t p => match ρ p with
    | some (.sv (.one (.sqp n j))) => loadSeq P mem t n j
    | some a => bare (loadC P mem t a)
    | none => none
  | .convert src dst x => match ρ x with
    | some (.sv (.one (.sq n len))) => bytesSeq P mem src dst (.sq n len)
    | some (.sv (.one (.sqs n lo hi))) => bytesSeq P mem src dst (.sqs n lo hi)
    | some a => bare (bytesStr P mem src dst a)
    | none => none
  | .call c => bare (viewC cts ρ mem (.call c))
  | _ => none

def writeC (P : Program) (ρ : Operand → Option TV) (mem : List Slot) (op : Op) : Option (Nat × TypeId × List RC) :=
  match op with
  | .store t p x => match ρ p, ρ x with
    | some a, some b => storeC P mem t a b
    | _, _ => none
  | _ => none

/-- What makes a block: an operation, or a call of a function that hands back a slice of its own. -/
def makeC (P : Program) (cts : List Ct) (ρ : Operand → Option TV) (nm : Nat) (op : Op) : Option (TV × Slot) :=
  match calleeC cts ρ op with
  | some (c, vs) => match c.kind with
    | .own g => match g vs nm with
      | some (tv, t, cs) => some (tv, .blk t cs)
      | none => none
    | _ => none
  | none => newC P ρ nm op
theorem makeC_live {P : Program} {cts : List Ct} {ρ : Operand → Option TV} {nm : Nat} {op : Op} {tv : TV} {s : Slot} (h : makeC P cts ρ nm op = some (tv, s)) : s.live = true := by
  unfold makeC at h
  split at h
  · split at h <;> try (cases h; done)
    split at h <;> cases h
    rfl
  · exact newC_live h
/-- What a builtin comes to that writes memory. -/
def builtC (P : Program) (ρ : Operand → Option TV) (nm : Nat) (mem : List Slot) (op : Op) : Option (List Prop × TV × List Slot) :=
  match appC P ρ nm mem op with
  | some (tv, mem') => some ([], tv, mem')
  | none => match appS P ρ nm mem op with
    | some r => some r
    | none => copyC P ρ mem op

/-- What only computes: an operation, or a call of a function that only computes. -/
def valC (P : Program) (cts : List Ct) (ρ : Operand → Option TV) (op : Op) : Option (List Prop × TV) :=
  match calleeC cts ρ op with
  | some (c, vs) => match c.kind with
    | .comp g => g vs
    | _ => none
  | none => pureOp P ρ op

def step (P : Program) (cts : List Ct) (ρ : Operand → Option TV) (nm : Nat) (mem : List Slot) (op : Op) : Option (List Prop × TV × List Slot) :=
  match cls P cts op with
  | .comp => match valC P cts ρ op with
    | some (need, tv) => some (need, tv, mem)
    | none => none
  | .rd => match readC P cts ρ mem op with
    | some (need, tv) => some (need, tv, mem)
    | none => none
  | .wr => match writeC P ρ mem op with
    | some (n, t, cs) => some ([], .tup [], mem.set n (.blk t cs))
    | none => none
  | .nw => match mem[nm]?, makeC P cts ρ nm op with
    | some .free, some (tv, s) => some ([], tv, mem.set nm s)
    | _, _ => none
  | .call => match calleeC cts ρ op with
    | some (c, vs) => c.run vs mem nm
    | none => none
  | .app => builtC P ρ nm mem op

theorem call_sound {P : Program} {cts : List Ct} (hcts : ∀ c ∈ cts, CtOk P c) {S : Nat → Option Nat} {B : Base} {w0 : World} {β : Env} {mem : List Slot} {w : World} (hm : MemRel S B w0 β mem w)
    {ρ : Operand → Option TV} {e : Operand → Value} (hρ : ∀ x tv, ρ x = some tv → tv.is β (e x)) {nm : Nat} {o : Oper} {need : List Prop} {tv : TV} {mem' : List Slot} {c : Ct} {vs : List SV}
    (hc : calleeC cts ρ o.op = some (c, vs)) (h : c.run vs mem nm = some (need, tv, mem')) (hn : ∀ p ∈ need, p) :
    Does P ((execOp e o).run P w) fun v w' => ∃ β', Ext β β' ∧ tv.is β' v ∧ MemRel S B w0 β' mem' w' := by
  obtain ⟨dst, op, type, pos, after, guard⟩ := o
  dsimp only at hc
  unfold calleeC at hc
  split at hc
  · rename_i fo args argTypes
    split at hc
    · rename_i f caps vs' hf hvs
      split at hc
      · rename_i c' hfind
        cases hc
        obtain ⟨hmem, hcf⟩ := findCt_mem hfind
        obtain ⟨us, hus, ev⟩ := hρ _ _ hf
        have hargs := all2_append (argsC_sound hρ hvs) (capSV_is hus)
        have hdo := hcts _ hmem _ _ _ _ _ _ h hn S B w0 β w _ hargs hm
        rw [hcf] at hdo
        have hrun : (execOp e ⟨dst, .call { callee := .value fo, args := args, argTypes := argTypes }, type, pos, after, guard⟩).run P w = (callFunc f ⟨args.toList.map e ++ us⟩).run P w := by
          simp only [execOp, Sem.run_bind, resolve, ev, Deferred.ofValue, Sem.run_pure, Result.andThen_ok, invoke]
          congr 2
          cases args
          simp
        rw [hrun]
        exact hdo
      · cases hc
    · rename_i f caps vs' hf hvs
      split at hc
      · rename_i c' hfind
        cases hc
        obtain ⟨hmem, hcf⟩ := findCt_mem hfind
        have hclo := hρ _ _ hf
        simp only [TV.is, SV.is, RC.is, CV.is] at hclo
        obtain ⟨us, ev, hus⟩ := hclo
        rw [CV.isL_all2] at hus
        have hargs := all2_append (argsC_sound hρ hvs) (all2_mapR (R' := SV.is β) (f := fun c => SV.one (CV.rc c)) (fun _ _ q => CV.rc_is q) hus)
        have hdo := hcts _ hmem _ _ _ _ _ _ h hn S B w0 β w _ hargs hm
        rw [hcf] at hdo
        have hrun : (execOp e ⟨dst, .call { callee := .value fo, args := args, argTypes := argTypes }, type, pos, after, guard⟩).run P w = (callFunc f ⟨args.toList.map e ++ us⟩).run P w := by
          simp only [execOp, Sem.run_bind, resolve, ev, Deferred.ofValue, Sem.run_pure, Result.andThen_ok, invoke]
          congr 2
          cases args
          simp
        rw [hrun]
        exact hdo
      · cases hc
    · cases hc
  · cases hc

theorem step_sound {P : Program} {cts : List Ct} (hcts : ∀ c ∈ cts, CtOk P c) {S : Nat → Option Nat} {B : Base} {w0 : World} {β : Env} {mem : List Slot} {w : World} (hm : MemRel S B w0 β mem w)
    {ρ : Operand → Option TV} {e : Operand → Value} (hρ : ∀ x tv, ρ x = some tv → tv.is β (e x)) {nm : Nat} {o : Oper} {need : List Prop} {tv : TV} {mem' : List Slot}
    (h : step P cts ρ nm mem o.op = some (need, tv, mem')) (hn : ∀ p ∈ need, p) :
    Does P ((execOp e o).run P w) fun v w' => ∃ β', Ext β β' ∧ tv.is β' v ∧ MemRel S B w0 β' mem' w' := by
  obtain ⟨dst, op, type, pos, after, guard⟩ := o
  dsimp only at h
  unfold step at h
  split at h
  · split at h
    · rename_i need' tv' hp
      cases h
      unfold valC at hp
      split at hp
      · rename_i c vs hc
        split at hp
        · rename_i g hk
          exact call_sound hcts hm hρ (nm := nm) (o := ⟨dst, op, type, pos, after, guard⟩) hc (by simp only [Ct.run, hk, hp]) hn
        · cases hp
      · obtain ⟨v, hv, r⟩ := pureOp_sound hρ (o := ⟨dst, op, type, pos, after, guard⟩) hp hn w
        rw [hv]
        exact ⟨β, Ext.refl β, r, hm⟩
    · cases h
  · split at h
    · rename_i need' tv' hr
      cases h
      unfold readC at hr
      split at hr
      · rename_i t p
        split at hr
        · rename_i n j ha
          obtain ⟨v, hv, r⟩ := loadSeq_sound hm hr hn (hρ _ _ ha)
          simp only [execOp, Sem.run_bind, hv, Result.andThen_ok, Sem.run_pure]
          exact ⟨β, Ext.refl β, r, hm⟩
        · rename_i a _ ha
          obtain ⟨hr2, rfl⟩ := bare_is hr
          obtain ⟨v, hv, r⟩ := loadC_sound hm hr2 (hρ _ _ ha)
          simp only [execOp, Sem.run_bind, hv, Result.andThen_ok, Sem.run_pure]
          exact ⟨β, Ext.refl β, r, hm⟩
        · cases hr
      · rename_i src d x
        split at hr
        · rename_i n len ha
          obtain ⟨v, hv, r⟩ := bytesSeq_sound hm hr hn (hρ _ _ ha)
          simp only [execOp, Sem.run_bind, hv, Result.andThen_ok, Sem.run_pure]
          exact ⟨β, Ext.refl β, r, hm⟩
        · rename_i n lo hi ha
          obtain ⟨v, hv, r⟩ := bytesSeq_sound hm hr hn (hρ _ _ ha)
          simp only [execOp, Sem.run_bind, hv, Result.andThen_ok, Sem.run_pure]
          exact ⟨β, Ext.refl β, r, hm⟩
        · rename_i a _ _ ha
          obtain ⟨hr2, rfl⟩ := bare_is hr
          obtain ⟨v, hv, r⟩ := bytesStr_sound hm hr2 (hρ _ _ ha)
          simp only [execOp, Sem.run_bind, hv, Result.andThen_ok, Sem.run_pure]
          exact ⟨β, Ext.refl β, r, hm⟩
        · cases hr
      · rename_i cl _
        obtain ⟨hr2, rfl⟩ := bare_is hr
        unfold viewC at hr2
        split at hr2
        · rename_i c vs hc
          split at hr2
          · rename_i g hk
            exact call_sound hcts hm hρ (nm := nm) (o := ⟨dst, .call cl, type, pos, after, guard⟩) hc (by simp only [Ct.run, hk, hr2]) hn
          · cases hr2
        · cases hr2
      · cases hr
    · cases h
  · split at h
    · rename_i n t cs hw
      cases h
      unfold writeC at hw
      split at hw
      · rename_i t' p x
        split at hw
        · rename_i a b ha hb
          obtain ⟨w', hw', he, hm'⟩ := storeC_sound hm hw (hρ _ _ ha) (hρ _ _ hb)
          simp only [execOp, Sem.run_bind, hw', Result.andThen_ok, Sem.run_pure]
          exact ⟨_, he, ⟨[], rfl, trivial⟩, hm'⟩
        · cases hw
      · cases hw
    · cases h
  · split at h
    · rename_i tv' sl h1 h2
      cases h
      unfold makeC at h2
      split at h2
      · rename_i c vs hc
        split at h2
        · rename_i g hk
          split at h2
          · rename_i tv1 t cs hg
            cases h2
            exact call_sound hcts hm hρ (nm := nm) (o := ⟨dst, op, type, pos, after, guard⟩) hc (by simp only [Ct.run, hk, h1, hg]) hn
          · cases h2
        · cases h2
      · obtain ⟨v, w', β', hv, he, r, hm'⟩ := newC_sound hm hρ h1 (o := ⟨dst, op, type, pos, after, guard⟩) h2
        rw [hv]
        exact ⟨β', he, r, hm'⟩
    · cases h
  · split at h
    · rename_i c vs hc
      exact call_sound hcts hm hρ (o := ⟨dst, op, type, pos, after, guard⟩) hc h hn
    · cases h
  · unfold builtC at h
    split at h
    · rename_i tv' m' ha
      cases h
      obtain ⟨v, w', β', hv, he, r, hm'⟩ := appC_sound hm hρ (o := ⟨dst, op, type, pos, after, guard⟩) ha
      rw [hv]
      exact ⟨β', he, r, hm'⟩
    · split at h
      · rename_i r ha
        cases h
        obtain ⟨v, w', β', hv, he, r, hm'⟩ := appS_sound hm hρ (o := ⟨dst, op, type, pos, after, guard⟩) ha hn
        rw [hv]
        exact ⟨β', he, r, hm'⟩
      · obtain ⟨v, w', β', hv, he, r, hm'⟩ := copyC_sound hm hρ (o := ⟨dst, op, type, pos, after, guard⟩) h hn
        rw [hv]
        exact ⟨β', he, r, hm'⟩

theorem isFree_live {s : Slot} (h : s.live = true) : isFree s = false := by cases s <;> first | (cases h; done) | rfl
theorem appC_mono {P : Program} {ρ : Operand → Option TV} {nm : Nat} {mem mem' : List Slot} {op : Op} {tv : TV} (h : appC P ρ nm mem op = some (tv, mem')) : Mono mem mem' := by
  unfold appC at h
  repeat' split at h
  all_goals first
    | (cases h; done)
    | (cases h; exact Mono.refl _)
    | (cases h; exact Mono.set _ _ rfl)
    | (cases h; exact (Mono.set _ _ (s := .dead) rfl).trans (Mono.set _ _ rfl))

theorem killO_mono (mem : List Slot) (o : Option Nat) : Mono mem (killO mem o) := by
  cases o with
  | none => exact Mono.refl _
  | some n => exact Mono.set _ _ rfl
theorem appS_mono {P : Program} {ρ : Operand → Option TV} {nm : Nat} {mem mem' : List Slot} {op : Op} {need : List Prop} {tv : TV} (h : appS P ρ nm mem op = some (need, tv, mem')) : Mono mem mem' := by
  unfold appS at h
  repeat' split at h
  all_goals first
    | (cases h; done)
    | (cases h; exact (killO_mono _ _).trans (Mono.set _ _ rfl))
theorem copyC_mono {P : Program} {ρ : Operand → Option TV} {mem mem' : List Slot} {op : Op} {need : List Prop} {tv : TV} (h : copyC P ρ mem op = some (need, tv, mem')) : Mono mem mem' := by
  unfold copyC at h
  repeat' split at h
  all_goals first
    | (cases h; done)
    | (cases h; exact Mono.set _ _ rfl)
theorem builtC_mono {P : Program} {ρ : Operand → Option TV} {nm : Nat} {mem mem' : List Slot} {op : Op} {need : List Prop} {tv : TV} (h : builtC P ρ nm mem op = some (need, tv, mem')) : Mono mem mem' := by
  unfold builtC at h
  split at h
  · rename_i tv' m' ha
    cases h
    exact appC_mono ha
  · split at h
    · rename_i r ha
      cases h
      exact appS_mono ha
    · exact copyC_mono h
theorem step_mono {P : Program} {cts : List Ct} {ρ : Operand → Option TV} {nm : Nat} {mem mem' : List Slot} {op : Op} {need : List Prop} {tv : TV} (h : step P cts ρ nm mem op = some (need, tv, mem')) : Mono mem mem' := by
  unfold step at h
  split at h
  · split at h
    · cases h; exact Mono.refl _
    · cases h
  · split at h
    · cases h; exact Mono.refl _
    · cases h
  · split at h
    · cases h; exact Mono.set _ _ rfl
    · cases h
  · split at h
    · rename_i tv s hf hk
      cases h; exact Mono.set _ _ (isFree_live (makeC_live hk))
    · cases h
  · split at h
    · rename_i c vs hc
      unfold Ct.run at h
      repeat' split at h
      all_goals first
        | (cases h; done)
        | (cases h; exact Mono.refl _)
        | (cases h; exact Mono.set _ _ rfl)
        | (rename_i hb; cases h; exact monoB_is hb)
    · cases h
  · exact builtC_mono h

end Go.Proofs.Ytihmhnfjdkkbgaa.RX
