/- RX, part S: loops of any number of rounds, by a state that comes back each round; calls carried out in place. -/
import Derived.Test.YtihmhnfjdkkbgaaRxO
noncomputable section
namespace Go.Proofs.Ytihmhnfjdkkbgaa.RX
set_option linter.unusedSimpArgs false
open Go Go.RowKit

/-! ### Values under other names -/
theorem Env.own_of {β β' : Env} (hw : β'.w = β.w) (ha : β'.away = β.away) (hn : ∀ m b, β' m = some b → ∃ m', β m' = some b) (b : Nat) (h : β.own b) : β'.own b ∧ β'.w.heap[b]? = β.w.heap[b]? := by
  refine ⟨⟨by rw [hw]; exact h.1, fun m hm => ?_, by rw [ha]; exact h.2.2⟩, by rw [hw]⟩
  obtain ⟨m', hm'⟩ := hn m b hm
  exact h.2.1 m' hm'
theorem RC.is.re {β β' : Env} (hw : β'.w = β.w) (ho : ∀ b, β.own b → β'.own b ∧ β'.w.heap[b]? = β.w.heap[b]?) {c : RC} {v : Value} (hn : ∀ n ∈ c.names, ∀ b, β n = some b → β' n = some b) (h : c.is β v) : c.is β' v := by
  cases c <;> try exact h
  case ptr n off => obtain ⟨b, h1, h2⟩ := h; exact ⟨b, hn n (by simp [RC.names]) b h1, h2⟩
  case slc n off len cap =>
    obtain ⟨b, c, h1, h2, h3, h4, h5⟩ := h
    exact ⟨b, c, hn n (by simp [RC.names]) b h1, h2, h3, by rw [hw]; exact h4, h5⟩
  case frz k L n =>
    obtain ⟨b, off, c, h1, h2, h3⟩ := h
    obtain ⟨⟨o1, o2, o3⟩, _⟩ := ho b ⟨h3.lt, h3.no, h3.far⟩
    exact ⟨b, off, c, h1, h2, o1, o2, o3, by rw [hw]; exact h3.cells⟩
  case fpt k L n j =>
    obtain ⟨b, off, h1, h2, h3⟩ := h
    obtain ⟨⟨o1, o2, o3⟩, _⟩ := ho b ⟨h3.lt, h3.no, h3.far⟩
    exact ⟨b, off, h1, h2, o1, o2, o3, by rw [hw]; exact h3.cells⟩
  case fn f caps =>
    obtain ⟨vs, h1, h2⟩ := h
    refine ⟨vs, ?_, h2⟩
    have key : ∀ (l : List (Nat × Nat)) (us : List Value), (∀ x ∈ l, ∀ b, β x.1 = some b → β' x.1 = some b) → all2 (capIs β) l us → all2 (capIs β') l us := by
      intro l
      induction l with
      | nil => intro us _ r; rw [all2_nil_left r]; trivial
      | cons x l ih =>
        intro us hl r
        obtain ⟨u, us', rfl, ⟨b, r1, r2⟩, r3⟩ := all2_cons_left r
        exact ⟨⟨b, hl x (by simp) b r1, r2⟩, ih us' (fun y hy => hl y (by simp [hy])) r3⟩
    exact key caps vs (fun x hx b hb => hn x.1 (by simp only [RC.names, List.mem_map]; exact ⟨x, hx, rfl⟩) b hb) h1
  case sq n len =>
    rcases h with ⟨b, c, h1, h2, h3, h4⟩ | h
    · exact .inl ⟨b, c, hn n (by simp [RC.names]) b h1, h2, by rw [hw]; exact h3, h4⟩
    · exact .inr h
  case sqs n lo hi =>
    rcases h with ⟨hl, b, c, h1, h2, h3⟩ | h
    · exact .inl ⟨hl, b, c, hn n (by simp [RC.names]) b h1, h2, h3⟩
    · exact .inr h
  case sqp n j => obtain ⟨b, h1, h2⟩ := h; exact ⟨b, hn n (by simp [RC.names]) b h1, h2⟩
  case co cs off => exact CV.is.move ho _ _ h
  case clo f caps => exact CV.is.move ho _ _ h

/-- What speaks of a name that is not to be spoken of is forgotten. -/
def RC.scrub (p : Nat → Bool) (c : RC) : RC := match c.names.all p with
  | true => c
  | false => .any
def SV.scrub (p : Nat → Bool) : SV → SV
  | .one c => .one (c.scrub p)
  | .agg cs => .agg (cs.map (RC.scrub p))
def TV.scrub (p : Nat → Bool) : TV → TV
  | .sv s => .sv (s.scrub p)
  | .tup ss => .tup (ss.map (SV.scrub p))
def Slot.scrub (p : Nat → Bool) : Slot → Slot
  | .blk t cs => .blk t (cs.map (RC.scrub p))
  | s => s
section
variable {β β' : Env} {p : Nat → Bool}
theorem RC.scrub_is (hw : β'.w = β.w) (ho : ∀ b, β.own b → β'.own b ∧ β'.w.heap[b]? = β.w.heap[b]?) (hp : ∀ n, p n = true → ∀ b, β n = some b → β' n = some b) {c : RC} {v : Value} (h : c.is β v) : (c.scrub p).is β' v := by
  unfold RC.scrub
  split
  · rename_i ha
    exact RC.is.re hw ho (fun n hn => hp n (List.all_eq_true.1 ha n hn)) h
  · trivial
theorem SV.scrub_is (hw : β'.w = β.w) (ho : ∀ b, β.own b → β'.own b ∧ β'.w.heap[b]? = β.w.heap[b]?) (hp : ∀ n, p n = true → ∀ b, β n = some b → β' n = some b) {c : SV} {v : Value} (h : c.is β v) : (c.scrub p).is β' v := by
  cases c with
  | one c => exact RC.scrub_is hw ho hp h
  | agg cs => obtain ⟨vs, e, r⟩ := h; exact ⟨vs, e, all2_mapR (fun _ _ r => RC.scrub_is hw ho hp r) r⟩
theorem TV.scrub_is (hw : β'.w = β.w) (ho : ∀ b, β.own b → β'.own b ∧ β'.w.heap[b]? = β.w.heap[b]?) (hp : ∀ n, p n = true → ∀ b, β n = some b → β' n = some b) {c : TV} {v : Value} (h : c.is β v) : (c.scrub p).is β' v := by
  cases c with
  | sv c => exact SV.scrub_is hw ho hp h
  | tup cs => obtain ⟨vs, e, r⟩ := h; exact ⟨vs, e, all2_mapR (fun _ _ r => SV.scrub_is hw ho hp r) r⟩
end
theorem Slot.scrub_live {p : Nat → Bool} {s : Slot} : (s.scrub p).live = s.live := by cases s <;> rfl
theorem Slot.scrub_free {p : Nat → Bool} {s : Slot} (h : s ≠ .free) : s.scrub p ≠ .free := by cases s <;> simp [Slot.scrub] at h ⊢
theorem map_get {α γ : Type} {f : α → γ} {l : List α} {i : Nat} {c : γ} (h : (l.map f)[i]? = some c) : ∃ a, l[i]? = some a ∧ c = f a := by
  rw [List.getElem?_map] at h
  obtain ⟨a, h1, h2⟩ := Option.map_eq_some_iff.1 h
  exact ⟨a, h1, h2.symm⟩

/-! ### What may be done to a state, whatever the world -/
def Weak (Sok : (Nat → Option Nat) → Prop) (f : St → St) : Prop := ∀ (S : Nat → Option Nat) (B : Base) (w0 : World) (st : St) (β : Env) (a : Act) (w : World), Sok S → Rel S B w0 β st a w → ∃ β', Rel S B w0 β' (f st) a w
theorem Weak.id {Sok : (Nat → Option Nat) → Prop} : Weak Sok fun st => st := fun _ _ _ _ β _ _ _ r => ⟨β, r⟩
theorem Weak.comp {Sok : (Nat → Option Nat) → Prop} {f g : St → St} (hf : Weak Sok f) (hg : Weak Sok g) : Weak Sok fun st => g (f st) := fun S B w0 st β a w hS r =>
  let ⟨β', r'⟩ := hf S B w0 st β a w hS r
  hg S B w0 (f st) β' a w hS r'

/-- Of the temporaries these alone are kept; of these some are taken for any number, bool, text. -/
def maskRow (ks ns : List Nat) : Nat → List TV → List TV
  | _, [] => []
  | i, v :: r => (match ks.contains i with
    | true => (match ns.contains i with
      | true => v.norm
      | false => v)
    | false => .sv (.one .any)) :: maskRow ks ns (i + 1) r
def maskRows (ks ns : List Nat) : Nat → List (List TV) → List (List TV)
  | _, [] => []
  | i, r :: q => maskRow ks ns (8 * i) r :: maskRows ks ns (i + 1) q
def mask (ks ns : List Nat) (st : St) : St := ⟨⟨maskRows ks ns 0 st.tmps.rows⟩, st.mem⟩
theorem maskRow_get {ks ns : List Nat} : ∀ {l : List TV} {i j : Nat} {c : TV}, (maskRow ks ns i l)[j]? = some c → ∃ d, l[j]? = some d ∧ (c = d ∨ c = d.norm ∨ c = .sv (.one .any))
  | [], i, j, c, h => by simp [maskRow] at h
  | v :: l, i, 0, c, h => by
    simp only [maskRow, List.getElem?_cons_zero, Option.some.injEq] at h
    refine ⟨v, by simp, ?_⟩
    rw [← h]
    split
    · split
      · exact .inr (.inl rfl)
      · exact .inl rfl
    · exact .inr (.inr rfl)
  | v :: l, i, j + 1, c, h => by
    simp only [maskRow, List.getElem?_cons_succ] at h
    obtain ⟨d, h1, h2⟩ := maskRow_get h
    exact ⟨d, by simpa using h1, h2⟩
theorem maskRows_get {ks ns : List Nat} : ∀ {l : List (List TV)} {i j : Nat} {r : List TV}, (maskRows ks ns i l)[j]? = some r → ∃ q, l[j]? = some q ∧ r = maskRow ks ns (8 * (i + j)) q
  | [], i, j, r, h => by simp [maskRows] at h
  | q :: l, i, 0, r, h => by simp [maskRows] at h; exact ⟨q, by simp, h.symm⟩
  | q :: l, i, j + 1, r, h => by
    simp only [maskRows, List.getElem?_cons_succ] at h
    obtain ⟨q', h1, h2⟩ := maskRows_get h
    exact ⟨q', by simpa using h1, by rw [h2, show i + 1 + j = i + (j + 1) by omega]⟩
theorem mask_weak (Sok : (Nat → Option Nat) → Prop) (ks ns : List Nat) : Weak Sok (mask ks ns) := fun S B w0 st β a w _ r => ⟨β, fun i c hc => by
  rw [Tm.get_eq] at hc
  obtain ⟨row, h1, h2⟩ := Option.bind_eq_some_iff.1 hc
  obtain ⟨q, h3, h4⟩ := maskRows_get h1
  rw [h4] at h2
  obtain ⟨d, h5, h6⟩ := maskRow_get h2
  have hd : st.tmps.get i = some d := by rw [Tm.get_eq, h3]; exact h5
  obtain ⟨v, h7, h8⟩ := r.tm i d hd
  refine ⟨v, h7, ?_⟩
  rcases h6 with rfl | rfl | rfl
  · exact h8
  · exact TV.norm_is.2 h8
  · trivial, r.df, r.mm⟩
/-- Names up to n. -/
def grow (n : Nat) (st : St) : St := ⟨st.tmps, freeMem st.mem (n - st.mem.length)⟩
theorem grow_weak (Sok : (Nat → Option Nat) → Prop) (n : Nat) : Weak Sok (grow n) := fun _ _ _ _ β _ _ _ r => ⟨β, r.more _⟩
/-- Names from n on are not spoken of. -/
def cut (n : Nat) (st : St) : St := ⟨st.tmps.map (TV.scrub fun m => m.blt n), (st.mem.take n).map (Slot.scrub fun m => m.blt n)⟩
theorem cut_weak {Sok : (Nat → Option Nat) → Prop} {n : Nat} (hS : ∀ S, Sok S → ∀ m k, S m = some k → m < n) : Weak Sok (cut n) := fun S B w0 st β a w hSok r => by
  have ho : ∀ b, β.own b → (cutβ β n).own b ∧ (cutβ β n).w.heap[b]? = β.w.heap[b]? := fun b h => own_cut b h
  have hp : ∀ m, (m.blt n) = true → ∀ b, β m = some b → cutβ β n m = some b := fun m hm b hb => cutβ_at (by simpa [Nat.blt_eq] using hm) hb
  refine ⟨cutβ β n, fun i c hc => ?_, r.df, ?_⟩
  · rw [cut, Tm.get_map] at hc
    obtain ⟨d, h1, rfl⟩ := Option.map_eq_some_iff.1 hc
    obtain ⟨v, h2, h3⟩ := r.tm i d h1
    exact ⟨v, h2, TV.scrub_is (β := β) (β' := cutβ β n) rfl ho hp h3⟩
  · have h := r.mm
    have old : ∀ m s, ((st.mem.take n).map (Slot.scrub fun m => m.blt n))[m]? = some s → m < n ∧ ∃ s0, st.mem[m]? = some s0 ∧ s = s0.scrub fun m => m.blt n := by
      intro m s hm
      obtain ⟨s0, h1, h2⟩ := map_get hm
      have hlt : m < n := by
        rcases Nat.lt_or_ge m n with h' | h'
        · exact h'
        · rw [List.getElem?_eq_none (by simp; omega)] at h1; cases h1
      rw [List.getElem?_take_of_lt hlt] at h1
      exact ⟨hlt, s0, h1, h2⟩
    refine ⟨h.wd, h.aw, h.far, fun m t cs hm => ?_, fun m t k L hm => ?_, fun x y sx sy k h1 h2 l1 l2 hx hy => ?_, fun m k hm => h.rng m k (cutβ_some hm).2, fun m k hm => ?_, fun m k hm => cutβ_at (hS S hSok m k hm) (h.came m k hm), h.kept, h.sz⟩
    · obtain ⟨hlt, s0, h1, h2⟩ := old m _ hm
      cases s0 <;> simp only [Slot.scrub] at h2 <;> cases h2
      obtain ⟨k, hk, vs, more, fr, q1, q2, q3⟩ := h.blk m _ _ h1
      exact ⟨k, cutβ_at hlt hk, vs, more, fr, q1, all2_mapR (fun _ _ r => RC.scrub_is (β := β) (β' := cutβ β n) rfl ho hp r) q2, q3⟩
    · obtain ⟨hlt, s0, h1, h2⟩ := old m _ hm
      cases s0 <;> simp only [Slot.scrub] at h2 <;> cases h2
      obtain ⟨q1, q2⟩ := h.seq m _ _ _ h1
      refine ⟨fun b hb => q1 b (cutβ_some hb).2, fun hno => q2 ?_⟩
      have h' : (if m < n then β m else none) = none := hno
      rwa [if_pos hlt] at h'
    · obtain ⟨_, s0, q1, rfl⟩ := old x _ h1
      obtain ⟨_, s1, q2, rfl⟩ := old y _ h2
      rw [Slot.scrub_live] at l1 l2
      exact h.inj x y _ _ k q1 q2 l1 l2 (cutβ_some hx).2 (cutβ_some hy).2
    · obtain ⟨hlt, hb⟩ := cutβ_some hm
      obtain ⟨s, hs, hne⟩ := h.used m k hb
      refine ⟨s.scrub fun m => m.blt n, ?_, Slot.scrub_free hne⟩
      show ((st.mem.take n).map (Slot.scrub fun m => m.blt n))[m]? = _
      rw [List.getElem?_map, List.getElem?_take_of_lt hlt, hs]
      rfl
/-- The cells of a block are taken for any numbers, bools, texts. -/
def normB (n : Nat) (st : St) : St := match st.mem[n]? with
  | some (.blk t cs) => ⟨st.tmps, st.mem.set n (.blk t (cs.map RC.norm))⟩
  | _ => st
theorem normB_weak (Sok : (Nat → Option Nat) → Prop) (n : Nat) : Weak Sok (normB n) := fun S B w0 st β a w _ r => by
  unfold normB
  split
  · rename_i t cs hn
    have h := r.mm
    have hlt := slot_lt hn
    have old : ∀ m s, (st.mem.set n (.blk t (cs.map RC.norm)))[m]? = some s → (m = n ∧ s = .blk t (cs.map RC.norm)) ∨ (m ≠ n ∧ st.mem[m]? = some s) := by
      intro m s hm
      by_cases e : n = m
      · subst e
        rw [List.getElem?_set_self hlt] at hm
        injection hm with hm
        exact .inl ⟨rfl, hm.symm⟩
      · rw [List.getElem?_set_ne e] at hm
        exact .inr ⟨fun e' => e e'.symm, hm⟩
    refine ⟨β, r.tm, r.df, h.wd, h.aw, h.far, fun m t' cs' hm => ?_, fun m t' k L hm => ?_, fun x y sx sy k h1 h2 l1 l2 hx hy => ?_, h.rng, fun m k hm => ?_, h.came, h.kept, h.sz⟩
    · rcases old m _ hm with ⟨rfl, e⟩ | ⟨_, e⟩
      · cases e
        obtain ⟨k, hk, vs, more, fr, q1, q2, q3⟩ := h.blk m t cs hn
        exact ⟨k, hk, vs, more, fr, q1, all2_mapR (fun _ _ r => RC.norm_is.2 r) q2, q3⟩
      · exact h.blk m t' cs' e
    · rcases old m _ hm with ⟨rfl, e⟩ | ⟨_, e⟩
      · cases e
      · exact h.seq m t' k L e
    · have live : ∀ (m : Nat) (s : Slot), (st.mem.set n (.blk t (cs.map RC.norm)))[m]? = some s → s.live = true → ∃ s' : Slot, st.mem[m]? = some s' ∧ s'.live = true := by
        intro m s hm hl
        rcases old m s hm with ⟨rfl, rfl⟩ | ⟨_, e⟩
        · exact ⟨_, hn, rfl⟩
        · exact ⟨s, e, hl⟩
      obtain ⟨_, a1, a2⟩ := live x sx h1 l1
      obtain ⟨_, b1, b2⟩ := live y sy h2 l2
      exact h.inj x y _ _ k a1 b1 a2 b2 hx hy
    · obtain ⟨s, hs, hne⟩ := h.used m k hm
      by_cases e : n = m
      · subst e; exact ⟨_, List.getElem?_set_self hlt, by simp⟩
      · exact ⟨s, by rw [List.getElem?_set_ne e]; exact hs, hne⟩
  · exact ⟨β, r⟩

/-- Of the cells of a block nothing is kept. -/
def anyB (n : Nat) (st : St) : St := match st.mem[n]? with
  | some (.blk t cs) => ⟨st.tmps, st.mem.set n (.blk t (cs.map fun _ => .any))⟩
  | _ => st
theorem anyB_weak (Sok : (Nat → Option Nat) → Prop) (n : Nat) : Weak Sok (anyB n) := fun S B w0 st β a w _ r => by
  unfold anyB
  split
  · rename_i t cs hn
    have h := r.mm
    have hlt := slot_lt hn
    have old : ∀ m s, (st.mem.set n (.blk t (cs.map fun _ => .any)))[m]? = some s → (m = n ∧ s = .blk t (cs.map fun _ => .any)) ∨ (m ≠ n ∧ st.mem[m]? = some s) := by
      intro m s hm
      by_cases e : n = m
      · subst e
        rw [List.getElem?_set_self hlt] at hm
        injection hm with hm
        exact .inl ⟨rfl, hm.symm⟩
      · rw [List.getElem?_set_ne e] at hm
        exact .inr ⟨fun e' => e e'.symm, hm⟩
    refine ⟨β, r.tm, r.df, h.wd, h.aw, h.far, fun m t' cs' hm => ?_, fun m t' k L hm => ?_, fun x y sx sy k h1 h2 l1 l2 hx hy => ?_, h.rng, fun m k hm => ?_, h.came, h.kept, h.sz⟩
    · rcases old m _ hm with ⟨rfl, e⟩ | ⟨_, e⟩
      · cases e
        obtain ⟨k, hk, vs, more, fr, q1, q2, q3⟩ := h.blk m t cs hn
        exact ⟨k, hk, vs, more, fr, q1, all2_mapR (fun _ _ _ => trivial) q2, q3⟩
      · exact h.blk m t' cs' e
    · rcases old m _ hm with ⟨rfl, e⟩ | ⟨_, e⟩
      · cases e
      · exact h.seq m t' k L e
    · have live : ∀ (m : Nat) (s : Slot), (st.mem.set n (.blk t (cs.map fun _ => .any)))[m]? = some s → s.live = true → ∃ s' : Slot, st.mem[m]? = some s' ∧ s'.live = true := by
        intro m s hm hl
        rcases old m s hm with ⟨rfl, rfl⟩ | ⟨_, e⟩
        · exact ⟨_, hn, rfl⟩
        · exact ⟨s, e, hl⟩
      obtain ⟨_, a1, a2⟩ := live x sx h1 l1
      obtain ⟨_, b1, b2⟩ := live y sy h2 l2
      exact h.inj x y _ _ k a1 b1 a2 b2 hx hy
    · obtain ⟨s, hs, hne⟩ := h.used m k hm
      by_cases e : n = m
      · subst e; exact ⟨_, List.getElem?_set_self hlt, by simp⟩
      · exact ⟨s, by rw [List.getElem?_set_ne e]; exact hs, hne⟩
  · exact ⟨β, r⟩

/-- A block bears another name from here on; 'tv' is what a temporary holds of it. -/
def rename (t m tgt : Nat) (tv : TV) (s0 : Slot) (st : St) : St :=
  ⟨(st.tmps.map (TV.scrub fun n => !(n == tgt))).set t tv, ((st.mem.map (Slot.scrub fun n => !(n == tgt))).set m .dead).set tgt (s0.scrub fun n => !(n == tgt))⟩
def atβ (β : Env) (m tgt : Nat) : Env := ⟨fun n => if n = tgt then β m else β n, β.w, β.away⟩
theorem rename_sound {S : Nat → Option Nat} {B : Base} {w0 : World} {st : St} {β : Env} {a : Act} {w : World} (r : Rel S B w0 β st a w) {t m tgt : Nat} {tv tv0 : TV} {s0 s : Slot} (hS : S tgt = none)
    (ht : st.tmps.get t = some tv0) (hm : st.mem[m]? = some s0) (hl0 : s0.live = true) (htg : st.mem[tgt]? = some s) (hmt : m ≠ tgt) (hv : ∀ v, tv0.is β v → tv.is (atβ β m tgt) v) : Rel S B w0 (atβ β m tgt) (rename t m tgt tv s0 st) a w := by
  have h := r.mm
  have bt : atβ β m tgt tgt = β m := by show (if tgt = tgt then β m else β tgt) = _; rw [if_pos rfl]
  have bn : ∀ n, n ≠ tgt → atβ β m tgt n = β n := fun n hn => by show (if n = tgt then β m else β n) = _; rw [if_neg hn]
  have ho : ∀ b, β.own b → (atβ β m tgt).own b ∧ (atβ β m tgt).w.heap[b]? = β.w.heap[b]? := Env.own_of rfl rfl fun n b hb => by
    by_cases hn : n = tgt
    · subst hn; rw [bt] at hb; exact ⟨m, hb⟩
    · rw [bn n hn] at hb; exact ⟨n, hb⟩
  have hp : ∀ n, (!(n == tgt)) = true → ∀ b, β n = some b → atβ β m tgt n = some b := fun n hn b hb => by
    have hn' : n ≠ tgt := by simpa using hn
    rw [bn n hn']; exact hb
  have hlm : m < (st.mem.map (Slot.scrub fun n => !(n == tgt))).length := by rw [List.length_map]; exact slot_lt hm
  have hlt : tgt < ((st.mem.map (Slot.scrub fun n => !(n == tgt))).set m .dead).length := by rw [List.length_set, List.length_map]; exact slot_lt htg
  have old : ∀ (n : Nat) (x : Slot), (((st.mem.map (Slot.scrub fun n => !(n == tgt))).set m .dead).set tgt (s0.scrub fun n => !(n == tgt)))[n]? = some x → (n = tgt ∧ x = s0.scrub fun n => !(n == tgt)) ∨ (n ≠ tgt ∧ ((n = m ∧ x = .dead) ∨ (n ≠ m ∧ ∃ y, st.mem[n]? = some y ∧ x = y.scrub fun n => !(n == tgt)))) := by
    intro n x hn
    by_cases e1 : tgt = n
    · subst e1
      rw [List.getElem?_set_self hlt] at hn
      injection hn with hn
      exact .inl ⟨rfl, hn.symm⟩
    · rw [List.getElem?_set_ne e1] at hn
      refine .inr ⟨fun e => e1 e.symm, ?_⟩
      by_cases e2 : m = n
      · subst e2
        rw [List.getElem?_set_self hlm] at hn
        injection hn with hn
        exact .inl ⟨rfl, hn.symm⟩
      · rw [List.getElem?_set_ne e2] at hn
        exact .inr ⟨fun e => e2 e.symm, map_get hn⟩
  refine ⟨fun i c hc => ?_, r.df, h.wd, h.aw, h.far, fun n t' cs hn => ?_, fun n t' k'' L' hn => ?_, fun x y sx sy b h1 h2 l1 l2 hx hy => ?_, fun n b hn => ?_, fun n b hn => ?_, fun n b hn => ?_, h.kept, h.sz⟩
  · simp only [rename] at hc
    rw [Tm.get_set] at hc
    split at hc
    · rename_i hti
      subst hti
      obtain ⟨_, _, rfl⟩ := Option.map_eq_some_iff.1 hc
      obtain ⟨v, h2, h3⟩ := r.tm t _ ht
      exact ⟨v, h2, hv v h3⟩
    · rw [Tm.get_map] at hc
      obtain ⟨d, h1, rfl⟩ := Option.map_eq_some_iff.1 hc
      obtain ⟨v, h2, h3⟩ := r.tm i d h1
      exact ⟨v, h2, TV.scrub_is (β := β) (β' := atβ β m tgt) rfl ho hp h3⟩
  · have key : ∀ (n' : Nat) (y : Slot), st.mem[n']? = some y → Slot.blk t' cs = y.scrub (fun n => !(n == tgt)) → ∃ k, β n' = some k ∧ Holds (atβ β m tgt) w k t' cs := by
      intro n' y h1 h2
      cases y <;> simp only [Slot.scrub] at h2 <;> cases h2
      obtain ⟨b, hb, vs, more, fr, q1, q2, q3⟩ := h.blk n' _ _ h1
      exact ⟨b, hb, vs, more, fr, q1, all2_mapR (fun _ _ r => RC.scrub_is (β := β) (β' := atβ β m tgt) rfl ho hp r) q2, q3⟩
    rcases old n _ hn with ⟨rfl, e⟩ | ⟨hne, ⟨_, e⟩ | ⟨hnm, y, h1, h2⟩⟩
    · obtain ⟨k, hk, hh⟩ := key m s0 hm e
      exact ⟨k, by rw [bt]; exact hk, hh⟩
    · cases e
    · obtain ⟨k, hk, hh⟩ := key n y h1 h2
      exact ⟨k, by rw [bn n hne]; exact hk, hh⟩
  · rcases old n _ hn with ⟨rfl, e⟩ | ⟨hne, ⟨_, e⟩ | ⟨hnm, y, h1, h2⟩⟩
    · cases s0 <;> simp only [Slot.scrub] at e <;> cases e
      rw [bt]
      exact h.seq m _ _ _ hm
    · cases e
    · cases y <;> simp only [Slot.scrub] at h2 <;> cases h2
      rw [bn n hne]
      exact h.seq n _ _ _ h1
  · have live : ∀ (n : Nat) (x : Slot), (((st.mem.map (Slot.scrub fun n => !(n == tgt))).set m .dead).set tgt (s0.scrub fun n => !(n == tgt)))[n]? = some x → x.live = true → (n = tgt) ∨ (n ≠ tgt ∧ n ≠ m ∧ ∃ y : Slot, st.mem[n]? = some y ∧ y.live = true) := by
      intro n x hn hl
      rcases old n x hn with ⟨rfl, e⟩ | ⟨hne, ⟨_, e⟩ | ⟨hnm, y, q1, q2⟩⟩
      · exact .inl rfl
      · subst e; cases hl
      · subst q2
        rw [Slot.scrub_live] at hl
        exact .inr ⟨hne, hnm, y, q1, hl⟩
    rcases live x sx h1 l1 with rfl | ⟨x1, x2, s1, x3, x4⟩ <;> rcases live y sy h2 l2 with e | ⟨y1, y2, s2, y3, y4⟩
    · exact e.symm
    · rw [bt] at hx
      rw [bn y y1] at hy
      exact absurd (h.inj m y _ _ b hm y3 hl0 y4 hx hy) (Ne.symm y2)
    · subst e
      rw [bt] at hy
      rw [bn x x1] at hx
      exact absurd (h.inj x m _ _ b x3 hm x4 hl0 hx hy) x2
    · rw [bn x x1] at hx
      rw [bn y y1] at hy
      exact h.inj x y _ _ b x3 y3 x4 y4 hx hy
  · by_cases e1 : n = tgt
    · subst e1; rw [bt] at hn; exact h.rng m b hn
    · rw [bn n e1] at hn; exact h.rng n b hn
  · by_cases e1 : n = tgt
    · subst e1
      exact ⟨_, List.getElem?_set_self hlt, Slot.scrub_free (Slot.live_free hl0)⟩
    · rw [bn n e1] at hn
      obtain ⟨y, hs, hne⟩ := h.used n b hn
      by_cases e2 : n = m
      · subst e2
        exact ⟨.dead, by simp only [rename]; rw [List.getElem?_set_ne (fun e => e1 e.symm), List.getElem?_set_self hlm], by simp⟩
      · exact ⟨y.scrub fun n => !(n == tgt), by simp only [rename]; rw [List.getElem?_set_ne (fun e => e1 e.symm), List.getElem?_set_ne (fun e => e2 e.symm), List.getElem?_map, hs]; rfl, Slot.scrub_free hne⟩
  · by_cases e1 : n = tgt
    · subst e1; rw [hS] at hn; cases hn
    · rw [bn n e1]; exact h.came n b hn
/-- A temporary's slice bears this name from here on. -/
def nameT (t tgt : Nat) (e : TypeId) (k : IntKind) (st : St) : St := match st.tmps.get t with
  | some (.sv (.one (.sq m len))) => (match Nat.beq m tgt with
    | true => st
    | false => match st.mem[m]?, st.mem[tgt]? with
      | some (.seq e' k' L), some _ => rename t m tgt (.sv (.one (.sq tgt len))) (.seq e' k' L) st
      | _, _ => st)
  | some (.sv (.one (.slc m off len none))) => (match Nat.beq m tgt with
    | true => st
    | false => match st.mem[m]?, st.mem[tgt]? with
      | some (.blk e' cs), some _ => rename t m tgt (.sv (.one (.slc tgt off len none))) (.blk e' cs) st
      | _, _ => st)
  | some (.sv (.one (.slc m off len (some c)))) => (match Nat.beq m tgt with
    | true => st
    | false => match st.mem[m]?, st.mem[tgt]? with
      | some (.blk e' cs), some _ => if off + c ≤ cs.length then rename t m tgt (.sv (.one (.slc tgt off len none))) (.blk e' cs) st else st
      | _, _ => st)
  | some (.sv (.one (.val (.slice none 0 0)))) => (match st.mem[tgt]? with
    | some .free => ⟨st.tmps.set t (.sv (.one (.sq tgt 0))), st.mem.set tgt (.seq e k [])⟩
    | _ => st)
  | _ => st
theorem nameT_weak {Sok : (Nat → Option Nat) → Prop} {t tgt : Nat} {e : TypeId} {k : IntKind} (hS : ∀ S, Sok S → S tgt = none) : Weak Sok (nameT t tgt e k) := fun S B w0 st β a w hSok r => by
  have bt : ∀ m, atβ β m tgt tgt = β m := fun m => by show (if tgt = tgt then β m else β tgt) = _; rw [if_pos rfl]
  have ne : ∀ m, Nat.beq m tgt = false → m ≠ tgt := fun m h e => by subst e; simp at h
  unfold nameT
  split
  · rename_i m len ht
    split
    · exact ⟨β, r⟩
    · rename_i hmt
      split
      · rename_i e' k' L s hm htg
        refine ⟨_, rename_sound r (hS S hSok) ht hm rfl htg (ne m hmt) fun v hv => ?_⟩
        rcases hv with ⟨b, c, q1, q2, q3, q4⟩ | q
        · exact .inl ⟨b, c, by rw [bt]; exact q1, q2, q3, q4⟩
        · exact .inr q
      · exact ⟨β, r⟩
  · rename_i m off len ht
    split
    · exact ⟨β, r⟩
    · rename_i hmt
      split
      · rename_i e' cs s hm htg
        refine ⟨_, rename_sound r (hS S hSok) ht hm rfl htg (ne m hmt) fun v hv => ?_⟩
        obtain ⟨b, c, q1, q2⟩ := hv
        exact ⟨b, c, by rw [bt]; exact q1, q2⟩
      · exact ⟨β, r⟩
  · rename_i m off len c0 ht
    split
    · exact ⟨β, r⟩
    · rename_i hmt
      split
      · rename_i e' cs s hm htg
        split
        · rename_i hc0
          refine ⟨_, rename_sound r (hS S hSok) ht hm rfl htg (ne m hmt) fun v hv => ?_⟩
          obtain ⟨b, c, q1, q2, q3, q4, q5⟩ := hv
          refine ⟨b, c, by rw [bt]; exact q1, fun x hx => (by cases hx), q3, fun _ => ?_, q5⟩
          have hcc := q2 c0 rfl
          subst hcc
          obtain ⟨b', hb', vs, more, fr, h1, h2, h3⟩ := r.mm.blk m e' cs hm
          rw [q1] at hb'; cases hb'
          show off + c ≤ roomAt β.w b
          rw [r.mm.wd]
          have hl := all2_length h2
          simp only [roomAt, h1, List.size_toArray, List.length_append]
          omega
        · exact ⟨β, r⟩
      · exact ⟨β, r⟩
  · rename_i ht
    split
    · rename_i hf
      refine ⟨β, fun i c hc => ?_, r.df, r.mm.emptyS hf e k⟩
      rw [Tm.get_set] at hc
      split at hc
      · rename_i hti
        subst hti
        obtain ⟨_, _, rfl⟩ := Option.map_eq_some_iff.1 hc
        obtain ⟨v, h2, h3⟩ := r.tm t _ ht
        exact ⟨v, h2, .inr ⟨rfl, h3⟩⟩
      · exact r.tm i c hc
    · exact ⟨β, r⟩
  · exact ⟨β, r⟩

/-- Of the blocks these alone are spoken of from here on. -/
def keepL (ks : List Nat) : Nat → List Slot → List Slot
  | _, [] => []
  | i, s :: r => (match ks.contains i with
    | true => s
    | false => (match s with
      | .free => .free
      | _ => .dead)) :: keepL ks (i + 1) r
def keepS (ks : List Nat) (st : St) : St := ⟨st.tmps, keepL ks 0 st.mem⟩
theorem keepL_get {ks : List Nat} : ∀ {l : List Slot} {i n : Nat} {s : Slot}, (keepL ks i l)[n]? = some s → ∃ s0, l[n]? = some s0 ∧ (s = s0 ∨ s.live = false)
  | [], i, n, s, h => by simp [keepL] at h
  | x :: l, i, 0, s, h => by
    simp only [keepL, List.getElem?_cons_zero, Option.some.injEq] at h
    refine ⟨x, by simp, ?_⟩
    rw [← h]
    split
    · exact .inl rfl
    · cases x <;> exact .inr rfl
  | x :: l, i, n + 1, s, h => by
    simp only [keepL, List.getElem?_cons_succ] at h
    obtain ⟨s0, h1, h2⟩ := keepL_get h
    exact ⟨s0, by simpa using h1, h2⟩
theorem keepL_used {ks : List Nat} : ∀ {l : List Slot} {i n : Nat} {s : Slot}, l[n]? = some s → s ≠ .free → ∃ s', (keepL ks i l)[n]? = some s' ∧ s' ≠ .free
  | [], i, n, s, h, _ => by simp at h
  | x :: l, i, 0, s, h, hne => by
    simp at h; subst h
    refine ⟨_, by simp [keepL]; rfl, ?_⟩
    split
    · exact hne
    · cases x <;> first | exact absurd rfl hne | simp
  | x :: l, i, n + 1, s, h, hne => by
    simp at h
    obtain ⟨s', h1, h2⟩ := keepL_used (ks := ks) (i := i + 1) h hne
    exact ⟨s', by simpa [keepL] using h1, h2⟩
theorem keepS_weak (Sok : (Nat → Option Nat) → Prop) (ks : List Nat) : Weak Sok (keepS ks) := fun S B w0 st β a w _ r => by
  have h := r.mm
  have old : ∀ (n : Nat) (s : Slot), (keepL ks 0 st.mem)[n]? = some s → s.live = true → st.mem[n]? = some s := by
    intro n s hn hl
    obtain ⟨s0, h1, h2⟩ := keepL_get hn
    rcases h2 with rfl | h2
    · exact h1
    · rw [hl] at h2; cases h2
  refine ⟨β, r.tm, r.df, h.wd, h.aw, h.far, fun n t cs hn => h.blk n t cs (old n _ hn rfl), fun n t k L hn => h.seq n t k L (old n _ hn rfl), fun x y sx sy k h1 h2 l1 l2 hx hy => h.inj x y sx sy k (old x sx h1 l1) (old y sy h2 l2) l1 l2 hx hy, h.rng, fun n k hn => ?_, h.came, h.kept, h.sz⟩
  obtain ⟨s, hs, hne⟩ := h.used n k hn
  exact keepL_used hs hne

/-! ### Loops -/
/-- A tree's ends, each as it is to be looked at. -/
def Tree.shape (sh shx : St → St) : Tree → Tree
  | .leaf .normal st => .leaf .normal (sh st)
  | .leaf e st => .leaf e (shx st)
  | .br b t e => .br b (t.shape sh shx) (e.shape sh shx)
  | .need p t => .need p (t.shape sh shx)
  | .stuck => .stuck
def shEx (sh shx : St → St) : Ex → St → St
  | .normal => sh
  | _ => shx
theorem Tree.shape_wp {sh shx : St → St} {K : Ex → St → Prop} : ∀ {t : Tree}, (t.shape sh shx).wp K → t.wp fun e st => K e (shEx sh shx e st)
  | .leaf .normal _, h => h
  | .leaf (.exit _) _, h => h
  | .leaf .ret _, h => h
  | .br _ _ _, h => ⟨fun hb => Tree.shape_wp (h.1 hb), fun hb => Tree.shape_wp (h.2 hb)⟩
  | .need _ _, h => ⟨h.1, Tree.shape_wp h.2⟩
  | .stuck, h => h
def RoundK {α : Type} (T : α → St) (I : α → Prop) (N : α → Nat) (R : α → Tree) (a : α) (K : Ex → St → Prop) : Ex → St → Prop
  | .normal, st => ∃ a', st = T a' ∧ I a' ∧ N a' < N a ∧ (R a').wp K
  | e, st => K e st
theorem loop_tplL {α : Type} {P : Program} {cts : List Ct} {lps : α → List (Nat × (St → Tree))} {fz : List Nat} {fuel : Nat} (hmix : P.follows .mixedOrders = true) (hcts : ∀ c ∈ cts, CtOk P c) {Sok : (Nat → Option Nat) → Prop} (hz : fz = [] ∨ ∀ S, Sok S → ∀ n, S n = none) {body : Code}
    (I : α → Prop) (hlps : ∀ a, I a → ∀ b ∈ loopsOf body, ∀ f, findLp (codeKey b) (lps a) = some f → LpOkS P Sok b f) {sh shx : St → St} (hsh : Weak Sok sh) (hshx : Weak Sok shx) (T : α → St) (N : α → Nat) (R : α → Tree)
    (step : ∀ a, I a → ∀ K : Ex → St → Prop, (R a).wp K → ((exec P cts (lps a) fz fuel body (T a)).shape sh shx).wp (RoundK T I N R a K)) {a0 : α} (h0 : I a0) : LpOkS P Sok body (fun st => .need (sh st = T a0) (R a0)) := by
  intro S B w0 st hSok K Q hwp hK β a w r
  obtain ⟨hst, hR⟩ := hwp
  have hzS : fz = [] ∨ ∀ n, S n = none := hz.imp (fun h => h) (fun h => h S hSok)
  obtain ⟨β1, r1⟩ := hsh S B w0 st β a w hSok r
  rw [hst] at r1
  have key : ∀ (n : Nat) (x : α), N x < n → I x → (R x).wp K → ∀ β a w, Rel S B w0 β (T x) a w → Code.rounds P body Q n a w := by
    intro n
    induction n with
    | zero => intro x hx; omega
    | succ n ih =>
      intro x hx hI hRx β a w r
      rw [rounds_succ]
      refine exec_sound hmix hcts hzS hSok (fuel := fuel) (S := S) (B := B) (w0 := w0) body (hlps x hI) (T x) _ _ (Tree.shape_wp (step x hI K hRx)) ?_ β a w r
      intro e st' he β' a' w' r'
      cases e with
      | normal =>
        obtain ⟨x', q1, q2, q3, q4⟩ := he
        obtain ⟨β2, r2⟩ := hsh S B w0 st' β' a' w' hSok r'
        have q1' : sh st' = T x' := q1
        rw [q1'] at r2
        exact ih x' (by omega) q2 q4 β2 a' w' r2
      | exit id =>
        obtain ⟨β2, r2⟩ := hshx S B w0 st' β' a' w' hSok r'
        exact hK _ _ he β2 a' w' r2
      | ret =>
        obtain ⟨β2, r2⟩ := hshx S B w0 st' β' a' w' hSok r'
        exact hK _ _ he β2 a' w' r2
  exact wp_loop_rounds (N a0 + 1) (key (N a0 + 1) a0 (Nat.lt_succ_self _) h0 hR β1 a w r1)

theorem loop_tpl {α : Type} {P : Program} {cts : List Ct} {lps : List (Nat × (St → Tree))} {fz : List Nat} {fuel : Nat} (hmix : P.follows .mixedOrders = true) (hcts : ∀ c ∈ cts, CtOk P c) {Sok : (Nat → Option Nat) → Prop} (hz : fz = [] ∨ ∀ S, Sok S → ∀ n, S n = none) {body : Code}
    (hlps : ∀ b ∈ loopsOf body, ∀ f, findLp (codeKey b) lps = some f → LpOkS P Sok b f) {sh shx : St → St} (hsh : Weak Sok sh) (hshx : Weak Sok shx) (T : α → St) (I : α → Prop) (N : α → Nat) (R : α → Tree)
    (step : ∀ a, I a → ∀ K : Ex → St → Prop, (R a).wp K → ((exec P cts lps fz fuel body (T a)).shape sh shx).wp (RoundK T I N R a K)) {a0 : α} (h0 : I a0) : LpOkS P Sok body (fun st => .need (sh st = T a0) (R a0)) :=
  loop_tplL (lps := fun _ => lps) hmix hcts hz I (fun _ _ => hlps) hsh hshx T N R step h0

/-- A contract from a run whose loops are known. -/
theorem runCtL_ok {P : Program} {cts : List Ct} {fz : List Nat} {fuel : Nat} (hmix : P.follows .mixedOrders = true) (hcts : ∀ c ∈ cts, CtOk P c) {f : FuncId} {fn : Func} {c : Code} (hf : P.funcs[f]? = some fn) (hb : fn.body = some c) (hname : (fn.name == "runtime.NumGoroutine") = false)
    {shs : List Sh} {out : List D → List Prop × TV} (hfree : ∀ ds, (out ds).2.free = true)
    (h : ∀ ds, fitsAll shs ds → (∀ p ∈ (out ds).1, p) → ∃ lps, (∀ body ∈ loopsOf c, ∀ g, findLp (codeKey body) lps = some g → LpOk P body g) ∧ ∃ args, (∀ β vs, all2 (SV.is β) (svAll shs ds) vs → all2 (SV.is β) args vs) ∧ (runC P cts lps fz fuel fn c args).wp (fun x => x = (out ds).2.norm)) : CtOk P (shCt f shs out) :=
  shCt_ok hf hname (by rw [hb]; rfl) fun ds h1 h2 => ⟨hfree ds, fun w away hfar vs hvs => by
    obtain ⟨lps, hlp, args, ha, hr⟩ := h ds h1 h2
    exact calls_of_runT hmix hcts hf hb hlp (hfree ds) hr hfar (ha _ _ hvs)⟩

/-- A contract whose conditions are looked at at once. -/
def gdCt (f : FuncId) (shs : List Sh) (g : List D → Bool) (out : List D → TV) : Ct :=
  ⟨f, .comp fun args => match getAll shs args with
    | some ds => match g ds with
      | true => some ([], out ds)
      | false => none
    | none => none⟩
theorem gdCt_ok {P : Program} {f : FuncId} {shs : List Sh} {g : List D → Bool} {out : List D → List Prop × TV} (h : CtOk P (shCt f shs out)) (hg : ∀ ds, g ds = true → ∀ p ∈ (out ds).1, p) : CtOk P (gdCt f shs g fun ds => (out ds).2) := by
  intro args mem nm need tv mem' hr hn
  simp only [Ct.run, gdCt] at hr
  split at hr <;> try (cases hr; done)
  rename_i nd tv' hq
  cases hr
  split at hq <;> try (cases hq; done)
  rename_i ds hds
  split at hq <;> try (cases hq; done)
  rename_i hgd
  cases hq
  exact h args mem nm (out ds).1 (out ds).2 mem (by simp only [Ct.run, shCt, hds]) (hg ds hgd)

theorem orCt_ok2 {P : Program} {c d : Ct} (n : FuncId) (hc : CtOk P c) (hd : CtOk P d) (h1 : c.f = n) (h2 : d.f = n) : CtOk P (orCt c d) := orCt_ok hc hd (h2.trans h1.symm)
theorem orCt_f {c d : Ct} {n : FuncId} (h1 : c.f = n) : (orCt c d).f = n := by
  unfold orCt
  split <;> exact h1
/-- The loop whose first region this is. -/
def loopAt (c : Code) (k : Nat) : Code := ((loopsOf c).filter fun b => codeKey b == k).headD .skip
theorem loopAt_is {c : Code} {k : Nat} (h : ((loopsOf c).filter fun b => codeKey b == k) = [loopAt c k]) {body : Code} (hb : body ∈ loopsOf c) (hk : codeKey body = k) : body = loopAt c k := by
  have : body ∈ (loopsOf c).filter fun b => codeKey b == k := List.mem_filter.2 ⟨hb, by simp [hk]⟩
  rw [h] at this
  exact List.mem_singleton.1 this
/-- Known loops, one by one. -/
def LpsOk (P : Program) (Sok : (Nat → Option Nat) → Prop) (c : Code) : List (Nat × (St → Tree)) → Prop
  | [] => True
  | x :: r => (∀ body ∈ loopsOf c, codeKey body = x.1 → LpOkS P Sok body x.2) ∧ LpsOk P Sok c r
theorem lpsOk {P : Program} {Sok : (Nat → Option Nat) → Prop} {c : Code} : ∀ {lps : List (Nat × (St → Tree))}, LpsOk P Sok c lps → ∀ body ∈ loopsOf c, ∀ g, findLp (codeKey body) lps = some g → LpOkS P Sok body g
  | [], _, _, _, _, h => by cases h
  | (j, f) :: r, h, body, hb, g, hg => by
    unfold findLp at hg
    split at hg
    · rename_i e
      cases hg
      exact h.1 body hb e.symm
    · exact lpsOk h.2 body hb g hg
/-- What must hold ahead of all else. -/
def needT : List Prop → TT → TT
  | [], t => t
  | p :: r, t => .need p (needT r t)
theorem needT_wp {K : TV → Prop} {t : TT} : ∀ {l : List Prop}, (∀ p ∈ l, p) → t.wp K → (needT l t).wp K
  | [], _, h => h
  | p :: r, hl, h => ⟨hl p (by simp), needT_wp (fun q hq => hl q (by simp [hq])) h⟩
/-- The temporaries that are told, whatever the others are. -/
def tmL (n : Nat) (kv : List (Nat × TV)) : Tm := Tm.ofL ((List.range n).map fun i => (kv.lookup i).getD (.sv (.one .any)))

/-! ### Functions that hand back a slice of their own, of any length -/
def OT.seqOf (k : IntKind) (e : TypeId) : OT → Option (List Prop × List Int)
  | .leaf (.sv (.one (.sq n len))) mem => match mem[n]? with
    | some (.seq e' k' L) => if e' = e ∧ k' = k then some ([len = L.length], L) else none
    | _ => none
  | .need p t => match t.seqOf k e with
    | some (l, r) => some (p :: l, r)
    | none => none
  | _ => none
theorem OT.seqOf_wp {k : IntKind} {e : TypeId} : ∀ {t : OT} {l : List Prop} {L : List Int}, t.seqOf k e = some (l, L) → (∀ p ∈ l, p) → t.wp fun tv mem => ∃ n len, tv = .sv (.one (.sq n len)) ∧ mem[n]? = some (.seq e k L) ∧ len = L.length
  | .leaf tv mem, l, L, h, hl => by
    unfold OT.seqOf at h
    split at h <;> try (cases h; done)
    · rename_i n len mem' e1
      cases e1
      split at h <;> try (cases h; done)
      rename_i e' k' L' hs
      split at h <;> try (cases h; done)
      rename_i hc
      obtain ⟨rfl, rfl⟩ := hc
      cases h
      exact ⟨n, len, rfl, hs, hl _ (by simp)⟩
    all_goals (rename_i e1; cases e1)
  | .need p t, l, L, h, hl => by
    unfold OT.seqOf at h
    split at h
    · rename_i l' r' ht
      cases h
      exact ⟨hl p (by simp), OT.seqOf_wp ht fun q hq => hl q (by simp [hq])⟩
    · cases h
  | .br _ _ _, _, _, h, _ => by simp [OT.seqOf] at h
  | .stuck, _, _, h, _ => by simp [OT.seqOf] at h
def ownSCt (f : FuncId) (shs : List Sh) (k : IntKind) (e : TypeId) (out : List D → List Prop × List Int) : Ct :=
  ⟨f, .memo 1 fun args mem nm => match getAll shs args with
    | some ds => (match mem[nm]? with
      | some .free => some ((out ds).1, .sv (.one (.sq nm (out ds).2.length)), mem.set nm (.seq e k (out ds).2))
      | _ => none)
    | none => none⟩
theorem ownSCt_ok {P : Program} {cts : List Ct} {fz : List Nat} {fuel : Nat} (hmix : P.follows .mixedOrders = true) (hcts : ∀ c ∈ cts, CtOk P c) {f : FuncId} {fn : Func} (hf : P.funcs[f]? = some fn) (hb : fn.body.isNone = false) (hname : (fn.name == "runtime.NumGoroutine") = false)
    {shs : List Sh} {k : IntKind} {e : TypeId} {out : List D → List Prop × List Int}
    (h : ∀ ds, fitsAll shs ds → (∀ p ∈ (out ds).1, p) → ∃ lps, (∀ body ∈ loopsOf (bodyOf fn), ∀ g, findLp (codeKey body) lps = some g → LpOk P body g) ∧ ∃ args, (∀ β vs, all2 (SV.is β) (svAll shs ds) vs → all2 (SV.is β) args vs) ∧ ∃ l, (runF P cts lps fz fuel fn (bodyOf fn) args []).seqOf k e = some (l, (out ds).2) ∧ ∀ p ∈ l, p) : CtOk P (ownSCt f shs k e out) := by
  have hbody : fn.body = some (bodyOf fn) := by
    unfold bodyOf
    cases e : fn.body with
    | none => rw [e] at hb; cases hb
    | some c => rfl
  intro args mem nm need tv mem' hr hn S B w0 β w vs ha hm
  simp only [Ct.run, ownSCt] at hr
  split at hr <;> try (cases hr; done)
  rename_i nd tv1 mem1 hg
  split at hr <;> cases hr
  split at hg <;> try (cases hg; done)
  rename_i ds hds
  split at hg <;> try (cases hg; done)
  rename_i hfree
  cases hg
  obtain ⟨f1, f2⟩ := getAll_is hds ha
  obtain ⟨lps, hlp, as, ha', l, hrun, hl⟩ := h ds f1 hn
  have hargs : all2 (SV.is (env0 w β.busy)) as vs := by
    have hw := hm.wd
    rw [← hw]
    exact ha' _ _ (all2_all (p := SV.free) (fun _ _ r p => SV.toBusy r p) f2 svAll_free)
  have hfar : ∀ k, β.busy k → k < w.heap.size := by
    rintro k (hk | ⟨n, hk⟩)
    · have := hm.far k (hm.aw ▸ hk); have := hm.sz; omega
    · exact (hm.rng n k hk).2
  show Does P ((callFunc f ⟨vs⟩).run P w) _
  rw [run_enter hf hname hb]
  refine (calls_of_run hmix hcts hf hbody (lps := lps) (fz := fz) (fuel := fuel) hlp (OT.seqOf_wp hrun hl) (.inr fun _ => rfl) hargs (MemRel.start w β.busy hfar)).mono ?_
  rintro en w' ⟨v, he, tv1, mem2, β', ⟨n, len, rfl, hs, hlen⟩, hv, hm'⟩
  have hkept := hm'.kept
  have hbel : Below w.heap.size w w' := ⟨hkept.os, hkept.tape, hkept.output, hkept.size, fun k hk' => hkept.block k hk' (by rintro ⟨n, h⟩; cases h)⟩
  rcases hv with ⟨b, c, hb1, hle, hroom, ev⟩ | ⟨h0, ev⟩
  · have hr := hm'.rng n b hb1
    have hbb : w.heap.size ≤ b := by
      rcases hr.1 with ⟨n, h⟩ | h
      · cases h
      · exact h
    have hh := (hm'.seq n e k _ hs).1 b hb1
    obtain ⟨ext, hmem⟩ := hm.adoptS hbel hfree hbb hr.2 (s0 := .seq e k (out ds).2) hh
    rw [hm'.wd] at hroom
    rw [hlen] at hle ev
    exact ⟨v, he, _, ext, .inl ⟨b, c, updβ_self _ _ _ _, hle, hroom, ev⟩, hmem⟩
  · have hL : (out ds).2 = [] := List.eq_nil_of_length_eq_zero (by omega)
    obtain ⟨ext, hm2⟩ := hm.kept' hbel
    have hmem := hm2.emptyS hfree e k
    rw [← hL] at hmem
    exact ⟨v, he, _, ext, .inr ⟨by rw [hL]; rfl, ev⟩, hmem⟩

/-! ### Calls carried out in place -/
def OT.inl : OT → Option (List Prop × TV × List Slot)
  | .leaf tv mem => some ([], tv, mem)
  | .need p t => match t.inl with
    | some (l, r) => some (p :: l, r)
    | none => none
  | _ => none
theorem OT.inl_wp : ∀ {t : OT} {l : List Prop} {tv : TV} {mem : List Slot}, t.inl = some (l, tv, mem) → (∀ p ∈ l, p) → t.wp fun x m => x = tv ∧ m = mem
  | .leaf tv mem, l, tv', mem', h, _ => by simp [OT.inl] at h; obtain ⟨_, rfl, rfl⟩ := h; exact ⟨rfl, rfl⟩
  | .need p t, l, tv, mem, h, hl => by
    unfold OT.inl at h
    split at h
    · rename_i l' r' ht
      cases h
      exact ⟨hl p (by simp), OT.inl_wp ht fun q hq => hl q (by simp [hq])⟩
    · cases h
  | .br _ _ _, _, _, _, h, _ => by simp [OT.inl] at h
  | .stuck, _, _, _, h, _ => by simp [OT.inl] at h
def inlCt (P : Program) (cts : List Ct) (fuel : Nat) (f : FuncId) (fn : Func) : Ct := ⟨f, .memo 0 fun args mem _ => (runF P cts [] [] fuel fn (bodyOf fn) args mem).inl⟩
theorem inlCt_ok {P : Program} {cts : List Ct} {fuel : Nat} (hmix : P.follows .mixedOrders = true) (hcts : ∀ c ∈ cts, CtOk P c) {f : FuncId} {fn : Func} (hf : P.funcs[f]? = some fn) (hb : fn.body.isNone = false) (hname : (fn.name == "runtime.NumGoroutine") = false) : CtOk P (inlCt P cts fuel f fn) := by
  have hbody : fn.body = some (bodyOf fn) := by
    unfold bodyOf
    cases e : fn.body with
    | none => rw [e] at hb; cases hb
    | some c => rfl
  intro args mem nm need tv mem' hr hn S B w0 β w vs ha hm
  simp only [Ct.run, inlCt] at hr
  split at hr <;> try (cases hr; done)
  rename_i nd tv1 mem1 hg
  split at hr <;> cases hr
  have hm0 : MemRel β.at_ ⟨w.heap.size, β.away⟩ w β mem w :=
    ⟨hm.wd, rfl, fun k hk => by have := hm.far k (hm.aw ▸ hk); have := hm.sz; show k < w.heap.size; omega, hm.blk, hm.seq, hm.inj, fun n k h => ⟨.inl ⟨n, h⟩, (hm.rng n k h).2⟩, hm.used, fun _ _ h => h, Kept.refl _ _ _, Nat.le_refl _⟩
  show Does P ((callFunc f ⟨vs⟩).run P w) _
  rw [run_enter hf hname hb]
  refine (calls_of_runG (fz := []) (lps := []) (fuel := fuel) (Sok := fun _ => True) hmix hcts hf hbody (fun _ _ g hg => by cases hg) (OT.inl_wp hg hn) (.inl rfl) trivial ha hm0).mono ?_
  rintro e w' ⟨v, he, tv2, mem2, β', ⟨rfl, rfl⟩, hv, hm'⟩
  have hkept := hm'.kept
  have hw := hm.wd
  have ext : Ext β β' := by
    refine ⟨fun n b h => hm'.came n b h, fun n b h => ?_, by rw [hw, hm'.wd]; exact hkept.size, hm'.aw, fun k hk hno _ => ?_, fun k => by rw [hw, hm'.wd]; exact hkept.room k⟩
    · rcases (hm'.rng n b h).1 with ⟨m, h'⟩ | h'
      · exact .inl ⟨m, h'⟩
      · exact .inr (by rw [hw]; exact h')
    · rw [hw, hm'.wd]
      rw [hw] at hk
      exact hkept.block k hk (by rintro ⟨n, h⟩; exact hno n h)
  refine ⟨v, he, β', ext, hv, hm'.wd, hm'.aw.trans hm.aw, hm.far, hm'.blk, hm'.seq, hm'.inj, fun n k h => ?_, hm'.used, fun n k h => hm'.came n k (hm.came n k h), ?_, Nat.le_trans hm.sz hkept.size⟩
  · refine ⟨?_, (hm'.rng n k h).2⟩
    rcases (hm'.rng n k h).1 with ⟨m, h'⟩ | h'
    · exact (hm.rng m k h').1
    · exact .inr (Nat.le_trans hm.sz h')
  · refine hm.kept.trans ⟨hkept.os, hkept.tape, hkept.output, hkept.size, fun k hk hs => ?_, hkept.room⟩
    refine hkept.block k (Nat.lt_of_lt_of_le hk hm.sz) ?_
    rintro ⟨n, h⟩
    rcases (hm.rng n k h).1 with h' | h'
    · exact hs h'
    · omega

/-! ### A contract by cases -/
theorem caseCt {P : Program} {f : FuncId} {shs : List Sh} {out : List D → List Prop × TV}
    (h : ∀ ds, fitsAll shs ds → (∀ p ∈ (out ds).1, p) → ∃ (shs1 : List Sh) (out1 : List D → List Prop × TV) (args1 : List SV) (ds1 : List D), CtOk P (shCt f shs1 out1) ∧ getAll shs1 args1 = some ds1 ∧ (∀ β vs, all2 (SV.is β) (svAll shs ds) vs → all2 (SV.is β) args1 vs) ∧ (∀ p ∈ (out1 ds1).1, p) ∧ (out ds).2.norm = (out1 ds1).2.norm) : CtOk P (shCt f shs out) := by
  intro args mem nm need tv mem' hr hn S B w0 β w vs ha hm
  simp only [Ct.run, shCt] at hr
  split at hr <;> try (cases hr; done)
  rename_i need' tv' hg
  cases hr
  split at hg <;> try (cases hg; done)
  rename_i ds hds
  obtain ⟨f1, f2⟩ := getAll_is hds ha
  have hout : out ds = (need, tv) := by injection hg
  obtain ⟨shs1, out1, args1, ds1, hc, hg1, hv, p1, p2⟩ := h ds f1 (by rw [hout]; exact hn)
  have hd := hc args1 mem nm (out1 ds1).1 (out1 ds1).2 mem (by simp only [Ct.run, shCt, hg1]) p1 S B w0 β w vs (hv β vs f2) hm
  refine hd.mono ?_
  rintro v w' ⟨β', hext, htv, hm'⟩
  refine ⟨β', hext, ?_, hm'⟩
  rw [← TV.norm_is, ← p2, TV.norm_is, hout] at htv
  exact htv
end Go.Proofs.Ytihmhnfjdkkbgaa.RX
