/- RX, part O: contracts of functions that write into a slice that they are handed, a block of its own, and hand it back. -/
import Derived.Test.YtihmhnfjdkkbgaaRxL
noncomputable section
namespace Go.Proofs.Ytihmhnfjdkkbgaa.RX
set_option linter.unusedSimpArgs false
open Go Go.RowKit

/-- What the ways leave in the first block, if each hands back the slice over it: what must hold, and the cells. -/
def OT.mut (n : Nat) (e : TypeId) : OT → Option (List Prop × List RC)
  | .leaf (.sv (.one (.slc 0 0 l (some c)))) mem => if l = n ∧ c = n then
      (match mem[(0 : Nat)]? with
      | some (.blk e' cs) => if e' = e then some ([], cs.map RC.norm) else none
      | _ => none)
    else none
  | .leaf _ _ => none
  | .br b t f => match t.mut n e, f.mut n e with
    | some (l, x), some (m, y) => (bifL (bifRC b) x y).map fun z => ((l.map fun p => b = true → p) ++ m.map fun p => b = false → p, z)
    | _, _ => none
  | .need p t => match t.mut n e with
    | some (l, x) => some (p :: l, x)
    | none => none
  | .stuck => none
def MutK (n : Nat) (e : TypeId) (z : List RC) (tv : TV) (mem : List Slot) : Prop :=
  tv = .sv (.one (.slc 0 0 n (some n))) ∧ ∃ cs, mem[(0 : Nat)]? = some (.blk e cs) ∧ cs.map RC.norm = z
theorem OT.mut_wp {n : Nat} {e : TypeId} : ∀ {t : OT} {l : List Prop} {z : List RC}, t.mut n e = some (l, z) → (∀ p ∈ l, p) → t.wp (MutK n e z)
  | .leaf tv mem, l, z, h, _ => by
    unfold OT.mut at h
    split at h <;> try (cases h; done)
    · rename_i heq
      cases heq
      split at h <;> try (cases h; done)
      rename_i hlc
      obtain ⟨rfl, rfl⟩ := hlc
      split at h <;> try (cases h; done)
      rename_i e' cs hm
      split at h <;> try (cases h; done)
      rename_i he
      subst he
      cases h
      exact ⟨rfl, cs, hm, rfl⟩
    all_goals (rename_i heq; cases heq)
  | .br b t f, l, z, h, hl => by
    unfold OT.mut at h
    split at h <;> try (cases h; done)
    rename_i l1 x l2 y h1 h2
    obtain ⟨z', h3, h4⟩ := Option.map_eq_some_iff.1 h
    cases h4
    have hz := bifL_eq (fun _ _ _ => bifRC_eq) h3
    refine ⟨fun hb => ?_, fun hb => ?_⟩
    · rw [hz, hb]
      exact OT.mut_wp h1 fun p hp => hl (b = true → p) (List.mem_append_left _ (List.mem_map.2 ⟨p, hp, rfl⟩)) hb
    · rw [hz, hb]
      exact OT.mut_wp h2 fun p hp => hl (b = false → p) (List.mem_append_right _ (List.mem_map.2 ⟨p, hp, rfl⟩)) hb
  | .need p t, l, z, h, hl => by
    unfold OT.mut at h
    split at h <;> try (cases h; done)
    rename_i l' x h1
    cases h
    exact ⟨hl p (by simp), OT.mut_wp h1 fun q hq => hl q (by simp [hq])⟩
  | .stuck, _, _, h, _ => by cases h

/-- A function that is handed a slice over a block of n numbers, writes into it, and hands it back. -/
def mutCt (f : FuncId) (k : IntKind) (n : Nat) (e : TypeId) (out : List Int → List Int) : Ct :=
  ⟨f, .memo 0 fun args mem _ => match args with
    | [.one (.slc m 0 l (some c))] => if l = n ∧ c = n then
        (match blkAt mem m with
        | some (e', cs) => if e' = e then
            (match numsOf k cs with
            | some xs => if xs.length = n then some ([], .sv (.one (.slc m 0 n (some n))), mem.set m (.blk e (cellsL k n (out xs)))) else none
            | none => none)
          else none
        | none => none)
      else none
    | _ => none⟩

theorem ints_any {k : IntKind} {l : List Int} {β β' : Env} {vs : List Value} (h : all2 (RC.is β) (l.map (RC.int k)) vs) : all2 (RC.is β') (l.map (RC.int k)) vs := by
  have : ∀ (l : List Int) (vs : List Value), all2 (RC.is β) (l.map (RC.int k)) vs → all2 (RC.is β') (l.map (RC.int k)) vs := by
    intro l
    induction l with
    | nil => intro vs h; rw [all2_nil_left h]; trivial
    | cons x l ih =>
      intro vs h
      obtain ⟨v, vs', rfl, r1, r2⟩ := all2_cons_left h
      exact ⟨r1, ih vs' r2⟩
  exact this l vs h

theorem mutCt_ok {P : Program} {cts : List Ct} {fuel : Nat} (hmix : P.follows .mixedOrders = true) (hcts : ∀ c ∈ cts, CtOk P c) {f : FuncId} {fn : Func} (hf : P.funcs[f]? = some fn) (hb : fn.body.isNone = false) (hname : (fn.name == "runtime.NumGoroutine") = false)
    {k : IntKind} {n : Nat} {e : TypeId} {out : List Int → List Int}
    (h : ∀ xs : List Int, xs.length = n → ∃ l, (runF P cts [] [] fuel fn (bodyOf fn) [.one (.slc 0 0 n (some n))] [.blk e (cellsL k n xs)]).mut n e = some (l, cellsL k n (out xs)) ∧ ∀ p ∈ l, p) : CtOk P (mutCt f k n e out) := by
  have hbody : fn.body = some (bodyOf fn) := by
    unfold bodyOf
    cases e : fn.body with
    | none => rw [e] at hb; cases hb
    | some c => rfl
  intro args mem nm need tv mem' hr hn S B w0 β w vs ha hm
  simp only [Ct.run, mutCt] at hr
  split at hr <;> try (cases hr; done)
  rename_i need' tv' mem'' hg
  split at hr <;> try (cases hr; done)
  cases hr
  split at hg <;> try (cases hg; done)
  rename_i m l c
  split at hg <;> try (cases hg; done)
  rename_i hlc
  obtain ⟨rfl, rfl⟩ := hlc
  split at hg <;> try (cases hg; done)
  rename_i e' cs hblk
  split at hg <;> try (cases hg; done)
  rename_i he
  subst he
  split at hg <;> try (cases hg; done)
  rename_i xs hxs
  split at hg <;> try (cases hg; done)
  rename_i hlen
  cases hg
  obtain ⟨v, vs', rfl, r1, r2⟩ := all2_cons_left ha
  obtain rfl := all2_nil_left r2
  obtain ⟨b, c', hb1, hcap, hle, _, ev⟩ := r1
  have hcc := hcap c rfl
  subst hcc
  obtain ⟨lp, hrun, hlp⟩ := h xs hlen
  have hw := hm.wd
  have hrng := hm.rng m b hb1
  obtain ⟨us, more, fr, q1, q2, q3⟩ := hm.at hblk hb1
  have hus := numsOf_is hxs q2
  let β0 : Env := ⟨fun j => if j = 0 then some b else none, w, fun j => β.busy j ∧ j ≠ b⟩
  have h00 : β0 0 = some b := rfl
  have h0j : ∀ j kk, β0 j = some kk → j = 0 ∧ kk = b := by
    intro j kk hj
    have hj' : (if j = 0 then some b else none) = some kk := hj
    split at hj'
    · rename_i h0; cases hj'; exact ⟨h0, rfl⟩
    · cases hj'
  have hcell : Holds β0 w b e' (cellsL k c' xs) := by
    refine ⟨us, more, fr, q1, ?_, q3⟩
    rw [cellsL_map hlen, hus]
    exact nums_is β0 k xs
  have hm0 : MemRel β0.at_ ⟨w.heap.size, fun j => β.busy j ∧ j ≠ b⟩ w β0 [.blk e' (cellsL k c' xs)] w := by
    refine ⟨rfl, rfl, ?_, fun j t cs' hj => ?_, fun j t i L hj => ?_, fun j i sj si kk hj hi _ _ _ _ => ?_, fun j kk hj => ?_, fun j kk hj => ?_, fun _ _ hj => hj, Kept.refl _ _ _, Nat.le_refl _⟩
    · rintro kk ⟨hk | ⟨i, hk⟩, _⟩
      · have := hm.far kk (hm.aw ▸ hk); have := hm.sz; show kk < w.heap.size; omega
      · exact (hm.rng i kk hk).2
    · cases j with
      | zero => simp at hj; obtain ⟨rfl, rfl⟩ := hj; exact ⟨b, h00, hcell⟩
      | succ j => simp at hj
    · cases j <;> simp at hj
    · cases j with
      | zero => cases i with
        | zero => rfl
        | succ i => simp at hi
      | succ j => simp at hj
    · obtain ⟨rfl, rfl⟩ := h0j j kk hj
      exact ⟨.inl ⟨0, h00⟩, hrng.2⟩
    · obtain ⟨rfl, rfl⟩ := h0j j kk hj
      exact ⟨_, rfl, by simp⟩
  have ha0 : all2 (SV.is β0) [.one (.slc 0 0 c' (some c'))] [v] := ⟨⟨b, c', h00, (by intro m' hm'; cases hm'; rfl), Nat.le_refl _, (by simp), ev⟩, trivial⟩
  show Does P ((callFunc f ⟨[v]⟩).run P w) _
  rw [run_enter hf hname hb]
  refine (calls_of_run (fz := []) (lps := []) (fuel := fuel) hmix hcts hf hbody (fun _ _ g hg => by cases hg) (OT.mut_wp hrun hlp) (.inl ⟨rfl, rfl⟩) ha0 hm0).mono ?_
  rintro en w' ⟨u, hen, tv1, mem1, β1, ⟨rfl, cs1, hslot, hcs1⟩, hu, hm1⟩
  have hb2 : β1 0 = some b := hm1.came 0 b h00
  obtain ⟨b3, c3, hb3, hcap3, _, _, eu⟩ := hu
  rw [hb2] at hb3; cases hb3
  have hc3 := hcap3 c' rfl
  subst hc3
  obtain ⟨b4, hb4, us4, more4, fr4, p1, p2, p3⟩ := hm1.blk 0 e' cs1 hslot
  rw [hb2] at hb4; cases hb4
  have p2' : all2 (RC.is β1) (cellsL k c3 (out xs)) us4 := by
    rw [← hcs1]
    exact (all2_norm (R := RC.is β1) (R' := RC.is β1) (fun _ _ => RC.norm_is)).2 p2
  rw [cellsL_toLen] at p2'
  obtain ⟨ext, hm'⟩ := hm.changeS hb1 (blkAt_eq hblk) rfl (s1 := .blk e' (cellsL k c3 (out xs))) hm1.kept.os hm1.kept.tape hm1.kept.output hm1.kept.size
    (fun j hj hne => hm1.kept.block j hj (by rintro ⟨i, hi⟩; exact hne (h0j i j hi).2)) (hm1.kept.room b)
    (fun β' _ => ⟨us4, more4, fr4, p1, by rw [cellsL_toLen]; exact ints_any p2', p3⟩)
  exact ⟨u, hen, _, ext, ⟨b, c3, hb1, (by intro m' hm'; cases hm'; rfl), Nat.le_refl _, (by simp), eu⟩, hm'⟩

/-! ### Ways of which one is gone -/
theorem TT.br_t {b : Bool} {t e : TT} {K : TV → Prop} (h : b = true) (ht : t.wp K) : (TT.br b t e).wp K := ⟨fun _ => ht, fun h' => (by rw [h] at h'; cases h')⟩
theorem TT.br_f {b : Bool} {t e : TT} {K : TV → Prop} (h : b = false) (he : e.wp K) : (TT.br b t e).wp K := ⟨fun h' => (by rw [h] at h'; cases h'), fun _ => he⟩
/-- Either way if it holds; else further on. -/
theorem TT.br_e {b : Bool} {t e : TT} {K : TV → Prop} (ht : b = true → t.wp K) (he : b = false → e.wp K) : (TT.br b t e).wp K := ⟨ht, he⟩

/-! ### One contract out of another, for arguments of which more is known -/
def Sh.sub : Sh → Sh → Bool
  | .strn _, .str => true
  | .con k _, .num k' => decide (k = k')
  | .num k, .num k' => decide (k = k')
  | .nums k n, .nums k' n' => decide (k = k' ∧ n = n')
  | .str, .str => true
  | .strn n, .strn n' => decide (n = n')
  | .bool, .bool => true
  | .frz k n, .frz k' n' => decide (k = k' ∧ n = n')
  | .frzs k n m, .frzs k' n' m' => decide (k = k' ∧ n = n' ∧ m = m')
  | .con k x, .con k' x' => decide (k = k' ∧ x = x')
  | _, _ => false
theorem Sh.sub_get {a b : Sh} (h : a.sub b = true) {s : SV} {d : D} (e : a.get s = some d) : b.get s = some d := by
  unfold Sh.sub at h
  split at h
  · cases s with
    | agg cs => simp [Sh.get] at e
    | one c =>
      cases c <;> simp only [Sh.get] at e <;> try (cases e; done)
      split at e
      · cases e; rfl
      · cases e
  · have hk := of_decide_eq_true h
    subst hk
    cases s with
    | agg cs => simp [Sh.get] at e
    | one c =>
      cases c <;> simp only [Sh.get] at e <;> try (cases e; done)
      split at e
      · rename_i hc
        cases e
        simp only [Sh.get, RC.num, hc.1, hc.2, if_true]
      · cases e
  · have hk := of_decide_eq_true h; subst hk; exact e
  · obtain ⟨rfl, rfl⟩ := of_decide_eq_true h; exact e
  · exact e
  · have hk := of_decide_eq_true h; subst hk; exact e
  · exact e
  · obtain ⟨rfl, rfl⟩ := of_decide_eq_true h; exact e
  · obtain ⟨rfl, rfl, rfl⟩ := of_decide_eq_true h; exact e
  · obtain ⟨rfl, rfl⟩ := of_decide_eq_true h; exact e
  · cases h
def subAll : List Sh → List Sh → Bool
  | [], [] => true
  | a :: r, b :: q => a.sub b && subAll r q
  | _, _ => false
theorem getAll_sub : ∀ {shs shs' : List Sh} {args : List SV} {ds : List D}, subAll shs' shs = true → getAll shs' args = some ds → getAll shs args = some ds
  | [], [], _, _, _, h => h
  | b :: shs, a :: shs', args, ds, hs, h => by
    simp only [subAll, Bool.and_eq_true] at hs
    cases args with
    | nil => cases h
    | cons s args =>
      unfold getAll at h ⊢
      split at h
      · rename_i d l h1 h2
        cases h
        rw [Sh.sub_get hs.1 h1, getAll_sub hs.2 h2]
      · cases h
  | [], _ :: _, _, _, hs, _ => by cases hs
  | _ :: _, [], _, _, hs, _ => by cases hs
theorem subCt {P : Program} {f : FuncId} {shs shs' : List Sh} {out out' : List D → List Prop × TV} (h : CtOk P (shCt f shs out)) (hs : subAll shs' shs = true) (he : ∀ ds, fitsAll shs' ds → (out ds).1 = (out' ds).1 ∧ (out ds).2.norm = (out' ds).2.norm) :
    CtOk P (shCt f shs' out') := by
  intro args mem nm need tv mem' hr hn S B w0 β w vs ha hm
  simp only [Ct.run, shCt] at hr
  split at hr <;> try (cases hr; done)
  rename_i need' tv' hg
  cases hr
  split at hg <;> try (cases hg; done)
  rename_i ds hds
  obtain ⟨f1, _⟩ := getAll_is hds ha
  obtain ⟨e1, e2⟩ := he ds f1
  have hout : out' ds = (need, tv) := by injection hg
  have hd := h args mem nm (out ds).1 (out ds).2 mem (by simp only [Ct.run, shCt, getAll_sub hs hds]) (by rw [e1, hout]; exact hn) S B w0 β w vs ha hm
  refine hd.mono ?_
  rintro v w' ⟨β', hext, htv, hm'⟩
  refine ⟨β', hext, ?_, hm'⟩
  rw [← TV.norm_is, e2, TV.norm_is, hout] at htv
  exact htv
/-- One contract for texts of one size and one for others, as one for all texts. -/
theorem splitCt {P : Program} {f : FuncId} {n : Nat} {out1 out2 out : List D → List Prop × TV} (h1 : CtOk P (shCt f [.strn n] out1)) (h2 : CtOk P (shCt f [.str] out2))
    (e1 : ∀ s : ByteArray, s.size = n → (∀ p ∈ (out1 [.S s]).1, p) ∧ (out [.S s]).2.norm = (out1 [.S s]).2.norm) (e2 : ∀ s : ByteArray, ¬ s.size = n → (∀ p ∈ (out2 [.S s]).1, p) ∧ (out [.S s]).2.norm = (out2 [.S s]).2.norm) :
    CtOk P (shCt f [.str] out) := by
  intro args mem nm need tv mem' hr hn S B w0 β w vs ha hm
  simp only [Ct.run, shCt] at hr
  split at hr <;> try (cases hr; done)
  rename_i need' tv' hg
  cases hr
  split at hg <;> try (cases hg; done)
  rename_i ds hds
  have hout : out ds = (need, tv) := by injection hg
  have hgo : ∃ s, ds = [.S s] ∧ all2 (SV.is β) [.one (.str s)] vs := by
    match args, ds, hds with
    | [a], ds, hds =>
      unfold getAll at hds
      split at hds
      · rename_i d l q1 q2
        cases hds
        simp only [getAll] at q2
        cases q2
        obtain ⟨v, vs', rfl, r1, r2⟩ := all2_cons_left ha
        obtain rfl := all2_nil_left r2
        have hf := Sh.get_is q1 r1
        cases a with
        | agg cs => simp [Sh.get] at q1
        | one c =>
          simp only [Sh.get] at q1
          split at q1
          · rename_i s hs
            cases q1
            exact ⟨s, rfl, RC.string_is hs r1, trivial⟩
          · cases q1
      · cases hds
    | [], _, hds => cases hds
    | _ :: _ :: _, ds, hds =>
      unfold getAll at hds
      split at hds
      · rename_i d l q1 q2
        simp [getAll] at q2
      · cases hds
  obtain ⟨s, rfl, hs⟩ := hgo
  by_cases hsz : s.size = n
  · obtain ⟨p1, p2⟩ := e1 s hsz
    have hs' : all2 (SV.is β) [.one (.strn s n hsz)] vs := by
      obtain ⟨v, vs', rfl, r1, r2⟩ := all2_cons_left hs
      exact ⟨r1, r2⟩
    have hd := h1 [.one (.strn s n hsz)] mem nm (out1 [.S s]).1 (out1 [.S s]).2 mem (by simp [Ct.run, shCt, getAll, Sh.get]) p1 S B w0 β w vs hs' hm
    refine hd.mono ?_
    rintro v w' ⟨β', hext, htv, hm'⟩
    refine ⟨β', hext, ?_, hm'⟩
    rw [← TV.norm_is, ← p2, TV.norm_is, hout] at htv
    exact htv
  · obtain ⟨p1, p2⟩ := e2 s hsz
    have hd := h2 [.one (.str s)] mem nm (out2 [.S s]).1 (out2 [.S s]).2 mem (by simp [Ct.run, shCt, getAll, Sh.get, RC.string?]) p1 S B w0 β w vs hs hm
    refine hd.mono ?_
    rintro v w' ⟨β', hext, htv, hm'⟩
    refine ⟨β', hext, ?_, hm'⟩
    rw [← TV.norm_is, ← p2, TV.norm_is, hout] at htv
    exact htv
end Go.Proofs.Ytihmhnfjdkkbgaa.RX
