/- RX, part J: regions: in the order of the text, or in whatever order is drawn. -/
import Derived.Test.YtihmhnfjdkkbgaaRxI
noncomputable section
namespace Go.Proofs.Ytihmhnfjdkkbgaa.RX
set_option linter.unusedSimpArgs false
open Go Go.RowKit

/-! ### Ways -/
inductive Ex where
  | normal
  | exit (id : Nat)
  | ret
def Ex.to : Ex → Exit
  | .normal => .normal
  | .exit id => .exit id
  | .ret => .ret

inductive Tree where
  | leaf (e : Ex) (st : St)
  | br (b : Bool) (t e : Tree)
  | need (p : Prop) (t : Tree)
  | stuck

def Tree.wp : Tree → (Ex → St → Prop) → Prop
  | .leaf e st, K => K e st
  | .br b t e, K => (b = true → t.wp K) ∧ (b = false → e.wp K)
  | .need p t, K => p ∧ t.wp K
  | .stuck, _ => False

def Tree.bind : Tree → (Ex → St → Tree) → Tree
  | .leaf e st, f => f e st
  | .br b t e, f => .br b (t.bind f) (e.bind f)
  | .need p t, f => .need p (t.bind f)
  | .stuck, _ => .stuck

theorem Tree.wp_bind {f : Ex → St → Tree} {K : Ex → St → Prop} : ∀ {t : Tree}, (t.bind f).wp K ↔ t.wp fun e st => (f e st).wp K
  | .leaf e st => Iff.rfl
  | .br b t e => by simp only [Tree.bind, Tree.wp, Tree.wp_bind (t := t), Tree.wp_bind (t := e)]
  | .need p t => by simp only [Tree.bind, Tree.wp, Tree.wp_bind (t := t)]
  | .stuck => Iff.rfl
theorem Tree.wp_mono {K K' : Ex → St → Prop} (h : ∀ e st, K e st → K' e st) : ∀ {t : Tree}, t.wp K → t.wp K'
  | .leaf e st, x => h e st x
  | .br _ _ _, x => ⟨fun hb => Tree.wp_mono h (x.1 hb), fun hb => Tree.wp_mono h (x.2 hb)⟩
  | .need _ _, x => ⟨x.1, Tree.wp_mono h x.2⟩
  | .stuck, x => x

def needs : List Prop → Tree → Tree
  | [], t => t
  | p :: r, t => .need p (needs r t)
theorem needs_wp {K : Ex → St → Prop} : ∀ {l : List Prop} {t : Tree}, (needs l t).wp K → (∀ p ∈ l, p) ∧ t.wp K
  | [], t, h => ⟨by simp, h⟩
  | p :: r, t, h => by
    obtain ⟨h1, h2⟩ := needs_wp h.2
    refine ⟨fun q hq => ?_, h2⟩
    rcases List.mem_cons.1 hq with rfl | hq
    · exact h.1
    · exact h1 q hq

/-! ### Names for new blocks -/
def allocN (P : Program) (cts : List Ct) (op : Op) : Nat :=
  match cls P cts op with
  | .nw => 1
  | .app => 1
  | .call => match op with
    | .call { callee := .value (.func f), .. } => match findCt f cts with
      | some c => c.news
      | none => 0
    | _ => 0
  | _ => 0
def totalN (P : Program) (cts : List Ct) : List Oper → Nat
  | [] => 0
  | o :: r => allocN P cts o.op + totalN P cts r
def offN (P : Program) (cts : List Ct) : List Oper → Nat → Nat
  | [], _ => 0
  | _ :: _, 0 => 0
  | o :: r, i + 1 => allocN P cts o.op + offN P cts r i
theorem offN_zero {P : Program} {cts : List Ct} (l : List Oper) : offN P cts l 0 = 0 := by cases l <;> rfl
theorem offN_step {P : Program} {cts : List Ct} : ∀ {l : List Oper} {i : Nat} {o : Oper}, l[i]? = some o → offN P cts l (i + 1) = offN P cts l i + allocN P cts o.op
  | [], i, o, h => by simp at h
  | x :: l, 0, o, h => by simp at h; subst h; cases l <;> simp [offN]
  | x :: l, i + 1, o, h => by
    simp at h
    have := offN_step (P := P) (cts := cts) (l := l) (i := i) h
    simp only [offN] at this ⊢
    omega
theorem offN_mono {P : Program} {cts : List Ct} : ∀ {l : List Oper} {i j : Nat}, i ≤ j → offN P cts l i ≤ offN P cts l j
  | [], _, _, _ => Nat.le_refl _
  | _ :: _, 0, _, _ => by simp [offN]
  | x :: l, i + 1, 0, h => by omega
  | x :: l, i + 1, j + 1, h => by simp only [offN]; have := offN_mono (P := P) (cts := cts) (l := l) (i := i) (j := j) (by omega); omega
theorem offN_ne {P : Program} {cts : List Ct} {l : List Oper} {i j : Nat} {oi oj : Oper} (hi : l[i]? = some oi) (hj : l[j]? = some oj) (ci : cls P cts oi.op = .nw) (cj : cls P cts oj.op = .nw) (hne : i ≠ j) : offN P cts l i ≠ offN P cts l j := by
  have ai : allocN P cts oi.op = 1 := by simp [allocN, ci]
  have aj : allocN P cts oj.op = 1 := by simp [allocN, cj]
  have si := offN_step (P := P) (cts := cts) hi
  have sj := offN_step (P := P) (cts := cts) hj
  rcases Nat.lt_or_gt_of_ne hne with h | h
  · have := offN_mono (P := P) (cts := cts) (l := l) (i := i + 1) (j := j) h; omega
  · have := offN_mono (P := P) (cts := cts) (l := l) (i := j + 1) (j := i) h; omega

/-- What an operation's value is taken for: a bool on which others wait is taken for what 'om' says. -/
def settle (om : List (Nat × Bool)) (i : Nat) (need : List Prop) (tv : TV) : List Prop × TV :=
  match om.lookup i, tv with
  | some c, .sv (.one (.bool b)) => ((b = c) :: need, .sv (.one (.blit c)))
  | _, _ => (need, tv)
theorem settle_sound {om : List (Nat × Bool)} {i : Nat} {need : List Prop} {tv : TV} (h : ∀ p ∈ (settle om i need tv).1, p) {β : Env} {v : Value} :
    (∀ p ∈ need, p) ∧ (tv.is β v → (settle om i need tv).2.is β v) := by
  unfold settle at h ⊢
  split
  · rename_i c b hl
    rw [hl] at h
    have hb : b = c := h _ (by simp)
    exact ⟨fun p hp => h p (by simp [hp]), fun r => by have e : v = .bool b := r; rw [e, hb]; rfl⟩
  · split at h
    · exact ⟨fun p hp => h p (by simp [hp]), fun r => r⟩
    · exact ⟨h, fun r => r⟩

/-- Memory ahead of a region, and the blocks to which some temporaries lead all through it. -/
structure M0 where
  mem : List Slot
  fx : List (Nat × Nat)

section
variable {P : Program} {cts : List Ct} {m0 : M0} {ops : Array Oper} {om : List (Nat × Bool)} {base : Nat}

def doOp (P : Program) (cts : List Ct) (m0 : M0) (ops : Array Oper) (om : List (Nat × Bool)) (i nm : Nat) (o : Oper) (st : St) : Option (List Prop × St) :=
  match wantedC ops st.tmps o with
  | none => none
  | some false => some ([], ⟨putT st.tmps o.dst (.tup []), st.mem⟩)
  | some true => match step P cts (opv st.tmps) nm st.mem o.op with
    | some (need, tv, mem') => if okNames P cts m0.mem (opv st.tmps) nm o.op tv mem' = true then some ((settle om i need tv).1, ⟨putT st.tmps o.dst (settle om i need tv).2, mem'⟩) else none
    | none => none

def astep (P : Program) (cts : List Ct) (m0 : M0) (ops : Array Oper) (om : List (Nat × Bool)) (base i : Nat) (st : St) : Option (List Prop × St) :=
  match ops[i]? with
  | none => some ([], st)
  | some o => doOp P cts m0 ops om i (base + offN P cts ops.toList i) o st

theorem doOp_sound (hcts : ∀ c ∈ cts, CtOk P c) {S : Nat → Option Nat} {B : Base} {w0 : World} {i nm : Nat} {o : Oper} {st st' : St} {need : List Prop} (h : doOp P cts m0 ops om i nm o st = some (need, st')) (hn : ∀ p ∈ need, p)
    {β : Env} {a : Act} {w : World} (r : Rel S B w0 β st a w) {Q : Exit → Act → World → Prop} {next : Act → World → Prop} (hnext : ∀ β' a' w', Rel S B w0 β' st' a' w' → next a' w') :
    if Region.wanted o (yielded ops a.tmps) then o.wp P a w next Q else next (a.put o.dst undef) w := by
  unfold doOp at h
  split at h
  · cases h
  · rename_i hw
    cases h
    rw [if_neg (by rw [wantedC_sound hw r.tm]; simp)]
    refine hnext β _ _ ⟨putT_is r.tm _ ⟨[], rfl, trivial⟩, ?_, r.mm⟩
    have := r.df
    cases o.dst <;> simpa [Act.put] using this
  · rename_i hw
    rw [if_pos (wantedC_sound hw r.tm)]
    split at h
    · rename_i nd tv mem' hs
      split at h <;> try (cases h; done)
      cases h
      refine wp_of_does (step_sound hcts r.mm (opv_is r.tm) hs (settle_sound (v := undef) (β := β) hn).1) ?_
      rintro v w' ⟨β', hext, htv, hm⟩
      refine hnext β' _ _ ⟨putT_is (TmIs.ext hext r.tm) _ ((settle_sound hn).2 htv), ?_, hm⟩
      have := r.df
      cases o.dst <;> simpa [Act.put] using this
    · cases h

theorem astep_sound (hcts : ∀ c ∈ cts, CtOk P c) {S : Nat → Option Nat} {B : Base} {w0 : World} {i : Nat} {st st' : St} {need : List Prop} (h : astep P cts m0 ops om base i st = some (need, st')) (hn : ∀ p ∈ need, p)
    {β : Env} {a : Act} {w : World} (r : Rel S B w0 β st a w) {Q : Exit → Act → World → Prop} {next : Act → World → Prop} (hnext : ∀ β' a' w', Rel S B w0 β' st' a' w' → next a' w') : wpOp P ops Q i next a w := by
  unfold astep at h
  unfold wpOp
  cases ho : ops[i]? with
  | none => rw [ho] at h; cases h; exact hnext β a w r
  | some o =>
    rw [ho] at h
    have := doOp_sound (Q := Q) hcts h hn r hnext
    dsimp only
    split
    · rename_i hw; rw [if_pos hw] at this; exact .inl this
    · rename_i hw; rw [if_neg hw] at this; exact this

/-- What stands in the temporaries leads to blocks that are there. -/
def Shut (m0 : M0) (st : St) : Prop := Mono m0.mem st.mem ∧ (∀ i tv, st.tmps.get i = some tv → tv.namesB st.mem = true) ∧ ∀ t n, m0.fx.lookup t = some n → ∀ tv, st.tmps.get t = some tv → leadB n tv = true
/-- The temporary of whose block an operation's value is a part. -/
def partOf : Op → Option Nat
  | .fieldAddr _ (.tmp t) _ => some t
  | .indexAddr _ (.tmp t) _ => some t
  | _ => none
/-- The operations of the region keep what is told of temporaries. -/
def Fixed (m0 : M0) (o : Oper) : Prop := ∀ d n, o.dst = some d → m0.fx.lookup d = some n → ∃ t, partOf o.op = some t ∧ m0.fx.lookup t = some n
theorem partOf_cls {P : Program} {cts : List Ct} {op : Op} {t : Nat} (h : partOf op = some t) : cls P cts op = .comp := by
  unfold partOf at h
  split at h <;> first | rfl | cases h
theorem indexAddrOp_leads {P : Program} {s : TypeId} {a b r : TV} {n : Nat} (hla : leadB n a = true) (hr : indexAddrOp P s a b = some r) : leadB n r = true := by
  unfold indexAddrOp at hr
  split at hr <;> try (cases hr; done)
  split at hr <;> try (cases hr; done)
  all_goals (split at hr <;> try (cases hr; done))
  all_goals (split at hr <;> cases hr)
  · exact hla
  · rfl
  · exact hla
  · rfl
theorem partOf_leads {P : Program} {cts : List Ct} {tmps : Tm} {nm : Nat} {mem mem' : List Slot} {op : Op} {t n : Nat} (hp : partOf op = some t) (hl : ∀ tv, tmps.get t = some tv → leadB n tv = true) {need : List Prop} {tv : TV} (h : step P cts (opv tmps) nm mem op = some (need, tv, mem')) : leadB n tv = true := by
  unfold step at h
  rw [partOf_cls hp] at h
  dsimp only at h
  unfold partOf at hp
  split at hp <;> cases hp
  · rename_i s f
    have hc : calleeC cts (opv tmps) (.fieldAddr s (.tmp t) f) = none := rfl
    simp only [valC, hc, pureOp, RX.opv] at h
    cases ha : tmps.get t with
    | none => rw [ha] at h; cases h
    | some a =>
      rw [ha] at h
      have hla := hl a ha
      dsimp only at h
      cases hq : fieldAddrOp P s a f with
      | none => rw [hq] at h; cases h
      | some r =>
        rw [hq] at h
        cases h
        unfold fieldAddrOp at hq
        split at hq <;> try (cases hq; done)
        all_goals (split at hq <;> try (cases hq; done))
        all_goals (split at hq <;> try (cases hq; done))
        all_goals (split at hq <;> cases hq)
        · exact hla
        · rfl
  · rename_i s ix
    have hc : calleeC cts (opv tmps) (.indexAddr s (.tmp t) ix) = none := rfl
    simp only [valC, hc, pureOp, RX.opv] at h
    cases ha : tmps.get t with
    | none => rw [ha] at h; cases h
    | some a =>
      rw [ha] at h
      have hla := hl a ha
      split at h <;> try (cases h; done)
      rename_i need' tv' hq
      cases h
      split at hq
      · rename_i hq1 _
        cases hq1
        simp [leadB] at hla
      · rename_i hq1 _
        cases hq1
        split at hq
        · obtain ⟨r, hr, rfl⟩ := map_pair hq
          exact indexAddrOp_leads hla hr
        · unfold indexArr at hq
          split at hq <;> try (cases hq; done)
          split at hq <;> try (cases hq; done)
          split at hq <;> cases hq
          exact hla
      · rename_i hq1 _
        cases hq1
        split at hq
        · obtain ⟨r, hr, rfl⟩ := map_pair hq
          exact indexAddrOp_leads hla hr
        · unfold indexCo at hq
          split at hq <;> try (cases hq; done)
          split at hq <;> try (cases hq; done)
          split at hq <;> cases hq
          rfl
      · rename_i hq1 _
        cases hq1
        split at hq
        · obtain ⟨r, hr, rfl⟩ := map_pair hq
          exact indexAddrOp_leads hla hr
        · unfold indexSlc at hq
          split at hq <;> try (cases hq; done)
          split at hq <;> try (cases hq; done)
          split at hq <;> cases hq
          exact hla
      · rename_i a' b _ _ _ _ hq1 _
        cases hq1
        obtain ⟨r, hr, rfl⟩ := map_pair hq
        exact indexAddrOp_leads hla hr
      · cases hq
theorem fix_put {m0 : M0} {tmps : Tm} (h : ∀ t n, m0.fx.lookup t = some n → ∀ tv, tmps.get t = some tv → leadB n tv = true) {o : Oper} {tv : TV} (hf : ∀ d n, o.dst = some d → m0.fx.lookup d = some n → leadB n tv = true) : ∀ t n, m0.fx.lookup t = some n → ∀ tv', (putT tmps o.dst tv).get t = some tv' → leadB n tv' = true := by
  intro t n hn tv' hg
  cases hd : o.dst with
  | none => rw [hd] at hg; exact h t n hn tv' hg
  | some d =>
    rw [hd] at hg
    simp only [putT, Tm.get_set] at hg
    split at hg
    · rename_i e
      subst e
      obtain ⟨x, _, rfl⟩ := Option.map_eq_some_iff.1 hg
      exact hf d n hd hn
    · exact h t n hn tv' hg
theorem ofVal_names (v : Value) (m : List Slot) : (ofVal v).namesB m = true := by
  have hc : ∀ v : Value, (ofCell v).namesB m = true := fun v => by unfold ofCell; repeat' split <;> rfl
  unfold ofVal
  repeat' split
  all_goals first
    | rfl
    | exact hc _
    | (simp only [TV.namesB, SV.namesB, List.all_map]; exact List.all_eq_true.2 fun x _ => hc x)
    | (simp only [TV.namesB, SV.namesB, RC.namesB]; done)
theorem Shut.opv {m0 : M0} {st : St} (h : Shut m0 st) : ∀ x tv, opv st.tmps x = some tv → tv.namesB st.mem = true := by
  intro x tv hx
  cases x with
  | tmp t =>
    simp only [RX.opv] at hx
    exact h.2.1 t tv hx
  | _ =>
    simp only [RX.opv] at hx
    repeat' split at hx
    all_goals first
      | (cases hx; done)
      | (cases hx; rfl)
      | (cases hx; exact ofVal_names _ _)
theorem settle_names {i : Nat} {need : List Prop} {tv : TV} {m : List Slot} (h : tv.namesB m = true) : (settle om i need tv).2.namesB m = true := by
  unfold settle
  split
  · rfl
  · exact h
theorem putT_shut {tmps : Tm} {m : List Slot} (h : ∀ i tv, tmps.get i = some tv → tv.namesB m = true) (dst : Option Tmp) {tv : TV} (hv : tv.namesB m = true) : ∀ i u, (putT tmps dst tv).get i = some u → u.namesB m = true := by
  intro i u hu
  cases dst with
  | none => exact h i u hu
  | some d =>
    simp only [putT, Tm.get_set] at hu
    split at hu
    · obtain ⟨x, _, rfl⟩ := Option.map_eq_some_iff.1 hu
      exact hv
    · exact h i u hu
theorem Shut.leads {m0 : M0} {st : St} (h : Shut m0 st) : Leads m0.fx (RX.opv st.tmps) := fun t n hn tv hg => h.2.2 t n hn tv hg
theorem settle_leads {i : Nat} {need : List Prop} {tv : TV} {n : Nat} (h : leadB n tv = true) : leadB n (settle om i need tv).2 = true := by
  unfold settle
  split
  · rfl
  · exact h
theorem doOp_shut {i nm : Nat} {o : Oper} {st st' : St} {need : List Prop} (hfo : Fixed m0 o) (hs : Shut m0 st) (h : doOp P cts m0 ops om i nm o st = some (need, st')) : Shut m0 st' := by
  unfold doOp at h
  split at h
  · cases h
  · cases h
    exact ⟨hs.1, putT_shut hs.2.1 _ rfl, fix_put hs.2.2 fun _ _ _ _ => rfl⟩
  · split at h
    · rename_i nd tv mem' hst
      split at h
      · rename_i hok
        cases h
        have hmono := step_mono hst
        exact ⟨hs.1.trans hmono, putT_shut (fun i u hu => TV.namesB_mono hmono (hs.2.1 i u hu)) _ (settle_names (okNames_is hs.1 (fun x _ => hs.opv x) hst hok)), fix_put hs.2.2 fun d n hd hn => settle_leads (let ⟨t, ht, hl⟩ := hfo d n hd hn; partOf_leads ht (fun tv hg => hs.2.2 t n hl tv hg) hst)⟩
      · cases h
    · cases h
theorem astep_shut {i : Nat} {st st' : St} {need : List Prop} (hfx : ∀ o ∈ ops, Fixed m0 o) (hs : Shut m0 st) (h : astep P cts m0 ops om base i st = some (need, st')) : Shut m0 st' := by
  unfold astep at h
  split at h
  · cases h; exact hs
  · rename_i o ho
    exact doOp_shut (hfx o (Array.mem_of_getElem? ho)) hs h

/-- Two that may change places look at one memory's names alike. -/
theorem okNames_mem {P : Program} {cts : List Ct} {l0 : List Slot} {ρ : Operand → Option TV} {nm : Nat} {op : Op} {tv : TV} {m m' : List Slot} (h : cls P cts op = .call → m = m') : okNames P cts l0 ρ nm op tv m = okNames P cts l0 ρ nm op tv m' := by
  unfold okNames
  generalize cls P cts op = c at *
  cases c <;> first | rfl | (rw [h rfl])

theorem doOp_comm {i j ni nj : Nat} {oi oj : Oper} {st : St} (hshut : Shut m0 st) (hap : oi.apart ops oj = true) (hmem : memOk P cts m0.fx oi.op oj.op = true) (hnm : cls P cts oi.op = .nw → cls P cts oj.op = .nw → ni ≠ nj) {s1 s2 : St} {n1 n2 : List Prop}
    (h1 : doOp P cts m0 ops om i ni oi st = some (n1, s1)) (h2 : doOp P cts m0 ops om j nj oj s1 = some (n2, s2)) :
    ∃ t, doOp P cts m0 ops om j nj oj st = some (n2, t) ∧ doOp P cts m0 ops om i ni oi t = some (n1, s2) := by
  obtain ⟨a1, a2, a3⟩ := Oper.apart_spec hap
  have opj : ∀ tv, ∀ x ∈ oj.op.operands, opv (putT st.tmps oi.dst tv) x = opv st.tmps x := fun tv x hx =>
    opv_put fun d hd => looks_operand (a1 d hd) x hx
  have opi : ∀ tmps tv, ∀ x ∈ oi.op.operands, opv (putT tmps oj.dst tv) x = opv tmps x := fun tmps tv x hx =>
    opv_put fun d hd => looks_operand (a3 d hd) x hx
  unfold doOp at h1 h2 ⊢
  split at h1
  · cases h1
  · rename_i hwi
    cases h1
    dsimp only at h2
    rw [wantedC_put a1] at h2
    split at h2
    · cases h2
    · rename_i hwj
      cases h2
      refine ⟨_, rfl, ?_⟩
      dsimp only
      rw [wantedC_put a3, hwi]
      dsimp only
      rw [putT_comm _ _ _ a2]
    · rename_i hwj
      rw [step_congr (opj _)] at h2
      split at h2
      · rename_i nd tv mem' hs
        rw [okNames_congr (opj _)] at h2
        split at h2 <;> try (cases h2; done)
        rename_i hokj
        cases h2
        refine ⟨_, by rw [if_pos hokj], ?_⟩
        dsimp only
        rw [wantedC_put a3, hwi]
        dsimp only
        rw [putT_comm _ _ _ a2]
      · cases h2
  · rename_i hwi
    split at h1
    · rename_i ndi tvi memi hsi
      split at h1 <;> try (cases h1; done)
      rename_i hoki
      cases h1
      dsimp only at h2
      rw [wantedC_put a1] at h2
      split at h2
      · cases h2
      · rename_i hwj
        cases h2
        refine ⟨_, rfl, ?_⟩
        dsimp only
        rw [wantedC_put a3, hwi]
        dsimp only
        rw [step_congr (opi _ _), hsi]
        dsimp only
        rw [okNames_congr (opi _ _), if_pos hoki, putT_comm _ _ _ a2]
      · rename_i hwj
        rw [step_congr (opj _)] at h2
        split at h2
        · rename_i ndj tvj memj hsj
          rw [okNames_congr (opj _)] at h2
          split at h2 <;> try (cases h2; done)
          rename_i hokj
          cases h2
          obtain ⟨m', hj, hi⟩ := mem_swap hshut.leads hshut.leads hmem hnm (fun z _ => hshut.opv z) hsi hsj
          have ej : okNames P cts m0.mem (opv st.tmps) nj oj.op tvj m' = true := by
            rw [okNames_mem (m' := memj)]
            · exact hokj
            · intro hc
              have hci : cls P cts oi.op = .comp := by
                unfold memOk at hmem
                rw [hc] at hmem
                generalize cls P cts oi.op = c at hmem
                cases c <;> first | rfl | (cases hmem)
              have h0 : memi = st.mem := by
                unfold step at hsi
                rw [hci] at hsi
                dsimp only at hsi
                split at hsi <;> cases hsi
                rfl
              rw [h0, hj] at hsj
              cases hsj; rfl
          have ei : okNames P cts m0.mem (opv st.tmps) ni oi.op tvi memj = true := by
            rw [okNames_mem (m' := memi)]
            · exact hoki
            · intro hc
              have hcj : cls P cts oj.op = .comp := by
                unfold memOk at hmem
                rw [hc] at hmem
                generalize cls P cts oj.op = c at hmem
                cases c <;> first | rfl | (cases hmem)
              unfold step at hsj
              rw [hcj] at hsj
              dsimp only at hsj
              split at hsj <;> cases hsj
              rfl
          refine ⟨_, by rw [hj]; dsimp only; rw [if_pos ej], ?_⟩
          dsimp only
          rw [wantedC_put a3, hwi]
          dsimp only
          rw [step_congr (opi _ _), hi]
          dsimp only
          rw [okNames_congr (opi _ _), if_pos ei, putT_comm _ _ _ a2]
        · cases h2
    · cases h1

/-- Whatever order is drawn from here on, it ends in 'K'. -/
def wpA (P : Program) (cts : List Ct) (m0 : M0) (ops : Array Oper) (om : List (Nat × Bool)) (base : Nat) (K : St → Prop) : Nat → Array Bool → St → Prop
  | 0, listed, st => Region.ready .any ops listed = [] ∧ K st
  | fuel + 1, listed, st => (Region.ready .any ops listed = [] → K st) ∧
    ∀ i ∈ Region.ready .any ops listed, ∃ need st', astep P cts m0 ops om base i st = some (need, st') ∧ (∀ p ∈ need, p) ∧ wpA P cts m0 ops om base K fuel (listed.setIfInBounds i true) st'

theorem wpAny_of_A (hcts : ∀ c ∈ cts, CtOk P c) {S : Nat → Option Nat} {B : Base} {w0 : World} {K : St → Prop} {Q : Exit → Act → World → Prop} (hK : ∀ st, K st → ∀ β a w, Rel S B w0 β st a w → Q .normal a w) :
    ∀ (fuel : Nat) (listed : Array Bool) (st : St), wpA P cts m0 ops om base K fuel listed st → ∀ β a w, Rel S B w0 β st a w → wpAny P .any ops Q fuel listed a w
  | 0, _, st, h, β, a, w, r => ⟨h.1, hK st h.2 β a w r⟩
  | fuel + 1, _, st, h, β, a, w, r => ⟨fun h0 => hK st (h.1 h0) β a w r, fun i hi => by
      obtain ⟨need, st', h1, h2, h3⟩ := h.2 i hi
      exact astep_sound hcts h1 h2 r fun β' a' w' r' => wpAny_of_A hcts hK fuel _ st' h3 β' a' w' r'⟩

/-- What waits for operation i, or for what waits for it. -/
inductive Desc (ops : Array Oper) (i : Nat) : Nat → Prop
  | edge {j : Nat} {oj : Oper} {e : Edge} : ops[j]? = some oj → e ∈ oj.after → Region.binds .any e = true → e.on = i → Desc ops i j
  | more {j : Nat} {oj : Oper} {e : Edge} : ops[j]? = some oj → e ∈ oj.after → Region.binds .any e = true → Desc ops i e.on → Desc ops i j
def pairOk (P : Program) (cts : List Ct) (fx : List (Nat × Nat)) (ops : Array Oper) (oi oj : Oper) : Bool := oi.apart ops oj && memOk P cts fx oi.op oj.op
/-- Whatever is drawn has what it waits for. -/
def Down (ops : Array Oper) (listed : Array Bool) : Prop := ∀ (k : Nat) (ok : Oper), ops[k]? = some ok → listed.getD k false = true → ∀ e ∈ ok.after, Region.binds .any e = true → listed.getD e.on false = true
theorem getD_set_mono {listed : Array Bool} {i k : Nat} (h : listed.getD k false = true) : (listed.setIfInBounds i true).getD k false = true := by
  rw [Array.getD_eq_getD_getElem?] at h ⊢
  by_cases e : i = k
  · subst e
    rcases Nat.lt_or_ge i listed.size with h' | h'
    · simp [h']
    · simp [Array.getElem?_eq_none h'] at h
  · rw [Array.getElem?_setIfInBounds_ne e]; exact h
theorem Down.set {listed : Array Bool} (hd : Down ops listed) {i : Nat} (hr : i ∈ Region.ready .any ops listed) : Down ops (listed.setIfInBounds i true) := by
  obtain ⟨_, oi, hoi, hall⟩ := mem_ready.1 hr
  intro k ok hk hl e he hb
  refine getD_set_mono ?_
  by_cases ek : i = k
  · subst ek
    rw [hoi] at hk; cases hk
    exact hall e he hb
  · rw [Array.getD_eq_getD_getElem?, Array.getElem?_setIfInBounds_ne ek, ← Array.getD_eq_getD_getElem?] at hl
    exact hd k ok hk hl e he hb
theorem Desc.unlisted {listed : Array Bool} (hd : Down ops listed) {i : Nat} (hi : listed.getD i true = false) {j : Nat} (h : Desc ops i j) : (∀ oj, ops[j]? = some oj → ∀ e ∈ oj.after, Region.binds .any e = true → listed.getD e.on false = true) → False := by
  induction h with
  | edge hj he hb hon =>
    intro hall
    have h1 := hall _ hj _ he hb
    rw [hon] at h1
    rcases Nat.lt_or_ge i listed.size with h' | h'
    · simp [h'] at hi h1; rw [hi] at h1; cases h1
    · simp [Array.getElem?_eq_none h'] at h1
  | more hj he hb _ ih =>
    intro hall
    have h1 := hall _ hj _ he hb
    exact ih fun ok hk => hd _ ok hk h1

theorem wpA_first {K : St → Prop} (hfx : ∀ o ∈ ops, Fixed m0 o) {i : Nat} {oi : Oper} (hi : ops[i]? = some oi) : ∀ (fuel : Nat) (listed : Array Bool) (st s1 : St) (n1 : List Prop),
    (∀ j oj, ops[j]? = some oj → j ≠ i → listed.getD j true = false → Desc ops i j ∨ pairOk P cts m0.fx ops oi oj = true) → Down ops listed → Shut m0 st →
    i ∈ Region.ready .any ops listed → astep P cts m0 ops om base i st = some (n1, s1) → (∀ p ∈ n1, p) → wpA P cts m0 ops om base K fuel (listed.setIfInBounds i true) s1 → wpA P cts m0 ops om base K (fuel + 1) listed st := by
  intro fuel
  induction fuel with
  | zero =>
    intro listed st s1 n1 _ _ _ hr hs hn H
    refine ⟨fun h => (by rw [h] at hr; cases hr), fun j hj => ?_⟩
    by_cases hji : j = i
    · subst hji; exact ⟨n1, s1, hs, hn, H⟩
    · have := ready_mono hj hji
      rw [H.1] at this
      cases this
  | succ fuel ih =>
    intro listed st s1 n1 hfree hdown hshut hr hs hn H
    refine ⟨fun h => (by rw [h] at hr; cases hr), fun j hj => ?_⟩
    by_cases hji : j = i
    · subst hji; exact ⟨n1, s1, hs, hn, H⟩
    · obtain ⟨n2, s2, h2, hn2, H2⟩ := H.2 j (ready_mono hj hji)
      obtain ⟨hjun, oj, hoj, hall⟩ := mem_ready.1 hj
      have hpair : pairOk P cts m0.fx ops oi oj = true := by
        rcases hfree j oj hoj hji hjun with hd | hp
        · refine (hd.unlisted hdown (mem_ready.1 hr).1 fun ok hk e he hb => ?_).elim
          rw [hoj] at hk; cases hk
          exact hall e he hb
        · exact hp
      simp only [pairOk, Bool.and_eq_true] at hpair
      have hcomm : ∃ t, astep P cts m0 ops om base j st = some (n2, t) ∧ astep P cts m0 ops om base i t = some (n1, s2) := by
        unfold astep at hs h2 ⊢
        rw [hi] at hs ⊢
        rw [hoj] at h2 ⊢
        dsimp only at hs h2 ⊢
        refine doOp_comm hshut hpair.1 hpair.2 (fun c1 c2 => ?_) hs h2
        have := offN_ne (P := P) (cts := cts) (l := ops.toList) (i := i) (j := j) (by simpa using hi) (by simpa using hoj) c1 c2 (Ne.symm hji)
        omega
      obtain ⟨t, ht1, ht2⟩ := hcomm
      refine ⟨n2, t, ht1, hn2, ih (listed.setIfInBounds j true) t s2 n1 (fun k ok hk hki hun => ?_) (hdown.set hj) (astep_shut hfx hshut ht1) (ready_mono hr (Ne.symm hji)) ht2 hn ?_⟩
      · refine hfree k ok hk hki ?_
        by_cases hjk : j = k
        · subst hjk; exact hjun
        · rw [getD_set_ne true hjk] at hun; exact hun
      · rw [Array.setIfInBounds_comm _ _ hji]
        exact H2

/-! ### The order of the text -/
def laterOk (P : Program) (cts : List Ct) (fx : List (Nat × Nat)) (ops : Array Oper) (oi : Oper) : List Oper → Nat → List Nat → Bool
  | [], _, _ => true
  | oj :: r, j, D => match oj.after.any fun e => Region.binds .any e && D.contains e.on with
    | true => laterOk P cts fx ops oi r (j + 1) (j :: D)
    | false => pairOk P cts fx ops oi oj && laterOk P cts fx ops oi r (j + 1) D
def pairsOk (P : Program) (cts : List Ct) (fx : List (Nat × Nat)) (ops : Array Oper) : List Oper → Nat → Bool
  | [], _ => true
  | o :: r, i => (o.after.all fun e => !Region.binds .any e || decide (e.on < i)) && laterOk P cts fx ops o r (i + 1) [i] && pairsOk P cts fx ops r (i + 1)
theorem laterOk_mem {oi : Oper} {i : Nat} : ∀ {l : List Oper} {j : Nat} {D : List Nat}, laterOk P cts m0.fx ops oi l j D = true → (∀ k, l[k]? = ops[j + k]?) → (∀ d ∈ D, d = i ∨ Desc ops i d) → ∀ k oj, l[k]? = some oj → Desc ops i (j + k) ∨ pairOk P cts m0.fx ops oi oj = true
  | [], _, _, _, _, _, k, oj, hk => by simp at hk
  | o :: l, j, D, h, hl, hD, k, oj, hk => by
    have h0 : ops[j]? = some o := by simpa using (hl 0).symm
    have hl' : ∀ k, l[k]? = ops[j + 1 + k]? := fun k => by have := hl (k + 1); simpa [Nat.add_assoc, Nat.add_comm 1 k] using this
    unfold laterOk at h
    split at h
    · rename_i ha
      obtain ⟨e, he1, he2⟩ := Array.any_eq_true'.1 ha
      simp only [Bool.and_eq_true] at he2
      have hdesc : Desc ops i j := by
        rcases hD e.on (by simpa using he2.2) with hd | hd
        · exact .edge h0 he1 he2.1 hd
        · exact .more h0 he1 he2.1 hd
      cases k with
      | zero => exact .inl hdesc
      | succ k =>
        rw [show j + (k + 1) = j + 1 + k by omega]
        refine laterOk_mem h hl' (fun d hd => ?_) k oj (by simpa using hk)
        rcases List.mem_cons.1 hd with rfl | hd
        · exact .inr hdesc
        · exact hD d hd
    · simp only [Bool.and_eq_true] at h
      cases k with
      | zero =>
        simp at hk; subst hk
        exact .inr h.1
      | succ k =>
        rw [show j + (k + 1) = j + 1 + k by omega]
        exact laterOk_mem h.2 hl' hD k oj (by simpa using hk)

inductive DetR where
  | ok (need : List Prop) (st : St)
  | ask (j : Nat) (b : Bool)
  | fail

def detOps (P : Program) (cts : List Ct) (m0 : M0) (ops : Array Oper) (om : List (Nat × Bool)) (base : Nat) : List Oper → Nat → Nat → St → DetR
  | [], _, _, st => .ok [] st
  | o :: r, k, off, st => match doOp P cts m0 ops om k (base + off) o st with
    | some (need, st') => match detOps P cts m0 ops om base r (k + 1) (off + allocN P cts o.op) st' with
      | .ok need' st'' => .ok (need ++ need') st''
      | x => x
    | none => match o.guard with
      | some (j, _) => match guardV ops st.tmps j with
        | .sym _ b => .ask j b
        | _ => .fail
      | none => .fail

theorem wpA_lex {K : St → Prop} (hfx : ∀ o ∈ ops, Fixed m0 o) : ∀ (l : List Oper) (k : Nat) (listed : Array Bool) (st stE : St) (need : List Prop), (∀ j, l[j]? = ops[k + j]?) → listed.size = ops.size → (∀ j, j < ops.size → listed.getD j true = decide (j < k)) → Down ops listed → Shut m0 st →
    pairsOk P cts m0.fx ops l k = true → detOps P cts m0 ops om base l k (offN P cts ops.toList k) st = .ok need stE → (∀ p ∈ need, p) → K stE → wpA P cts m0 ops om base K l.length listed st
  | [], k, listed, st, stE, need, hl, hsz, hli, _, _, _, h, _, hK => by
    simp only [detOps] at h
    cases h
    refine ⟨?_, hK⟩
    cases hr : Region.ready .any ops listed with
    | nil => rfl
    | cons x xs =>
      have hx : x ∈ Region.ready .any ops listed := by rw [hr]; simp
      obtain ⟨h0, o, ho, _⟩ := mem_ready.1 hx
      have hlt : x < ops.size := (Array.getElem?_eq_some_iff.1 ho).1
      rw [hli x hlt] at h0
      have hk : k ≤ x := by simpa using h0
      have := hl (x - k)
      rw [show k + (x - k) = x by omega, ho] at this
      simp at this
  | o :: l, k, listed, st, stE, need, hl, hsz, hli, hdown, hshut, hp, h, hn, hK => by
    have h0 : ops[k]? = some o := by simpa using (hl 0).symm
    have hk : k < ops.size := (Array.getElem?_eq_some_iff.1 h0).1
    simp only [pairsOk, Bool.and_eq_true] at hp
    obtain ⟨⟨hback, hlater⟩, hrest⟩ := hp
    simp only [detOps] at h
    split at h
    · rename_i nd st' hd
      split at h
      · rename_i nd' st'' hr
        cases h
        have hstep : astep P cts m0 ops om base k st = some (nd, st') := by unfold astep; rw [h0]; exact hd
        have hready : k ∈ Region.ready .any ops listed := by
          rw [mem_ready]
          refine ⟨by rw [hli k hk]; simp, o, h0, fun e he hb => ?_⟩
          have := (Array.all_eq_true_iff_forall_mem.1 hback) e he
          simp only [hb, Bool.not_true, Bool.false_or, decide_eq_true_eq] at this
          have h1 := hli e.on (by omega)
          have h2 : e.on < listed.size := by omega
          simp [h2] at h1 ⊢
          rw [h1]; exact decide_eq_true this
        refine wpA_first hfx h0 l.length listed st st' nd (fun j oj hj hne hun => ?_) hdown hshut hready hstep (fun p hp => hn p (by simp [hp])) ?_
        · have hlt : j < ops.size := (Array.getElem?_eq_some_iff.1 hj).1
          rw [hli j hlt] at hun
          have hkj : k < j := by simp at hun; omega
          have := laterOk_mem (i := k) hlater (fun m => by have := hl (m + 1); simpa [Nat.add_assoc, Nat.add_comm 1 m] using this) (fun d hd => .inl (by simpa using hd)) (j - (k + 1)) oj (by
            have := hl (j - k)
            rw [show k + (j - k) = j by omega, hj, show j - k = (j - (k + 1)) + 1 by omega, List.getElem?_cons_succ] at this
            exact this)
          rwa [show k + 1 + (j - (k + 1)) = j by omega] at this
        · refine wpA_lex hfx l (k + 1) _ st' stE nd' (fun j => by have := hl (j + 1); simpa [Nat.add_assoc, Nat.add_comm 1 j] using this) (by simp [hsz]) (fun j hj => ?_) ?_ (astep_shut hfx hshut hstep) hrest ?_ (fun p hp => hn p (by simp [hp])) hK
          · by_cases e : k = j
            · subst e
              simp [hsz, hj]
            · rw [getD_set_ne true e, hli j hj]
              have : (j < k) ↔ (j < k + 1) := by omega
              simp [this]
          · exact hdown.set hready
          · rw [offN_step (by simpa using h0)]; exact hr
      · rename_i x hx
        exact absurd h (hx _ _)
    · split at h
      · split at h <;> cases h
      · cases h

/-! ### A region's ways -/
def drawT (P : Program) (cts : List Ct) (m0 : M0) (ops : Array Oper) (base : Nat) : Nat → List (Nat × Bool) → St → Tree
  | fuel, om, st => match detOps P cts m0 ops om base ops.toList 0 0 st with
    | .ok need st' => needs need (.leaf .normal st')
    | .ask j b => match fuel with
      | 0 => .stuck
      | f + 1 => .br b (drawT P cts m0 ops base f ((j, true) :: om) st) (drawT P cts m0 ops base f ((j, false) :: om) st)
    | .fail => .stuck

/-- 'pre k': what becomes of the state ahead of operation k. -/
def seqT (P : Program) (cts : List Ct) (ops : Array Oper) (pre : Nat → St → St) (base : Nat) : List Oper → Nat → Nat → St → Tree
  | [], _, _, st => .leaf .normal st
  | o :: r, k, off, st0 =>
    let st := pre k st0
    match o.guard with
    | none => match step P cts (opv st.tmps) (base + off) st.mem o.op with
      | some (need, tv, mem') => needs need (seqT P cts ops pre base r (k + 1) (off + allocN P cts o.op) ⟨putT st.tmps o.dst tv, mem'⟩)
      | none => .stuck
    | some (j, want) => match guardV ops st.tmps j with
      | .known y => if y = some want then
          (match step P cts (opv st.tmps) (base + off) st.mem o.op with
          | some (need, tv, mem') => needs need (seqT P cts ops pre base r (k + 1) (off + allocN P cts o.op) ⟨putT st.tmps o.dst tv, mem'⟩)
          | none => .stuck)
        else seqT P cts ops pre base r (k + 1) (off + allocN P cts o.op) ⟨putT st.tmps o.dst (.tup []), st.mem⟩
      | .sym d b =>
        let yes := match step P cts (opv (st.tmps.set d (.sv (.one (.blit want))))) (base + off) st.mem o.op with
          | some (need, tv, mem') => needs need (seqT P cts ops pre base r (k + 1) (off + allocN P cts o.op) ⟨putT (st.tmps.set d (.sv (.one (.blit want)))) o.dst tv, mem'⟩)
          | none => .stuck
        let no := seqT P cts ops pre base r (k + 1) (off + allocN P cts o.op) ⟨putT (st.tmps.set d (.sv (.one (.blit (!want))))) o.dst (.tup []), st.mem⟩
        match want with
        | true => .br b yes no
        | false => .br b no yes
      | .unk => .stuck

def freeMem (mem : List Slot) : Nat → List Slot
  | 0 => mem
  | n => mem ++ List.replicate n .free

def shutB (st : St) : Bool := st.tmps.all (TV.namesB st.mem)
/-- The blocks to which temporaries lead that no operation of a region writes. -/
def fixOf (ops : Array Oper) (tmps : Tm) : List (Nat × Nat) := ops.toList.filterMap fun o => match placeT o.op with
  | some t => (match tmps.get t with
    | some (.sv (.one (.ptr n _))) => if ops.toList.all (fun o' => o'.dst != some t) then some (t, n) else none
    | _ => none)
  | none => none
theorem lookup_mem {t n : Nat} : ∀ {l : List (Nat × Nat)}, l.lookup t = some n → (t, n) ∈ l
  | [], h => by cases h
  | (a, b) :: l, h => by
    rw [List.lookup_cons] at h
    split at h
    · rename_i e
      have e' : t = a := by simpa using e
      cases h; subst e'; simp
    · exact List.mem_cons_of_mem _ (lookup_mem h)
theorem fixOf_is {ops : Array Oper} {tmps : Tm} {t n : Nat} (h : (fixOf ops tmps).lookup t = some n) : (∃ off, tmps.get t = some (.sv (.one (.ptr n off)))) ∧ ∀ o ∈ ops, o.dst ≠ some t := by
  obtain ⟨o, _, h2⟩ := List.mem_filterMap.1 (lookup_mem h)
  split at h2 <;> try (cases h2; done)
  split at h2 <;> try (cases h2; done)
  rename_i off ho
  split at h2 <;> try (cases h2; done)
  rename_i hall
  cases h2
  refine ⟨⟨off, ho⟩, fun o' ho' => ?_⟩
  have := List.all_eq_true.1 hall o' (by simpa using ho')
  simpa using this
theorem fixOf_fixed (ops : Array Oper) (tmps : Tm) (m : List Slot) : ∀ o ∈ ops, Fixed ⟨m, fixOf ops tmps⟩ o := by
  intro o ho d n hd h
  exact absurd hd ((fixOf_is h).2 o ho)
theorem shutB_is {ops : Array Oper} {st : St} (h : shutB st = true) : Shut ⟨st.mem, fixOf ops st.tmps⟩ st := ⟨Mono.refl _, fun _ _ hi => Tm.all_get h hi, fun t n hn tv hg => by
  obtain ⟨off, ho⟩ := (fixOf_is hn).1
  rw [hg] at ho; cases ho
  simp [leadB]⟩
/-- Those too that lead to a part of such a block. -/
def baseOf (ops : Array Oper) (tmps : Tm) : List (Nat × Nat) := ops.toList.filterMap fun o => match (match placeT o.op with
    | some t => some t
    | none => partOf o.op) with
  | some t => (match tmps.get t with
    | some (.sv (.one (.ptr n _))) => if ops.toList.all (fun o' => o'.dst != some t) then some (t, n) else none
    | some (.sv (.one (.slc n _ _ _))) => if ops.toList.all (fun o' => o'.dst != some t) then some (t, n) else none
    | _ => none)
  | none => none
def partsOf (base : List (Nat × Nat)) (ops : Array Oper) : List (Nat × Nat) := ops.toList.filterMap fun o => match o.dst, partOf o.op with
  | some d, some t => (match base.lookup t with
    | some n => some (d, n)
    | none => none)
  | _, _ => none
def fixX (ops : Array Oper) (tmps : Tm) : List (Nat × Nat) := baseOf ops tmps ++ partsOf (baseOf ops tmps) ops
def fixedB (fx : List (Nat × Nat)) (ops : Array Oper) : Bool := ops.toList.all fun o => match o.dst with
  | some d => (match fx.lookup d with
    | some n => (match partOf o.op with
      | some t => fx.lookup t == some n
      | none => false)
    | none => true)
  | none => true
theorem fixedB_is {fx : List (Nat × Nat)} {ops : Array Oper} (h : fixedB fx ops = true) (m : List Slot) : ∀ o ∈ ops, Fixed ⟨m, fx⟩ o := by
  intro o ho d n hd hn
  have h1 := List.all_eq_true.1 h o (by simpa using ho)
  dsimp only at hn
  rw [hd] at h1
  dsimp only at h1
  rw [hn] at h1
  dsimp only at h1
  split at h1
  · rename_i t ht
    exact ⟨t, ht, by simpa using h1⟩
  · cases h1
def leadsB (fx : List (Nat × Nat)) (tmps : Tm) : Bool := fx.all fun x => match tmps.get x.1 with
  | some tv => leadB x.2 tv
  | none => true
theorem shutX_is {fx : List (Nat × Nat)} {st : St} (h : shutB st = true) (hl : leadsB fx st.tmps = true) : Shut ⟨st.mem, fx⟩ st := ⟨Mono.refl _, fun _ _ hi => Tm.all_get h hi, fun t n hn tv hg => by
  have h1 := List.all_eq_true.1 hl (t, n) (lookup_mem hn)
  dsimp only at h1
  rw [hg] at h1
  exact h1⟩

def regionT (P : Program) (cts : List Ct) (ops : Array Oper) (pre : Nat → St → St) (draw : Bool) (st : St) : Tree :=
  let st' : St := ⟨st.tmps, freeMem st.mem (totalN P cts ops.toList)⟩
  match draw with
  | false => seqT P cts ops pre st.mem.length ops.toList 0 0 st'
  | true => match pairsOk P cts (fixOf ops st'.tmps) ops ops.toList 0 && shutB st' with
    | true => drawT P cts ⟨st'.mem, fixOf ops st'.tmps⟩ ops st.mem.length 8 [] st'
    | false => match (fixedB (fixX ops st'.tmps) ops && leadsB (fixX ops st'.tmps) st'.tmps) && (pairsOk P cts (fixX ops st'.tmps) ops ops.toList 0 && shutB st') with
      | true => drawT P cts ⟨st'.mem, fixX ops st'.tmps⟩ ops st.mem.length 8 [] st'
      | false => .stuck

theorem MemRel.more {S : Nat → Option Nat} {B : Base} {w0 : World} {β : Env} {mem : List Slot} {w : World} (h : MemRel S B w0 β mem w) (n : Nat) : MemRel S B w0 β (freeMem mem n) w := by
  cases n with
  | zero => exact h
  | succ n =>
    show MemRel S B w0 β (mem ++ List.replicate (n + 1) .free) w
    have live : ∀ (m : Nat) (s : Slot), (mem ++ List.replicate (n + 1) Slot.free)[m]? = some s → s.live = true → mem[m]? = some s := by
      intro m s hm hl
      rcases Nat.lt_or_ge m mem.length with h' | h'
      · rwa [List.getElem?_append_left h'] at hm
      · rw [List.getElem?_append_right h'] at hm
        have := List.mem_of_getElem? hm
        simp at this
        subst this
        cases hl
    refine ⟨h.wd, h.aw, h.far, fun m t cs hm => h.blk m t cs (live m _ hm rfl), fun m t k L hm => h.seq m t k L (live m _ hm rfl), fun a b sa sb k h1 h2 l1 l2 => h.inj a b sa sb k (live a sa h1 l1) (live b sb h2 l2) l1 l2, h.rng, fun m k hm => ?_, h.came, h.kept, h.sz⟩
    obtain ⟨s, hs, hne⟩ := h.used m k hm
    exact ⟨s, by rw [List.getElem?_append_left (slot_lt hs)]; exact hs, hne⟩
theorem Rel.more {S : Nat → Option Nat} {B : Base} {w0 : World} {β : Env} {st : St} {a : Act} {w : World} (h : Rel S B w0 β st a w) (n : Nat) : Rel S B w0 β ⟨st.tmps, freeMem st.mem n⟩ a w := ⟨h.tm, h.df, h.mm.more n⟩

theorem drawT_sound (hcts : ∀ c ∈ cts, CtOk P c) (hfx : ∀ o ∈ ops, Fixed m0 o) (hp : pairsOk P cts m0.fx ops ops.toList 0 = true) {S : Nat → Option Nat} {B : Base} {w0 : World} {K : Ex → St → Prop} {Q : Exit → Act → World → Prop} (hK : ∀ st, K .normal st → ∀ β a w, Rel S B w0 β st a w → Q .normal a w) :
    ∀ (fuel : Nat) (om : List (Nat × Bool)) (st : St), Shut m0 st → (drawT P cts m0 ops base fuel om st).wp K → ∀ β a w, Rel S B w0 β st a w → wpAny P .any ops Q ops.size (Array.replicate ops.size false) a w := by
  intro fuel
  induction fuel with
  | zero =>
    intro om st hsh h β a w r
    unfold drawT at h
    split at h
    · rename_i need st' hd
      obtain ⟨h1, h2⟩ := needs_wp h
      have := wpA_lex (K := K .normal) hfx (om := om) (base := base) ops.toList 0 (Array.replicate ops.size false) st st' need (by simp) (by simp) (by intro j hj; simp [hj]) (fun k ok _ h => by rw [Array.getD_eq_getD_getElem?, Array.getElem?_replicate] at h; split at h <;> simp at h) hsh hp (by rw [offN_zero]; exact hd) h1 h2
      rw [Array.length_toList] at this
      exact wpAny_of_A hcts hK _ _ st this β a w r
    · exact h.elim
    · exact h.elim
  | succ fuel ih =>
    intro om st hsh h β a w r
    unfold drawT at h
    split at h
    · rename_i need st' hd
      obtain ⟨h1, h2⟩ := needs_wp h
      have := wpA_lex (K := K .normal) hfx (om := om) (base := base) ops.toList 0 (Array.replicate ops.size false) st st' need (by simp) (by simp) (by intro j hj; simp [hj]) (fun k ok _ h => by rw [Array.getD_eq_getD_getElem?, Array.getElem?_replicate] at h; split at h <;> simp at h) hsh hp (by rw [offN_zero]; exact hd) h1 h2
      rw [Array.length_toList] at this
      exact wpAny_of_A hcts hK _ _ st this β a w r
    · rename_i j b hd
      cases b with
      | true => exact ih _ st hsh (h.1 rfl) β a w r
      | false => exact ih _ st hsh (h.2 rfl) β a w r
    · exact h.elim

theorem wpList_of {o : Oper} {rest : List Oper} {a : Act} {w : World} {Q : Exit → Act → World → Prop}
    (h : if Region.wanted o (yielded ops a.tmps) then o.wp P a w (wpList P ops Q rest) Q else wpList P ops Q rest (a.put o.dst undef) w) : wpList P ops Q (o :: rest) a w := by
  unfold wpList
  split
  · rename_i hw; rw [if_pos hw] at h; exact .inl h
  · rename_i hw; rw [if_neg hw] at h; exact h

theorem seqT_sound (hcts : ∀ c ∈ cts, CtOk P c) {S : Nat → Option Nat} {B : Base} {w0 : World} {K : Ex → St → Prop} {Q : Exit → Act → World → Prop} (hK : ∀ st, K .normal st → ∀ β a w, Rel S B w0 β st a w → Q .normal a w)
    {pre : Nat → St → St} (hpre : ∀ k st β a w, Rel S B w0 β st a w → ∃ β', Rel S B w0 β' (pre k st) a w) :
    ∀ (l : List Oper) (k off : Nat) (st : St), (seqT P cts ops pre base l k off st).wp K → ∀ β a w, Rel S B w0 β st a w → wpList P ops Q l a w
  | [], _, off, st, h, β, a, w, r => hK st h β a w r
  | o :: l, k, off, st0, h, β0, a, w, r0 => by
    obtain ⟨β, r⟩ := hpre k st0 β0 a w r0
    unfold seqT at h
    dsimp only at h
    generalize pre k st0 = st at h r
    have run : ∀ (tmps : Tm), TmIs β tmps a.tmps.toList → Region.wanted o (yielded ops a.tmps) = true →
        Tree.wp (match step P cts (opv tmps) (base + off) st.mem o.op with
          | some (need, tv, mem') => needs need (seqT P cts ops pre base l (k + 1) (off + allocN P cts o.op) ⟨putT tmps o.dst tv, mem'⟩)
          | none => .stuck) K → wpList P ops Q (o :: l) a w := by
      intro tmps htm hw hwp
      split at hwp
      · rename_i need tv mem' hs
        obtain ⟨h1, h2⟩ := needs_wp hwp
        refine wpList_of ?_
        rw [if_pos hw]
        refine wp_of_does (step_sound hcts r.mm (opv_is htm) hs h1) ?_
        rintro v w' ⟨β', hext, htv, hm⟩
        refine seqT_sound hcts hK hpre l _ _ _ h2 β' _ _ ⟨putT_is (TmIs.ext hext htm) _ htv, ?_, hm⟩
        have := r.df
        cases o.dst <;> simpa [Act.put] using this
      · exact hwp.elim
    have skip : ∀ (tmps : Tm), TmIs β tmps a.tmps.toList → Region.wanted o (yielded ops a.tmps) = false →
        (seqT P cts ops pre base l (k + 1) (off + allocN P cts o.op) ⟨putT tmps o.dst (.tup []), st.mem⟩).wp K → wpList P ops Q (o :: l) a w := by
      intro tmps htm hw hwp
      refine wpList_of ?_
      rw [if_neg (by simp [hw])]
      refine seqT_sound hcts hK hpre l _ _ _ hwp β _ _ ⟨putT_is htm _ ⟨[], rfl, trivial⟩, ?_, r.mm⟩
      have := r.df
      cases o.dst <;> simpa [Act.put] using this
    split at h
    · rename_i hg
      exact run st.tmps r.tm (by unfold Region.wanted; rw [hg]) h
    · rename_i j want hg
      split at h
      · rename_i y hy
        have hyl := guardV_known hy r.tm
        split at h
        · rename_i he
          exact run st.tmps r.tm (by unfold Region.wanted; rw [hg]; simp [hyl, he]) h
        · rename_i he
          exact skip st.tmps r.tm (by unfold Region.wanted; rw [hg]; simpa [hyl] using he) h
      · rename_i d b hy
        obtain ⟨htm, hyl⟩ := guardV_sym hy r.tm
        cases want <;> dsimp only at h
        · cases b with
          | true => exact skip _ htm (by unfold Region.wanted; rw [hg]; simp [hyl]) (h.1 rfl)
          | false => exact run _ htm (by unfold Region.wanted; rw [hg]; simp [hyl]) (h.2 rfl)
        · cases b with
          | true => exact run _ htm (by unfold Region.wanted; rw [hg]; simp [hyl]) (h.1 rfl)
          | false => exact skip _ htm (by unfold Region.wanted; rw [hg]; simp [hyl]) (h.2 rfl)
      · exact h.elim

theorem regionT_sound (hmix : P.follows .mixedOrders = true) (hcts : ∀ c ∈ cts, CtOk P c) {S : Nat → Option Nat} {B : Base} {w0 : World} {id : Nat} {draw : Bool} {K : Ex → St → Prop} {Q : Exit → Act → World → Prop}
    (hK : ∀ e st, K e st → ∀ β a w, Rel S B w0 β st a w → Q e.to a w) {pre : Nat → St → St} (hpre : ∀ k st β a w, Rel S B w0 β st a w → ∃ β', Rel S B w0 β' (pre k st) a w) {st : St} (h : (regionT P cts ops pre draw st).wp K) {β : Env} {a : Act} {w : World} (r : Rel S B w0 β st a w) : (Code.region id ops draw).wp P Q a w := by
  unfold regionT at h
  dsimp only at h
  cases draw with
  | false => exact wp_region_list (seqT_sound hcts (fun st hk => hK .normal st hk) hpre ops.toList _ _ _ h β a w (r.more _))
  | true =>
    dsimp only at h
    split at h
    · rename_i hps
      rw [Bool.and_eq_true] at hps
      obtain ⟨hp, hsb⟩ := hps
      have hmore := r.more (totalN P cts ops.toList)
      obtain ⟨he, hmd⟩ := hmore.mm.drew
      exact wp_region_any hmix (drawT_sound (m0 := ⟨(⟨st.tmps, freeMem st.mem (totalN P cts ops.toList)⟩ : St).mem, fixOf ops st.tmps⟩) hcts (fixOf_fixed _ _ _) hp (fun st hk => hK .normal st hk) _ _ _ (shutB_is (ops := ops) (st := ⟨st.tmps, freeMem st.mem (totalN P cts ops.toList)⟩) hsb) h _ a _ ⟨TmIs.ext he hmore.tm, hmore.df, hmd⟩)
    · split at h
      · rename_i hps
        rw [Bool.and_eq_true, Bool.and_eq_true, Bool.and_eq_true] at hps
        obtain ⟨⟨hfb, hlb⟩, hp, hsb⟩ := hps
        have hmore := r.more (totalN P cts ops.toList)
        obtain ⟨he, hmd⟩ := hmore.mm.drew
        exact wp_region_any hmix (drawT_sound (m0 := ⟨(⟨st.tmps, freeMem st.mem (totalN P cts ops.toList)⟩ : St).mem, fixX ops st.tmps⟩) hcts (fixedB_is hfb _) hp (fun st hk => hK .normal st hk) _ _ _ (shutX_is (st := ⟨st.tmps, freeMem st.mem (totalN P cts ops.toList)⟩) hsb hlb) h _ a _ ⟨TmIs.ext he hmore.tm, hmore.df, hmd⟩)
      · exact h.elim
end

end Go.Proofs.Ytihmhnfjdkkbgaa.RX
