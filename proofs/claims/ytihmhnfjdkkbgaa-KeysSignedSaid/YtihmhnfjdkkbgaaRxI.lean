/- RX, part I: two operations of a region that Go lets run in either order do the same in either order. -/
import Derived.Test.YtihmhnfjdkkbgaaRxH
noncomputable section
namespace Go.Proofs.Ytihmhnfjdkkbgaa.RX
set_option linter.unusedSimpArgs false
open Go Go.RowKit

/-! ### What an operation looks at -/
section congr
variable {ρ ρ' : Operand → Option TV}
theorem partsC_congr : ∀ {ps : List (Nat × Operand)}, (∀ x ∈ ps.map (·.2), ρ x = ρ' x) → partsC ρ ps = partsC ρ' ps
  | [], _ => rfl
  | (i, x) :: r, h => by
    simp only [partsC]
    rw [h x (by simp), partsC_congr (ps := r) (fun y hy => h y (by simp only [List.map_cons, List.mem_cons]; exact .inr hy))]
theorem capsC_congr : ∀ {ps : List Operand}, (∀ x ∈ ps, ρ x = ρ' x) → capsC ρ ps = capsC ρ' ps
  | [], _ => rfl
  | x :: r, h => by
    simp only [capsC]
    rw [h x (by simp), capsC_congr (ps := r) (fun y hy => h y (by simp [hy]))]
theorem argsC_congr : ∀ {ps : List Operand}, (∀ x ∈ ps, ρ x = ρ' x) → argsC ρ ps = argsC ρ' ps
  | [], _ => rfl
  | x :: r, h => by
    simp only [argsC]
    rw [h x (by simp), argsC_congr (ps := r) (fun y hy => h y (by simp [hy]))]
theorem optv_congr {o : Option Operand} (h : ∀ x ∈ o.toArray, ρ x = ρ' x) : optv ρ o = optv ρ' o := by
  cases o with
  | none => rfl
  | some x => simp only [optv]; rw [h x (by simp)]
theorem buildOp_congr {P : Program} {t : TypeId} {parts : Array (Nat × Operand)} (h : ∀ x ∈ parts.toList.map (·.2), ρ x = ρ' x) : buildOp P ρ t parts = buildOp P ρ' t parts := by
  simp only [buildOp, partsC_congr h]

theorem pureOp_congr {P : Program} {op : Op} (h : ∀ x ∈ op.operands, ρ x = ρ' x) : pureOp P ρ op = pureOp P ρ' op := by
  cases op
  case build t parts => exact buildOp_congr (fun x hx => h x (by simpa [Op.operands] using hx))
  case makeFunc fn first captured =>
    cases fn <;> simp only [pureOp]
    rw [capsC_congr (fun x hx => h x (by simp [Op.operands]; exact .inr (by simpa using hx)))]
  case slice t x lo hi mx =>
    cases mx <;> simp only [pureOp]
    have h1 : ρ x = ρ' x := h x (by simp [Op.operands])
    have h2 := optv_congr (ρ := ρ) (ρ' := ρ') (o := lo) (fun y hy => h y (by simp [Op.operands] at hy ⊢; simp [hy]))
    have h3 := optv_congr (ρ := ρ) (ρ' := ρ') (o := hi) (fun y hy => h y (by simp [Op.operands] at hy ⊢; simp [hy]))
    rw [h1, h2, h3]
  case call c =>
    obtain ⟨callee, args, argTypes⟩ := c
    cases callee
    case builtin b =>
      have ha : ∀ x ∈ args.toList, ρ x = ρ' x := fun x hx => h x (by simpa [Op.operands, Call.operands] using hx)
      simp only [pureOp]
      split
      · rename_i x t hx _
        rw [hx] at ha
        rw [ha x (by simp)]
      · rename_i x y hx
        rw [hx] at ha
        rw [ha x (by simp), ha y (by simp)]
      · rename_i x y hx
        rw [hx] at ha
        rw [ha x (by simp), ha y (by simp)]
      · rfl
    all_goals rfl
  all_goals first
    | rfl
    | (rename_i a; simp only [pureOp]; rw [h a (by simp [Op.operands])]; done)
    | (rename_i a b; simp only [pureOp]; rw [h a (by simp [Op.operands])]; done)
    | (rename_i a b; simp only [pureOp]; rw [h b (by simp [Op.operands])]; done)
    | (rename_i a b c; simp only [pureOp]; rw [h b (by simp [Op.operands])]; done)
    | (rename_i a b c; simp only [pureOp]; rw [h c (by simp [Op.operands])]; done)
    | (rename_i a b c; simp only [pureOp]; rw [h b (by simp [Op.operands]), h c (by simp [Op.operands])]; done)
    | (rename_i a b c; simp only [pureOp]; rw [h a (by simp [Op.operands]), h b (by simp [Op.operands]), h c (by simp [Op.operands])]; done)
    | (rename_i a b c d e; simp only [pureOp]; rw [h c (by simp [Op.operands]), h d (by simp [Op.operands])]; done)

theorem newC_congr {P : Program} {nm : Nat} {op : Op} (h : ∀ x ∈ op.operands, ρ x = ρ' x) : newC P ρ nm op = newC P ρ' nm op := by
  cases op
  case buildSlice t len parts => simp only [newC]; rw [partsC_congr (fun x hx => h x (by simpa [Op.operands] using hx))]
  all_goals first
    | rfl
    | (rename_i a b; simp only [newC]; rw [h b (by simp [Op.operands])]; done)
    | (rename_i a b c; simp only [newC]; rw [h c (by simp [Op.operands])]; done)
    | (rename_i a b c; simp only [newC]; rw [h b (by simp [Op.operands]), h c (by simp [Op.operands])]; done)
theorem calleeC_congr {cts : List Ct} {op : Op} (h : ∀ x ∈ op.operands, ρ x = ρ' x) : calleeC cts ρ op = calleeC cts ρ' op := by
  cases op
  case call c =>
    obtain ⟨callee, args, argTypes⟩ := c
    cases callee
    case value fo =>
      simp only [calleeC]
      rw [h fo (by simp [Op.operands, Call.operands]), argsC_congr (fun x hx => h x (by simp [Op.operands, Call.operands, Array.mem_toList_iff.1 hx]))]
    all_goals rfl
  all_goals rfl
theorem readC_congr {P : Program} {cts : List Ct} {mem : List Slot} {op : Op} (h : ∀ x ∈ op.operands, ρ x = ρ' x) : readC P cts ρ mem op = readC P cts ρ' mem op := by
  cases op
  case call c => simp only [readC, viewC, calleeC_congr h]
  all_goals first
    | rfl
    | (rename_i a b; simp only [readC]; rw [h b (by simp [Op.operands])]; done)
    | (rename_i a b c; simp only [readC]; rw [h c (by simp [Op.operands])]; done)
theorem writeC_congr {P : Program} {mem : List Slot} {op : Op} (h : ∀ x ∈ op.operands, ρ x = ρ' x) : writeC P ρ mem op = writeC P ρ' mem op := by
  cases op
  all_goals first
    | rfl
    | (rename_i a b c; simp only [writeC]; rw [h b (by simp [Op.operands]), h c (by simp [Op.operands])]; done)
theorem appC_congr {P : Program} {nm : Nat} {mem : List Slot} {op : Op} (h : ∀ x ∈ op.operands, ρ x = ρ' x) : appC P ρ nm mem op = appC P ρ' nm mem op := by
  cases op
  case call c =>
    obtain ⟨callee, args, argTypes⟩ := c
    cases callee
    case builtin b =>
      have ha : ∀ x ∈ args.toList, ρ x = ρ' x := fun x hx => h x (by simpa [Op.operands, Call.operands] using hx)
      cases b <;> try rfl
      simp only [appC]
      split
      · rename_i s x t u hx _
        rw [hx] at ha
        rw [ha s (by simp), ha x (by simp)]
      · rfl
    all_goals rfl
  all_goals rfl
theorem appS_congr {P : Program} {nm : Nat} {mem : List Slot} {op : Op} (h : ∀ x ∈ op.operands, ρ x = ρ' x) : appS P ρ nm mem op = appS P ρ' nm mem op := by
  cases op
  case call c =>
    obtain ⟨callee, args, argTypes⟩ := c
    cases callee
    case builtin b =>
      have ha : ∀ x ∈ args.toList, ρ x = ρ' x := fun x hx => h x (by simpa [Op.operands, Call.operands] using hx)
      cases b <;> try rfl
      simp only [appS]
      split
      · rename_i s x t u hx _
        rw [hx] at ha
        rw [ha s (by simp), ha x (by simp)]
      · rfl
    all_goals rfl
  all_goals rfl
theorem copyC_congr {P : Program} {mem : List Slot} {op : Op} (h : ∀ x ∈ op.operands, ρ x = ρ' x) : copyC P ρ mem op = copyC P ρ' mem op := by
  cases op
  case call c =>
    obtain ⟨callee, args, argTypes⟩ := c
    cases callee
    case builtin b =>
      have ha : ∀ x ∈ args.toList, ρ x = ρ' x := fun x hx => h x (by simpa [Op.operands, Call.operands] using hx)
      cases b <;> try rfl
      simp only [copyC]
      split
      · rename_i s x t u hx _
        rw [hx] at ha
        rw [ha s (by simp), ha x (by simp)]
      · rfl
    all_goals rfl
  all_goals rfl
theorem makeC_congr {P : Program} {cts : List Ct} {nm : Nat} {op : Op} (h : ∀ x ∈ op.operands, ρ x = ρ' x) : makeC P cts ρ nm op = makeC P cts ρ' nm op := by
  simp only [makeC, calleeC_congr h, newC_congr h]
theorem step_congr {P : Program} {cts : List Ct} {nm : Nat} {mem : List Slot} {op : Op} (h : ∀ x ∈ op.operands, ρ x = ρ' x) : step P cts ρ nm mem op = step P cts ρ' nm mem op := by
  simp only [step, valC, builtC, pureOp_congr h, readC_congr h, writeC_congr h, makeC_congr h, calleeC_congr h, appC_congr h, appS_congr h, copyC_congr h]
end congr

/-! ### Frames of temporaries -/
def putT (tmps : Tm) (dst : Option Tmp) (tv : TV) : Tm :=
  match dst with
  | some d => tmps.set d tv
  | none => tmps
theorem putT_is {β : Env} {tmps : Tm} {a : Act} (h : TmIs β tmps a.tmps.toList) (dst : Option Tmp) {tv : TV} {v : Value} (r : tv.is β v) : TmIs β (putT tmps dst tv) (a.put dst v).tmps.toList := by
  cases dst with
  | none => exact h
  | some d =>
    simp only [putT, Act.put, Array.toList_setIfInBounds]
    exact h.set d r
theorem putT_comm (tmps : Tm) {x y : Option Tmp} (v u : TV) (h : ∀ d, x = some d → y ≠ some d) : putT (putT tmps x v) y u = putT (putT tmps y u) x v := by
  cases x with
  | none => rfl
  | some d =>
    cases y with
    | none => rfl
    | some e =>
      have hne : d ≠ e := fun he => h d rfl (he ▸ rfl)
      simp only [putT]
      exact Tm.set_comm _ _ _ hne
theorem opv_put {tmps : Tm} {dst : Option Tmp} {tv : TV} {x : Operand} (h : ∀ d, dst = some d → x ≠ .tmp d) : opv (putT tmps dst tv) x = opv tmps x := by
  cases dst with
  | none => rfl
  | some d =>
    cases x with
    | tmp t =>
      have hne : d ≠ t := fun e => h d rfl (e ▸ rfl)
      simp only [opv, putT]
      rw [Tm.get_set, if_neg hne]
    | _ => rfl
theorem looks_operand {ops : Array Oper} {o : Oper} {d : Tmp} (h : d ∉ o.looksAt ops) : ∀ x ∈ o.op.operands, x ≠ .tmp d := by
  intro x hx e
  subst e
  exact h (List.mem_append_left _ (List.mem_filterMap.2 ⟨.tmp d, by simpa using hx, rfl⟩))

/-! ### Guards -/
inductive G where
  | known (b : Option Bool)
  | sym (d : Tmp) (b : Bool)
  | unk

def guardV (ops : Array Oper) (tmps : Tm) (j : Nat) : G :=
  match (ops[j]?).bind (·.dst) with
  | none => .known none
  | some d => match tmps.get d with
    | none => .unk
    | some (.sv (.one (.blit b))) => .known (some b)
    | some (.sv (.one (.bool b))) => .sym d b
    | some (.tup _) => .known none
    | some (.sv (.one (.lit _ _))) => .known none
    | some (.sv (.one (.int _ _))) => .known none
    | some (.sv (.one (.str _))) => .known none
    | some (.sv (.one (.strn _ _ _))) => .known none
    | some (.sv (.agg _)) => .known none
    | _ => .unk

theorem guardV_known {ops : Array Oper} {tmps : Tm} {j : Nat} {y : Option Bool} (h : guardV ops tmps j = .known y) {β : Env} {a : Act} (r : TmIs β tmps a.tmps.toList) : yielded ops a.tmps j = y := by
  unfold guardV at h
  unfold yielded
  split at h
  · rename_i e; rw [e]; cases h; rfl
  · rename_i d e
    rw [e]
    simp only [Option.bind_some]
    have tm : ∀ tv, tmps.get d = some tv → ∃ v, a.tmps[d]? = some v ∧ tv.is β v := fun tv hv => by
      obtain ⟨v, h1, h2⟩ := r d tv hv
      exact ⟨v, by rw [← Array.getElem?_toList]; exact h1, h2⟩
    split at h
    · cases h
    · rename_i b hd
      cases h
      obtain ⟨v, h1, h2⟩ := tm _ hd
      have ev : v = .bool b := h2
      rw [h1, ev]
    · cases h
    · rename_i ss hd
      cases h
      obtain ⟨v, h1, vs, ev, _⟩ := tm _ hd
      rw [h1, ev]
    · rename_i k n hd
      cases h
      obtain ⟨v, h1, h2⟩ := tm _ hd
      have ev : v = .int k n := h2
      rw [h1, ev]
    · rename_i k n hd
      cases h
      obtain ⟨v, h1, h2⟩ := tm _ hd
      have ev : v = .int k n := h2
      rw [h1, ev]
    · rename_i s hd
      cases h
      obtain ⟨v, h1, h2⟩ := tm _ hd
      have ev : v = .string s := h2
      rw [h1, ev]
    · rename_i s m hs hd
      cases h
      obtain ⟨v, h1, h2⟩ := tm _ hd
      have ev : v = .string s := h2
      rw [h1, ev]
    · rename_i cs hd
      cases h
      obtain ⟨v, h1, vs, ev, _⟩ := tm _ hd
      rw [h1, ev]
    · cases h

/-- A bool that is not known: once it is looked at, it is one of the two. -/
theorem guardV_sym {ops : Array Oper} {tmps : Tm} {j : Nat} {d : Tmp} {b : Bool} (h : guardV ops tmps j = .sym d b) {β : Env} {a : Act} (r : TmIs β tmps a.tmps.toList) :
    TmIs β (tmps.set d (.sv (.one (.blit b)))) a.tmps.toList ∧ yielded ops a.tmps j = some b := by
  unfold guardV at h
  unfold yielded
  split at h
  · cases h
  · rename_i d' e
    rw [e]
    simp only [Option.bind_some]
    split at h <;> try (cases h; done)
    rename_i b' hd
    cases h
    obtain ⟨v, h1, h2⟩ := r d _ hd
    have ev : v = .bool b := h2
    subst ev
    refine ⟨?_, by rw [← Array.getElem?_toList, h1]⟩
    have := r.set d (tv := TV.sv (.one (.blit b))) (v := Value.bool b) rfl
    have hself : a.tmps.toList.set d (.bool b) = a.tmps.toList := by
      apply List.ext_getElem?
      intro i
      by_cases hi : d = i
      · subst hi
        have hlt : d < a.tmps.toList.length := by
          rcases Nat.lt_or_ge d a.tmps.toList.length with h' | h'
          · exact h'
          · rw [List.getElem?_eq_none h'] at h1; cases h1
        rw [List.getElem?_set_self hlt, h1]
      · rw [List.getElem?_set_ne hi]
    rw [hself] at this
    exact this

/-- Is the operation to run? -/
def wantedC (ops : Array Oper) (tmps : Tm) (o : Oper) : Option Bool :=
  match o.guard with
  | none => some true
  | some (j, want) => match guardV ops tmps j with
    | .known y => some (y == some want)
    | _ => none
theorem wantedC_sound {ops : Array Oper} {tmps : Tm} {o : Oper} {b : Bool} (h : wantedC ops tmps o = some b) {β : Env} {a : Act} (r : TmIs β tmps a.tmps.toList) : Region.wanted o (yielded ops a.tmps) = b := by
  unfold wantedC at h
  unfold Region.wanted
  split at h
  · rename_i e; rw [e]; simpa using h
  · rename_i j want e
    rw [e]
    split at h
    · rename_i y hy
      dsimp only
      rw [guardV_known hy r]
      simpa using h
    · cases h
theorem wantedC_put {ops : Array Oper} {tmps : Tm} {o : Oper} {dst : Option Tmp} {tv : TV} (h : ∀ d, dst = some d → d ∉ o.looksAt ops) : wantedC ops (putT tmps dst tv) o = wantedC ops tmps o := by
  cases dst with
  | none => rfl
  | some d =>
    unfold wantedC
    cases hg : o.guard with
    | none => rfl
    | some gw =>
      obtain ⟨g, want⟩ := gw
      dsimp only
      have hy : guardV ops (putT tmps (some d) tv) g = guardV ops tmps g := by
        unfold guardV
        cases ht : (ops[g]?).bind (·.dst) with
        | none => rfl
        | some t =>
          have hne : d ≠ t := by
            intro e
            subst e
            exact h d rfl (by unfold Oper.looksAt; rw [hg]; simp [ht])
          simp only [putT]
          rw [Tm.get_set, if_neg hne]
      rw [hy]

/-! ### Memory: what may change places -/
/-- The temporary through which an operation looks at memory, or writes it. -/
def placeT : Op → Option Nat
  | .load _ (.tmp t) => some t
  | .store _ (.tmp t) _ => some t
  | _ => none
/-- 'fx': the blocks to which some temporaries lead all through a region. -/
def farB (fx : List (Nat × Nat)) (x y : Op) : Bool :=
  match (placeT x).bind (fx.lookup ·), (placeT y).bind (fx.lookup ·) with
  | some n, some m => n != m
  | _, _ => false
def memOk (P : Program) (cts : List Ct) (fx : List (Nat × Nat)) (x y : Op) : Bool :=
  match cls P cts x, cls P cts y with
  | .comp, _ | _, .comp => true
  | .rd, .rd | .rd, .nw | .nw, .nw | .wr, .nw | .nw, .rd | .nw, .wr => true
  | .rd, .wr | .wr, .rd | .wr, .wr => farB fx x y
  | _, _ => false
/-- A value that leads to no block but this one, if to any. -/
def leadB (n : Nat) : TV → Bool
  | .sv (.one (.ptr m _)) => m == n
  | .sv (.one (.slc m _ _ _)) => m == n
  | .sv (.one (.sq _ _)) => false
  | .sv (.one (.sqs _ _ _)) => false
  | .sv (.one (.sqp m _)) => m == n
  | _ => true
def Leads (fx : List (Nat × Nat)) (ρ : Operand → Option TV) : Prop := ∀ t n, fx.lookup t = some n → ∀ tv, ρ (.tmp t) = some tv → leadB n tv = true
theorem blkAt_same {m m' : List Slot} {n : Nat} (h : m'[n]? = m[n]?) : blkAt m' n = blkAt m n := by unfold blkAt; rw [h]
theorem seqAt_same {m m' : List Slot} {n : Nat} (h : m'[n]? = m[n]?) : seqAt m' n = seqAt m n := by unfold seqAt; rw [h]
theorem readC_far {P : Program} {cts : List Ct} {ρ : Operand → Option TV} {fx : List (Nat × Nat)} (hl : Leads fx ρ) {x : Op} {n : Nat} (hp : (placeT x).bind (fx.lookup ·) = some n) {m m' : List Slot} (h : m'[n]? = m[n]?) (hc : cls P cts x = .rd) :
    readC P cts ρ m' x = readC P cts ρ m x := by
  obtain ⟨t, h1, h2⟩ := Option.bind_eq_some_iff.1 hp
  unfold placeT at h1
  split at h1 <;> cases h1
  · rename_i ty
    simp only [readC]
    cases hr : ρ (.tmp t) with
    | none => rfl
    | some a =>
      have hla := hl t n h2 a hr
      cases a with
      | tup l => rfl
      | sv s => cases s with
        | agg l => rfl
        | one c =>
          cases c <;> try rfl
          case ptr k off =>
            have e : k = n := by simpa [leadB] using hla
            subst e
            simp only [loadC, blkAt_same h]
          case sqp k j =>
            have e : k = n := by simpa [leadB] using hla
            subst e
            simp only [loadSeq, numsAt, h]
  · simp [cls] at hc
theorem writeC_far {P : Program} {cts : List Ct} {ρ : Operand → Option TV} {fx : List (Nat × Nat)} (hl : Leads fx ρ) {x : Op} {n : Nat} (hp : (placeT x).bind (fx.lookup ·) = some n) {m m' : List Slot} (h : m'[n]? = m[n]?) (hc : cls P cts x = .wr) :
    writeC P ρ m' x = writeC P ρ m x ∧ ∀ k t cs, writeC P ρ m x = some (k, t, cs) → k = n := by
  obtain ⟨t, h1, h2⟩ := Option.bind_eq_some_iff.1 hp
  unfold placeT at h1
  split at h1 <;> cases h1
  · simp [cls] at hc
  · rename_i ty x
    simp only [writeC]
    cases hr : ρ (.tmp t) with
    | none => exact ⟨rfl, fun k t cs hw => by cases hw⟩
    | some a =>
      have hla := hl t n h2 a hr
      cases ρ x with
      | none => exact ⟨rfl, fun k t cs hw => by cases hw⟩
      | some b =>
        dsimp only
        cases a with
        | tup l => exact ⟨rfl, fun k t cs hw => by cases hw⟩
        | sv s => cases s with
          | agg l => exact ⟨rfl, fun k t cs hw => by cases hw⟩
          | one c =>
            cases c <;> try exact ⟨rfl, fun k t cs hw => by cases hw⟩
            case ptr k off =>
              have e : k = n := by simpa [leadB] using hla
              subst e
              simp only [storeC]
              cases b.cells with
              | none => exact ⟨rfl, fun k t cs hw => by cases hw⟩
              | some vs =>
                dsimp only
                rw [blkAt_same h]
                refine ⟨rfl, fun k t cs hw => ?_⟩
                split at hw
                · split at hw
                  · cases hw; rfl
                  · cases hw
                · cases hw

/-- The memory knows at least as much. -/
def MemLe (m m' : List Slot) : Prop := (∀ n t cs, blkAt m n = some (t, cs) → blkAt m' n = some (t, cs)) ∧ ∀ n t k L, seqAt m n = some (t, k, L) → seqAt m' n = some (t, k, L)
theorem loadC_le {P : Program} {m m' : List Slot} (h : MemLe m m') {t : TypeId} {p tv : TV} (e : loadC P m t p = some tv) : loadC P m' t p = some tv := by
  unfold loadC at e ⊢
  split at e
  · rename_i n off
    cases hb : blkAt m n with
    | none => rw [hb] at e; cases e
    | some x =>
      obtain ⟨bt, cs⟩ := x
      rw [hb] at e
      rw [h.1 n bt cs hb]
      exact e
  · exact e
  · exact e
  · cases e
theorem bytesStr_le {P : Program} {m m' : List Slot} (h : MemLe m m') {s d : TypeId} {x tv : TV} (e : bytesStr P m s d x = some tv) : bytesStr P m' s d x = some tv := by
  unfold bytesStr at e ⊢
  split at e
  · split at e
    · rename_i n off len cap _
      cases hb : blkAt m n with
      | none => rw [hb] at e; cases e
      | some x =>
        obtain ⟨bt, cs⟩ := x
        rw [hb] at e
        rw [h.1 n bt cs hb]
        exact e
    · exact e
    · exact e
    · cases e
  · cases e
theorem viewS_le {m m' : List Slot} (h : MemLe m m') {s t : SV} (e : viewS m s = some t) : viewS m' s = some t := by
  unfold viewS at e ⊢
  split at e
  · rename_i n off len cap
    cases hb : blkAt m n with
    | none => rw [hb] at e; cases e
    | some x =>
      obtain ⟨bt, cs⟩ := x
      rw [hb] at e
      rw [h.1 n bt cs hb]
      exact e
  · exact e
theorem viewAll_le {m m' : List Slot} (h : MemLe m m') : ∀ {l o : List SV}, viewAll m l = some o → viewAll m' l = some o
  | [], _, e => e
  | s :: l, o, e => by
    unfold viewAll at e ⊢
    split at e
    · rename_i t l' h1 h2
      cases e
      rw [viewS_le h h1, viewAll_le h h2]
    · cases e
theorem viewC_le {cts : List Ct} {ρ : Operand → Option TV} {m m' : List Slot} (h : MemLe m m') {op : Op} {tv : TV} (e : viewC cts ρ m op = some tv) : viewC cts ρ m' op = some tv := by
  unfold viewC at e ⊢
  split at e
  · split at e
    · obtain ⟨l, h1, h2⟩ := Option.bind_eq_some_iff.1 e
      rw [viewAll_le h h1]
      exact h2
    · cases e
  · cases e
theorem loadSeq_le {P : Program} {m m' : List Slot} (h : MemLe m m') {t : TypeId} {n j : Nat} {r : List Prop × TV} (e : loadSeq P m t n j = some r) : loadSeq P m' t n j = some r := by
  have key : ∀ k L, numsAt m n = some (k, L) → numsAt m' n = some (k, L) := by
    intro k L hq
    unfold numsAt at hq ⊢
    cases hs : m[n]? with
    | none => rw [hs] at hq; cases hq
    | some s =>
      rw [hs] at hq
      cases s with
      | free => cases hq
      | dead => cases hq
      | blk t cs =>
        have hb := blkAt_eq (h.1 n t cs (by unfold blkAt; rw [hs]))
        rw [hb]; exact hq
      | seq t i L' =>
        have hb := seqAt_eq (h.2 n t i L' (by unfold seqAt; rw [hs]))
        rw [hb]; exact hq
  unfold loadSeq at e ⊢
  cases hq : numsAt m n with
  | none => rw [hq] at e; cases e
  | some x =>
    obtain ⟨k, L⟩ := x
    rw [hq] at e
    rw [key k L hq]
    exact e
theorem bytesSeq_le {P : Program} {m m' : List Slot} (h : MemLe m m') {s d : TypeId} {x : RC} {r : List Prop × TV} (e : bytesSeq P m s d x = some r) : bytesSeq P m' s d x = some r := by
  unfold bytesSeq at e ⊢
  split at e
  · cases e
  · split at e
    · rename_i n len
      cases hb : seqAt m n with
      | none => rw [hb] at e; cases e
      | some x =>
        obtain ⟨bt, k, L⟩ := x
        rw [hb] at e
        rw [h.2 n bt k L hb]
        exact e
    · rename_i n lo hi
      cases hb : seqAt m n with
      | none => rw [hb] at e; cases e
      | some x =>
        obtain ⟨bt, k, L⟩ := x
        rw [hb] at e
        rw [h.2 n bt k L hb]
        exact e
    · cases e
theorem bare_some {o : Option TV} {tv : TV} (h : o = some tv) : bare o = some ([], tv) := by rw [h]; rfl
theorem bare_le {o o' : Option TV} (h : ∀ tv, o = some tv → o' = some tv) {r : List Prop × TV} (e : bare o = some r) : bare o' = some r := by
  obtain ⟨need, tv⟩ := r
  obtain ⟨h1, rfl⟩ := bare_is e
  exact bare_some (h _ h1)
theorem readC_le {P : Program} {cts : List Ct} {ρ : Operand → Option TV} {m m' : List Slot} (h : MemLe m m') {op : Op} {r : List Prop × TV} (e : readC P cts ρ m op = some r) : readC P cts ρ m' op = some r := by
  unfold readC at e ⊢
  split at e
  · split at e
    · exact loadSeq_le h e
    · exact bare_le (fun _ q => loadC_le h q) e
    · cases e
  · split at e
    · exact bytesSeq_le h e
    · exact bytesSeq_le h e
    · exact bare_le (fun _ q => bytesStr_le h q) e
    · cases e
  · exact bare_le (fun _ q => viewC_le h q) e
  · cases e
theorem MemLe.new {m : List Slot} {nm : Nat} (hf : m[nm]? = some .free) (s : Slot) : MemLe m (m.set nm s) := by
  refine ⟨fun n t' cs' h => ?_, fun n t' k' L' h => ?_⟩
  · have h1 := blkAt_eq h
    have hne : nm ≠ n := fun e => by subst e; rw [hf] at h1; cases h1
    unfold blkAt
    rw [List.getElem?_set_ne hne, h1]
  · have h1 := seqAt_eq h
    have hne : nm ≠ n := fun e => by subst e; rw [hf] at h1; cases h1
    unfold seqAt
    rw [List.getElem?_set_ne hne, h1]
theorem writeC_at {P : Program} {ρ : Operand → Option TV} {m : List Slot} {op : Op} {n : Nat} {t : TypeId} {cs : List RC} (h : writeC P ρ m op = some (n, t, cs)) :
    (∃ t' cs', m[n]? = some (.blk t' cs')) ∧ ∀ m' : List Slot, m'[n]? = m[n]? → writeC P ρ m' op = some (n, t, cs) := by
  unfold writeC at h
  split at h
  · split at h
    · rename_i a b ha hb
      unfold storeC at h
      split at h
      · rename_i n' off vs hv
        split at h
        · rename_i bt cs' i hblk hi
          split at h
          · rename_i hc
            cases h
            refine ⟨⟨_, _, blkAt_eq hblk⟩, fun m' hm' => ?_⟩
            have : blkAt m' n = some (t, cs') := by
              unfold blkAt at hblk ⊢
              rw [hm']; exact hblk
            simp only [writeC, ha, hb, storeC, hv, this, hi, if_pos hc]
          · cases h
        · cases h
      · cases h
    · cases h
  · cases h

/-! ### Names that are in use -/
def liveB (m : List Slot) (n : Nat) : Bool :=
  match m[n]? with
  | some s => !isFree s
  | none => false
def RC.namesB (m : List Slot) : RC → Bool
  | .ptr n _ => liveB m n
  | .slc n _ _ _ => liveB m n
  | .fn _ caps => caps.all fun c => liveB m c.1
  | .sq n _ => liveB m n
  | .sqs n _ _ => liveB m n
  | .sqp n _ => liveB m n
  | _ => true
def SV.namesB (m : List Slot) : SV → Bool
  | .one c => c.namesB m
  | .agg cs => cs.all (RC.namesB m)
def TV.namesB (m : List Slot) : TV → Bool
  | .sv s => s.namesB m
  | .tup ss => ss.all (SV.namesB m)
theorem liveB_mono {m m' : List Slot} (h : Mono m m') {n : Nat} (hn : liveB m n = true) : liveB m' n = true := by
  unfold liveB at hn ⊢
  cases e : m[n]? with
  | none => rw [e] at hn; cases hn
  | some s =>
    rw [e] at hn
    obtain ⟨s', h1, h2⟩ := h n s e (by simpa using hn)
    rw [h1]; simp [h2]
theorem RC.namesB_mono {m m' : List Slot} (h : Mono m m') {c : RC} (hc : c.namesB m = true) : c.namesB m' = true := by
  cases c <;> try exact rfl
  · exact liveB_mono h hc
  · exact liveB_mono h hc
  · simp only [RC.namesB, List.all_eq_true] at hc ⊢
    exact fun x hx => liveB_mono h (hc x hx)
  · exact liveB_mono h hc
  · exact liveB_mono h hc
  · exact liveB_mono h hc
theorem SV.namesB_mono {m m' : List Slot} (h : Mono m m') {c : SV} (hc : c.namesB m = true) : c.namesB m' = true := by
  cases c
  · exact RC.namesB_mono h hc
  · simp only [SV.namesB, List.all_eq_true] at hc ⊢
    exact fun x hx => RC.namesB_mono h (hc x hx)
theorem TV.namesB_mono {m m' : List Slot} (h : Mono m m') {c : TV} (hc : c.namesB m = true) : c.namesB m' = true := by
  cases c
  · exact SV.namesB_mono h hc
  · simp only [TV.namesB, List.all_eq_true] at hc ⊢
    exact fun x hx => SV.namesB_mono h (hc x hx)
theorem liveB_ne {m : List Slot} {n nx : Nat} (hn : liveB m n = true) (hf : m[nx]? = some .free) : nx ≠ n := by
  intro e; subst e
  unfold liveB at hn
  rw [hf] at hn; cases hn
theorem blkAt_new {m : List Slot} {n nx : Nat} (hn : liveB m n = true) (hf : m[nx]? = some .free) (s : Slot) : blkAt (m.set nx s) n = blkAt m n := by
  unfold blkAt
  rw [List.getElem?_set_ne (liveB_ne hn hf)]
theorem seqAt_new {m : List Slot} {n nx : Nat} (hn : liveB m n = true) (hf : m[nx]? = some .free) (s : Slot) : seqAt (m.set nx s) n = seqAt m n := by
  unfold seqAt
  rw [List.getElem?_set_ne (liveB_ne hn hf)]
theorem loadC_new {P : Program} {m : List Slot} {nx : Nat} (hf : m[nx]? = some .free) (s : Slot) {t : TypeId} {p : TV} (hp : p.namesB m = true) : loadC P (m.set nx s) t p = loadC P m t p := by
  unfold loadC
  split
  · rename_i n off
    rw [blkAt_new (n := n) hp hf s]
  · rfl
  · rfl
  · rfl
theorem bytesStr_new {P : Program} {m : List Slot} {nx : Nat} (hf : m[nx]? = some .free) (s : Slot) {a b : TypeId} {p : TV} (hp : p.namesB m = true) : bytesStr P (m.set nx s) a b p = bytesStr P m a b p := by
  unfold bytesStr
  split
  · split
    · rename_i n off len cap _
      rw [blkAt_new (n := n) hp hf s]
    · rfl
    · rfl
    · rfl
  · rfl
theorem viewS_new {m : List Slot} {nx : Nat} (hf : m[nx]? = some .free) (s : Slot) {p : SV} (hp : p.namesB m = true) : viewS (m.set nx s) p = viewS m p := by
  unfold viewS
  split
  · rename_i n off len cap
    rw [blkAt_new (n := n) hp hf s]
  · rfl
theorem viewAll_new {m : List Slot} {nx : Nat} (hf : m[nx]? = some .free) (s : Slot) : ∀ {l : List SV}, l.all (SV.namesB m) = true → viewAll (m.set nx s) l = viewAll m l
  | [], _ => rfl
  | p :: l, h => by
    simp only [List.all_cons, Bool.and_eq_true] at h
    simp only [viewAll, viewS_new hf s h.1, viewAll_new hf s h.2]
theorem argsC_names {ρ : Operand → Option TV} {m : List Slot} : ∀ {l : List Operand} {out : List SV}, (∀ x ∈ l, ∀ tv, ρ x = some tv → tv.namesB m = true) → argsC ρ l = some out → out.all (SV.namesB m) = true
  | [], out, _, h => by simp [argsC] at h; subst h; rfl
  | x :: r, out, hx, h => by
    unfold argsC at h
    split at h
    · rename_i s l h1 h2
      cases h
      simp only [List.all_cons, Bool.and_eq_true]
      exact ⟨hx x (by simp) _ h1, argsC_names (fun y hy => hx y (by simp [hy])) h2⟩
    · cases h
theorem calleeC_names {cts : List Ct} {ρ : Operand → Option TV} {m : List Slot} {op : Op} (hx : ∀ x ∈ op.operands, ∀ tv, ρ x = some tv → tv.namesB m = true) {c : Ct} {vs : List SV} (h : calleeC cts ρ op = some (c, vs)) : vs.all (SV.namesB m) = true := by
  unfold calleeC at h
  split at h
  · rename_i fo args argTypes
    split at h
    · rename_i f caps vs' hf hvs
      split at h
      · cases h
        have h1 := hx fo (by simp [Op.operands, Call.operands]) _ hf
        have h2 := argsC_names (m := m) (fun x hx' => hx x (by simp [Op.operands, Call.operands, Array.mem_toList_iff.1 hx'])) hvs
        simp only [List.all_append, h2, Bool.true_and]
        simp only [TV.namesB, SV.namesB, RC.namesB] at h1
        simp only [List.all_map]
        exact h1
      · cases h
    · rename_i f caps vs' hf hvs
      split at h
      · cases h
        have h2 := argsC_names (m := m) (fun x hx' => hx x (by simp [Op.operands, Call.operands, Array.mem_toList_iff.1 hx'])) hvs
        simp only [List.all_append, h2, Bool.true_and, List.all_map]
        exact List.all_eq_true.2 fun c _ => by cases c <;> rfl
      · cases h
    · cases h
  · cases h
theorem readC_new {P : Program} {cts : List Ct} {ρ : Operand → Option TV} {m : List Slot} {nx : Nat} (hf : m[nx]? = some .free) (s : Slot) {op : Op} (hx : ∀ x ∈ op.operands, ∀ tv, ρ x = some tv → tv.namesB m = true) : readC P cts ρ (m.set nx s) op = readC P cts ρ m op := by
  cases op <;> try rfl
  case load t p =>
    simp only [readC]
    cases h : ρ p with
    | none => rfl
    | some a =>
      have ha := hx p (by simp [Op.operands]) a h
      split
      · rename_i n j hq
        cases hq
        unfold loadSeq numsAt
        rw [List.getElem?_set_ne (liveB_ne ha hf)]
      · rename_i hq
        cases hq
        rw [loadC_new hf s ha]
      · rename_i hq
        cases hq
  case convert a b x =>
    simp only [readC]
    cases h : ρ x with
    | none => rfl
    | some v =>
      have ha := hx x (by simp [Op.operands]) v h
      split
      · rename_i n len hq
        cases hq
        unfold bytesSeq
        dsimp only
        rw [seqAt_new (n := n) ha hf s]
      · rename_i n lo hi hq
        cases hq
        unfold bytesSeq
        dsimp only
        rw [seqAt_new (n := n) ha hf s]
      · rename_i hq
        cases hq
        rw [bytesStr_new hf s ha]
      · rename_i hq
        cases hq
  case call c =>
    simp only [readC, viewC]
    cases h : calleeC cts ρ (.call c) with
    | none => rfl
    | some r =>
      obtain ⟨d, vs⟩ := r
      dsimp only
      rw [viewAll_new hf s (calleeC_names hx h)]
theorem writeC_new {P : Program} {ρ : Operand → Option TV} {m : List Slot} {nx : Nat} (hf : m[nx]? = some .free) (s : Slot) {op : Op} (hx : ∀ x ∈ op.operands, ∀ tv, ρ x = some tv → tv.namesB m = true) : writeC P ρ (m.set nx s) op = writeC P ρ m op := by
  cases op <;> try rfl
  case store t p x =>
    simp only [writeC]
    cases h : ρ p with
    | none => rfl
    | some a =>
      have ha := hx p (by simp [Op.operands]) a h
      cases h' : ρ x with
      | none => rfl
      | some b =>
        dsimp only
        unfold storeC
        split
        · rename_i n off vs hv
          rw [blkAt_new (n := n) ha hf s]
        · rfl

def RC.names : RC → List Nat
  | .ptr n _ => [n]
  | .slc n _ _ _ => [n]
  | .fn _ caps => caps.map (·.1)
  | .sq n _ => [n]
  | .sqs n _ _ => [n]
  | .sqp n _ => [n]
  | _ => []
def SV.names : SV → List Nat
  | .one c => c.names
  | .agg cs => cs.flatMap RC.names
def TV.names : TV → List Nat
  | .sv s => s.names
  | .tup ss => ss.flatMap SV.names
theorem RC.names_all (m : List Slot) (c : RC) : c.namesB m = c.names.all (liveB m) := by
  cases c <;> simp [RC.names, RC.namesB, List.all_map]; rfl
theorem SV.names_all (m : List Slot) (c : SV) : c.namesB m = c.names.all (liveB m) := by
  cases c with
  | one c => exact RC.names_all m c
  | agg cs => simp only [SV.names, SV.namesB, List.all_flatMap, show RC.namesB m = fun a => a.names.all (liveB m) from funext (RC.names_all m)]
theorem TV.names_all (m : List Slot) (c : TV) : c.namesB m = c.names.all (liveB m) := by
  cases c with
  | sv c => exact SV.names_all m c
  | tup cs => simp only [TV.names, TV.namesB, List.all_flatMap, show SV.namesB m = fun a => a.names.all (liveB m) from funext (SV.names_all m)]
def opNames (ρ : Operand → Option TV) (op : Op) : List Nat := op.operands.toList.flatMap fun x => match ρ x with
  | some tv => tv.names
  | none => []
theorem opNames_congr {ρ ρ' : Operand → Option TV} {op : Op} (h : ∀ x ∈ op.operands, ρ x = ρ' x) : opNames ρ op = opNames ρ' op := by
  have hl : ∀ x ∈ op.operands.toList, ρ x = ρ' x := fun x hx => h x (by simpa using hx)
  unfold opNames
  generalize op.operands.toList = l at hl
  induction l with
  | nil => rfl
  | cons x l ih =>
    simp only [List.flatMap_cons, hl x (by simp)]
    rw [ih fun y hy => hl y (by simp [hy])]
/-- Where may the names in a value come from? From what was there ahead of the region, from what the operation looks at, from itself. -/
def okNames (P : Program) (cts : List Ct) (m0 : List Slot) (ρ : Operand → Option TV) (nm : Nat) (op : Op) (tv : TV) (m' : List Slot) : Bool :=
  match cls P cts op with
  | .app => true
  | .call => tv.namesB m'
  | .nw => tv.names.all fun n => liveB m0 n || (n == nm || (opNames ρ op).contains n)
  | _ => tv.names.all fun n => liveB m0 n || (opNames ρ op).contains n
theorem okNames_congr {P : Program} {cts : List Ct} {m0 : List Slot} {ρ ρ' : Operand → Option TV} {nm : Nat} {op : Op} {tv : TV} {m' : List Slot} (h : ∀ x ∈ op.operands, ρ x = ρ' x) : okNames P cts m0 ρ nm op tv m' = okNames P cts m0 ρ' nm op tv m' := by
  simp only [okNames, opNames_congr h]
theorem opNames_live {ρ : Operand → Option TV} {op : Op} {m : List Slot} (h : ∀ x ∈ op.operands, ∀ tv, ρ x = some tv → tv.namesB m = true) {n : Nat} (hn : n ∈ opNames ρ op) : liveB m n = true := by
  unfold opNames at hn
  obtain ⟨x, hx, h1⟩ := List.mem_flatMap.1 hn
  cases hr : ρ x with
  | none => rw [hr] at h1; simp at h1
  | some tv =>
    rw [hr] at h1
    have := h x (by simpa using hx) tv hr
    rw [TV.names_all, List.all_eq_true] at this
    exact this n h1
theorem appC_names {P : Program} {ρ : Operand → Option TV} {nm : Nat} {m m' : List Slot} {op : Op} {tv : TV} (hx : ∀ x ∈ op.operands, ∀ tv, ρ x = some tv → tv.namesB m = true) (h : appC P ρ nm m op = some (tv, m')) : tv.namesB m' = true := by
  have hmono := appC_mono h
  unfold appC at h
  split at h
  · rename_i args argTypes
    split at h
    · rename_i s x t u hargs htypes
      split at h
      · rename_i el ud sv news ht hu hs hx' hfree
        have hsv : sv.namesB m = true := hx s (by
          have : s ∈ args.toList := by rw [hargs]; simp
          simpa [Op.operands, Call.operands] using this) sv hs
        have hlt : nm < m.length := by
          rcases Nat.lt_or_ge nm m.length with h' | h'
          · exact h'
          · rw [List.getElem?_eq_none h'] at hfree; cases hfree
        have hset : ∀ (k : List Slot) (t : TypeId) (cs : List RC), k.length = m.length → liveB (k.set nm (.blk t cs)) nm = true := by
          intro k t cs hk
          unfold liveB
          rw [List.getElem?_set_self (by omega)]
          rfl
        repeat' split at h
        all_goals first
          | (cases h; done)
          | (cases h; exact TV.namesB_mono hmono hsv)
          | (cases h; exact hset _ _ _ (by simp))
          | (cases h; exact TV.namesB_mono hmono hsv)
      · cases h
    · cases h
  · cases h
theorem appS_names {P : Program} {ρ : Operand → Option TV} {nm : Nat} {m m' : List Slot} {op : Op} {need : List Prop} {tv : TV} (h : appS P ρ nm m op = some (need, tv, m')) : tv.namesB m' = true := by
  unfold appS at h
  split at h <;> try (cases h; done)
  split at h <;> try (cases h; done)
  split at h <;> try (cases h; done)
  rename_i hfree
  split at h <;> try (cases h; done)
  rename_i o L _ _ _
  split at h <;> try (cases h; done)
  cases h
  have hlt : nm < (killO m o).length := by
    have := slot_lt hfree
    cases o with
    | none => exact this
    | some n => simpa [killO] using this
  show liveB _ nm = true
  unfold liveB
  rw [List.getElem?_set_self hlt]
  rfl
theorem copyC_names {P : Program} {ρ : Operand → Option TV} {m m' : List Slot} {op : Op} {need : List Prop} {tv : TV} (h : copyC P ρ m op = some (need, tv, m')) : tv.namesB m' = true := by
  unfold copyC at h
  repeat' split at h
  all_goals first
    | (cases h; done)
    | (cases h; rfl)
theorem builtC_names {P : Program} {ρ : Operand → Option TV} {nm : Nat} {m m' : List Slot} {op : Op} {need : List Prop} {tv : TV} (hx : ∀ x ∈ op.operands, ∀ tv, ρ x = some tv → tv.namesB m = true) (h : builtC P ρ nm m op = some (need, tv, m')) : tv.namesB m' = true := by
  unfold builtC at h
  split at h
  · rename_i tv' m1 ha
    cases h
    exact appC_names hx ha
  · split at h
    · rename_i r ha
      cases h
      exact appS_names ha
    · exact copyC_names h
/-- What an operation's value leads to is there behind it. -/
theorem okNames_is {P : Program} {cts : List Ct} {m0 m m' : List Slot} {ρ : Operand → Option TV} {nm : Nat} {op : Op} {need : List Prop} {tv : TV} (h0 : Mono m0 m) (hx : ∀ x ∈ op.operands, ∀ tv, ρ x = some tv → tv.namesB m = true)
    (h : step P cts ρ nm m op = some (need, tv, m')) (hok : okNames P cts m0 ρ nm op tv m' = true) : tv.namesB m' = true := by
  have hmono := step_mono h
  have hin : ∀ n, liveB m0 n = true ∨ n ∈ opNames ρ op → liveB m' n = true := by
    rintro n (hn | hn)
    · exact liveB_mono (h0.trans hmono) hn
    · exact liveB_mono hmono (opNames_live hx hn)
  unfold okNames at hok
  unfold step at h
  generalize cls P cts op = c at *
  cases c <;> dsimp only at h hok
  case app =>
    exact builtC_names hx h
  case call => exact hok
  case nw =>
    rw [TV.names_all, List.all_eq_true]
    rw [List.all_eq_true] at hok
    intro n hn
    have := hok n hn
    simp only [Bool.or_eq_true, List.contains_iff_mem, beq_iff_eq] at this
    rcases this with h1 | h1 | h1
    · exact hin n (.inl h1)
    · subst h1
      split at h
      · rename_i tv' sl hf hmk
        cases h
        unfold liveB
        rw [List.getElem?_set_self (slot_lt hf)]
        simp [isFree_live (makeC_live hmk)]
      · cases h
    · exact hin n (.inr h1)
  all_goals
    rw [TV.names_all, List.all_eq_true]
    rw [List.all_eq_true] at hok
    intro n hn
    have := hok n hn
    simp only [Bool.or_eq_true, List.contains_iff_mem] at this
    exact hin n this

theorem mem_swap {P : Program} {cts : List Ct} {fx : List (Nat × Nat)} {ρ ρ' : Operand → Option TV} {x y : Op} (hl : Leads fx ρ) (hl' : Leads fx ρ') (hok : memOk P cts fx x y = true) {nx ny : Nat} (hne : cls P cts x = .nw → cls P cts y = .nw → nx ≠ ny) {m m1 m2 : List Slot} {n1 n2 : List Prop} {v1 v2 : TV} (hshut : ∀ z ∈ y.operands, ∀ tv, ρ' z = some tv → tv.namesB m = true)
    (h1 : step P cts ρ nx m x = some (n1, v1, m1)) (h2 : step P cts ρ' ny m1 y = some (n2, v2, m2)) :
    ∃ m', step P cts ρ' ny m y = some (n2, v2, m') ∧ step P cts ρ nx m' x = some (n1, v1, m2) := by
  unfold step at h1 h2 ⊢
  unfold memOk at hok
  have hfar : farB fx x y = true → ∃ n k, n ≠ k ∧ (placeT x).bind (fx.lookup ·) = some n ∧ (placeT y).bind (fx.lookup ·) = some k := by
    intro hf
    unfold farB at hf
    split at hf
    · rename_i n k e1 e2
      exact ⟨n, k, by simpa using hf, e1, e2⟩
    · cases hf
  have hrx : ∀ {n : Nat}, (placeT x).bind (fx.lookup ·) = some n → cls P cts x = .rd → ∀ {m m' : List Slot}, m'[n]? = m[n]? → readC P cts ρ m' x = readC P cts ρ m x := fun hp hc _ _ h => readC_far hl hp h hc
  have hry : ∀ {n : Nat}, (placeT y).bind (fx.lookup ·) = some n → cls P cts y = .rd → ∀ {m m' : List Slot}, m'[n]? = m[n]? → readC P cts ρ' m' y = readC P cts ρ' m y := fun hp hc _ _ h => readC_far hl' hp h hc
  have hwx : ∀ {n : Nat}, (placeT x).bind (fx.lookup ·) = some n → cls P cts x = .wr → ∀ {m m' : List Slot}, m'[n]? = m[n]? → writeC P ρ m' x = writeC P ρ m x ∧ ∀ k t cs, writeC P ρ m x = some (k, t, cs) → k = n := fun hp hc _ _ h => writeC_far hl hp h hc
  have hwy : ∀ {n : Nat}, (placeT y).bind (fx.lookup ·) = some n → cls P cts y = .wr → ∀ {m m' : List Slot}, m'[n]? = m[n]? → writeC P ρ' m' y = writeC P ρ' m y ∧ ∀ k t cs, writeC P ρ' m y = some (k, t, cs) → k = n := fun hp hc _ _ h => writeC_far hl' hp h hc
  generalize cls P cts x = cx at *
  generalize cls P cts y = cy at *
  cases cx <;> dsimp only at h1 ⊢
  case comp =>
    cases hp : valC P cts ρ x with
    | none => rw [hp] at h1; cases h1
    | some r =>
      obtain ⟨a, b⟩ := r
      rw [hp] at h1; cases h1
      exact ⟨m2, h2, rfl⟩
  all_goals (cases cy <;> dsimp only at h2 hok ⊢ <;> try (cases hok; done))
  case rd.comp | wr.comp | nw.comp | call.comp | app.comp =>
    cases hp : valC P cts ρ' y with
    | none => rw [hp] at h2; cases h2
    | some r =>
      obtain ⟨a, b⟩ := r
      rw [hp] at h2; cases h2
      exact ⟨m, rfl, h1⟩
  case rd.rd =>
    cases hp : readC P cts ρ m x with
    | none => rw [hp] at h1; cases h1
    | some r =>
      obtain ⟨nd, tv⟩ := r
      rw [hp] at h1; cases h1
      cases hq : readC P cts ρ' m y with
      | none => rw [hq] at h2; cases h2
      | some r' =>
        obtain ⟨nd', tv'⟩ := r'
        rw [hq] at h2; cases h2
        exact ⟨m, rfl, by rw [hp]⟩
  case rd.nw =>
    cases hp : readC P cts ρ m x with
    | none => rw [hp] at h1; cases h1
    | some r =>
      obtain ⟨nd, tv0⟩ := r
      rw [hp] at h1; cases h1
      split at h2
      · rename_i tv s hf hn
        cases h2
        exact ⟨_, rfl, by rw [readC_le (MemLe.new hf s) hp]⟩
      · cases h2
  case nw.nw =>
    split at h1
    · rename_i tv s hf hn
      cases h1
      split at h2
      · rename_i tv' s' hf' hn'
        cases h2
        have hne' : nx ≠ ny := hne rfl rfl
        rw [List.getElem?_set_ne hne'] at hf'
        refine ⟨m.set ny s', by rw [hf', hn'], ?_⟩
        rw [List.getElem?_set_ne (Ne.symm hne'), hf, hn]
        dsimp only
        rw [List.set_comm _ _ (Ne.symm hne')]
      · cases h2
    · cases h1
  case nw.rd =>
    split at h1
    · rename_i tv s hf hn
      cases h1
      rw [readC_new hf _ hshut] at h2
      split at h2
      · rename_i nd' tv' hr
        cases h2
        exact ⟨m, rfl, by rw [hf, hn]⟩
      · cases h2
    · cases h1
  case nw.wr =>
    split at h1
    · rename_i tv s hf hn
      cases h1
      rw [writeC_new hf _ hshut] at h2
      split at h2
      · rename_i n t' cs' hw
        cases h2
        obtain ⟨⟨t0, cs0, hn0⟩, _⟩ := writeC_at hw
        have hne' : n ≠ nx := fun e => by subst e; rw [hf] at hn0; cases hn0
        refine ⟨m.set n (.blk t' cs'), rfl, ?_⟩
        rw [List.getElem?_set_ne hne', hf, hn]
        dsimp only
        rw [List.set_comm _ _ hne']
      · cases h2
    · cases h1
  case rd.wr =>
    obtain ⟨n, k, hnk, hx, hy⟩ := hfar hok
    cases hp : readC P cts ρ m x with
    | none => rw [hp] at h1; cases h1
    | some r =>
      obtain ⟨nd, tv0⟩ := r
      rw [hp] at h1; cases h1
      cases hw : writeC P ρ' m y with
      | none => rw [hw] at h2; cases h2
      | some r' =>
        obtain ⟨n', t, cs⟩ := r'
        rw [hw] at h2; cases h2
        have hk := (hwy hy rfl (m := m) (m' := m) rfl).2 _ _ _ hw
        subst hk
        exact ⟨_, rfl, by rw [hrx hx rfl (m := m) (List.getElem?_set_ne (Ne.symm hnk)), hp]⟩
  case wr.rd =>
    obtain ⟨n, k, hnk, hx, hy⟩ := hfar hok
    cases hw : writeC P ρ m x with
    | none => rw [hw] at h1; cases h1
    | some r =>
      obtain ⟨n', t, cs⟩ := r
      rw [hw] at h1; cases h1
      have hk := (hwx hx rfl (m := m) (m' := m) rfl).2 _ _ _ hw
      subst hk
      rw [hry hy rfl (m := m) (List.getElem?_set_ne hnk)] at h2
      cases hp : readC P cts ρ' m y with
      | none => rw [hp] at h2; cases h2
      | some r' =>
        obtain ⟨nd', tv'⟩ := r'
        rw [hp] at h2; cases h2
        exact ⟨m, rfl, by rw [hw]⟩
  case wr.wr =>
    obtain ⟨n, k, hnk, hx, hy⟩ := hfar hok
    cases hw : writeC P ρ m x with
    | none => rw [hw] at h1; cases h1
    | some r =>
      obtain ⟨n', t, cs⟩ := r
      rw [hw] at h1; cases h1
      have hk := (hwx hx rfl (m := m) (m' := m) rfl).2 _ _ _ hw
      subst hk
      rw [(hwy hy rfl (m := m) (List.getElem?_set_ne hnk)).1] at h2
      cases hv : writeC P ρ' m y with
      | none => rw [hv] at h2; cases h2
      | some r' =>
        obtain ⟨k', t', cs'⟩ := r'
        rw [hv] at h2; cases h2
        have hk' := (hwy hy rfl (m := m) (m' := m) rfl).2 _ _ _ hv
        subst hk'
        refine ⟨_, rfl, ?_⟩
        rw [(hwx hx rfl (m := m) (List.getElem?_set_ne (Ne.symm hnk))).1, hw]
        dsimp only
        rw [List.set_comm _ _ hnk]
  case wr.nw =>
    cases hw : writeC P ρ m x with
    | none => rw [hw] at h1; cases h1
    | some r =>
      obtain ⟨n, t, cs⟩ := r
      rw [hw] at h1; cases h1
      obtain ⟨⟨t0, cs0, hn0⟩, hsame⟩ := writeC_at hw
      split at h2
      · rename_i tv' s' hf' hn'
        cases h2
        have hlt : n < m.length := by
          rcases Nat.lt_or_ge n m.length with h' | h'
          · exact h'
          · rw [List.getElem?_eq_none h'] at hn0; cases hn0
        have hne' : n ≠ ny := by
          intro e; subst e
          rw [List.getElem?_set_self hlt] at hf'; cases hf'
        rw [List.getElem?_set_ne hne'] at hf'
        refine ⟨m.set ny s', by rw [hf', hn'], ?_⟩
        rw [hsame (m.set ny s') (List.getElem?_set_ne (Ne.symm hne'))]
        dsimp only
        rw [List.set_comm _ _ (Ne.symm hne')]
      · cases h2

end Go.Proofs.Ytihmhnfjdkkbgaa.RX
