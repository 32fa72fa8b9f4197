/- The abstract machine: code, loops, calls, regions that draw. -/
import Derived.Test.YtdkcpdmpdpglbaaGreatDoorAb2
import Derived.RangeFuncRecord
import Derived.OrdersIn
set_option autoImplicit false
set_option linter.unusedVariables false
set_option linter.unusedSimpArgs false
set_option linter.unnecessarySimpa false
/-! Operations within regions. -/
namespace Go.Ab

/-- the translation, as a relation -/
abbrev CRt (P : Program) : Code → AC → Prop := fun c a => trC P c = some a
def fw (r : Option Nat) : Fence := { Fence.wide with round := r }
theorem fw_none : fw none = Fence.wide := rfl
theorem fw_inRound (l : Nat) : (fw none).inRound l = fw (some l) := rfl
theorem callsIn_fw {r : Option Nat} {n : Nat} {P : Program} {f : FuncId} {args : Array Value} {w : World} {R : Ending → World → Prop} : CallsIn (fw r) n P f args w R = CallsIn (fw none) n P f args w R := rfl
theorem roundIn_fw {r : Option Nat} {n : Nat} {P : Program} {l : Nat} {f : FuncId} {tmps : Array Value} {a b : Code} {w : World} {R : Ending → World → Prop} : RoundIn (fw r) n P l f tmps a b w R = RoundIn (fw none) n P l f tmps a b w R := rfl
theorem fw_fn {r : Option Nat} {f : FuncId} : (fw r).fn f := trivial
theorem fw_depth {r : Option Nat} : (fw r).depth = none := rfl

variable {P : Program} {θ θ' : Th} {s s' : St} {w w' : World}

/-- the globals have their own names -/
def Glob (P : Program) (θ : Th) : Prop := ∀ g, g < P.globals.size → θ.dom g ∧ θ.blk g = g ∧ θ.off g = 0
theorem Glob.le (h : Glob P θ) (hl : θ.Le θ') : Glob P θ' := fun g hg =>
  ⟨hl.dom g (h g hg).1, (hl.blk g (h g hg).1).trans (h g hg).2.1, (hl.off g (h g hg).1).trans (h g hg).2.2⟩

section
variable {nt : Nat} {t : Tm} {a : Act}

theorem evalO_sound (hg : Glob P θ) (ht : TRel θ nt t a.tmps) {x : Operand} {o : Opd} {v : AV} (ho : opd P x = some o) (hv : evalO t o = some v) : a.eval x = conc θ v ∧ wf θ v := by
  cases x with
  | tmp n =>
    simp [opd] at ho
    subst ho
    simp [evalO] at hv
    have h1 := ht.at' n v hv
    exact ⟨by simp [Act.eval, Array.getD_eq_getD_getElem?, h1], ht.wf n v hv⟩
  | const c =>
    simp only [opd] at ho
    cases hc : av c with
    | none => simp [hc] at ho
    | some u =>
      simp [hc] at ho
      subst ho
      simp [evalO] at hv
      subst hv
      have := conc_av (θ := θ) hc
      exact ⟨by simp [Act.eval, this.1], this.2⟩
  | global g =>
    simp only [opd] at ho
    by_cases h : g < P.globals.size
    · simp [h] at ho
      subst ho
      simp [evalO] at hv
      subst hv
      obtain ⟨h1, h2, h3⟩ := hg g h
      exact ⟨by simp [Act.eval, conc, h2, h3], by simpa [wf] using h1⟩
    · simp [h] at ho
  | func f =>
    simp [opd] at ho
    subst ho
    simp [evalO] at hv
    subst hv
    exact ⟨by simp [Act.eval, conc, concL], by simp [wf, wfL]⟩

theorem evals_sound (hg : Glob P θ) (ht : TRel θ nt t a.tmps) : ∀ {xs : List Operand} {os : List Opd} {vs : List AV}, opds P xs = some os → evals t os = some vs → xs.map a.eval = concL θ vs ∧ wfL θ vs
  | [], os, vs, ho, hv => by
    simp [opds] at ho
    subst ho
    simp [evals] at hv
    subst hv
    exact ⟨rfl, trivial⟩
  | x :: xs, os, vs, ho, hv => by
    simp only [opds] at ho
    cases h1 : opd P x with
    | none => simp [h1] at ho
    | some o =>
      cases h2 : opds P xs with
      | none => simp [h1, h2] at ho
      | some os' =>
        simp [h1, h2] at ho
        subst ho
        simp only [evals] at hv
        cases h3 : evalO t o with
        | none => simp [h3] at hv
        | some v =>
          cases h4 : evals t os' with
          | none => simp [h3, h4] at hv
          | some vs' =>
            simp [h3, h4] at hv
            subst hv
            obtain ⟨e1, w1⟩ := evalO_sound hg ht h1 h3
            obtain ⟨e2, w2⟩ := evals_sound hg ht h2 h4
            exact ⟨by simp [concL, e1, e2], w1, w2⟩

theorem putD_sound (ht : TRel θ nt t a.tmps) {d : Option Nat} {v : AV} {t' : Tm} (h : putD nt t d v = some t') (hw : wf θ v) : TRel θ nt t' (a.put d (conc θ v)).tmps := by
  unfold putD at h
  cases d with
  | none => simp at h; subst h; exact ht
  | some d =>
    simp only [nble] at h
    by_cases hd : d + 1 ≤ nt
    · simp [hd] at h
      subst h
      refine ⟨by simp [Act.put, ht.size], ?_, ?_⟩
      · intro k u hu
        rw [Tr.get_put] at hu
        simp only [Act.put, Array.getElem?_setIfInBounds, ht.size]
        by_cases e : k = d
        · subst e
          simp at hu
          subst hu
          have : k < nt := by omega
          simp [this]
        · simp [e] at hu
          simp [Ne.symm e, ht.at' k u hu]
      · intro k u hu
        rw [Tr.get_put] at hu
        by_cases e : k = d
        · simp [e] at hu; subst hu; exact hw
        · simp [e] at hu; exact ht.wf k u hu
    · simp [hd] at h

theorem guard_sound (ht : TRel θ nt t a.tmps) {ops : Array Oper} {o : Oper} {g : Option (Nat × Bool)} {b : Bool} (hgd : guardOf ops o.guard = some g) (hv : guardV t g = some b) :
    Region.wanted o (yielded ops a.tmps) = b := by
  unfold guardOf at hgd
  cases ho : o.guard with
  | none =>
    simp [ho] at hgd
    subst hgd
    simp [guardV] at hv
    subst hv
    simp [Region.wanted, ho]
  | some jw =>
    obtain ⟨j, want⟩ := jw
    simp only [ho] at hgd
    cases hd : (ops[j]?).bind (·.dst) with
    | none => simp [hd] at hgd
    | some d =>
      simp [hd] at hgd
      subst hgd
      simp only [guardV] at hv
      cases hg : t.get d with
      | none => simp [hg] at hv
      | some u =>
        have h1 := ht.at' d u hg
        simp only [Region.wanted, ho, yielded, hd, Option.bind_some, h1]
        cases u <;> simp [hg] at hv
        · rename_i b'
          subst hv
          simp only [conc]
          cases b' <;> cases want <;> rfl
        · subst hv
          simp [conc]
end

/-- what a call ends in -/
def Post (P : Program) (θ : Th) (s : St) (w : World) (v : AV) (s' : St) : Ending → World → Prop
  | .returned x, w' => ∃ θ', x = conc θ' v ∧ wf θ' v ∧ HRel P (CRt P) θ' s' w' ∧ FRel θ s w θ' s' w'
  | _, _ => False

/-- a call, entered or done at once -/
def CallDone (P : Program) (m : Nat) (f : FuncId) (args : Array Value) (w : World) (R : Ending → World → Prop) : Prop :=
  ((callFunc f args).run P w = .ok (.enter f args) w ∧ CallsIn (fw none) m P f args w R) ∨ (∃ v w1, (callFunc f args).run P w = .ok (.value v) w1 ∧ R (.returned v) w1)

section
variable {o : Oper} {ρ : Operand → Value} {k : OpK} {xs : List Operand} {l : List AV} {v : AV}

/-- what an operation does -/
def OpRes (P : Program) (θ : Th) (s : St) (w : World) (r : Result Next) : R → Prop
  | .val v s' => Does P (CRt P) θ s w r v s'
  | .call f as => r = (callFunc f (concL θ as).toArray).run P w ∧ wfL θ as
  | .yield id as => r = (Instr.yield (θ.blk id) (concL θ as).toArray).run P w ∧ wfL θ as ∧ θ.dom id

theorem asCall_sound {fv : AV} {as : List AV} {r : R} (h : asCall fv as = some r) (hf : wf θ fv) (hw : wfL θ as) :
    (∃ f l, r = .call f l ∧ (∀ w, (do let d ← Deferred.ofValue (conc θ fv) (concL θ as).toArray; invoke d.target d.args : Sem Next).run P w = (callFunc f (concL θ l).toArray).run P w) ∧ wfL θ l) ∨
    (∃ id, r = .yield id as ∧ (∀ w, (do let d ← Deferred.ofValue (conc θ fv) (concL θ as).toArray; invoke d.target d.args : Sem Next).run P w = (Instr.yield (θ.blk id) (concL θ as).toArray).run P w) ∧ θ.dom id) := by
  unfold asCall at h
  split at h
  · rename_i f first captured
    simp at h
    subst h
    simp only [wf] at hf
    refine .inl ⟨f, _, rfl, ?_, ?_⟩
    · intro w; simp [conc, Deferred.ofValue, invoke, appL_eq, concL_append]
    · simp only [appL_eq]
      exact wfL_append hf.1 (wfL_append hw hf.2)
  · rename_i id
    simp at h
    subst h
    simp only [wf] at hf
    refine .inr ⟨id, rfl, ?_, hf⟩
    intro w; simp [conc, Deferred.ofValue, invoke]
  · cases h

theorem appendA_val {e z b n : Nat} {d : AV} {new : List AV} {r : R} (h : appendA s e z b d n new = some r) : ∃ v s', r = .val v s' := by
  unfold appendA at h
  cases r with
  | val v s' => exact ⟨v, s', rfl⟩
  | _ =>
    exfalso
    simp only [Bool.cond_eq_ite] at h
    repeat' split at h
    all_goals simp_all

theorem aeff_kind {r : R} (h : aeff s k l = some r) : (∃ v s', r = .val v s') ∨ (∃ f, k = .call f ∧ r = .call f l) ∨ (k = .callv ∧ ∃ fv l', l = fv :: l' ∧ asCall fv l' = some r) := by
  cases r with
  | val v s' => exact .inl ⟨v, s', rfl⟩
  | call f as =>
    right
    unfold aeff at h
    split at h
    all_goals (try (simp only [Option.some.injEq] at h; first | (left; exact ⟨_, rfl, h.symm⟩) | skip))
    all_goals first
      | (right; exact ⟨rfl, _, _, rfl, h⟩)
      | (exfalso
         try simp only [Bool.cond_eq_ite] at h
         repeat' split at h
         all_goals first
           | (cases h; done)
           | (obtain ⟨v, s', e⟩ := appendA_val h; cases e; done))
  | yield id as =>
    right
    unfold aeff at h
    split at h
    all_goals first
      | (right; exact ⟨rfl, _, _, rfl, h⟩)
      | (exfalso
         try simp only [Bool.cond_eq_ite] at h
         repeat' split at h
         all_goals first
           | (cases h; done)
           | (obtain ⟨v, s', e⟩ := appendA_val h; cases e; done))

theorem trOp_call (htr : trOp P o = some (k, xs)) (hk : (∃ f, k = .call f) ∨ k = .callv) :
    ∃ c, o.op = .call c ∧ ((∃ f, c.callee = .value (.func f) ∧ k = .call f ∧ xs = c.args.toList) ∨ (∃ f, c.callee = .value f ∧ k = .callv ∧ xs = f :: c.args.toList)) := by
  cases ho : o.op with
  | call c =>
    refine ⟨c, rfl, ?_⟩
    cases hb : c.callee with
    | value f =>
      cases f <;> simp [trOp, ho, hb] at htr <;> obtain ⟨rfl, rfl⟩ := htr <;> simp
    | invoke a b => simp [trOp, ho, hb] at htr
    | builtin b =>
      exfalso
      simp only [trOp, ho, hb] at htr
      unfold trBuiltin at htr
      repeat' split at htr
      all_goals first
        | (cases htr; done)
        | (simp only [Option.some.injEq, Prod.mk.injEq] at htr; obtain ⟨rfl, _⟩ := htr; simp at hk; done)
  | makeFunc fn a b => exfalso; cases fn <;> simp [trOp, ho] at htr; obtain ⟨rfl, _⟩ := htr; simp at hk
  | makeMap t r => exfalso; cases r <;> simp [trOp, ho] at htr; obtain ⟨rfl, _⟩ := htr; simp at hk
  | next x b => exfalso; cases b <;> simp [trOp, ho] at htr; obtain ⟨rfl, _⟩ := htr; simp at hk
  | _ =>
    exfalso
    simp only [trOp, ho] at htr
    try simp only [trEq] at htr
    repeat' split at htr
    all_goals first
      | (cases htr; done)
      | (simp only [Option.some.injEq, Prod.mk.injEq] at htr; obtain ⟨rfl, _⟩ := htr; simp at hk; done)

theorem op_sound (htr : trOp P o = some (k, xs)) (hx : xs.map ρ = concL θ l) (hw : wfL θ l) (hp : HRel P (CRt P) θ s w) (hcon : ∀ v, ρ (.const v) = v) (hfun : ∀ f, ρ (.func f) = .func (.func f) #[] #[])
    {r : R} (hr : aop s k l = some r) : OpRes P θ s w ((execOp ρ o).run P w) r := by
  unfold aop at hr
  cases h1 : aread s k l with
  | some v =>
    simp [h1] at hr
    subst hr
    obtain ⟨e, hv⟩ := read_sound htr hx hw hp hcon h1
    exact ⟨θ, w, .inl e, hp, FRel.refl _ _ _, hv⟩
  | none =>
    simp only [h1] at hr
    cases h2 : aalloc k l with
    | some om =>
      obtain ⟨ob, mk⟩ := om
      simp [h2] at hr
      subst hr
      obtain ⟨cob, c, w', hm, hall⟩ := alloc_sound (CR := CRt P) (w := w) htr hx hw h2
      obtain ⟨e, hv, ho⟩ := hall s.next (fun hd => Nat.lt_irrefl _ (hp.lt _ hd))
      have := hp.mkNew hm c ob ho
      exact ⟨_, w', .inl e, this.1, this.2, hv⟩
    | none =>
      simp only [h2] at hr
      rcases aeff_kind hr with ⟨v, s', rfl⟩ | ⟨f, rfl, rfl⟩ | ⟨rfl, fv, l', rfl, hc⟩
      · exact eff_sound htr hx hw hp hr
      · obtain ⟨c, ho, ⟨f', hb, hk, hxs⟩ | ⟨f', hb, hk, hxs⟩⟩ := trOp_call htr (.inl ⟨f, rfl⟩)
        · simp at hk
          subst hk; subst hxs
          refine ⟨?_, hw⟩
          have harr : c.args.map ρ = (concL θ l).toArray := by rw [arrayMap rfl, hx]
          simp [execOp, ho, resolve, hb, hfun, Deferred.ofValue, invoke, harr]
        · simp at hk
      · obtain ⟨c, ho, ⟨f', hb, hk, hxs⟩ | ⟨f', hb, hk, hxs⟩⟩ := trOp_call htr (.inr rfl)
        · simp at hk
        · subst hxs
          obtain ⟨y, ys, hl, hy, hys⟩ := mapc hx
          simp at hl
          obtain ⟨rfl, rfl⟩ := hl
          simp only [wfL] at hw
          have harr : c.args.map ρ = (concL θ l').toArray := by rw [arrayMap rfl, hys]
          have hex : execOp ρ o = (do let d ← Deferred.ofValue (conc θ fv) (concL θ l').toArray; invoke d.target d.args) := by
            simp [execOp, ho, resolve, hb, hy, harr]
          rw [hex]
          rcases asCall_sound (P := P) hc hw.1 hw.2 with ⟨f, as, rfl, e, hwa⟩ | ⟨id, rfl, e, hd⟩
          · exact ⟨e w, hwa⟩
          · exact ⟨e w, hw.2, hd⟩

theorem not_defer (htr : trOp P o = some (k, xs)) : ∀ c, o.op ≠ .defer c := by
  intro c ho
  simp [trOp, ho] at htr
end
end Go.Ab
/-! Code. -/
namespace Go.Ab
variable {P : Program} {θ θ' θ'' : Th} {s s' s'' : St} {w w' w'' : World}

def markOf (θ : Th) (i : Nat) : Deferred := { target := .collected (θ.blk i), args := #[] }

structure CRes (P : Program) (θ : Th) (s : St) (w : World) (a : Act) (nt : Nat) (t' : Tm) (s' : St) (θ' : Th) (a' : Act) (w' : World) : Prop where
  tmps : TRel θ' nt t' a'.tmps
  heap : HRel P (CRt P) θ' s' w'
  frm : FRel θ s w θ' { s' with dfr := s.dfr } w'
  dfr : ∃ new, s'.dfr = new ++ s.dfr ∧ a'.defers = new.map (markOf θ') ++ a.defers ∧ ∀ i ∈ new, θ'.dom i

theorem HRel.dfrs {CR : Code → AC → Prop} (h : HRel P CR θ s w) (d : List Nat) : HRel P CR θ { s with dfr := d } w := ⟨h.dom, h.obj, h.lt, h.apart⟩
theorem FRel.dfrs {d d' : List Nat} (h : FRel θ s w θ' s' w') : FRel θ { s with dfr := d } w θ' { s' with dfr := d } w' :=
  ⟨h.le, h.next, h.fresh, h.tape, h.os, h.output, h.size, h.frame, h.wher, h.ro, rfl, h.new⟩
theorem CRes.refl {a : Act} {nt : Nat} {t : Tm} (ht : TRel θ nt t a.tmps) (hp : HRel P (CRt P) θ s w) : CRes P θ s w a nt t s θ a w :=
  ⟨ht, hp, FRel.refl _ _ _, [], rfl, rfl, by simp⟩
theorem markOf_le (hl : θ.Le θ') {l : List Nat} (h : ∀ i ∈ l, θ.dom i) : l.map (markOf θ') = l.map (markOf θ) :=
  List.map_congr_left fun i hi => by simp [markOf, hl.blk i (h i hi)]
theorem CRes.trans {a a' a'' : Act} {nt : Nat} {t' t'' : Tm} (hp : HRel P (CRt P) θ s w) (h : CRes P θ s w a nt t' s' θ' a' w') (k : CRes P θ' s' w' a' nt t'' s'' θ'' a'' w'') :
    CRes P θ s w a nt t'' s'' θ'' a'' w'' := by
  obtain ⟨n1, e1, e2, e3⟩ := h.dfr
  obtain ⟨n2, f1, f2, f3⟩ := k.dfr
  refine ⟨k.tmps, k.heap, ?_, n2 ++ n1, by rw [f1, e1, List.append_assoc], ?_, ?_⟩
  · have h1 := h.frm
    have h2 : FRel θ' { s' with dfr := s.dfr } w' θ'' { s'' with dfr := s.dfr } w'' := by
      have := k.frm
      exact ⟨this.le, this.next, this.fresh, this.tape, this.os, this.output, this.size, this.frame, this.wher, this.ro, rfl, this.new⟩
    exact hp.trans_frame h1 h2
  · rw [f2, e2, List.map_append, List.append_assoc, markOf_le k.frm.le e3]
  · intro i hi
    rcases List.mem_append.1 hi with hi | hi
    · exact f3 i hi
    · exact k.frm.le.dom i (e3 i hi)

structure COk (P : Program) (C : Ctx) : Prop where
  fns : ∀ f a, C.fns.get f = some a → ∃ fn, P.funcs[f]? = some fn ∧ trFn P fn = some a
  intr : ∀ f g, C.intr f = some g → ∀ args s v s' θ w, g args s = some (v, s') → HRel P (CRt P) θ s w → wfL θ args → Glob P θ →
    CallDone P 0 f (concL θ args).toArray w (Post P θ s w v s')

def exOf : Ex → Exit
  | .normal => .normal
  | .exit i => .exit i
  | .ret => .ret

/-- soundness at a fuel -/
structure Snd (P : Program) (C : Ctx) (n : Nat) : Prop where
  region : ∀ (ro : Option Nat) (rd : Bool) (nt : Nat) (ops : Array Oper) (os : List AOper) (i : Nat) (t : Tm) (s : St) (t' : Tm) (s' : St) (θ : Th) (a : Act) (w : World) (Q : Exit → Act → World → Prop),
    aregion C rd nt n os t s = some (t', s') → trOpers P ops (ops.toList.drop i) = some os → TRel θ nt t a.tmps → HRel P (CRt P) θ s w → Glob P θ →
    (∀ θ' a' w', CRes P θ s w a nt t' s' θ' a' w' → Q .normal a' w') → wpOpsIn (fw ro) 0 P ops Q (List.range' i (ops.size - i)) a w
  exec : ∀ (ro : Option Nat) (rd : Bool) (nt : Nat) (c0 : Code) (c : AC) (t : Tm) (s : St) (e : Ex) (t' : Tm) (s' : St) (θ : Th) (a : Act) (w : World) (Q : Exit → Act → World → Prop),
    aexec C rd nt n c t s = some (e, t', s') → trC P c0 = some c → (rd = false → ro = none) → TRel θ nt t a.tmps → HRel P (CRt P) θ s w → Glob P θ →
    (∀ θ' a' w', CRes P θ s w a nt t' s' θ' a' w' → Q (exOf e) a' w') → c0.wpIn (fw ro) 0 P Q a w
  yield : ∀ (id : Nat) (args : List AV) (s : St) (v : AV) (s' : St) (θ : Th) (w : World), ayield C n id args s = some (v, s') → HRel P (CRt P) θ s w → wfL θ args → Glob P θ →
    ∃ fn tmps ca cb, (Instr.yield (θ.blk id) (concL θ args).toArray).run P w = .ok (.round (θ.blk id) fn tmps ca cb) w ∧ RoundIn (fw none) 0 P (θ.blk id) fn tmps ca cb w (Post P θ s w v s')
  call : ∀ (f : Nat) (args : List AV) (s : St) (v : AV) (s' : St) (θ : Th) (w : World), acall C n f args s = some (v, s') → HRel P (CRt P) θ s w → wfL θ args → Glob P θ →
    CallDone P 0 f (concL θ args).toArray w (Post P θ s w v s') ∧ (C.intr f = none → (callFunc f (concL θ args).toArray).run P w = .ok (.enter f (concL θ args).toArray) w ∧ CallsIn (fw none) 0 P f (concL θ args).toArray w (Post P θ s w v s'))

section
variable {o : Oper} {ro : Option Nat} {a : Act} {next : Act → World → Prop} {Q : Exit → Act → World → Prop} {v : AV}

theorem upon_does (hnd : ∀ c, o.op ≠ .defer c) (h : Does P (CRt P) θ s w ((execOp a.eval o).run P w) v s')
    (hk : ∀ θ' w', HRel P (CRt P) θ' s' w' → FRel θ s w θ' s' w' → wf θ' v → next (a.put o.dst (conc θ' v)) w') : o.wpIn (fw ro) 0 P a w next Q := by
  refine ⟨fun _ _ => trivial, ?_⟩
  rw [Oper.semAt_eq _ _ _ hnd]
  obtain ⟨θ', w', e, h1, h2, h3⟩ := h
  rcases e with e | ⟨e, hv⟩
  · rw [e]; exact hk θ' w' h1 h2 h3
  · rw [e]
    have := hk θ' w' h1 h2 h3
    rw [hv, conc_undef] at this
    exact this
theorem upon_call (hnd : ∀ c, o.op ≠ .defer c) {f : Nat} {args : Array Value} (hrun : (execOp a.eval o).run P w = (callFunc f args).run P w) (h : CallDone P 0 f args w (Post P θ s w v s'))
    (hk : ∀ θ' w', HRel P (CRt P) θ' s' w' → FRel θ s w θ' s' w' → wf θ' v → next (a.put o.dst (conc θ' v)) w') : o.wpIn (fw ro) 0 P a w next Q := by
  refine ⟨fun _ _ => trivial, ?_⟩
  rw [Oper.semAt_eq _ _ _ hnd, hrun]
  rcases h with ⟨e, hc⟩ | ⟨x, w1, e, hx⟩
  · rw [e, Oper.uponIn_enter]
    refine ⟨fun h => by simp [fw_depth] at h, ?_⟩
    rw [callsIn_fw]
    refine hc.mono fun e w' he => ?_
    cases e with
    | returned x => obtain ⟨θ', hx, hv, h1, h2⟩ := he; rw [hx]; exact hk θ' w' h1 h2 hv
    | panicked => exact he.elim
    | outgrown => exact he.elim
  · rw [e, Oper.uponIn_value]
    obtain ⟨θ', hx, hv, h1, h2⟩ := hx
    rw [hx]; exact hk θ' w1 h1 h2 hv
theorem upon_yield (hnd : ∀ c, o.op ≠ .defer c) {l fn : Nat} {args tmps : Array Value} {ca cb : Code} (hrun : (execOp a.eval o).run P w = .ok (.round l fn tmps ca cb) w)
    (h : RoundIn (fw none) 0 P l fn tmps ca cb w (Post P θ s w v s'))
    (hk : ∀ θ' w', HRel P (CRt P) θ' s' w' → FRel θ s w θ' s' w' → wf θ' v → next (a.put o.dst (conc θ' v)) w') : o.wpIn (fw ro) 0 P a w next Q := by
  refine ⟨fun _ _ => trivial, ?_⟩
  rw [Oper.semAt_eq _ _ _ hnd, hrun, Oper.uponIn_round]
  refine ⟨fun h => by simp [fw_depth] at h, ?_⟩
  rw [roundIn_fw]
  refine h.mono fun e w' he => ?_
  cases e with
  | returned x => obtain ⟨θ', hx, hv, h1, h2⟩ := he; rw [hx]; exact hk θ' w' h1 h2 hv
  | panicked => exact he.elim
  | outgrown => exact he.elim
end

theorem put_defers (a : Act) (d : Option Tmp) (v : Value) : (a.put d v).defers = a.defers := by cases d <;> rfl

theorem cres_op {a : Act} {nt : Nat} {t t1 : Tm} {d : Option Nat} {v : AV} (hle : θ.Le θ') (ht : TRel θ nt t a.tmps) (hput : putD nt t d v = some t1) (hv : wf θ' v) (h1 : HRel P (CRt P) θ' s' w') (h2 : FRel θ s w θ' s' w') :
    CRes P θ s w a nt t1 s' θ' (a.put d (conc θ' v)) w' := by
  refine ⟨putD_sound (ht.le hle) hput hv, h1, ?_, [], ?_, by simp [put_defers], by simp⟩
  · have := h2.dfrs (d := s.dfr) (d' := s.dfr)
    exact this
  · simpa using h2.dfr

theorem snd_region {C : Ctx} {n : Nat} (ih : Snd P C n) : ∀ (ro : Option Nat) (rd : Bool) (nt : Nat) (ops : Array Oper) (os : List AOper) (i : Nat) (t : Tm) (s : St) (t' : Tm) (s' : St) (θ : Th) (a : Act) (w : World) (Q : Exit → Act → World → Prop),
    aregion C rd nt (n + 1) os t s = some (t', s') → trOpers P ops (ops.toList.drop i) = some os → TRel θ nt t a.tmps → HRel P (CRt P) θ s w → Glob P θ →
    (∀ θ' a' w', CRes P θ s w a nt t' s' θ' a' w' → Q .normal a' w') → wpOpsIn (fw ro) 0 P ops Q (List.range' i (ops.size - i)) a w := by
  intro ro rd nt ops os i t s t' s' θ a w Q h hos ht hp hg hQ
  cases hd : ops.toList.drop i with
  | nil =>
    rw [hd] at hos
    simp [trOpers] at hos
    subst hos
    simp [aregion] at h
    obtain ⟨rfl, rfl⟩ := h
    have : ops.size - i = 0 := by
      have := congrArg List.length hd
      simpa using this
    rw [this]
    exact hQ θ a w (CRes.refl ht hp)
  | cons o0 rest =>
    have hi : i < ops.size := by
      have := congrArg List.length hd
      simp at this
      omega
    have ho : ops[i]? = some o0 := by
      have := congrArg (fun l => l[0]?) hd
      simpa [List.getElem?_drop] using this
    have hrest : ops.toList.drop (i + 1) = rest := by
      have := congrArg (fun l => l.drop 1) hd
      simpa [List.drop_drop, Nat.add_comm] using this
    have hsz : ops.size - i = (ops.size - (i + 1)) + 1 := by omega
    rw [hd] at hos
    simp only [trOpers] at hos
    cases h1 : trOper P ops o0 with
    | none => simp [h1] at hos
    | some o =>
      cases h2 : trOpers P ops rest with
      | none => simp [h1, h2] at hos
      | some os' =>
        simp [h1, h2] at hos
        subst hos
        rw [← hrest] at h2
        rw [hsz, List.range'_succ, wpOpsIn]
        simp only [ho]
        simp only [aregion] at h
        -- the rest
        have go : ∀ (θ1 : Th) (s1 : St) (w1 : World) (v : AV) (t1 : Tm), HRel P (CRt P) θ1 s1 w1 → FRel θ s w θ1 s1 w1 → wf θ1 v → putD nt t o.dst v = some t1 → aregion C rd nt n os' t1 s1 = some (t', s') →
            o.dst = o0.dst → wpOpsIn (fw ro) 0 P ops Q (List.range' (i + 1) (ops.size - (i + 1))) (a.put o0.dst (conc θ1 v)) w1 := by
          intro θ1 s1 w1 v t1 g1 g2 g3 g4 g5 g6
          have hc := cres_op (P := P) (d := o.dst) g2.le ht g4 g3 g1 g2
          rw [g6] at hc
          refine ih.region ro rd nt ops os' (i + 1) t1 s1 t' s' θ1 (a.put o0.dst (conc θ1 v)) w1 Q g5 h2 hc.tmps g1 (hg.le g2.le) ?_
          intro θ2 a2 w2 hc2
          exact hQ θ2 a2 w2 (hc.trans hp hc2)
        unfold trOper at h1
        cases htr : trOp P o0 with
        | none =>
          simp only [htr] at h1
          cases hgd : guardOf ops o0.guard with
          | none => simp [hgd] at h1
          | some g =>
            simp [hgd] at h1
            subst h1
            cases hgv : guardV t g with
            | none => simp [hgv] at h
            | some b =>
              have hwant := guard_sound (o := o0) ht hgd hgv
              cases b with
              | false =>
                simp only [hgv] at h
                cases hpt : putD nt t o0.dst AV.undef with
                | none => simp [hpt] at h
                | some t1 =>
                  simp [hpt] at h
                  simp only [hwant]
                  refine ⟨fun _ _ => trivial, ?_⟩
                  have := go θ s w AV.undef t1 hp (FRel.refl _ _ _) wf_undef hpt h rfl
                  rw [conc_undef] at this
                  exact this
              | true =>
                exfalso
                simp [hgv, evals, aop, aread, aalloc, aeff] at h
        | some kx =>
          obtain ⟨k, xs⟩ := kx
          simp only [htr] at h1
          cases has : opds P xs with
          | none => simp [has] at h1
          | some as =>
            cases hgd : guardOf ops o0.guard with
            | none => simp [has, hgd] at h1
            | some g =>
              simp [has, hgd] at h1
              subst h1
              cases hgv : guardV t g with
              | none => simp [hgv] at h
              | some b =>
                have hwant := guard_sound (o := o0) ht hgd hgv
                cases b with
                | false =>
                  simp only [hgv] at h
                  cases hpt : putD nt t o0.dst AV.undef with
                  | none => simp [hpt] at h
                  | some t1 =>
                    simp [hpt] at h
                    simp only [hwant]
                    refine ⟨fun _ _ => trivial, ?_⟩
                    have := go θ s w AV.undef t1 hp (FRel.refl _ _ _) wf_undef hpt h rfl
                    rw [conc_undef] at this
                    exact this
                | true =>
                  simp only [hgv] at h
                  cases hev : evals t as with
                  | none => simp [hev] at h
                  | some args =>
                    simp only [hev] at h
                    obtain ⟨hx, hwf⟩ := evals_sound hg ht has hev
                    cases hop : aop s k args with
                    | none => simp [hop] at h
                    | some r =>
                      have hsn := op_sound (ρ := a.eval) htr hx hwf hp (fun _ => rfl) (fun _ => rfl) hop
                      simp only [hwant, if_true]
                      cases r with
                      | val v s1 =>
                        simp only [hop] at h
                        cases hpt : putD nt t o0.dst v with
                        | none => simp [hpt] at h
                        | some t1 =>
                          simp [hpt] at h
                          exact upon_does (not_defer htr) hsn fun θ1 w1 g1 g2 g3 => go θ1 s1 w1 v t1 g1 g2 g3 hpt h rfl
                      | call f as' =>
                        simp only [hop] at h
                        cases hcl : acall C n f as' s with
                        | none => simp [hcl] at h
                        | some vs =>
                          obtain ⟨v, s1⟩ := vs
                          simp only [hcl] at h
                          cases hpt : putD nt t o0.dst v with
                          | none => simp [hpt] at h
                          | some t1 =>
                            simp [hpt] at h
                            exact upon_call (not_defer htr) hsn.1 (ih.call f as' s v s1 θ w hcl hp hsn.2 hg).1 fun θ1 w1 g1 g2 g3 => go θ1 s1 w1 v t1 g1 g2 g3 hpt h rfl
                      | yield id as' =>
                        simp only [hop] at h
                        cases hcl : ayield C n id as' s with
                        | none => simp [hcl] at h
                        | some vs =>
                          obtain ⟨v, s1⟩ := vs
                          simp only [hcl] at h
                          cases hpt : putD nt t o0.dst v with
                          | none => simp [hpt] at h
                          | some t1 =>
                            simp [hpt] at h
                            obtain ⟨fn, tmps, ca, cb, e, hr⟩ := ih.yield id as' s v s1 θ w hcl hp hsn.2.1 hg
                            exact upon_yield (args := #[]) (not_defer htr) (hsn.1.trans e) hr fun θ1 w1 g1 g2 g3 => go θ1 s1 w1 v t1 g1 g2 g3 hpt h rfl
end Go.Ab
namespace Go.Ab
variable {P : Program} {θ θ' θ'' : Th} {s s' s'' : St} {w w' w'' : World}

/-! ### what is the same -/
mutual
theorem eqAV_eq : ∀ (a b : AV), eqAV a b = true → a = b
  | .bool a, b, h => by cases b <;> simp [eqAV] at h; rename_i b; cases a <;> cases b <;> simp_all
  | .int j a, b, h => by cases b <;> simp [eqAV, eqK_eq, eqI_eq] at h; obtain ⟨rfl, rfl⟩ := h; rfl
  | .str a, b, h => by cases b <;> simp [eqAV, eqB_eq] at h; subst h; rfl
  | .ptr a c, b, h => by cases b <;> simp [eqAV, nbeq] at h; obtain ⟨rfl, rfl⟩ := h; rfl
  | .slice a b c d, e, h => by cases e <;> simp [eqAV, nbeq] at h; obtain ⟨rfl, rfl, rfl, rfl⟩ := h; rfl
  | .sliceO a b c d, e, h => by cases e <;> simp [eqAV, nbeq] at h; obtain ⟨rfl, rfl, rfl, rfl⟩ := h; rfl
  | .map a, b, h => by cases b <;> simp [eqAV, nbeq] at h; subst h; rfl
  | .func f a b, e, h => by
    cases e <;> simp [eqAV, nbeq] at h
    obtain ⟨rfl, h1, h2⟩ := h
    rw [eqAVL_eq _ _ h1, eqAVL_eq _ _ h2]
  | .yield a, b, h => by cases b <;> simp [eqAV, nbeq] at h; subst h; rfl
  | .iface t v, b, h => by
    cases b <;> simp [eqAV, nbeq] at h
    obtain ⟨rfl, h1⟩ := h
    rw [eqAV_eq _ _ h1]
  | .agg a, b, h => by cases b <;> simp [eqAV] at h; rw [eqAVL_eq _ _ h]
  | .tuple a, b, h => by cases b <;> simp [eqAV] at h; rw [eqAVL_eq _ _ h]
  | .nilptr, b, h => by cases b <;> simp [eqAV] at h; rfl
  | .nilslice, b, h => by cases b <;> simp [eqAV] at h; rfl
  | .nilmap, b, h => by cases b <;> simp [eqAV] at h; rfl
  | .nilfunc, b, h => by cases b <;> simp [eqAV] at h; rfl
  | .niliface, b, h => by cases b <;> simp [eqAV] at h; rfl
  | .nb a, b, h => by cases b <;> simp [eqAV, nbeq] at h; subst h; rfl
  | .ui j a, b, h => by
    cases b <;> simp [eqAV, nbeq, eqK_eq] at h
    obtain ⟨rfl, rfl⟩ := h; rfl
  | .uat a, b, h => by cases b <;> simp [eqAV, nbeq] at h; subst h; rfl
theorem eqAVL_eq : ∀ (a b : List AV), eqAVL a b = true → a = b
  | [], b, h => by cases b <;> simp [eqAVL] at h; rfl
  | x :: a, b, h => by
    cases b <;> simp [eqAVL] at h
    rw [eqAV_eq _ _ h.1, eqAVL_eq _ _ h.2]
end
mutual
theorem eqAV_refl : ∀ (a : AV), eqAV a a = true
  | .bool a => by cases a <;> rfl
  | .int j a => by simp [eqAV, eqK_eq, eqI_eq]
  | .str a => by simp [eqAV, eqB_eq]
  | .ptr a c => by simp [eqAV, nbeq]
  | .slice a b c d => by simp [eqAV, nbeq]
  | .sliceO a b c d => by simp [eqAV, nbeq]
  | .map a => by simp [eqAV, nbeq]
  | .func f a b => by simp [eqAV, nbeq, eqAVL_refl a, eqAVL_refl b]
  | .yield a => by simp [eqAV, nbeq]
  | .iface t v => by simp [eqAV, nbeq, eqAV_refl v]
  | .agg a => by simp [eqAV, eqAVL_refl a]
  | .tuple a => by simp [eqAV, eqAVL_refl a]
  | .nilptr | .nilslice | .nilmap | .nilfunc | .niliface => by rfl
  | .nb a => by simp [eqAV, nbeq]
  | .ui j a => by simp [eqAV, nbeq, eqK_eq]
  | .uat a => by simp [eqAV, nbeq]
theorem eqAVL_refl : ∀ (a : List AV), eqAVL a a = true
  | [] => rfl
  | x :: a => by simp [eqAVL, eqAV_refl x, eqAVL_refl a]
end
theorem eqES_eq : ∀ (a b : List MEnt), eqES a b = true → a = b
  | [], b, h => by cases b <;> simp [eqES] at h; rfl
  | x :: a, b, h => by
    cases b with
    | nil => simp [eqES] at h
    | cons y b =>
      simp [eqES, nbeq] at h
      obtain ⟨h1, h2, h3, h4⟩ := h
      rw [eqES_eq _ _ h4]
      cases x; cases y
      simp at h1 h2 h3
      rw [eqAV_eq _ _ h1, eqAV_eq _ _ h2, h3]
theorem eqObj_eq (a b : AObj) (h : eqObj a b = true) : a = b := by
  cases a <;> cases b <;> simp [eqObj, nbeq, eqB_eq] at h
  · obtain ⟨rfl, rfl, h⟩ := h; rw [eqAVL_eq _ _ h]
  · rw [eqAVL_eq _ _ h]
  · obtain ⟨rfl, h⟩ := h; rw [eqES_eq _ _ h]
  · obtain ⟨rfl, rfl⟩ := h; rfl
  · rfl
theorem eqNL_eq : ∀ (a b : List Nat), eqNL a b = true → a = b
  | [], b, h => by cases b <;> simp [eqNL] at h; rfl
  | x :: a, b, h => by
    cases b <;> simp [eqNL, nbeq] at h
    rw [h.1, eqNL_eq _ _ h.2]

theorem mergeT_get : ∀ (x y : Tm) (k : Nat), (mergeT x y).get k = mergeV (x.get k) (y.get k)
  | .nil, y, k => by simp [mergeT, Tr.get, mergeV]
  | .node v l r, .nil, k => by
    simp [mergeT, Tr.get]
    cases (bif Nat.beq k 0 then v else bif Nat.beq (k % 2) 1 then l.get (k / 2) else r.get (k / 2 - 1)) <;> rfl
  | .node v l r, .node v' l' r', k => by
    simp only [mergeT, Tr.get, mergeT_get l l', mergeT_get r r']
    cases Nat.beq k 0
    · cases Nat.beq (k % 2) 1 <;> simp
    · simp
theorem mergeH_get : ∀ (x y : Tr AObj) (k : Nat), (mergeH x y).get k = mergeO (x.get k) (y.get k)
  | .nil, y, k => by simp [mergeH, Tr.get, mergeO]
  | .node v l r, .nil, k => by
    simp [mergeH, Tr.get]
    cases (bif Nat.beq k 0 then v else bif Nat.beq (k % 2) 1 then l.get (k / 2) else r.get (k / 2 - 1)) <;> rfl
  | .node v l r, .node v' l' r', k => by
    simp only [mergeH, Tr.get, mergeH_get l l', mergeH_get r r']
    cases Nat.beq k 0
    · cases Nat.beq (k % 2) 1 <;> simp
    · simp
theorem mergeV_some {a b : Option AV} {v : AV} (h : mergeV a b = some v) : a = some v ∧ b = some v := by
  cases a <;> cases b <;> simp [mergeV] at h
  rename_i x y
  cases he : eqAV x y with
  | false => simp [he] at h
  | true => simp [he] at h; subst h; exact ⟨rfl, by rw [eqAV_eq _ _ he]⟩
theorem mergeO_some {a b : Option AObj} {v : AObj} (h : mergeO a b = some v) : a = some v ∧ b = some v := by
  cases a <;> cases b <;> simp [mergeO] at h
  rename_i x y
  cases he : eqObj x y with
  | false => simp [he] at h
  | true => simp [he] at h; subst h; exact ⟨rfl, by rw [eqObj_eq _ _ he]⟩

/-- less is known -/
theorem TRel.sub {n : Nat} {t t' : Tm} {a : Array Value} (h : TRel θ n t a) (hs : ∀ k v, t'.get k = some v → t.get k = some v) : TRel θ n t' a :=
  ⟨h.size, fun k v hv => h.at' k v (hs k v hv), fun k v hv => h.wf k v (hs k v hv)⟩
theorem HRel.sub {CR : Code → AC → Prop} (h : HRel P CR θ s w) (hs : ∀ k o, s'.get k = some o → s.get k = some o) (hn : s.next ≤ s'.next) : HRel P CR θ s' w :=
  ⟨fun k o hk => h.dom k o (hs k o hk), fun k o hk => h.obj k o (hs k o hk), fun k hk => Nat.lt_of_lt_of_le (h.lt k hk) hn, fun i j oi oj hi hj => h.apart i j oi oj (hs i oi hi) (hs j oj hj)⟩

theorem exists_least {p : Nat → Prop} (h : ∃ m, p m) : ∃ m, p m ∧ ∀ k, p k → m ≤ k := by
  obtain ⟨m, hm⟩ := h
  induction m using Nat.strongRecOn with
  | _ m ih =>
    by_cases hk : ∃ k, k < m ∧ p k
    · obtain ⟨k, h1, h2⟩ := hk
      exact ih k h1 h2
    · exact ⟨m, hm, fun k hp => by
        rcases Nat.lt_or_ge k m with hlt | hge
        · exact absurd ⟨k, hlt, hp⟩ hk
        · exact hge⟩
theorem wpIn_some {ro : Option Nat} {m : Nat} {c : Code} {Q : Exit → Act → World → Prop} {a : Act} (h : c.wpIn (fw ro) m P Q a w) : ∃ e a' w', Q e a' w' := by
  obtain ⟨e, a', w', q, _⟩ := h { (default : Frame) with roundOf := ro } [] [] rfl trivial (fun d hd => by simp [fw_depth] at hd)
  exact ⟨e, a', w', q⟩

/-- either branch, the two put together -/
theorem CRes.merge {a a' : Act} {nt : Nat} {t1 : Tm} {s1 : St} (h : CRes P θ s w a nt t1 s1 θ' a' w')
    {tm : Tm} {sm : St} (ht : ∀ k v, tm.get k = some v → t1.get k = some v) (hs : ∀ k o, sm.get k = some o → s1.get k = some o) (hn : s1.next ≤ sm.next) (hd : sm.dfr = s1.dfr)
    (hro : ∀ id cs, s.get id = some (.ro cs) → sm.get id = some (.ro cs)) : CRes P θ s w a nt tm sm θ' a' w' := by
  refine ⟨h.tmps.sub ht, h.heap.sub hs hn, ?_, ?_⟩
  · have f := h.frm
    exact ⟨f.le, Nat.le_trans f.next hn, fun id o hi => f.fresh id o (hs id o hi), f.tape, f.os, f.output, f.size, f.frame, fun id o hi => f.wher id o (hs id o hi),
      fun id cs hi => ⟨hro id cs hi, (f.ro id cs hi).2⟩, rfl, f.new⟩
  · obtain ⟨new, e1, e2, e3⟩ := h.dfr
    exact ⟨new, hd.trans e1, e2, e3⟩
end Go.Ab
/-! Statements. -/
namespace Go.Ab
variable {P : Program} {θ θ' θ'' : Th} {s s' s'' : St} {w w' w'' : World}

/-- a region that draws its order -/
def DrawSnd (P : Program) (C : Ctx) (n : Nat) : Prop :=
  ∀ (ro : Option Nat) (rd : Bool) (nt : Nat) (id : Nat) (ops : Array Oper) (c : AC) (t : Tm) (s : St) (e : Ex) (t' : Tm) (s' : St) (θ : Th) (a : Act) (w : World) (Q : Exit → Act → World → Prop),
    aexec C rd nt n c t s = some (e, t', s') → trC P (.region id ops true) = some c → (rd = false → ro = none) → TRel θ nt t a.tmps → HRel P (CRt P) θ s w → Glob P θ →
    (∀ θ' a' w', CRes P θ s w a nt t' s' θ' a' w' → Q (exOf e) a' w') → (Code.region id ops true).wpIn (fw ro) 0 P Q a w

theorem CRes.glob {a a' : Act} {nt : Nat} {t' : Tm} (h : CRes P θ s w a nt t' s' θ' a' w') (hg : Glob P θ) : Glob P θ' := hg.le h.frm.le

theorem snd_loop {C : Ctx} {n : Nat} (ih : ∀ m, m < n + 1 → Snd P C m) {ro : Option Nat} {rd : Bool} {nt : Nat} {cb : Code} {b : AC} {t : Tm} {e : Ex} {t' : Tm} {a : Act} {Q : Exit → Act → World → Prop}
    (h : aexec C rd nt (n + 1) (.loop b) t s = some (e, t', s')) (htr : trC P cb = some b) (hrd : rd = false → ro = none) (ht : TRel θ nt t a.tmps) (hp : HRel P (CRt P) θ s w) (hg : Glob P θ)
    (hQ : ∀ θ' a' w', CRes P θ s w a nt t' s' θ' a' w' → Q (exOf e) a' w') : (Code.loop cb).wpIn (fw ro) 0 P Q a w := by
  classical
  let J : Nat → Act → World → Prop := fun m a1 w1 => ∃ t1 s1 θ1, m ≤ n + 1 ∧ aexec C rd nt m (.loop b) t1 s1 = some (e, t', s') ∧ CRes P θ s w a nt t1 s1 θ1 a1 w1
  let μ : Act → World → Nat := fun a1 w1 => if hh : ∃ m, J m a1 w1 then Classical.choose (exists_least hh) else 0
  refine wpIn_loop (fun a1 w1 => ∃ m, J m a1 w1) μ ⟨n + 1, t, s, θ, Nat.le_refl _, h, CRes.refl ht hp⟩ ?_
  intro a1 w1 hI
  have hμ : μ a1 w1 = Classical.choose (exists_least hI) := dif_pos hI
  obtain ⟨⟨t1, s1, θ1, hm, hex, hc⟩, hleast⟩ := Classical.choose_spec (exists_least hI)
  rw [← hμ] at hm hex hleast
  generalize hmm : μ a1 w1 = m at *
  cases m with
  | zero => simp [aexec] at hex
  | succ m' =>
    simp only [aexec] at hex
    have ihm := ih m' (by omega)
    have hg1 : Glob P θ1 := hc.glob hg
    cases hb : aexec C rd nt m' b t1 s1 with
    | none => simp [hb] at hex
    | some r =>
      obtain ⟨e2, t2, s2⟩ := r
      refine ihm.exec ro rd nt cb b t1 s1 e2 t2 s2 θ1 a1 w1 _ hb htr hrd hc.tmps hc.heap hg1 ?_
      intro θ2 a2 w2 hc2
      have hc12 := hc.trans hp hc2
      cases e2 with
      | normal =>
        simp only [hb] at hex
        have hJ : J m' a2 w2 := ⟨t2, s2, θ2, by omega, hex, hc12⟩
        have hI2 : ∃ m, J m a2 w2 := ⟨m', hJ⟩
        refine ⟨hI2, ?_⟩
        have h2 : μ a2 w2 = Classical.choose (exists_least hI2) := dif_pos hI2
        rw [h2]
        have := (Classical.choose_spec (exists_least hI2)).2 m' hJ
        omega
      | exit i =>
        simp [hb] at hex
        obtain ⟨rfl, rfl, rfl⟩ := hex
        exact hQ θ2 a2 w2 hc12
      | ret =>
        simp [hb] at hex
        obtain ⟨rfl, rfl, rfl⟩ := hex
        exact hQ θ2 a2 w2 hc12

theorem snd_nb {C : Ctx} {n : Nat} (ih : Snd P C n) {ro : Option Nat} {rd : Bool} {nt : Nat} {co : Operand} {c1 c2 : Code} {x1 x2 : AC} {t t1 t2 : Tm} {s1 s2 : St} {a : Act} {Q : Exit → Act → World → Prop} {b : Bool}
    (hc : a.eval co = .bool b) (h1 : aexec C rd nt n x1 t s = some (.normal, t1, s1)) (h2 : aexec C rd nt n x2 t { s with next := s.next + 1 } = some (.normal, t2, s2)) (hd : eqNL s1.dfr s2.dfr = true)
    (tr1 : trC P c1 = some x1) (tr2 : trC P c2 = some x2) (hrd : rd = false → ro = none) (ht : TRel θ nt t a.tmps) (hp : HRel P (CRt P) θ s w) (hg : Glob P θ)
    (hQ : ∀ θ' a' w', CRes P θ s w a nt (mergeT t1 t2) ⟨mergeH s1.heap s2.heap, max s1.next s2.next, s1.dfr⟩ θ' a' w' → Q .normal a' w') : (Code.cond co c1 c2).wpIn (fw ro) 0 P Q a w := by
  have hp2 : HRel P (CRt P) θ { s with next := s.next + 1 } w := hp.sub (fun _ _ h => h) (Nat.le_succ _)
  have ro1 : ∀ id cs, s.get id = some (.ro cs) → s1.get id = some (.ro cs) := by
    have := ih.exec ro rd nt c1 x1 t s .normal t1 s1 θ a w (fun _ _ _ => ∀ id cs, s.get id = some (.ro cs) → s1.get id = some (.ro cs)) h1 tr1 hrd ht hp hg (fun θ' a' w' hc id cs hi => (hc.frm.ro id cs hi).1)
    obtain ⟨_, _, _, q⟩ := wpIn_some this
    exact q
  have ro2 : ∀ id cs, s.get id = some (.ro cs) → s2.get id = some (.ro cs) := by
    have := ih.exec ro rd nt c2 x2 t { s with next := s.next + 1 } .normal t2 s2 θ a w (fun _ _ _ => ∀ id cs, s.get id = some (.ro cs) → s2.get id = some (.ro cs)) h2 tr2 hrd ht hp2 hg (fun θ' a' w' hc id cs hi => (hc.frm.ro id cs hi).1)
    obtain ⟨_, _, _, q⟩ := wpIn_some this
    exact q
  have hsm : ∀ k, (⟨mergeH s1.heap s2.heap, max s1.next s2.next, s1.dfr⟩ : St).get k = mergeO (s1.get k) (s2.get k) := fun k => mergeH_get _ _ _
  have hrom : ∀ id cs, s.get id = some (.ro cs) → (⟨mergeH s1.heap s2.heap, max s1.next s2.next, s1.dfr⟩ : St).get id = some (.ro cs) := by
    intro id cs hi
    rw [hsm, ro1 id cs hi, ro2 id cs hi]
    simp [mergeO, eqObj, eqAVL_refl]
  cases b with
  | true =>
    refine wpIn_cond_true hc ?_
    refine ih.exec ro rd nt c1 x1 t s .normal t1 s1 θ a w Q h1 tr1 hrd ht hp hg fun θ' a' w' hc => hQ θ' a' w' ?_
    exact hc.merge (fun k v hk => (mergeV_some (mergeT_get t1 t2 k ▸ hk)).1) (fun k o hk => (mergeO_some (hsm k ▸ hk)).1) (Nat.le_max_left _ _) rfl hrom
  | false =>
    refine wpIn_cond_false hc ?_
    refine ih.exec ro rd nt c2 x2 t { s with next := s.next + 1 } .normal t2 s2 θ a w Q h2 tr2 hrd ht hp2 hg fun θ' a' w' hc => hQ θ' a' w' ?_
    have := hc.merge (tm := mergeT t1 t2) (sm := ⟨mergeH s1.heap s2.heap, max s1.next s2.next, s1.dfr⟩) (fun k v hk => (mergeV_some (mergeT_get t1 t2 k ▸ hk)).2) (fun k o hk => (mergeO_some (hsm k ▸ hk)).2) (Nat.le_max_right _ _) (eqNL_eq _ _ hd) hrom
    have f := this.frm
    exact ⟨this.tmps, this.heap, ⟨f.le, Nat.le_trans (Nat.le_succ _) f.next, f.fresh, f.tape, f.os, f.output, f.size, f.frame, f.wher, f.ro, rfl, fun id hi => (f.new id hi).imp _root_.id (fun hle => Nat.le_trans (Nat.le_succ _) hle)⟩, this.dfr⟩

theorem snd_rangeF {C : Ctx} {n : Nat} (ih : Snd P C n) {rd : Bool} {ro : Option Nat} {nt : Nat} {fo : Operand} {f : Opd} {ps : Array Tmp} {ca cb : Code} {xa xb : AC} {t : Tm} {e : Ex} {t' : Tm} {a : Act} {Q : Exit → Act → World → Prop}
    (h : aexec C rd nt (n + 1) (.rangeF f ps.toList xa xb) t s = some (e, t', s')) (hf : opd P fo = some f) (tra : trC P ca = some xa) (trb : trC P cb = some xb) (hrd : rd = false → ro = none) (ht : TRel θ nt t a.tmps) (hp : HRel P (CRt P) θ s w) (hg : Glob P θ)
    (hQ : ∀ θ' a' w', CRes P θ s w a nt t' s' θ' a' w' → Q (exOf e) a' w') : (Code.rangeFunc fo ps ca cb).wpIn (fw ro) 0 P Q a w := by
  simp only [aexec] at h
  cases rd with
  | true => simp at h
  | false =>
    obtain rfl := hrd rfl
    simp only [cond_false] at h
    cases hev : evalO t f with
    | none => simp [hev] at h
    | some fv =>
      simp only [hev] at h
      obtain ⟨efv, wfv⟩ := evalO_sound hg ht hf hev
      cases fv <;> simp only [asCall] at h <;> first | (cases h; done) | skip
      rename_i fid first captured
      cases hin : C.intr fid with
      | some g => simp [hin] at h
      | none =>
        simp only [hin, Option.isSome_none, cond_false] at h
        cases hcl : acall C n fid (appL first (appL [AV.yield (s.next + 1)] captured)) ((s.new .dfr).new (.loop nt t ps.toList xa xb 0 none)) with
        | none => simp [hcl] at h
        | some vs =>
          obtain ⟨v, s1⟩ := vs
          simp only [hcl] at h
          refine wpIn_rangeFunc fun fn _ => ?_
          -- the two blocks
          have mk1 := hp.mkNew (Made.alloc w (.deferred (some []))) 0 .dfr (fun w1 h1 => by simpa [ORel, Th.add] using h1)
          have n1 : (s.new AObj.dfr).next = s.next + 1 := rfl
          have ht1 := ht.le mk1.2.le
          have mk2 := mk1.1.mkNew (Made.alloc (w.alloc (.deferred (some []))) (.loop { state := .ready, pending := none, fn := fn, tmps := a.tmps, params := ps, assign := ca, body := cb, defers := w.heap.size })) 0 (.loop nt t ps.toList xa xb 0 none)
            (fun w1 h1 => ⟨fn, a.tmps, ca, cb, w.heap.size, by simpa [Th.add, stOf, pendOf] using h1, ht1.le (Th.le_add (fun hd => Nat.lt_irrefl _ (mk1.1.lt _ hd))), tra, trb, .inl rfl⟩)
          generalize hθ0 : ((θ.add s.next w.heap.size 0 0).add (s.new AObj.dfr).next (w.alloc (.deferred (some []))).heap.size 0 0) = θ0 at mk2
          generalize hW0 : (w.alloc (.deferred (some []))).alloc (.loop { state := .ready, pending := none, fn := fn, tmps := a.tmps, params := ps, assign := ca, body := cb, defers := w.heap.size }) = W0 at mk2
          have f0 := hp.trans_frame mk1.2 mk2.2
          have bl : θ0.blk (s.next + 1) = w.heap.size + 1 := by rw [← hθ0]; simp [Th.add, n1]
          have bd : θ0.blk s.next = w.heap.size := by
            rw [← hθ0, n1]
            simp [Th.add]
          have dl : θ0.dom (s.next + 1) := by rw [← hθ0]; simp [Th.add, n1]
          have dd : θ0.dom s.next := by rw [← hθ0]; simp [Th.add]
          have wfv0 := wf_le f0.le _ wfv
          simp only [wf] at wfv0
          have hwargs : wfL θ0 (appL first (appL [AV.yield (s.next + 1)] captured)) := by
            simp only [appL_eq]
            exact wfL_append wfv0.1 (wfL_append (by simp [wfL, wf, dl]) wfv0.2)
          have hcall := (ih.call fid _ _ v s1 θ0 W0 hcl mk2.1 hwargs (hg.le f0.le)).2 hin
          have efv0 : a.eval fo = .func (.func fid) (concL θ0 first).toArray (concL θ0 captured).toArray := by
            rw [efv, ← conc_le f0.le _ wfv]; simp [conc]
          have hargs : (concL θ0 (appL first (appL [AV.yield (s.next + 1)] captured))).toArray = ((concL θ0 first).toArray ++ #[Value.func (.yield (w.heap.size + 1)) #[] #[]]) ++ (concL θ0 captured).toArray := by
            simp [appL_eq, concL_append, concL, conc, bl]
          rw [hargs] at hcall
          refine ⟨w.heap.size + 1, [{ target := .collected w.heap.size, args := #[] }], W0, { target := .fn (.func fid) (concL θ0 captured).toArray, args := (concL θ0 first).toArray ++ #[Value.func (.yield (w.heap.size + 1)) #[] #[]] }, W0, fid, _, W0, ?_, ?_, fun _ _ => trivial, ?_, fun h => by simp [fw_depth] at h, hcall.2.mono ?_⟩
          · rw [← hW0]; exact run_enterLoop_outer fn a.tmps ps ca cb
          · simp [resolve, rangeCall, efv0, Deferred.ofValue, show ∀ v, a.eval (.const v) = v from fun _ => rfl]
          · simpa [invoke] using hcall.1
          · intro en w3 hpost
            cases en with
            | panicked => exact hpost.elim
            | outgrown => exact hpost.elim
            | returned x =>
              obtain ⟨θ1, _, _, hr1, hf1⟩ := hpost
              cases hg1 : s1.get (s.next + 1) with
              | none => simp [hg1] at h
              | some ob =>
                cases ob <;> simp only [hg1] at h <;> first | (cases h; done) | skip
                rename_i k2 t2 ps2 a2 b2 st pend
                obtain ⟨fn3, tmps3, ca3, cb3, d3, hl3, ht3, ha3, hb3, hpend⟩ := hr1.obj _ _ hg1
                have hbl3 : θ1.blk (s.next + 1) = w.heap.size + 1 := (hf1.le.blk _ dl).trans bl
                rw [hbl3] at hl3
                have hstb : stOf st ≠ .busy ∧ st ≠ 1 := by
                  match st, h with
                  | 0, h => simp [stOf]
                  | 1, h => simp [nbeq] at h
                  | 2, h => simp [stOf]
                  | _ + 3, h => simp [stOf]
                have hend := run_endLoop (P := P) hl3 hstb.1
                have hch := hr1.change (o := .loop k2 t2 ps2 a2 b2 3 pend) (w' := w3.putObj (w.heap.size + 1) (.loop { state := .exhausted, pending := pendOf pend, fn := fn3, tmps := tmps3, params := ps2.toArray, assign := ca3, body := cb3, defers := d3 })) hg1 (by simp) rfl rfl rfl (by simp)
                  (fun b hb => World.putObj_heap_other (by rw [← hbl3]; exact hb))
                  ⟨fn3, tmps3, ca3, cb3, d3, by rw [hbl3, World.putObj_heap_same (Array.getElem?_eq_some_iff.1 hl3).1]; rfl, ht3, ha3, hb3, hpend⟩
                have hst1 : Nat.beq st 1 = false := beq_f hstb.2
                simp only [hst1, cond_false] at h
                -- behind the loop
                have hcr : CRes P θ s w a nt t { (s1.put (s.next + 1) (.loop k2 t2 ps2 a2 b2 3 pend)) with dfr := s.next :: s.dfr } θ1 { a with defers := [{ target := .collected w.heap.size, args := #[] }] ++ a.defers }
                    (w3.putObj (w.heap.size + 1) (.loop { state := .exhausted, pending := pendOf pend, fn := fn3, tmps := tmps3, params := ps2.toArray, assign := ca3, body := cb3, defers := d3 })) := by
                  have ft := hp.trans_frame f0 (mk2.1.trans_frame hf1 hch.2)
                  refine ⟨ht.le ft.le, hch.1.dfrs _, ?_, [s.next], rfl, ?_, ?_⟩
                  · exact ⟨ft.le, ft.next, ft.fresh, ft.tape, ft.os, ft.output, ft.size, ft.frame, ft.wher, ft.ro, rfl, ft.new⟩
                  · have : θ1.blk s.next = w.heap.size := (hf1.le.blk _ dd).trans bd
                    simp [markOf, this]
                  · intro i hi
                    simp at hi
                    subst hi
                    exact hf1.le.dom _ dd
                refine ⟨pendOf pend, _, hend, ?_⟩
                rcases hpend with rfl | rfl | ⟨i, rfl⟩
                · simp at h
                  obtain ⟨rfl, rfl, rfl⟩ := h
                  exact hQ θ1 _ _ hcr
                · simp only [pendOf]
                  simp only at h
                  exact ih.exec none false nt .ret .ret t _ e t' s' θ1 _ _ Q h rfl (fun _ => rfl) hcr.tmps hcr.heap (hcr.glob hg) fun θ2 a3 w4 hc2 => hQ θ2 a3 w4 (hcr.trans hp hc2)
                · simp only [pendOf]
                  simp only at h
                  exact ih.exec none false nt (.exit i) (.exit i) t _ e t' s' θ1 _ _ Q h rfl (fun _ => rfl) hcr.tmps hcr.heap (hcr.glob hg) fun θ2 a3 w4 hc2 => hQ θ2 a3 w4 (hcr.trans hp hc2)

theorem snd_exec {C : Ctx} {n : Nat} (ih : ∀ m, m < n + 1 → Snd P C m) (hdraw : DrawSnd P C (n + 1)) (ro : Option Nat) (rd : Bool) (nt : Nat) (c0 : Code) (c : AC) (t : Tm) (s : St) (e : Ex) (t' : Tm) (s' : St) (θ : Th) (a : Act) (w : World) (Q : Exit → Act → World → Prop)
    (h : aexec C rd nt (n + 1) c t s = some (e, t', s')) (htr : trC P c0 = some c) (hrd : rd = false → ro = none) (ht : TRel θ nt t a.tmps) (hp : HRel P (CRt P) θ s w) (hg : Glob P θ)
    (hQ : ∀ θ' a' w', CRes P θ s w a nt t' s' θ' a' w' → Q (exOf e) a' w') : c0.wpIn (fw ro) 0 P Q a w := by
  have ihn := ih n (Nat.lt_succ_self n)
  cases c0 with
  | skip =>
    simp [trC] at htr
    subst htr
    simp [aexec] at h
    obtain ⟨rfl, rfl, rfl⟩ := h
    exact wpIn_skip (hQ _ _ _ (CRes.refl ht hp))
  | label l =>
    simp [trC] at htr
    subst htr
    simp [aexec] at h
    obtain ⟨rfl, rfl, rfl⟩ := h
    exact wpIn_label (hQ _ _ _ (CRes.refl ht hp))
  | goto l => simp [trC] at htr; subst htr; simp [aexec] at h
  | refuse l => simp [trC] at htr; subst htr; simp [aexec] at h
  | scope b => simp [trC] at htr; subst htr; simp [aexec] at h
  | exit i =>
    simp [trC] at htr
    subst htr
    simp [aexec] at h
    obtain ⟨rfl, rfl, rfl⟩ := h
    exact wpIn_exit (hQ _ _ _ (CRes.refl ht hp))
  | ret =>
    simp [trC] at htr
    subst htr
    simp [aexec] at h
    obtain ⟨rfl, rfl, rfl⟩ := h
    exact wpIn_ret (hQ _ _ _ (CRes.refl ht hp))
  | region id ops draw =>
    cases draw with
    | true => exact hdraw ro rd nt id ops c t s e t' s' θ a w Q h htr hrd ht hp hg hQ
    | false =>
      simp only [trC] at htr
      cases hl : trOpers P ops ops.toList with
      | none => simp [hl] at htr
      | some l =>
        simp [hl] at htr
        subst htr
        simp only [aexec] at h
        cases hr : aregion C rd nt n l t s with
        | none => simp [hr] at h
        | some r =>
          obtain ⟨t1, s1⟩ := r
          simp [hr] at h
          obtain ⟨rfl, rfl, rfl⟩ := h
          refine wpIn_region ?_
          have := ihn.region ro rd nt ops l 0 t s t1 s1 θ a w Q hr (by simpa using hl) ht hp hg hQ
          rw [List.range_eq_range']
          simpa using this
  | seq x y =>
    simp only [trC] at htr
    cases hx : trC P x with
    | none => simp [hx] at htr
    | some ax =>
      cases hy : trC P y with
      | none => simp [hx, hy] at htr
      | some ay =>
        simp [hx, hy] at htr
        subst htr
        simp only [aexec] at h
        refine wpIn_seq ?_
        cases he : aexec C rd nt n ax t s with
        | none => simp [he] at h
        | some r =>
          obtain ⟨e1, t1, s1⟩ := r
          refine ihn.exec ro rd nt x ax t s e1 t1 s1 θ a w _ he hx hrd ht hp hg fun θ1 a1 w1 hc => ?_
          cases e1 with
          | normal =>
            simp only [he] at h
            exact ihn.exec ro rd nt y ay t1 s1 e t' s' θ1 a1 w1 Q h hy hrd hc.tmps hc.heap (hc.glob hg) fun θ2 a2 w2 hc2 => hQ θ2 a2 w2 (hc.trans hp hc2)
          | exit i =>
            simp [he] at h
            obtain ⟨rfl, rfl, rfl⟩ := h
            exact hQ θ1 a1 w1 hc
          | ret =>
            simp [he] at h
            obtain ⟨rfl, rfl, rfl⟩ := h
            exact hQ θ1 a1 w1 hc
  | cond co x y =>
    simp only [trC] at htr
    cases hco : opd P co with
    | none => simp [hco] at htr
    | some oc =>
      cases hx : trC P x with
      | none => simp [hco, hx] at htr
      | some ax =>
        cases hy : trC P y with
        | none => simp [hco, hx, hy] at htr
        | some ay =>
          simp [hco, hx, hy] at htr
          subst htr
          simp only [aexec] at h
          cases hev : evalO t oc with
          | none => simp [hev] at h
          | some cv =>
            obtain ⟨ec, wc⟩ := evalO_sound hg ht hco hev
            cases cv <;> simp only [hev] at h <;> first | (cases h; done) | skip
            · rename_i b
              refine wpIn_cond (t := b) (by rw [ec]; simp [conc]) ?_
              cases b with
              | true => exact ihn.exec ro rd nt x ax t s e t' s' θ a w Q h hx hrd ht hp hg hQ
              | false => exact ihn.exec ro rd nt y ay t s e t' s' θ a w Q h hy hrd ht hp hg hQ
            · rename_i i
              cases h1 : aexec C rd nt n ax t s with
              | none => simp [h1] at h
              | some r1 =>
                obtain ⟨e1, t1, s1⟩ := r1
                cases e1 <;> simp only [h1] at h <;> first | (cases h; done) | skip
                cases h2 : aexec C rd nt n ay t { s with next := s.next + 1 } with
                | none => simp [h2] at h
                | some r2 =>
                  obtain ⟨e2, t2, s2⟩ := r2
                  cases e2 <;> simp only [h2] at h <;> first | (cases h; done) | skip
                  cases hd : eqNL s1.dfr s2.dfr with
                  | false => simp [hd] at h
                  | true =>
                    simp [hd] at h
                    obtain ⟨rfl, rfl, rfl⟩ := h
                    exact snd_nb ihn (by rw [ec]; simp [conc]; rfl) h1 h2 hd hx hy hrd ht hp hg hQ
  | block id b =>
    simp only [trC] at htr
    cases hb : trC P b with
    | none => simp [hb] at htr
    | some ab =>
      simp [hb] at htr
      subst htr
      simp only [aexec] at h
      refine wpIn_block ?_
      cases he : aexec C rd nt n ab t s with
      | none => simp [he] at h
      | some r =>
        obtain ⟨e1, t1, s1⟩ := r
        refine ihn.exec ro rd nt b ab t s e1 t1 s1 θ a w _ he hb hrd ht hp hg fun θ1 a1 w1 hc => ?_
        cases e1 with
        | normal =>
          simp [he] at h
          obtain ⟨rfl, rfl, rfl⟩ := h
          exact hQ θ1 a1 w1 hc
        | exit i =>
          simp only [he, nbeq] at h
          by_cases hi : i = id
          · simp [hi] at h
            obtain ⟨rfl, rfl, rfl⟩ := h
            simp only [exOf, Exit.inBlock, hi, if_true]
            exact hQ θ1 a1 w1 hc
          · simp [hi] at h
            obtain ⟨rfl, rfl, rfl⟩ := h
            simp only [exOf, Exit.inBlock, hi, if_false]
            exact hQ θ1 a1 w1 hc
        | ret =>
          simp [he] at h
          obtain ⟨rfl, rfl, rfl⟩ := h
          exact hQ θ1 a1 w1 hc
  | loop b =>
    simp only [trC] at htr
    cases hb : trC P b with
    | none => simp [hb] at htr
    | some ab =>
      simp [hb] at htr
      subst htr
      exact snd_loop ih h hb hrd ht hp hg hQ
  | rangeFunc fo ps ca cb =>
    simp only [trC] at htr
    cases hf : opd P fo with
    | none => simp [hf] at htr
    | some f =>
      cases ha : trC P ca with
      | none => simp [hf, ha] at htr
      | some xa =>
        cases hb : trC P cb with
        | none => simp [hf, ha, hb] at htr
        | some xb =>
          simp [hf, ha, hb] at htr
          subst htr
          exact snd_rangeF ihn h hf ha hb hrd ht hp hg hQ
end Go.Ab
/-! Rounds, calls. -/
namespace Go.Ab
variable {P : Program} {θ θ' θ'' : Th} {s s' s'' : St} {w w' w'' : World}

theorem bindP_sound : ∀ {k : Nat} {t : Tm} {ps : List Nat} {args : List AV} {t' : Tm} {tmps : Array Value}, bindP k t ps args = some t' → ps.length = args.length → TRel θ k t tmps → wfL θ args →
    TRel θ k t' ((ps.zip (concL θ args)).foldl (fun tmps (t, a) => tmps.setIfInBounds t a) tmps)
  | k, t, [], [], t', tmps, h, _, ht, _ => by simp [bindP] at h; subst h; simpa [concL] using ht
  | k, t, p :: ps, v :: vs, t', tmps, h, hl, ht, hw => by
    simp only [bindP, nble] at h
    simp only [wfL] at hw
    by_cases hp : p + 1 ≤ k
    · simp [hp] at h
      have h1 : TRel θ k (t.put p (some v)) (tmps.setIfInBounds p (conc θ v)) := by
        refine ⟨by simp [ht.size], ?_, ?_⟩
        · intro j u hu
          rw [Tr.get_put] at hu
          simp only [Array.getElem?_setIfInBounds, ht.size]
          by_cases e : j = p
          · subst e
            simp at hu
            subst hu
            have : j < k := by omega
            simp [this]
          · simp [e] at hu
            simp [Ne.symm e, ht.at' j u hu]
        · intro j u hu
          rw [Tr.get_put] at hu
          by_cases e : j = p
          · simp [e] at hu; subst hu; exact hw.1
          · simp [e] at hu; exact ht.wf j u hu
      have := bindP_sound h (by simpa using hl) h1 hw.2
      simpa [concL] using this
    · simp [hp] at h
  | k, t, [], _ :: _, t', tmps, h, hl, ht, hw => by simp at hl
  | k, t, _ :: _, [], t', tmps, h, hl, ht, hw => by simp at hl

theorem snd_yield {C : Ctx} {n : Nat} (ih : Snd P C n) (id : Nat) (args : List AV) (s : St) (v : AV) (s' : St) (θ : Th) (w : World) (h : ayield C (n + 1) id args s = some (v, s')) (hp : HRel P (CRt P) θ s w) (hw : wfL θ args) (hg : Glob P θ) :
    ∃ fn tmps ca cb, (Instr.yield (θ.blk id) (concL θ args).toArray).run P w = .ok (.round (θ.blk id) fn tmps ca cb) w ∧ RoundIn (fw none) 0 P (θ.blk id) fn tmps ca cb w (Post P θ s w v s') := by
  simp only [ayield] at h
  cases hgt : s.get id with
  | none => simp [hgt] at h
  | some ob =>
    cases ob <;> simp only [hgt] at h <;> first | (cases h; done) | skip
    rename_i k t ps xa xb st pend
    match st, h, hgt with
    | 0, h, hgt =>
      obtain ⟨fn, tmps, ca, cb, d, hl, ht, ha, hb, hpend⟩ := hp.obj _ _ hgt
      simp only [nbeq, lenL_eq] at h
      by_cases hlen : ps.length = args.length
      · simp only [hlen, decide_true, cond_true] at h
        cases hbp : bindP k t ps args with
        | none => simp [hbp] at h
        | some t0 =>
          simp only [hbp] at h
          have hT0 := bindP_sound hbp hlen ht hw
          have hy := run_yield (P := P) (args := (concL θ args).toArray) hl (by simp [concL_length, hlen])
          refine ⟨fn, _, ca, cb, hy, ?_⟩
          have hzip : (ps.toArray.zip (concL θ args).toArray).foldl (fun tmps (x : Nat × Value) => tmps.setIfInBounds x.1 x.2) tmps = (ps.zip (concL θ args)).foldl (fun tmps (t, a) => tmps.setIfInBounds t a) tmps := by
            simp
          have hzip' : (fun tmps (x : Tmp × Value) => match x with | (t, a) => tmps.setIfInBounds t a) = (fun (tmps : Array Value) (x : Nat × Value) => tmps.setIfInBounds x.1 x.2) := rfl
          cases he1 : aexec C true k n xa t0 s with
          | none => simp [he1] at h
          | some r1 =>
            obtain ⟨e1, t1, s1⟩ := r1
            cases e1 <;> simp only [he1] at h <;> first | (cases h; done) | skip
            refine roundIn_of_wpIn trivial ?_
            rw [fw_inRound]
            refine ih.exec (some (θ.blk id)) true k ca xa t0 s .normal t1 s1 θ _ w _ he1 ha (by simp) (by simpa using hT0) hp hg fun θ1 a1 w1 hc1 => ?_
            show ∃ w₂, _ ∧ _
            cases hgt1 : s1.get id with
            | none => simp [hgt1] at h
            | some ob1 =>
              cases ob1 <;> simp only [hgt1] at h <;> first | (cases h; done) | skip
              rename_i k' t' ps' a' b' st' pend'
              match st', h, hgt1 with
              | 0, h, hgt1 =>
                simp only at h
                by_cases hk : k' = k
                · simp only [hk, nbeq, decide_true, cond_true] at h
                  obtain ⟨fn1, tmps1, ca1, cb1, d1, hl1, ht1, ha1, hb1, hpend1⟩ := hc1.heap.obj _ _ hgt1
                  have hbl : θ1.blk id = θ.blk id := hc1.frm.le.blk _ (hp.dom _ _ hgt)
                  rw [hbl] at hl1
                  have hbeg := run_beginRound (P := P) hl1 rfl
                  refine ⟨_, hbeg, ?_⟩
                  have hch := hc1.heap.change (o := .loop k t' ps' a' b' 1 pend') (w' := w1.putObj (θ.blk id) (.loop { state := .busy, pending := pendOf pend', fn := fn1, tmps := tmps1, params := ps'.toArray, assign := ca1, body := cb1, defers := d1 })) hgt1 (by simp) rfl rfl rfl (by simp)
                    (fun b hb => World.putObj_heap_other (by rw [← hbl]; exact hb))
                    ⟨fn1, tmps1, ca1, cb1, d1, by rw [hbl, World.putObj_heap_same (Array.getElem?_eq_some_iff.1 hl1).1]; rfl, hk ▸ ht1, ha1, hb1, hpend1⟩
                  cases he2 : aexec C true k n xb t1 (s1.put id (.loop k t' ps' a' b' 1 pend')) with
                  | none => simp [he2] at h
                  | some r2 =>
                    obtain ⟨e2, t2, s2⟩ := r2
                    simp only [he2] at h
                    have hdf : s2.dfr = s.dfr := by
                      cases hq : eqNL s2.dfr s.dfr with
                      | false => simp [hq] at h
                      | true => exact eqNL_eq _ _ hq
                    have hq : eqNL s2.dfr s.dfr = true := by
                      cases hq : eqNL s2.dfr s.dfr with
                      | false => simp [hq] at h
                      | true => rfl
                    simp only [hq, cond_true] at h
                    refine ih.exec (some (θ.blk id)) true k cb xb t1 _ e2 t2 s2 θ1 a1 _ _ he2 hb (by simp) hc1.tmps hch.1 (hc1.glob hg) fun θ2 a2 w2 hc2 => ?_
                    cases hgt2 : s2.get id with
                    | none => simp [hgt2] at h
                    | some ob2 =>
                      cases ob2 <;> simp only [hgt2] at h <;> first | (cases h; done) | skip
                      rename_i k2 t2' ps2 a2' b2 st2 pend2
                      obtain ⟨fn2, tmps2, ca2, cb2, d2, hl2, ht2, ha2, hb2, hpend2⟩ := hc2.heap.obj _ _ hgt2
                      have hdm : θ1.dom id := hc1.frm.le.dom _ (hp.dom _ _ hgt)
                      have hbl2 : θ2.blk id = θ.blk id := (hc2.frm.le.blk _ hdm).trans hbl
                      rw [hbl2] at hl2
                      have fin : ∀ (jump : Option Code) (pa : Option AC) (stn : Nat) (bv : Bool), pendOf pa = jump → stOf stn = (if jump.isNone then .ready else .done) → bv = jump.isNone → (pa = none ∨ pa = some .ret ∨ ∃ i, pa = some (.exit i)) →
                          some (AV.bool bv, s2.put id (.loop k2 t2' ps2 a2' b2 stn pa)) = some (v, s') →
                          ∃ x w', (Instr.endRound (θ.blk id) jump).run P w2 = .ok x w' ∧ Post P θ s w v s' (.returned x) w' := by
                        intro jump pa stn bv q1 q2 q3 q4 q5
                        have hend := run_endRound (P := P) jump hl2
                        simp at q5
                        obtain ⟨rfl, rfl⟩ := q5
                        have hch2 := hc2.heap.change (o := .loop k2 t2' ps2 a2' b2 stn pa) (w' := w2.putObj (θ.blk id) (.loop { state := if jump.isNone then .ready else .done, pending := jump, fn := fn2, tmps := tmps2, params := ps2.toArray, assign := ca2, body := cb2, defers := d2 })) hgt2 (by simp) rfl rfl rfl (by simp)
                          (fun b hb => World.putObj_heap_other (by rw [← hbl2]; exact hb))
                          ⟨fn2, tmps2, ca2, cb2, d2, by rw [hbl2, World.putObj_heap_same (Array.getElem?_eq_some_iff.1 hl2).1, q1, q2], ht2, ha2, hb2, q4⟩
                        refine ⟨_, _, hend, θ2, by simp [conc, q3], by simp [wf], hch2.1, ?_⟩
                        -- the frame of the round
                        have F2 := hch.2.dfrs (d := s.dfr) (d' := s.dfr)
                        have F3 := hc2.frm.dfrs (d := s.dfr) (d' := s.dfr)
                        have F4 := hch2.2.dfrs (d := s.dfr) (d' := s.dfr)
                        have tot := hp.trans_frame hc1.frm ((hc1.heap.dfrs s.dfr).trans_frame F2 ((hch.1.dfrs s.dfr).trans_frame F3 F4))
                        exact ⟨tot.le, tot.next, tot.fresh, tot.tape, tot.os, tot.output, tot.size, tot.frame, tot.wher, tot.ro, hdf, tot.new⟩
                      cases e2 with
                      | normal => exact fin none none 0 true rfl rfl rfl (.inl rfl) (by simpa using h)
                      | exit i => exact fin (some (.exit i)) (some (.exit i)) 2 false rfl rfl rfl (.inr (.inr ⟨i, rfl⟩)) (by simpa using h)
                      | ret => exact fin (some .ret) (some .ret) 2 false rfl rfl rfl (.inr (.inl rfl)) (by simpa using h)
                · simp [hk, nbeq] at h
              | _ + 1, h, hgt1 => simp at h
      · simp [hlen] at h
    | _ + 1, h, hgt => simp at h
end Go.Ab
namespace Go.Ab
variable {P : Program} {θ θ' θ'' : Th} {s s' s'' : St} {w w' w'' : World}

theorem initT_sound : ∀ (args : List AV) (k n : Nat) (t : Tm) (tmps : Array Value), wfL θ args → k + args.length ≤ n → TRel θ n t tmps →
    (∀ i v, (concL θ args)[i]? = some v → tmps[k + i]? = some v) → TRel θ n (initT k args t) tmps
  | [], k, n, t, tmps, _, _, ht, _ => by simpa [initT] using ht
  | v :: l, k, n, t, tmps, hw, hl, ht, ha => by
    simp only [initT]
    simp only [wfL] at hw
    refine initT_sound l (k + 1) n (t.put k (some v)) tmps hw.2 (by simp at hl; omega) ⟨ht.size, ?_, ?_⟩ ?_
    · intro j u hu
      rw [Tr.get_put] at hu
      by_cases e : j = k
      · subst e
        simp at hu
        subst hu
        have := ha 0 (conc θ v) (by simp [concL])
        simpa using this
      · simp [e] at hu; exact ht.at' j u hu
    · intro j u hu
      rw [Tr.get_put] at hu
      by_cases e : j = k
      · simp [e] at hu; subst hu; exact hw.1
      · simp [e] at hu; exact ht.wf j u hu
    · intro i u hu
      have := ha (i + 1) u (by simpa [concL] using hu)
      have e : k + 1 + i = k + (i + 1) := by omega
      rw [e]; exact this

def oneRes (tmps : Array Value) : ResultVar → Sem Value
  | .tmp t => pure (tmps.getD t undef)
  | .cell a t => do loadVar t (← asAddr (tmps.getD a undef))
theorem results_eq (fn : Func) (tmps : Array Value) : results fn tmps = (do
    let vs ← fn.results.mapM (oneRes tmps)
    pure (if h : vs.size = 1 then vs[0] else .tuple vs)) := by
  unfold results
  congr 1
theorem resOne_sound {nt : Nat} {t : Tm} {tmps : Array Value} (ht : TRel θ nt t tmps) (hp : HRel P (CRt P) θ s w) : ∀ {vs : List ResultVar} {rs : List ARes} {l : List AV}, trRes P vs = some rs → resAll t s rs = some l →
    (vs.mapM (oneRes tmps) : Sem (List Value)).run P w = .ok (concL θ l) w ∧ wfL θ l
  | [], rs, l, h, hr => by
    simp [trRes] at h
    subst h
    simp [resAll] at hr
    subst hr
    simp [concL, wfL]
  | .tmp k :: vs, rs, l, h, hr => by
    simp only [trRes] at h
    cases h1 : trRes P vs with
    | none => simp [h1] at h
    | some rs' =>
      simp [h1] at h
      subst h
      simp only [resAll, resOne] at hr
      cases h2 : t.get k with
      | none => simp [h2] at hr
      | some v =>
        cases h3 : resAll t s rs' with
        | none => simp [h2, h3] at hr
        | some l' =>
          simp [h2, h3] at hr
          subst hr
          obtain ⟨e1, e2⟩ := resOne_sound ht hp h1 h3
          have h4 := ht.at' k v h2
          have h5 : tmps.getD k undef = conc θ v := by simp [Array.getD_eq_getD_getElem?, h4]
          refine ⟨?_, ht.wf k v h2, e2⟩
          rw [List.mapM_cons]
          simp only [oneRes, Sem.run_bind, Sem.run_pure, Result.andThen_ok, e1, h5, concL]
  | .cell k ty :: vs, rs, l, h, hr => by
    simp only [trRes] at h
    have key : ∀ (r : ARes) (rs' : List ARes), rs = r :: rs' → trRes P vs = some rs' → (∀ u, resOne t s r = some u → (do loadVar ty (← asAddr (tmps.getD k undef)) : Sem Value).run P w = .ok (conc θ u) w ∧ wf θ u) →
        (List.mapM (oneRes tmps) (ResultVar.cell k ty :: vs) : Sem (List Value)).run P w = .ok (concL θ l) w ∧ wfL θ l := by
      intro r rs' hrs hvs hone
      subst hrs
      simp only [resAll] at hr
      cases h2 : resOne t s r with
      | none => simp [h2] at hr
      | some u =>
        cases h3 : resAll t s rs' with
        | none => simp [h2, h3] at hr
        | some l' =>
          simp [h2, h3] at hr
          subst hr
          obtain ⟨e1, e2⟩ := resOne_sound ht hp hvs h3
          obtain ⟨e3, e4⟩ := hone u h2
          refine ⟨?_, e4, e2⟩
          rw [List.mapM_cons]
          have e3' : (oneRes tmps (.cell k ty)).run P w = .ok (conc θ u) w := e3
          simp only [Sem.run_bind, Sem.run_pure, Result.andThen_ok, concL]
          rw [e3']
          simp only [Result.andThen_ok, e1]
    have adr : ∀ id off, t.get k = some (.ptr id off) → tmps.getD k undef = .pointer (some ⟨θ.blk id, θ.off id + off, none⟩) := by
      intro id off h
      have h4 := ht.at' k _ h
      simp [Array.getD_eq_getD_getElem?, h4, conc]
    cases ha : aggT P ty with
    | none => simp [ha] at h
    | some ag =>
      cases h1 : trRes P vs with
      | none => cases ag <;> cases hsz : sizeT P ty <;> simp [ha, hsz, h1] at h
      | some rs' =>
        cases ag with
        | false =>
          have hrs : rs = .cell1 k :: rs' := by cases hsz : sizeT P ty <;> simp [ha, hsz, h1] at h <;> exact h.symm
          refine key _ _ hrs h1 fun u hu => ?_
          simp only [resOne] at hu
          cases hk : t.get k with
          | none => simp [hk] at hu
          | some pv =>
            cases pv <;> simp [hk] at hu
            rename_i id off
            obtain ⟨g1, g2⟩ := readOne_cell hp hu
            refine ⟨?_, g2⟩
            rw [adr id off hk]
            simp [asAddr, loadVar, aggT_run ha, g1]
        | true =>
          cases hsz : sizeT P ty with
          | none => simp [ha, hsz] at h
          | some n =>
            have hrs : rs = .cellN k n :: rs' := by simp [ha, hsz, h1] at h; exact h.symm
            refine key _ _ hrs h1 fun u hu => ?_
            simp only [resOne] at hu
            cases hk : t.get k with
            | none => simp [hk] at hu
            | some pv =>
              cases pv <;> simp [hk] at hu
              rename_i id off
              cases hrd : readCells s id off n with
              | none => simp [hrd] at hu
              | some cs =>
                simp [hrd] at hu
                subst hu
                obtain ⟨g1, g2⟩ := run_readCells (P := P) hp hrd
                refine ⟨?_, by simpa [wf] using g2⟩
                rw [adr id off hk]
                simp [asAddr, loadVar, aggT_run ha, sizeT_run hsz, g1, conc]

theorem results_sound {fn : Func} {nt : Nat} {t : Tm} {tmps : Array Value} {rs : List ARes} {v : AV} (ht : TRel θ nt t tmps) (hp : HRel P (CRt P) θ s w) (hrs : trRes P fn.results.toList = some rs) (hv : resV t s rs = some v) :
    (results fn tmps).run P w = .ok (conc θ v) w ∧ wf θ v := by
  unfold resV at hv
  cases hr : resAll t s rs with
  | none => simp [hr] at hv
  | some l =>
    obtain ⟨e1, e2⟩ := resOne_sound ht hp hrs hr
    have hm : (results fn tmps).run P w = .ok (if h : (concL θ l).toArray.size = 1 then (concL θ l).toArray[0] else .tuple (concL θ l).toArray) w := by
      rw [results_eq, Array.mapM_eq_mapM_toList]
      simp only [Sem.run_bind, Sem.run_map]
      rw [e1]
      simp only [Result.andThen_ok, Sem.run_pure]
    rw [hm]
    simp only [hr] at hv
    match l, hv, e2 with
    | [u], hv, e2 =>
      simp at hv
      subst hv
      simp [concL, wfL] at e2 ⊢
      exact e2
    | [], hv, e2 =>
      simp at hv
      subst hv
      simp [concL, conc, wf, wfL]
    | u :: u' :: l, hv, e2 =>
      simp at hv
      subst hv
      refine ⟨?_, by simpa [wf] using e2⟩
      simp [concL, conc]

/-- a block for deferred calls is shut -/
theorem HRel.kill {CR : Code → AC → Prop} (h : HRel P CR θ s w) {id : Nat} {o0 : AObj} (h0 : s.get id = some o0) (hro : ∀ cs, o0 ≠ .ro cs)
    (ht : w'.tape = w.tape) (hos : w'.os = w.os) (hout : w'.output = w.output) (hsz : w'.heap.size = w.heap.size)
    (hold : ∀ b, b ≠ θ.blk id → w'.heap[b]? = w.heap[b]?) : HRel P CR θ (s.drop id) w' ∧ FRel θ s w θ (s.drop id) w' := by
  have key : ∀ k o1, (s.drop id).get k = some o1 → k ≠ id ∧ s.get k = some o1 := by
    intro k o1 hk
    rw [St.get_drop] at hk
    by_cases e : k = id
    · simp [e] at hk
    · exact ⟨e, by simpa [e] using hk⟩
  refine ⟨⟨fun k o hk => h.dom k o (key k o hk).2, ?_, h.lt, fun i j oi oj hi hj => h.apart i j oi oj (key i oi hi).2 (key j oj hj).2⟩,
    ⟨.refl θ, Nat.le_refl _, fun k o hk => .inl ⟨o, (key k o hk).2⟩, ht, hos, hout, by omega, ?_, fun k o hk => .inr ⟨k, o, (key k o hk).2, rfl⟩, ?_, rfl, fun _ h => .inl h⟩⟩
  · intro k o hk
    obtain ⟨n, h1⟩ := key k o hk
    exact (h.obj k o h1).keep (h.dom k o h1) (.refl θ) (hold _ (h.apart k id o o0 h1 h0 n))
  · intro b _ hne; exact hold b (fun e => hne id o0 h0 e.symm)
  · intro k cs hk
    have hne : k ≠ id := by rintro rfl; rw [h0] at hk; exact hro cs (Option.some.inj hk)
    exact ⟨by rw [St.get_drop, if_neg hne]; exact hk, hold _ (h.apart k id _ o0 hk h0 hne)⟩

theorem leaves_sound {fn : Func} {tmps : Array Value} {R : Ending → World → Prop} {d : List Nat} : ∀ (ds : List Nat) (s1 : St) (w1 : World) (s2 : St), dropAll d s1 ds = some s2 → HRel P (CRt P) θ s1 w1 →
    (∀ w2, HRel P (CRt P) θ s2 w2 → FRel θ s1 w1 θ { s2 with dfr := s1.dfr } w2 → ∃ v, (results fn tmps).run P w2 = .ok v w2 ∧ R (.returned v) w2) →
    LeavesInM (fw none) 0 P fn tmps R (ds.map (markOf θ)) .returning w1
  | [], s1, w1, s2, h, hp, hR => by
    simp [dropAll] at h
    subst h
    exact hR w1 (hp.dfrs _) (FRel.refl _ _ _)
  | i :: ds, s1, w1, s2, h, hp, hR => by
    simp only [dropAll] at h
    cases hg : s1.get i with
    | none => simp [hg] at h
    | some ob =>
      cases ob <;> simp [hg] at h
      have hb : w1.heap[θ.blk i]? = some (.deferred (some [])) := hp.obj _ _ hg
      have hk := hp.kill (w' := w1.putObj (θ.blk i) (.deferred none)) hg (by simp) rfl rfl rfl (by simp) (fun b hne => World.putObj_heap_other hne)
      refine ⟨by simp, .inl ⟨θ.blk i, _, rfl, run_takeDeferred hb, ?_⟩⟩
      refine leaves_sound ds (s1.drop i) _ s2 h hk.1 fun w2 h2 f2 => hR w2 h2 ?_
      exact hp.trans_frame hk.2 f2

theorem snd_call {C : Ctx} {n : Nat} (hC : COk P C) (ih : Snd P C n) (f : Nat) (args : List AV) (s : St) (v : AV) (s' : St) (θ : Th) (w : World) (h : acall C (n + 1) f args s = some (v, s')) (hp : HRel P (CRt P) θ s w) (hw : wfL θ args) (hg : Glob P θ) :
    CallDone P 0 f (concL θ args).toArray w (Post P θ s w v s') ∧ (C.intr f = none → (callFunc f (concL θ args).toArray).run P w = .ok (.enter f (concL θ args).toArray) w ∧ CallsIn (fw none) 0 P f (concL θ args).toArray w (Post P θ s w v s')) := by
  simp only [acall] at h
  cases hin : C.intr f with
  | some g =>
    simp only [hin] at h
    exact ⟨hC.intr f g hin args s v s' θ w h hp hw hg, fun h => by cases h⟩
  | none =>
    simp only [hin] at h
    cases hfn : C.fns.get f with
    | none => simp [hfn] at h
    | some afn =>
      simp only [hfn, nble, lenL_eq] at h
      obtain ⟨fn, hf, htr⟩ := hC.fns f afn hfn
      unfold trFn at htr
      have hname : (fn.name == "runtime.NumGoroutine") = false := by
        cases hn : fn.name == "runtime.NumGoroutine" with
        | false => rfl
        | true => simp [hn] at htr
      simp only [hname] at htr
      cases hbody : fn.body with
      | none => simp [hbody] at htr
      | some c =>
        cases hc : trC P c with
        | none => simp [hbody, hc] at htr
        | some ac =>
          cases hres : trRes P fn.results.toList with
          | none => simp [hbody, hc, hres] at htr
          | some rs =>
            simp [hbody, hc, hres] at htr
            subst htr
            by_cases hlen : args.length ≤ fn.ntmps
            · simp only [hlen, decide_true, cond_true] at h
              have hrun : (callFunc f (concL θ args).toArray).run P w = .ok (.enter f (concL θ args).toArray) w := by
                have hname' : ¬ (fn.name = "runtime.NumGoroutine") := by simpa using hname
                simp [callFunc, hf, hname', hbody]
              have main : CallsIn (fw none) 0 P f (concL θ args).toArray w (Post P θ s w v s') := by
                refine callsIn_of_wp_marks hf hbody trivial ?_
                have htm : TRel θ fn.ntmps (initT 0 args .nil) ((concL θ args).toArray ++ Array.replicate (fn.ntmps - (concL θ args).toArray.size) undef) := by
                  refine initT_sound args 0 fn.ntmps .nil _ hw (by omega) ⟨by simp [concL_length]; omega, by intro k v hk; simp [Tr.get] at hk, by intro k v hk; simp [Tr.get] at hk⟩ ?_
                  intro i u hu
                  have hi : i < (concL θ args).length := (List.getElem?_eq_some_iff.1 hu).1
                  rw [Nat.zero_add, Array.getElem?_append_left (by simpa using hi)]
                  simpa using hu
                have hp0 : HRel P (CRt P) θ { s with dfr := [] } w := hp.dfrs _
                cases hex : aexec C false fn.ntmps n ac (initT 0 args .nil) { s with dfr := [] } with
                | none => simp [hex] at h
                | some r =>
                  obtain ⟨e, t1, s1⟩ := r
                  have fin : ∀ (hh : (match dropAll s.dfr s1 s1.dfr with | some s2 => (match resV t1 s2 rs with | some v => some (v, s2) | none => none) | none => none) = some (v, s')) θ1 a1 w1,
                      CRes P θ { s with dfr := [] } w { tmps := (concL θ args).toArray ++ Array.replicate (fn.ntmps - (concL θ args).toArray.size) undef, defers := [] } fn.ntmps t1 s1 θ1 a1 w1 →
                      LeavesInM (fw none) 0 P fn a1.tmps (Post P θ s w v s') a1.defers .returning w1 := by
                    intro hh θ1 a1 w1 hc
                    obtain ⟨new, d1, d2, d3⟩ := hc.dfr
                    simp at d1 d2
                    subst d1
                    rw [d2]
                    cases hdr : dropAll s.dfr s1 s1.dfr with
                    | none => simp [hdr] at hh
                    | some s2 =>
                      simp only [hdr] at hh
                      cases hrv : resV t1 s2 rs with
                      | none => simp [hrv] at hh
                      | some v2 =>
                        simp [hrv] at hh
                        obtain ⟨rfl, rfl⟩ := hh
                        refine leaves_sound s1.dfr s1 w1 s2 hdr hc.heap fun w2 h2 f2 => ?_
                        obtain ⟨g1, g2⟩ := results_sound hc.tmps h2 hres hrv
                        refine ⟨_, g1, θ1, rfl, g2, h2, ?_⟩
                        have hd2 : s2.dfr = s.dfr := by
                          have : ∀ (ds : List Nat) (x y : St), dropAll s.dfr x ds = some y → y.dfr = s.dfr := by
                            intro ds
                            induction ds with
                            | nil => intro x y hxy; simp [dropAll] at hxy; subst hxy; rfl
                            | cons i ds ihd =>
                              intro x y hxy
                              simp only [dropAll] at hxy
                              split at hxy
                              · exact ihd _ _ hxy
                              · cases hxy
                          exact this _ _ _ hdr
                        have F1 := hc.frm.dfrs (d := s.dfr) (d' := s.dfr)
                        have F2 := f2.dfrs (d := s.dfr) (d' := s.dfr)
                        have tot := hp.trans_frame (s := s) F1 F2
                        exact ⟨tot.le, tot.next, tot.fresh, tot.tape, tot.os, tot.output, tot.size, tot.frame, tot.wher, tot.ro, hd2, tot.new⟩
                  refine ih.exec none false fn.ntmps c ac _ _ e t1 s1 θ _ w _ hex hc (fun _ => rfl) htm hp0 hg fun θ1 a1 w1 hcr => ?_
                  cases e with
                  | normal => simp only [hex] at h; exact fin h θ1 a1 w1 hcr
                  | ret => simp only [hex] at h; exact fin h θ1 a1 w1 hcr
                  | exit i => simp [hex] at h
              exact ⟨.inl ⟨hrun, main⟩, fun _ => ⟨hrun, main⟩⟩
            · simp [hlen] at h

/-- **SOUND AT EVERY FUEL**, if regions that draw are. -/
theorem snd_all {C : Ctx} (hC : COk P C) (hd : ∀ n, (∀ m, m < n + 1 → Snd P C m) → DrawSnd P C (n + 1)) : ∀ n, Snd P C n := by
  intro n
  induction n using Nat.strongRecOn with
  | _ n ih =>
    cases n with
    | zero =>
      exact ⟨fun _ _ _ _ _ _ _ _ _ _ _ _ _ _ h => by simp [aregion] at h, fun _ _ _ _ _ _ _ _ _ _ _ _ _ _ h => by simp [aexec] at h, fun _ _ _ _ _ _ _ h => by simp [ayield] at h, fun _ _ _ _ _ _ _ h => by simp [acall] at h⟩
    | succ n =>
      have ihn := ih n (Nat.lt_succ_self n)
      exact ⟨snd_region ihn, snd_exec ih (hd n ih), snd_yield ihn, snd_call hC ihn⟩
end Go.Ab
/-! Regions that draw: any order. -/
namespace Go.Ab
variable {P : Program} {θ θ' θ'' : Th} {s s' s'' : St} {w w' w'' : World}

theorem count_false_zero : ∀ {l : List Bool}, l.count false = 0 → ∀ i, i < l.length → l[i]? = some true
  | [], _, i, hi => by simp at hi
  | b :: l, h, i, hi => by
    cases b with
    | false => simp at h
    | true =>
      cases i with
      | zero => rfl
      | succ i => simpa using count_false_zero (by simpa using h) i (by simpa using hi)

section
variable {F : Fence} {n : Nat} {ops : Array Oper} {Q : Exit → Act → World → Prop}

theorem wpAny_inv (Inv : Array Bool → Act → World → Prop) (hac : ∀ (i : Nat) (o : Oper), ops[i]? = some o → ∀ e ∈ o.after, Region.binds .any e = true → e.on < i)
    (hstep : ∀ (listed : Array Bool) (a : Act) (w : World) (i : Nat), listed.size = ops.size → Inv listed a w → i ∈ Region.ready .any ops listed → wpOpIn F n P ops Q i (Inv (listed.setIfInBounds i true)) a w)
    (hdone : ∀ (listed : Array Bool) (a : Act) (w : World), listed.size = ops.size → Inv listed a w → (∀ i, i < ops.size → listed[i]? = some true) → Q .normal a w) :
    ∀ (fuel : Nat) (listed : Array Bool) (a : Act) (w : World), listed.size = ops.size → Inv listed a w → listed.toList.count false ≤ fuel → wpAnyIn F n P .any ops Q fuel listed a w := by
  have hnil : ∀ (listed : Array Bool) (a : Act) (w : World), listed.size = ops.size → Inv listed a w → Region.ready .any ops listed = [] → Q .normal a w := by
    intro listed a w hsz hI hr
    refine hdone listed a w hsz hI ?_
    intro i
    induction i using Nat.strongRecOn with
    | _ i ih =>
      intro hi
      have hli : i < listed.size := by omega
      cases hb : listed[i] with
      | true => simp [hli, hb]
      | false =>
        exfalso
        have ho : ops[i]? = some ops[i] := by simp [hi]
        have : i ∈ Region.ready .any ops listed := by
          refine mem_ready.2 ⟨by simp [Array.getD_eq_getD_getElem?, hli, hb], _, ho, fun e he hbd => ?_⟩
          have hlt := hac i _ ho e he hbd
          have := ih e.on hlt (by omega)
          simp [Array.getD_eq_getD_getElem?, this]
        rw [hr] at this
        cases this
  intro fuel
  induction fuel with
  | zero =>
    intro listed a w hsz hI hc
    have hall := count_false_zero (l := listed.toList) (by omega)
    have hr : Region.ready .any ops listed = [] := by
      cases hrr : Region.ready .any ops listed with
      | nil => rfl
      | cons i rs =>
        exfalso
        have hm : i ∈ Region.ready .any ops listed := by rw [hrr]; simp
        obtain ⟨h1, o, ho, _⟩ := mem_ready.1 hm
        have hi : i < ops.size := (Array.getElem?_eq_some_iff.1 ho).1
        have := hall i (by simpa [hsz] using hi)
        rw [Array.getElem?_toList] at this
        simp [Array.getD_eq_getD_getElem?, this] at h1
    exact ⟨hr, hnil listed a w hsz hI hr⟩
  | succ fuel ih =>
    intro listed a w hsz hI hc
    refine ⟨hnil listed a w hsz hI, fun i hi => ?_⟩
    refine wpOpIn_mono (fun a' w' hI' => ih _ a' w' (by simpa using hsz) hI' ?_) (hstep listed a w i hsz hI hi)
    obtain ⟨h1, o, ho, _⟩ := mem_ready.1 hi
    have hlt : i < listed.size := by rw [hsz]; exact (Array.getElem?_eq_some_iff.1 ho).1
    have hf : listed.toList[i]'(by simpa using hlt) = false := by
      simpa [Array.getD_eq_getD_getElem?, hlt] using h1
    rw [Array.toList_setIfInBounds, List.count_set (by simpa using hlt), hf]
    have hpos : 0 < listed.toList.count false := List.count_pos_iff.2 (by rw [← hf]; exact List.getElem_mem _)
    have e1 : (true == false) = false := rfl
    simp only [beq_self_eq_true, if_true, e1, Bool.false_eq_true, if_false]
    omega
end
end Go.Ab
/-! Either order, as a value. -/
namespace Go.Ab
variable {P : Program} {θ θ' θ'' : Th} {s s' s'' : St} {w w' w'' : World}

theorem bindsL_mem : ∀ {l : List Edge} {j : Nat}, j ∈ bindsL l ↔ ∃ e ∈ l, Region.binds .any e = true ∧ e.on = j
  | [], j => by simp [bindsL]
  | e :: l, j => by
    simp only [bindsL]
    split
    · rename_i h
      rw [List.mem_cons, bindsL_mem]
      constructor
      · rintro (rfl | ⟨e', h1, h2, h3⟩)
        · exact ⟨e, List.mem_cons_self, h, rfl⟩
        · exact ⟨e', List.mem_cons_of_mem _ h1, h2, h3⟩
      · rintro ⟨e', h1, h2, h3⟩
        rcases List.mem_cons.1 h1 with rfl | h1
        · exact .inl h3.symm
        · exact .inr ⟨e', h1, h2, h3⟩
    · rename_i h
      rw [bindsL_mem]
      constructor
      · rintro ⟨e', h1, h2, h3⟩
        exact ⟨e', List.mem_cons_of_mem _ h1, h2, h3⟩
      · rintro ⟨e', h1, h2, h3⟩
        rcases List.mem_cons.1 h1 with rfl | h1
        · exact absurd h2 h
        · exact ⟨e', h1, h2, h3⟩
theorem oneBool {z : Option (List AV)} (h : (match z with | some [.bool _] => true | _ => false) = true) : ∃ b, z = some [.bool b] := by
  split at h
  · exact ⟨_, rfl⟩
  · cases h

structure Kept (w0 w : World) : Prop where
  old : ∀ b, b < w0.heap.size → w.heap[b]? = w0.heap[b]?
  size : w0.heap.size ≤ w.heap.size
  tape : w.tape = w0.tape
  os : w.os = w0.os
  output : w.output = w0.output

structure CoinOps (P : Program) (ops : Array Oper) (x y : Nat) where
  e : TypeId
  o0 : Oper
  o1 : Oper
  o2 : Oper
  o3 : Oper
  ops_eq : ops.toList = [o0, o1, o2, o3]
  op0 : o0.op = .alloc e
  op1 : o1.op = .store e (.tmp x) (.const (.bool true))
  op2 : o2.op = .store e (.tmp x) (.const (.bool false))
  op3 : o3.op = .load e (.tmp x)
  d0 : o0.dst = some x
  d1 : o1.dst = none
  d2 : o2.dst = none
  d3 : o3.dst = some y
  g0 : o0.guard = none
  g1 : o1.guard = none
  g2 : o2.guard = none
  g3 : o3.guard = none
  b0 : bindsL o0.after.toList = []
  b1 : bindsL o1.after.toList = [0]
  b2 : bindsL o2.after.toList = [0]
  b3 : bindsL o3.after.toList = [0, 0, 1, 2]
  agg : aggT P e = some false
  sz : sizeT P e = some 1
  zero : ∃ b, zeroCellsT P e = some [.bool b]
  ne : x ≠ y

theorem coinOps {ops : Array Oper} {x y : Nat} (h : trCoin P ops.toList = some (x, y)) : Nonempty (CoinOps P ops x y) := by
  unfold trCoin at h
  split at h
  · rename_i o0 o1 o2 o3 hops
    split at h
    · rename_i x' e t1 x1 b1 t2 x2 b2 h0 h1 h2 h3 h4 h5
      split at h
      · rename_i y' t3 x3 h6 h7
        simp only [Option.ite_none_right_eq_some] at h
        obtain ⟨hc, h⟩ := h
        · obtain ⟨q1, q2, q3, q4, q5, q6, q7, q8, q9, q10, q11, q12, q13, q14, q15, q16, q17, q18, q19, q20⟩ := hc
          simp at h
          obtain ⟨rfl, rfl⟩ := h
          subst q1; subst q2; subst q3; subst q5; subst q6; subst q7; subst q19; subst q20
          refine ⟨⟨_, o0, o1, o2, o3, hops, h1, h3, h5, h7, h0, h2, h4, h6, q11, q12, q13, q14, q15, q16, q17, q18, q8, q9, oneBool q10, q4⟩⟩
      · cases h
    · cases h
  · cases h

theorem getD_set (l : Array Bool) (i j : Nat) (hi : i < l.size) : (l.setIfInBounds i true).getD j false = if j = i then true else l.getD j false := by
  simp only [Array.getD_eq_getD_getElem?, Array.getElem?_setIfInBounds]
  by_cases h : i = j
  · subst h; simp [hi]
  · simp [h, Ne.symm h]

theorem coin_sound {ops : Array Oper} {x y id : Nat} (hm : P.follows .mixedOrders = true) (hc : CoinOps P ops x y) {ro : Option Nat} {nt : Nat} {t : Tm} {a : Act} {Q : Exit → Act → World → Prop} (hx : x < nt) (hy : y < nt)
    (ht : TRel θ nt t a.tmps) (hp : HRel P (CRt P) θ s w)
    (hQ : ∀ θ' a' w', CRes P θ s w a nt ((t.put x none).put y (some (.nb s.next))) { s with next := s.next + 1 } θ' a' w' → Q .normal a' w') : (Code.region id ops true).wpIn (fw ro) 0 P Q a w := by
  obtain ⟨e, o0, o1, o2, o3, hops, p0, p1, p2, p3, d0, d1, d2, d3, g0, g1, g2, g3, b0, b1, b2, b3, hagg, hsz, ⟨zb, hz⟩, hne⟩ := hc
  have hsize : ops.size = 4 := by
    have := congrArg List.length hops
    simpa using this
  have i0 : ops[0]? = some o0 := by rw [← Array.getElem?_toList, hops]; rfl
  have i1 : ops[1]? = some o1 := by rw [← Array.getElem?_toList, hops]; rfl
  have i2 : ops[2]? = some o2 := by rw [← Array.getElem?_toList, hops]; rfl
  have i3 : ops[3]? = some o3 := by rw [← Array.getElem?_toList, hops]; rfl
  obtain ⟨inf, zv, hinf, hzv, hzc, _, _, _⟩ := zeroCellsT_run (θ := θ) hz
  have hzcells : zv.cells = #[Value.bool zb] := by
    apply Array.ext'
    rw [hzc]
    simp [concL, conc]
  let w0 := w
  let Inv : Array Bool → Act → World → Prop := fun listed a' w' =>
    a'.defers = a.defers ∧ a'.tmps.size = nt ∧ (∀ k, k ≠ x → k ≠ y → a'.tmps[k]? = a.tmps[k]?) ∧ Kept w w' ∧
    (listed.getD 0 false = true → (∃ b, w'.heap[w.heap.size]? = some (.cells #[.bool b] e (0, 0))) ∧ a'.tmps[x]? = some (.pointer (some ⟨w.heap.size, 0, none⟩)) ∧ (listed.getD 3 false = true → ∃ b, a'.tmps[y]? = some (.bool b))) ∧
    (listed.getD 0 false = false → w'.heap.size = w.heap.size ∧ listed.getD 3 false = false)
  have hready : ∀ (listed : Array Bool) (i : Nat) (o : Oper) (j : Nat), i ∈ Region.ready .any ops listed → ops[i]? = some o → j ∈ bindsL o.after.toList → listed.getD j false = true := by
    intro listed i o j hi ho hj
    obtain ⟨_, o', ho', hall⟩ := mem_ready.1 hi
    rw [ho] at ho'
    simp at ho'
    subst ho'
    obtain ⟨ed, hed, hbd, hon⟩ := bindsL_mem.1 hj
    rw [← hon]
    exact hall ed (by simpa using hed) hbd
  refine wpIn_region_any hm (wpAny_inv Inv ?_ ?_ ?_ _ _ _ _ (by simp) ?_ ?_)
  · -- no edge goes forward
    intro i o ho ed hed hbd
    have hmem : ed.on ∈ bindsL o.after.toList := bindsL_mem.2 ⟨ed, by simpa using hed, hbd, rfl⟩
    have hi : i < 4 := by rw [← hsize]; exact (Array.getElem?_eq_some_iff.1 ho).1
    match i, hi with
    | 0, _ => rw [i0] at ho; simp at ho; subst ho; rw [b0] at hmem; simp at hmem
    | 1, _ => rw [i1] at ho; simp at ho; subst ho; rw [b1] at hmem; simp at hmem; omega
    | 2, _ => rw [i2] at ho; simp at ho; subst ho; rw [b2] at hmem; simp at hmem; omega
    | 3, _ => rw [i3] at ho; simp at ho; subst ho; rw [b3] at hmem; simp at hmem; omega
  · -- a step
    intro listed a' w' i hls hI hi
    obtain ⟨I1, I2, I3, I4, I5, I6⟩ := hI
    obtain ⟨hun, o, ho, _⟩ := mem_ready.1 hi
    have hi4 : i < 4 := by rw [← hsize]; exact (Array.getElem?_eq_some_iff.1 ho).1
    have hil : i < listed.size := by omega
    have hunf : listed.getD i false = false := by
      simp [Array.getD_eq_getD_getElem?, hil] at hun ⊢
      exact hun
    match i, hi4 with
    | 0, _ =>
      simp only [wpOpIn, i0]
      have hw : Region.wanted o0 (yielded ops a'.tmps) = true := by simp [Region.wanted, g0]
      rw [if_pos hw]
      refine ⟨fun _ _ => trivial, ?_⟩
      rw [Oper.semAt_eq _ _ _ (by rw [p0]; simp)]
      have hrun : (execOp a'.eval o0).run P w' = .ok (.value (.pointer (some ⟨w'.heap.size, 0, none⟩))) (w'.alloc (.cells #[.bool zb] e)) := by
        simp [execOp, p0, Instr.alloc, zeroValue, typeInfo, hinf, hzv, newVar, newRow, hzcells]
      rw [hrun, Oper.uponIn_value]
      obtain ⟨hsz0, h30⟩ := I6 hunf
      refine ⟨by rw [put_defers]; exact I1, by simp [Act.put, d0, I2], ?_, ?_, ?_, ?_⟩
      · intro k hkx hky
        simp only [Act.put, d0, Array.getElem?_setIfInBounds, Ne.symm hkx, if_false]
        exact I3 k hkx hky
      · exact ⟨fun b hb => by rw [heap_alloc_old _ _ _ (Nat.lt_of_lt_of_le hb I4.size)]; exact I4.old b hb, by simp [hsz0], I4.tape, I4.os, I4.output⟩
      · intro _
        refine ⟨⟨zb, by rw [← hsz0]; exact heap_alloc_new _ _⟩, ?_, ?_⟩
        · simp [Act.put, d0, Array.getElem?_setIfInBounds, I2, hx, hsz0]
        · intro h3
          rw [getD_set _ _ _ hil, if_neg (by omega), h30] at h3
          cases h3
      · intro h; rw [getD_set _ _ _ hil] at h; simp at h
    | 1, _ =>
      have hl0 := hready listed 1 o1 0 hi i1 (by rw [b1]; simp)
      obtain ⟨⟨b, hb⟩, hxp, h3⟩ := I5 hl0
      simp only [wpOpIn, i1]
      have hw : Region.wanted o1 (yielded ops a'.tmps) = true := by simp [Region.wanted, g1]
      rw [if_pos hw]
      refine ⟨fun _ _ => trivial, ?_⟩
      rw [Oper.semAt_eq _ _ _ (by rw [p1]; simp)]
      have hst := run_storeCells_atF P w.heap.size 0 e (0, 0) [Value.bool true] 0 #[.bool b] w' hb (by simp) (by simp) (by simp [Value.oneCell'])
      have hrun : (execOp a'.eval o1).run P w' = .ok .skip (w'.setRow w.heap.size #[.bool true]) := by
        have hev : a'.eval (.tmp x) = .pointer (some ⟨w.heap.size, 0, none⟩) := by simp [Act.eval, Array.getD_eq_getD_getElem?, hxp]
        have hev2 : a'.eval (.const (.bool true)) = .bool true := rfl
        simp at hst
        simp [execOp, p1, hev, hev2, Instr.storeAt, Instr.sureAddr, storeVar, sizeT_run hsz, Value.cells, hst]
      rw [hrun, Oper.uponIn_skip]
      simp only [d1, Act.put]
      refine ⟨I1, I2, I3, ⟨fun b hb' => by rw [setRow_other _ _ _ _ (by omega)]; exact I4.old b hb', by simp [World.setRow]; exact I4.size, I4.tape, I4.os, I4.output⟩, ?_, ?_⟩
      · intro _
        refine ⟨⟨true, setRow_heap w' w.heap.size _ _ e (0, 0) hb⟩, hxp, fun h => h3 ?_⟩
        rw [getD_set _ _ _ hil] at h; simpa using h
      · intro h; rw [getD_set _ _ _ hil] at h; simp [hl0] at h
    | 2, _ =>
      have hl0 := hready listed 2 o2 0 hi i2 (by rw [b2]; simp)
      obtain ⟨⟨b, hb⟩, hxp, h3⟩ := I5 hl0
      simp only [wpOpIn, i2]
      have hw : Region.wanted o2 (yielded ops a'.tmps) = true := by simp [Region.wanted, g2]
      rw [if_pos hw]
      refine ⟨fun _ _ => trivial, ?_⟩
      rw [Oper.semAt_eq _ _ _ (by rw [p2]; simp)]
      have hst := run_storeCells_atF P w.heap.size 0 e (0, 0) [Value.bool false] 0 #[.bool b] w' hb (by simp) (by simp) (by simp [Value.oneCell'])
      have hrun : (execOp a'.eval o2).run P w' = .ok .skip (w'.setRow w.heap.size #[.bool false]) := by
        have hev : a'.eval (.tmp x) = .pointer (some ⟨w.heap.size, 0, none⟩) := by simp [Act.eval, Array.getD_eq_getD_getElem?, hxp]
        have hev2 : a'.eval (.const (.bool false)) = .bool false := rfl
        simp at hst
        simp [execOp, p2, hev, hev2, Instr.storeAt, Instr.sureAddr, storeVar, sizeT_run hsz, Value.cells, hst]
      rw [hrun, Oper.uponIn_skip]
      simp only [d2, Act.put]
      refine ⟨I1, I2, I3, ⟨fun b hb' => by rw [setRow_other _ _ _ _ (by omega)]; exact I4.old b hb', by simp [World.setRow]; exact I4.size, I4.tape, I4.os, I4.output⟩, ?_, ?_⟩
      · intro _
        refine ⟨⟨false, setRow_heap w' w.heap.size _ _ e (0, 0) hb⟩, hxp, fun h => h3 ?_⟩
        rw [getD_set _ _ _ hil] at h; simpa using h
      · intro h; rw [getD_set _ _ _ hil] at h; simp [hl0] at h
    | 3, _ =>
      have hl0 := hready listed 3 o3 0 hi i3 (by rw [b3]; simp)
      obtain ⟨⟨b, hb⟩, hxp, h3⟩ := I5 hl0
      simp only [wpOpIn, i3]
      have hw : Region.wanted o3 (yielded ops a'.tmps) = true := by simp [Region.wanted, g3]
      rw [if_pos hw]
      refine ⟨fun _ _ => trivial, ?_⟩
      rw [Oper.semAt_eq _ _ _ (by rw [p3]; simp)]
      have hcell : w'.cell? ⟨w.heap.size, 0, none⟩ = some (.bool b) := cell_of hb rfl
      have hrun : (execOp a'.eval o3).run P w' = .ok (.value (.bool b)) w' := by
        have hev : a'.eval (.tmp x) = .pointer (some ⟨w.heap.size, 0, none⟩) := by simp [Act.eval, Array.getD_eq_getD_getElem?, hxp]
        simp [execOp, p3, hev, Instr.loadAt, Instr.sureAddr, loadVar, aggT_run hagg, hcell]
      rw [hrun, Oper.uponIn_value]
      refine ⟨by rw [put_defers]; exact I1, by simp [Act.put, d3, I2], ?_, I4, ?_, ?_⟩
      · intro k hkx hky
        simp only [Act.put, d3, Array.getElem?_setIfInBounds, Ne.symm hky, if_false]
        exact I3 k hkx hky
      · intro _
        refine ⟨⟨b, hb⟩, ?_, fun _ => ⟨b, ?_⟩⟩
        · simp only [Act.put, d3, Array.getElem?_setIfInBounds, Ne.symm hne, if_false]
          exact hxp
        · simp [Act.put, d3, Array.getElem?_setIfInBounds, I2, hy]
      · intro h; rw [getD_set _ _ _ hil] at h; simp [hl0] at h
  · -- the end
    intro listed a' w' hls hI hall
    obtain ⟨I1, I2, I3, I4, I5, I6⟩ := hI
    have hl : ∀ i, i < 4 → listed.getD i false = true := fun i hi => by
      have := hall i (by omega)
      simp [Array.getD_eq_getD_getElem?, this]
    obtain ⟨⟨b, hb⟩, hxp, h3⟩ := I5 (hl 0 (by omega))
    obtain ⟨b', hyp⟩ := h3 (hl 3 (by omega))
    have hid : ¬ θ.dom s.next := fun hd => Nat.lt_irrefl _ (hp.lt _ hd)
    let θ1 : Th := { blk := θ.blk, off := θ.off, cap := θ.cap, dom := fun i => θ.dom i ∨ i = s.next, bv := fun i => if i = s.next then b' else θ.bv i, uv := θ.uv }
    have hle : θ.Le θ1 := ⟨fun i hi => .inl hi, fun _ _ => rfl, fun _ _ => rfl, fun _ _ => rfl, fun i hi => by
      have : i ≠ s.next := fun e => hid (e ▸ hi)
      simp [θ1, this], fun _ _ => rfl⟩
    have get' : ∀ k v, ((t.put x none).put y (some (.nb s.next))).get k = some v → (k = y ∧ v = .nb s.next) ∨ (k ≠ x ∧ k ≠ y ∧ t.get k = some v) := by
      intro k v hk
      rw [Tr.get_put, Tr.get_put] at hk
      by_cases h1 : k = y
      · simp [h1] at hk; exact .inl ⟨h1, hk.symm⟩
      · by_cases h2 : k = x
        · rw [if_neg h1, if_pos h2] at hk
          cases hk
        · simp [h1, h2] at hk; exact .inr ⟨h2, h1, hk⟩
    refine hQ θ1 a' w' ⟨⟨I2, ?_, ?_⟩, ⟨?_, ?_, ?_, ?_⟩, ⟨hle, Nat.le_succ _, fun id o h => .inl ⟨o, h⟩, I4.tape, I4.os, I4.output, I4.size, fun b hb _ => I4.old b hb, fun id o h => .inr ⟨id, o, h, rfl⟩, ?_, rfl, ?_⟩, [], rfl, by simpa using I1, by simp⟩
    · intro k v hk
      rcases get' k v hk with ⟨rfl, rfl⟩ | ⟨n1, n2, h⟩
      · rw [hyp]; simp [conc, θ1]
      · rw [I3 k n1 n2, ht.at' k v h, conc_le hle v (ht.wf k v h)]
    · intro k v hk
      rcases get' k v hk with ⟨rfl, rfl⟩ | ⟨n1, n2, h⟩
      · simp [wf, θ1]
      · exact wf_le hle v (ht.wf k v h)
    · exact fun id o h => .inl (hp.dom id o h)
    · exact fun id o h => (hp.obj id o h).keep (hp.dom id o h) hle (I4.old _ (hp.obj id o h).lt)
    · intro id h
      rcases h with h | rfl
      · exact Nat.lt_succ_of_lt (hp.lt id h)
      · exact Nat.lt_succ_self _
    · exact hp.apart
    · exact fun id cs h => ⟨h, I4.old _ (hp.obj id _ h).lt⟩
    · intro id h
      rcases h with h | rfl
      · exact .inl h
      · exact .inr (Nat.le_refl _)
  · -- the beginning
    refine ⟨rfl, ht.size, fun _ _ _ => rfl, ⟨fun _ _ => rfl, Nat.le_refl _, rfl, rfl, rfl⟩, ?_, ?_⟩
    · intro h; simp [hsize] at h
    · intro _; exact ⟨rfl, by simp [hsize]⟩
  · simp [List.count_replicate]
end Go.Ab
/-! Regions that draw: what is ahead of what; the pass over the text. -/
namespace Go.Ab
variable {P : Program} {θ θ' θ'' : Th} {s s' s'' : St} {w w' w'' : World}

theorem testB_eq (m i : Nat) : testB m i = m.testBit i := by
  unfold testB
  rw [nbeq, Nat.testBit]
  have h1 : Nat.land (Nat.shiftRight m i) 1 = (m >>> i) &&& 1 := rfl
  rw [h1, Nat.and_comm 1 (m >>> i), Nat.and_one_is_mod]
  rcases Nat.mod_two_eq_zero_or_one (m >>> i) with h | h <;> rw [h] <;> rfl
theorem testB_lor (a b i : Nat) : testB (Nat.lor a b) i = (testB a i || testB b i) := by
  rw [testB_eq, testB_eq, testB_eq]; exact Nat.testBit_or a b i
theorem testB_one (j i : Nat) : testB (Nat.shiftLeft 1 j) i = decide (i = j) := by
  rw [testB_eq]
  have : Nat.shiftLeft 1 j = 2 ^ j := by rw [show Nat.shiftLeft 1 j = 1 <<< j from rfl, Nat.shiftLeft_eq, Nat.one_mul]
  rw [this, Nat.testBit_two_pow]
  by_cases h : i = j
  · subst h; simp
  · simp [h, Ne.symm h]
theorem testB_zero (i : Nat) : testB 0 i = false := by rw [testB_eq]; simp
theorem testB_sub {em b : Nat} (h : Nat.beq (Nat.land em b) em = true) {i : Nat} (hi : testB em i = true) : testB b i = true := by
  have h1 : Nat.land em b = em := Nat.eq_of_beq_eq_true h
  have h2 : em &&& b = em := h1
  rw [testB_eq] at hi ⊢
  rw [← h2, Nat.testBit_and] at hi
  simp at hi
  exact hi.2
theorem testB_lt {b i : Nat} (h : Nat.ble (b + 1) (Nat.shiftLeft 1 i) = true) {j : Nat} (hj : testB b j = true) : j < i := by
  have h1 : b + 1 ≤ 2 ^ i := by
    have := Nat.le_of_ble_eq_true h
    rwa [show Nat.shiftLeft 1 i = 1 <<< i from rfl, Nat.shiftLeft_eq, Nat.one_mul] at this
  rw [testB_eq] at hj
  rcases Nat.lt_or_ge j i with hlt | hge
  · exact hlt
  · have : b < 2 ^ j := Nat.lt_of_lt_of_le (by omega) (Nat.pow_le_pow_right (by omega) hge)
    rw [Nat.testBit_lt_two_pow this] at hj
    cases hj

theorem bef1_spec {acc : List Nat} {j : Nat} : ∀ {l : List Edge}, testB (bef1 acc l) j = true ↔ ∃ e ∈ l, Region.binds .any e = true ∧ (e.on = j ∨ testB ((nth acc e.on).getD 0) j = true)
  | [] => by simp [bef1, testB_zero]
  | e :: l => by
    simp only [bef1]
    cases h : Region.binds .any e with
    | true =>
      simp only [cond_true, testB_lor, testB_one, Bool.or_eq_true, decide_eq_true_eq, bef1_spec, List.mem_cons]
      constructor
      · rintro ((h1 | h1) | ⟨e', h2, h3, h4⟩)
        · exact ⟨e, .inl rfl, h, .inl h1.symm⟩
        · exact ⟨e, .inl rfl, h, .inr h1⟩
        · exact ⟨e', .inr h2, h3, h4⟩
      · rintro ⟨e', rfl | h2, h3, h4⟩
        · rcases h4 with h4 | h4
          · exact .inl (.inl h4.symm)
          · exact .inl (.inr h4)
        · exact .inr ⟨e', h2, h3, h4⟩
    | false =>
      simp only [cond_false, bef1_spec, List.mem_cons]
      constructor
      · rintro ⟨e', h2, h3, h4⟩; exact ⟨e', .inr h2, h3, h4⟩
      · rintro ⟨e', rfl | h2, h3, h4⟩
        · rw [h] at h3; cases h3
        · exact ⟨e', h2, h3, h4⟩
theorem befores_spec : ∀ (l : List Oper) (acc : List Nat), (befores acc l).length = acc.length + l.length ∧ (befores acc l).take acc.length = acc ∧
    ∀ (i : Nat) (o : Oper), l[i]? = some o → (befores acc l)[acc.length + i]? = some (bef1 ((befores acc l).take (acc.length + i)) o.after.toList)
  | [], acc => ⟨by simp [befores], by simp [befores], by intro i o h; simp at h⟩
  | o :: l, acc => by
    have ih := befores_spec l (appL acc [bef1 acc o.after.toList])
    simp only [appL_eq, List.length_append, List.length_singleton] at ih
    obtain ⟨h1, h2, h3⟩ := ih
    simp only [befores, appL_eq]
    have htake : (befores (acc ++ [bef1 acc o.after.toList]) l).take acc.length = acc := by
      have := congrArg (List.take acc.length) h2
      rw [List.take_take] at this
      simpa using this
    refine ⟨by rw [h1]; simp; omega, htake, ?_⟩
    intro i o' ho'
    cases i with
    | zero =>
      simp at ho'
      subst ho'
      rw [Nat.add_zero, htake]
      have hlt : acc.length < (befores (acc ++ [bef1 acc o.after.toList]) l).length := by rw [h1]; omega
      have := congrArg (fun q => q[acc.length]?) h2
      simpa [List.getElem?_take] using this
    | succ i =>
      have := h3 i o' (by simpa using ho')
      have e : acc.length + 1 + i = acc.length + (i + 1) := by omega
      rw [e] at this
      exact this

/-! ### the pass -/
def valOf : DEnt → AV
  | .rd v _ => v
  | .al v _ => v
  | .ef v _ => v
  | _ => AV.undef
def isEf : Option DEnt → Bool
  | some (.ef _ _) => true
  | _ => false
/-- the state behind the effects that stand ahead of place j -/
def lastS (es : List DEnt) (s0 : St) : Nat → St
  | 0 => s0
  | j + 1 => match es[j]? with | some (.ef _ sa) => sa | _ => lastS es s0 j
/-- the object that the stores ahead of place j leave -/
def lastW (es : List DEnt) (L : Nat → Bool) (id : Nat) : Nat → Option AObj
  | 0 => none
  | j + 1 => match es[j]? with | some (.wr id' ob) => cond (L j && Nat.beq id' id) (some ob) (lastW es L id j) | _ => lastW es L id j
/-- is what is made at place k not yet within the state behind the effects ahead of place j? -/
def NotIns (ds : List DOper) (es : List DEnt) (j k : Nat) : Prop := ∀ m, m < j → isEf es[m]? = true → ∀ d, ds[m]? = some d → testB d.before k = false

structure Pre (ds : List DOper) (es : List DEnt) (s0 : St) (t0 : Tm) (j : Nat) (T : Tm) (S : St) (h : List (Nat × AObj)) (em : Nat) (wl : List (Nat × AObj)) : Prop where
  tm : ∀ x v, T.get x = some v → (∃ k d e, k < j ∧ ds[k]? = some d ∧ es[k]? = some e ∧ d.dst = some x ∧ v = valOf e) ∨ (t0.get x = some v ∧ ∀ k d, k < j → ds[k]? = some d → d.dst ≠ some x)
  st : S = lastS es s0 j
  held : ∀ k ob, (k, ob) ∈ h ↔ k < j ∧ (∃ v, es[k]? = some (.al v ob)) ∧ NotIns ds es j k
  em : ∀ k, testB em k = true ↔ k < j ∧ isEf es[k]? = true
  wl : ∀ id, lookW id wl = lastW es (fun _ => true) id j

/-- one operation of the pass -/
inductive OpF (C : Ctx) (N nt base lim : Nat) (i : Nat) (o : DOper) (rest : List DOper) (T : Tm) (S : St) (h : List (Nat × AObj)) (em : Nat) (wl : List (Nat × AObj)) : DEnt → Prop where
  | sk : guardV T o.guard = some false → OpF C N nt base lim i o rest T S h em wl .sk
  | rd (v : AV) (args : List AV) : guardV T o.guard = some true → evals T o.args = some args → aread S o.k args = some v → OpF C N nt base lim i o rest T S h em wl (.rd v args)
  | al (args : List AV) (ob : AObj) (mk : Nat → AV) : guardV T o.guard = some true → evals T o.args = some args → aalloc o.k args = some (ob, mk) → OpF C N nt base lim i o rest T S h em wl (.al (mk (base + i)) ob)
  | wr (args : List AV) (id : Nat) (ob cur : AObj) (sa : St) : guardV T o.guard = some true → evals T o.args = some args → Nat.beq (Nat.land em o.before) em = true → noEff rest = true → storeId o.k args = some id →
      curOf (lookW id wl) ((insHeld o.before base S h).get id) = some cur → aeff ((insHeld o.before base S h).put id cur) o.k args = some (.val AV.undef sa) → sa.get id = some ob →
      (cond (Nat.ble base id && Nat.ble (id + 1) lim) (testB o.before (id - base)) true) = true → OpF C N nt base lim i o rest T S h em wl (.wr id ob)
  | ef (args : List AV) (v : AV) (sa : St) : guardV T o.guard = some true → evals T o.args = some args → Nat.beq (Nat.land em o.before) em = true → (cond (noEff rest) (storeId o.k args) none) = none →
      (aeff (insHeld o.before base S h) o.k args = some (.val v sa) ∨ (∃ m f l, m < N ∧ aeff (insHeld o.before base S h) o.k args = some (.call f l) ∧ acall C m f l (insHeld o.before base S h) = some (v, sa)) ∨
        (∃ m id l, m < N ∧ aeff (insHeld o.before base S h) o.k args = some (.yield id l) ∧ ayield C m id l (insHeld o.before base S h) = some (v, sa))) → OpF C N nt base lim i o rest T S h em wl (.ef v sa)

theorem mem_remHeld {m : Nat} : ∀ {l : List (Nat × AObj)} {k : Nat} {ob : AObj}, (k, ob) ∈ remHeld m l ↔ (k, ob) ∈ l ∧ testB m k = false
  | [], k, ob => by simp [remHeld]
  | (i, o) :: l, k, ob => by
    simp only [remHeld]
    cases h : testB m i with
    | true =>
      simp only [cond_true, mem_remHeld, List.mem_cons, Prod.mk.injEq]
      constructor
      · rintro ⟨h1, h2⟩; exact ⟨.inr h1, h2⟩
      · rintro ⟨⟨rfl, rfl⟩ | h1, h2⟩
        · rw [h] at h2; cases h2
        · exact ⟨h1, h2⟩
    | false =>
      simp only [cond_false, mem_remHeld, List.mem_cons, Prod.mk.injEq]
      constructor
      · rintro (⟨rfl, rfl⟩ | ⟨h1, h2⟩)
        · exact ⟨.inl ⟨rfl, rfl⟩, h⟩
        · exact ⟨.inr h1, h2⟩
      · rintro ⟨⟨rfl, rfl⟩ | h1, h2⟩
        · exact .inl ⟨rfl, rfl⟩
        · exact .inr ⟨h1, h2⟩

theorem isEf_false {e : DEnt} (h : ∀ v sa, e ≠ .ef v sa) : isEf (some e) = false := by
  cases e <;> first | rfl | exact absurd rfl (h _ _)

def nS (S : St) : DEnt → St
  | .ef _ sa => sa
  | _ => S
def nH (b j : Nat) (h : List (Nat × AObj)) : DEnt → List (Nat × AObj)
  | .al _ ob => (j, ob) :: h
  | .ef _ _ => remHeld b h
  | _ => h
def nE (j em : Nat) : DEnt → Nat
  | .ef _ _ => Nat.lor em (Nat.shiftLeft 1 j)
  | _ => em
def nW (wl : List (Nat × AObj)) : DEnt → List (Nat × AObj)
  | .wr id ob => (id, ob) :: wl
  | _ => wl
/-- what is known goes on behind an operation -/
theorem Pre.next {ds : List DOper} {es : List DEnt} {s0 : St} {t0 : Tm} {j : Nat} {T T' : Tm} {S : St} {h : List (Nat × AObj)} {em : Nat} {wl : List (Nat × AObj)} (hp : Pre ds es s0 t0 j T S h em wl) {o : DOper} {e : DEnt} {nt : Nat}
    (hbef : ∀ m d, ds[m]? = some d → ∀ k, testB d.before k = true → k < m)
    (ho : ds[j]? = some o) (he : es[j]? = some e) (hput : putD nt T o.dst (valOf e) = some T') :
    Pre ds es s0 t0 (j + 1) T' (nS S e) (nH o.before j h e) (nE j em e) (nW wl e) := by
  have notins : (∀ v sa, e ≠ .ef v sa) → ∀ k, NotIns ds es (j + 1) k ↔ NotIns ds es j k := by
    intro hne k
    constructor
    · intro hn m hm; exact hn m (Nat.lt_succ_of_lt hm)
    · intro hn m hm hef
      rcases Nat.lt_succ_iff_lt_or_eq.1 hm with hlt | rfl
      · exact hn m hlt hef
      · rw [he, isEf_false hne] at hef; cases hef
  refine ⟨?_, ?_, ?_, ?_, ?_⟩
  · intro x v hx
    unfold putD at hput
    have old : ∀ u, T.get x = some u → o.dst ≠ some x → (∃ k d e, k < j + 1 ∧ ds[k]? = some d ∧ es[k]? = some e ∧ d.dst = some x ∧ u = valOf e) ∨ (t0.get x = some u ∧ ∀ k d, k < j + 1 → ds[k]? = some d → d.dst ≠ some x) := by
      intro u hu hne
      rcases hp.tm x u hu with ⟨k, d, e', h1, h2⟩ | ⟨h1, h2⟩
      · exact .inl ⟨k, d, e', Nat.lt_succ_of_lt h1, h2⟩
      · refine .inr ⟨h1, fun k d hk hd => ?_⟩
        rcases Nat.lt_succ_iff_lt_or_eq.1 hk with hlt | rfl
        · exact h2 k d hlt hd
        · rw [ho] at hd; simp at hd; subst hd; exact hne
    cases hd : o.dst with
    | none =>
      simp [hd] at hput
      subst hput
      exact old v hx (by rw [hd]; simp)
    | some d =>
      simp only [hd, nble] at hput
      by_cases hdn : d + 1 ≤ nt
      · simp [hdn] at hput
        subst hput
        rw [Tr.get_put] at hx
        by_cases hxd : x = d
        · subst hxd
          simp at hx
          exact .inl ⟨j, o, e, Nat.lt_succ_self _, ho, he, hd, hx.symm⟩
        · rw [if_neg hxd] at hx
          exact old v hx (by rw [hd]; simp; exact fun e => hxd e.symm)
      · simp [hdn] at hput
  · rw [lastS]
    cases e <;> simp [he, nS] <;> exact hp.st
  · intro k ob
    cases e with
    | al v ob' =>
      simp only [nH, List.mem_cons, Prod.mk.injEq, notins (by simp), hp.held]
      constructor
      · rintro (⟨rfl, rfl⟩ | ⟨h1, h2, h3⟩)
        · refine ⟨Nat.lt_succ_self _, ⟨v, he⟩, ?_⟩
          intro m hm _ d hd
          cases hb : testB d.before k with
          | false => rfl
          | true => have := hbef m d hd k hb; omega
        · exact ⟨Nat.lt_succ_of_lt h1, h2, h3⟩
      · rintro ⟨h1, ⟨v', h2⟩, h3⟩
        rcases Nat.lt_succ_iff_lt_or_eq.1 h1 with hlt | rfl
        · exact .inr ⟨hlt, ⟨v', h2⟩, h3⟩
        · rw [he] at h2; simp at h2; exact .inl ⟨rfl, h2.2.symm⟩
    | ef v sa =>
      simp only [nH, mem_remHeld, hp.held]
      constructor
      · rintro ⟨⟨h1, h2, h3⟩, h4⟩
        refine ⟨Nat.lt_succ_of_lt h1, h2, fun m hm hef d hd => ?_⟩
        rcases Nat.lt_succ_iff_lt_or_eq.1 hm with hlt | rfl
        · exact h3 m hlt hef d hd
        · rw [ho] at hd; simp at hd; subst hd; exact h4
      · rintro ⟨h1, ⟨v', h2⟩, h3⟩
        rcases Nat.lt_succ_iff_lt_or_eq.1 h1 with hlt | rfl
        · exact ⟨⟨hlt, ⟨v', h2⟩, fun m hm => h3 m (Nat.lt_succ_of_lt hm)⟩, h3 j (Nat.lt_succ_self _) (by rw [he]; rfl) o ho⟩
        · rw [he] at h2; simp at h2
    | _ =>
      simp only [nH, notins (by simp), hp.held]
      constructor
      · rintro ⟨h1, h2, h3⟩; exact ⟨Nat.lt_succ_of_lt h1, h2, h3⟩
      · rintro ⟨h1, ⟨v', h2⟩, h3⟩
        rcases Nat.lt_succ_iff_lt_or_eq.1 h1 with hlt | rfl
        · exact ⟨hlt, ⟨v', h2⟩, h3⟩
        · rw [he] at h2; simp at h2
  · intro k
    cases e with
    | ef v sa =>
      simp only [nE, testB_lor, testB_one, Bool.or_eq_true, decide_eq_true_eq, hp.em]
      constructor
      · rintro (⟨h1, h2⟩ | rfl)
        · exact ⟨Nat.lt_succ_of_lt h1, h2⟩
        · exact ⟨Nat.lt_succ_self _, by rw [he]; rfl⟩
      · rintro ⟨h1, h2⟩
        rcases Nat.lt_succ_iff_lt_or_eq.1 h1 with hlt | rfl
        · exact .inl ⟨hlt, h2⟩
        · exact .inr rfl
    | _ =>
      simp only [nE, hp.em]
      constructor
      · rintro ⟨h1, h2⟩; exact ⟨Nat.lt_succ_of_lt h1, h2⟩
      · rintro ⟨h1, h2⟩
        rcases Nat.lt_succ_iff_lt_or_eq.1 h1 with hlt | rfl
        · exact ⟨hlt, h2⟩
        · rw [he] at h2; simp [isEf] at h2
  · intro id
    rw [lastW, he]
    cases e <;> simp [nW, lookW, hp.wl]
end Go.Ab
namespace Go.Ab
variable {P : Program} {θ θ' θ'' : Th} {s s' s'' : St} {w w' w'' : World}

theorem storeId_undef {k : OpK} {args : List AV} {id : Nat} {v : AV} {sa : St} (h : storeId k args = some id) (he : aeff s k args = some (.val v sa)) :
    v = AV.undef ∧ ∃ n off x, k = .store n ∧ args = [.ptr id off, x] := by
  unfold storeId at h
  split at h
  · rename_i n id' off l
    simp at h
    subst h
    match l, he with
    | [x], he =>
      simp only [aeff, Bool.cond_eq_ite] at he
      split at he
      · split at he
        · simp at he; exact ⟨he.1.symm, n, off, x, rfl, rfl⟩
        · cases he
      · cases he
    | [], he => simp [aeff] at he
    | _ :: _ :: _, he => simp [aeff] at he
  · cases h

theorem putD_lt {nt : Nat} {T T1 : Tm} {d : Option Nat} {v : AV} (h : putD nt T d v = some T1) {x : Nat} (hx : d = some x) : x < nt := by
  subst hx
  unfold putD at h
  simp only [nble] at h
  by_cases hd : x + 1 ≤ nt
  · omega
  · simp [hd] at h
theorem adpass_facts {C : Ctx} {N nt base lim : Nat} {ds : List DOper} {es : List DEnt} {s0 : St} {t0 : Tm} (hbef : ∀ m d, ds[m]? = some d → ∀ k, testB d.before k = true → k < m) :
    ∀ (n i : Nat) (os : List DOper) (T : Tm) (S : St) (h : List (Nat × AObj)) (em : Nat) (wl : List (Nat × AObj)) (es' : List DEnt) (T' : Tm) (S' : St) (h' : List (Nat × AObj)) (wl' : List (Nat × AObj)),
      adpass C nt base lim n i os T S h em wl = some (es', T', S', h', wl') → ds.drop i = os → es.drop i = es' → Pre ds es s0 t0 i T S h em wl → n ≤ N → i ≤ ds.length →
      (∀ k o, i ≤ k → ds[k]? = some o → ∃ e T S h em wl, es[k]? = some e ∧ Pre ds es s0 t0 k T S h em wl ∧ OpF C N nt base lim k o (ds.drop (k + 1)) T S h em wl e ∧ ∀ x, o.dst = some x → x < nt) ∧
      (∃ em', Pre ds es s0 t0 ds.length T' S' h' em' wl') ∧ es'.length = os.length
  | 0, i, os, T, S, h, em, wl, es', T', S', h', wl', hr, hds, hes, hp, hn, hi => by simp [adpass] at hr
  | n + 1, i, [], T, S, h, em, wl, es', T', S', h', wl', hr, hds, hes, hp, hn, hi => by
    simp [adpass] at hr
    obtain ⟨rfl, rfl, rfl, rfl, rfl⟩ := hr
    have : ds.length ≤ i := by simpa using hds
    have hie : i = ds.length := by omega
    subst hie
    refine ⟨fun k o hk ho => ?_, ⟨em, hp⟩, rfl⟩
    have := (List.getElem?_eq_some_iff.1 ho).1
    omega
  | n + 1, i, o :: os, T, S, h, em, wl, es', T', S', h', wl', hr, hds, hes, hp, hn, hi => by
    have ho : ds[i]? = some o := by
      have := congrArg (fun l => l[0]?) hds
      simpa [List.getElem?_drop] using this
    have hil : i < ds.length := (List.getElem?_eq_some_iff.1 ho).1
    have hds1 : ds.drop (i + 1) = os := by
      have := congrArg (fun l => l.drop 1) hds
      simpa [List.drop_drop, Nat.add_comm] using this
    -- what follows an entry
    have cont : ∀ (e : DEnt) (T1 : Tm) (S1 : St) (h1 : List (Nat × AObj)) (em1 : Nat) (wl1 : List (Nat × AObj)) (es1 : List DEnt), S1 = nS S e → h1 = nH o.before i h e → em1 = nE i em e → wl1 = nW wl e →
        putD nt T o.dst (valOf e) = some T1 → OpF C N nt base lim i o os T S h em wl e → adpass C nt base lim n (i + 1) os T1 S1 h1 em1 wl1 = some (es1, T', S', h', wl') → es' = e :: es1 →
        (∀ k o, i ≤ k → ds[k]? = some o → ∃ e T S h em wl, es[k]? = some e ∧ Pre ds es s0 t0 k T S h em wl ∧ OpF C N nt base lim k o (ds.drop (k + 1)) T S h em wl e ∧ ∀ x, o.dst = some x → x < nt) ∧
        (∃ em', Pre ds es s0 t0 ds.length T' S' h' em' wl') ∧ es'.length = (o :: os).length := by
      intro e T1 S1 h1 em1 wl1 es1 q1 q2 q3 q4 q5 q6 q7 q8
      subst q1; subst q2; subst q3; subst q4; subst q8
      have hee : es[i]? = some e := by
        have := congrArg (fun l => l[0]?) hes
        simpa [List.getElem?_drop] using this
      have hes1 : es.drop (i + 1) = es1 := by
        have := congrArg (fun l => l.drop 1) hes
        simpa [List.drop_drop, Nat.add_comm] using this
      have hpn := hp.next hbef ho hee q5
      obtain ⟨r1, r2, r3⟩ := adpass_facts (N := N) hbef n (i + 1) os T1 _ _ _ _ es1 T' S' h' wl' q7 hds1 hes1 hpn (by omega) (by omega)
      refine ⟨fun k o' hk hko => ?_, r2, by simp [r3]⟩
      rcases Nat.lt_or_ge i k with hlt | hge
      · exact r1 k o' hlt hko
      · have : k = i := by omega
        subst this
        rw [ho] at hko
        simp at hko
        subst hko
        exact ⟨e, T, S, h, em, wl, hee, hp, by rw [hds1]; exact q6, fun x hx => putD_lt q5 hx⟩
    simp only [adpass] at hr
    cases hgd : guardV T o.guard with
    | none => simp [hgd] at hr
    | some b =>
      cases b with
      | false =>
        simp only [hgd] at hr
        cases hpt : putD nt T o.dst AV.undef with
        | none => simp [hpt] at hr
        | some T1 =>
          simp only [hpt] at hr
          cases had : adpass C nt base lim n (i + 1) os T1 S h em wl with
          | none => simp [had] at hr
          | some r =>
            obtain ⟨es1, r⟩ := r
            simp [had] at hr
            obtain ⟨rfl, rfl⟩ := hr
            exact cont .sk T1 S h em wl es1 rfl rfl rfl rfl hpt (.sk hgd) had rfl
      | true =>
        simp only [hgd] at hr
        cases hev : evals T o.args with
        | none => simp [hev] at hr
        | some args =>
          simp only [hev] at hr
          cases hrd : aread S o.k args with
          | some v =>
            simp only [hrd] at hr
            cases hpt : putD nt T o.dst v with
            | none => simp [hpt] at hr
            | some T1 =>
              simp only [hpt] at hr
              cases had : adpass C nt base lim n (i + 1) os T1 S h em wl with
              | none => simp [had] at hr
              | some r =>
                obtain ⟨es1, r⟩ := r
                simp [had] at hr
                obtain ⟨rfl, rfl⟩ := hr
                exact cont (.rd v args) T1 S h em wl es1 rfl rfl rfl rfl hpt (.rd v args hgd hev hrd) had rfl
          | none =>
            simp only [hrd] at hr
            cases hal : aalloc o.k args with
            | some om =>
              obtain ⟨ob, mk⟩ := om
              simp only [hal] at hr
              cases hpt : putD nt T o.dst (mk (base + i)) with
              | none => simp [hpt] at hr
              | some T1 =>
                simp only [hpt] at hr
                cases had : adpass C nt base lim n (i + 1) os T1 S ((i, ob) :: h) em wl with
                | none => simp [had] at hr
                | some r =>
                  obtain ⟨es1, r⟩ := r
                  simp [had] at hr
                  obtain ⟨rfl, rfl⟩ := hr
                  exact cont (.al (mk (base + i)) ob) T1 S ((i, ob) :: h) em wl es1 rfl rfl rfl rfl hpt (.al args ob mk hgd hev hal) had rfl
            | none =>
              simp only [hal] at hr
              cases hem : Nat.beq (Nat.land em o.before) em with
              | false => simp only [hem, cond_false] at hr; cases hr
              | true =>
                simp only [hem, cond_true] at hr
                cases hst : (cond (noEff os) (storeId o.k args) none) with
                | some id =>
                  simp only [hst] at hr
                  have hne : noEff os = true := by
                    cases hq : noEff os with
                    | true => rfl
                    | false => simp [hq] at hst
                  have hsid : storeId o.k args = some id := by simpa [hne] using hst
                  cases hcur : curOf (lookW id wl) ((insHeld o.before base S h).get id) with
                  | none => simp [hcur] at hr
                  | some cur =>
                    simp only [hcur] at hr
                    cases hef : aeff ((insHeld o.before base S h).put id cur) o.k args with
                    | none => simp [hef] at hr
                    | some rr =>
                      cases rr <;> simp only [hef] at hr <;> first | (cases hr; done) | skip
                      rename_i v sa
                      obtain ⟨rfl, _⟩ := storeId_undef hsid hef
                      cases hsa : sa.get id with
                      | none => simp [hsa] at hr
                      | some ob =>
                        cases hpt : putD nt T o.dst AV.undef with
                        | none => simp [hsa, hpt] at hr
                        | some T1 =>
                          cases hck : (cond (Nat.ble base id && Nat.ble (id + 1) lim) (testB o.before (id - base)) true) with
                          | false => simp [hsa, hpt, hck] at hr
                          | true =>
                            simp only [hsa, hpt, hck] at hr
                            cases had : adpass C nt base lim n (i + 1) os T1 S h em ((id, ob) :: wl) with
                            | none => simp [had] at hr
                            | some r =>
                              obtain ⟨es1, r⟩ := r
                              simp [had] at hr
                              obtain ⟨rfl, rfl⟩ := hr
                              exact cont (.wr id ob) T1 S h em ((id, ob) :: wl) es1 rfl rfl rfl rfl hpt (.wr args id ob cur sa hgd hev hem hne hsid hcur hef hsa hck) had rfl
                | none =>
                  simp only [hst] at hr
                  have fin : ∀ v sa, (aeff (insHeld o.before base S h) o.k args = some (.val v sa) ∨ (∃ m f l, m < N ∧ aeff (insHeld o.before base S h) o.k args = some (.call f l) ∧ acall C m f l (insHeld o.before base S h) = some (v, sa)) ∨
                      (∃ m id l, m < N ∧ aeff (insHeld o.before base S h) o.k args = some (.yield id l) ∧ ayield C m id l (insHeld o.before base S h) = some (v, sa))) →
                      (match putD nt T o.dst v with
                        | some t => match adpass C nt base lim n (i + 1) os t sa (remHeld o.before h) (Nat.lor em (Nat.shiftLeft 1 i)) wl with | some (es, r) => some (DEnt.ef v sa :: es, r) | none => none
                        | none => none) = some (es', T', S', h', wl') →
                      (∀ k o, i ≤ k → ds[k]? = some o → ∃ e T S h em wl, es[k]? = some e ∧ Pre ds es s0 t0 k T S h em wl ∧ OpF C N nt base lim k o (ds.drop (k + 1)) T S h em wl e ∧ ∀ x, o.dst = some x → x < nt) ∧
                      (∃ em', Pre ds es s0 t0 ds.length T' S' h' em' wl') ∧ es'.length = (o :: os).length := by
                    intro v sa hcase hr
                    cases hpt : putD nt T o.dst v with
                    | none => simp [hpt] at hr
                    | some T1 =>
                      simp only [hpt] at hr
                      cases had : adpass C nt base lim n (i + 1) os T1 sa (remHeld o.before h) (Nat.lor em (Nat.shiftLeft 1 i)) wl with
                      | none => simp only [had] at hr; cases hr
                      | some r =>
                        obtain ⟨es1, r⟩ := r
                        simp only [had] at hr
                        simp at hr
                        obtain ⟨rfl, rfl⟩ := hr
                        exact cont (.ef v sa) T1 sa (remHeld o.before h) _ wl es1 rfl rfl rfl rfl hpt (.ef args v sa hgd hev hem hst hcase) had rfl
                  cases hef : aeff (insHeld o.before base S h) o.k args with
                  | none => simp [hef] at hr
                  | some rr =>
                    cases rr with
                    | val v sa => simp only [hef] at hr; exact fin v sa (.inl hef) hr
                    | call f l =>
                      simp only [hef] at hr
                      cases hcl : acall C n f l (insHeld o.before base S h) with
                      | none => simp [hcl] at hr
                      | some vs => obtain ⟨v, sa⟩ := vs; simp only [hcl] at hr; exact fin v sa (.inr (.inl ⟨n, f, l, by omega, hef, hcl⟩)) hr
                    | yield id l =>
                      simp only [hef] at hr
                      cases hcl : ayield C n id l (insHeld o.before base S h) with
                      | none => simp [hcl] at hr
                      | some vs => obtain ⟨v, sa⟩ := vs; simp only [hcl] at hr; exact fin v sa (.inr (.inr ⟨n, id, l, by omega, hef, hcl⟩)) hr
end Go.Ab
namespace Go.Ab
variable {P : Program} {θ θ' θ'' : Th} {s s' s'' : St} {w w' w'' : World}

/-! ### lists -/
theorem trDs_spec : ∀ (l : List AOper) (bs : List Nat), l.length = bs.length → (trDs l bs).length = l.length ∧ ∀ (i : Nat) (a : AOper) (b : Nat), l[i]? = some a → bs[i]? = some b → (trDs l bs)[i]? = some { a with before := b }
  | [], [], _ => ⟨rfl, by simp⟩
  | a :: l, b :: bs, h => by
    obtain ⟨h1, h2⟩ := trDs_spec l bs (by simpa using h)
    refine ⟨by simp [trDs, h1], ?_⟩
    intro i a' b' ha hb
    cases i with
    | zero => simp at ha hb; subst ha; subst hb; rfl
    | succ i => simpa [trDs] using h2 i a' b' (by simpa using ha) (by simpa using hb)
  | [], _ :: _, h => by simp at h
  | _ :: _, [], h => by simp at h
theorem trOpers_spec {ops : Array Oper} : ∀ {L : List Oper} {l : List AOper}, trOpers P ops L = some l → l.length = L.length ∧ ∀ (i : Nat) (o : Oper), L[i]? = some o → ∃ a, l[i]? = some a ∧ trOper P ops o = some a
  | [], l, h => by simp [trOpers] at h; subst h; simp
  | o :: L, l, h => by
    simp only [trOpers] at h
    cases h1 : trOper P ops o with
    | none => simp [h1] at h
    | some a =>
      cases h2 : trOpers P ops L with
      | none => simp [h1, h2] at h
      | some l' =>
        simp [h1, h2] at h
        subst h
        obtain ⟨q1, q2⟩ := trOpers_spec h2
        refine ⟨by simp [q1], ?_⟩
        intro i o' ho
        cases i with
        | zero => simp at ho; subst ho; exact ⟨a, rfl, h1⟩
        | succ i => simpa using q2 i o' (by simpa using ho)
theorem befOk_spec : ∀ {l : List DOper} {i : Nat}, befOk i l = true → ∀ (k : Nat) (d : DOper), l[k]? = some d → Nat.ble (d.before + 1) (Nat.shiftLeft 1 (i + k)) = true
  | [], i, _, k, d, hd => by simp at hd
  | o :: l, i, h, k, d, hd => by
    simp only [befOk] at h
    cases hb : Nat.ble (o.before + 1) (Nat.shiftLeft 1 i) with
    | false => simp only [hb, cond_false] at h; cases h
    | true =>
      simp only [hb, cond_true] at h
      cases k with
      | zero => simp at hd; subst hd; exact hb
      | succ k =>
        have := befOk_spec h k d (by simpa using hd)
        have e : i + 1 + k = i + (k + 1) := by omega
        rw [e] at this; exact this
theorem rowOk_spec {i : Nat} {a : DOper} : ∀ {l : List DOper} {j : Nat}, rowOk i a j l = true → ∀ (m : Nat) (b : DOper), l[m]? = some b → pairOk i a (j + m) b = true
  | [], j, _, m, b, hb => by simp at hb
  | o :: l, j, h, m, b, hb => by
    simp only [rowOk, Bool.and_eq_true] at h
    cases m with
    | zero => simp at hb; subst hb; exact h.1
    | succ m =>
      have := rowOk_spec h.2 m b (by simpa using hb)
      have e : j + 1 + m = j + (m + 1) := by omega
      rw [e] at this; exact this
theorem rowsOk_spec {all : List DOper} : ∀ {l : List DOper} {i : Nat}, rowsOk all i l = true → ∀ (k : Nat) (a : DOper), l[k]? = some a → rowOk (i + k) a 0 all = true
  | [], i, _, k, a, ha => by simp at ha
  | o :: l, i, h, k, a, ha => by
    simp only [rowsOk, Bool.and_eq_true] at h
    cases k with
    | zero => simp at ha; subst ha; exact h.1
    | succ k =>
      have := rowsOk_spec h.2 k a (by simpa using ha)
      have e : i + 1 + k = i + (k + 1) := by omega
      rw [e] at this; exact this
theorem pairOk_spec {i j : Nat} {a b : DOper} (h : pairOk i a j b = true) {x : Nat} (hx : b.dst = some x) :
    (usesD a x = true → testB a.before j = true ∨ testB b.before i = true) ∧ (a.dst = some x → i = j) := by
  unfold pairOk at h
  simp only [hx, Bool.and_eq_true] at h
  refine ⟨fun hu => ?_, fun ha => ?_⟩
  · have := h.1
    simp only [hu, cond_true, Bool.or_eq_true] at this
    exact this
  · have := h.2
    simp only [ha, nbeq, decide_true, cond_true, decide_eq_true_eq] at this
    exact this

theorem wrRow_spec {i id : Nat} : ∀ {l : List (Nat × Nat × Nat)}, wrRow i id l = true → ∀ j b, (j, b, id) ∈ l → testB b i = true
  | [], _, j, b, h => by simp at h
  | (j', b', id') :: l, hr, j, b, h => by
    simp only [wrRow, Bool.and_eq_true] at hr
    rcases List.mem_cons.1 h with h | h
    · simp at h
      obtain ⟨rfl, rfl, rfl⟩ := h
      have := hr.1
      simpa [nbeq] using this
    · exact wrRow_spec hr.2 j b h
theorem wrsOf_mem : ∀ {ds : List DOper} {es : List DEnt} {j i b id : Nat}, (i, b, id) ∈ wrsOf j ds es ↔ j ≤ i ∧ ∃ d ob, ds[i - j]? = some d ∧ es[i - j]? = some (.wr id ob) ∧ b = d.before
  | [], es, j, i, b, id => by simp [wrsOf]
  | d :: ds, [], j, i, b, id => by simp [wrsOf]
  | d :: ds, e :: es, j, i, b, id => by
    have step : (∃ d' ob, (d :: ds)[i - j]? = some d' ∧ (e :: es)[i - j]? = some (.wr id ob) ∧ b = d'.before) ∧ j ≤ i ↔
        (i = j ∧ ∃ ob, e = .wr id ob ∧ b = d.before) ∨ (j + 1 ≤ i ∧ ∃ d' ob, ds[i - (j + 1)]? = some d' ∧ es[i - (j + 1)]? = some (.wr id ob) ∧ b = d'.before) := by
      constructor
      · rintro ⟨⟨d', ob, h1, h2, h3⟩, hj⟩
        rcases Nat.lt_or_ge j i with hlt | hge
        · have e1 : i - j = (i - (j + 1)) + 1 := by omega
          rw [e1] at h1 h2
          exact .inr ⟨hlt, d', ob, by simpa using h1, by simpa using h2, h3⟩
        · have : i = j := by omega
          subst this
          simp at h1 h2
          subst h1
          exact .inl ⟨rfl, ob, h2, h3⟩
      · rintro (⟨rfl, ob, h1, h2⟩ | ⟨hj, d', ob, h1, h2, h3⟩)
        · exact ⟨⟨d, ob, by simp, by simp [h1], h2⟩, Nat.le_refl _⟩
        · have e1 : i - j = (i - (j + 1)) + 1 := by omega
          exact ⟨⟨d', ob, by rw [e1]; simpa using h1, by rw [e1]; simpa using h2, h3⟩, by omega⟩
    rw [and_comm, step]
    cases e with
    | wr id' ob =>
      simp only [wrsOf, List.mem_cons, wrsOf_mem, Prod.mk.injEq]
      constructor
      · rintro (⟨rfl, rfl, rfl⟩ | h)
        · exact .inl ⟨rfl, ob, rfl, rfl⟩
        · exact .inr h
      · rintro (⟨rfl, ob', h1, h2⟩ | h)
        · simp at h1; exact .inl ⟨rfl, h2, h1.1.symm⟩
        · exact .inr h
    | _ =>
      simp only [wrsOf, wrsOf_mem]
      constructor
      · exact .inr
      · rintro (⟨_, _, h, _⟩ | h)
        · cases h
        · exact h
theorem wrsOk_spec : ∀ {l : List (Nat × Nat × Nat)}, wrsOk l = true → l.Pairwise (fun x y => x.2.2 = y.2.2 → testB y.2.1 x.1 = true)
  | [], _ => .nil
  | (i, b, id) :: l, h => by
    simp only [wrsOk, Bool.and_eq_true] at h
    refine .cons (fun y hy he => ?_) (wrsOk_spec h.2)
    obtain ⟨j, b', id'⟩ := y
    simp at he
    subst he
    exact wrRow_spec h.1 j b' hy
theorem wrsOf_sorted : ∀ (ds : List DOper) (es : List DEnt) (j : Nat), (wrsOf j ds es).Pairwise (fun x y => x.1 < y.1)
  | [], es, j => by simp [wrsOf]
  | d :: ds, [], j => by simp [wrsOf]
  | d :: ds, e :: es, j => by
    have ih := wrsOf_sorted ds es (j + 1)
    cases e with
    | wr id ob =>
      simp only [wrsOf]
      refine .cons (fun y hy => ?_) ih
      obtain ⟨i, b, id'⟩ := y
      have := (wrsOf_mem.1 hy).1
      simp only
      omega
    | _ => simpa [wrsOf] using ih
/-- of two stores to one object, the text's first is ahead -/
theorem wrs_order {ds : List DOper} {es : List DEnt} (h : wrsOk (wrsOf 0 ds es) = true) {i j id : Nat} {di dj : DOper} {oi oj : AObj} (hi : ds[i]? = some di) (hj : ds[j]? = some dj) (ei : es[i]? = some (.wr id oi)) (ej : es[j]? = some (.wr id oj)) (hlt : i < j) :
    testB dj.before i = true := by
  have m1 : (i, di.before, id) ∈ wrsOf 0 ds es := wrsOf_mem.2 ⟨Nat.zero_le _, di, oi, by simpa using hi, by simpa using ei, rfl⟩
  have m2 : (j, dj.before, id) ∈ wrsOf 0 ds es := wrsOf_mem.2 ⟨Nat.zero_le _, dj, oj, by simpa using hj, by simpa using ej, rfl⟩
  have hp := (wrsOk_spec h).and (wrsOf_sorted ds es 0)
  generalize wrsOf 0 ds es = l at m1 m2 hp
  induction l with
  | nil => cases m1
  | cons x l ih =>
    cases hp with
    | cons hx hp =>
      rcases List.mem_cons.1 m1 with h1 | h1
      · rcases List.mem_cons.1 m2 with h2 | h2
        · rw [← h1] at h2; simp at h2; omega
        · have := (hx _ h2).1
          rw [← h1] at this
          exact this rfl
      · rcases List.mem_cons.1 m2 with h2 | h2
        · have := (hx _ h1).2
          rw [← h2] at this
          simp at this
          omega
        · exact ih h1 h2 hp

/-! ### reads -/
theorem anyIn_false {m : Nat} : ∀ {l : List (Nat × Nat × St)}, (∀ e b sa, (e, b, sa) ∈ l → testB m e = false) → anyIn m l = false
  | [], _ => rfl
  | (e, b, sa) :: l, h => by
    simp only [anyIn, h e b sa (by simp), cond_false]
    exact anyIn_false fun e' b' sa' h' => h e' b' sa' (by simp [h'])
theorem effsOf_mem : ∀ {ds : List DOper} {es : List DEnt} {j e b : Nat} {sa : St}, (e, b, sa) ∈ effsOf j ds es → j ≤ e ∧ isEf es[e - j]? = true
  | [], es, j, e, b, sa, h => by simp [effsOf] at h
  | d :: ds, [], j, e, b, sa, h => by simp [effsOf] at h
  | d :: ds, x :: es, j, e, b, sa, h => by
    have rec' : (e, b, sa) ∈ effsOf (j + 1) ds es → j ≤ e ∧ isEf (x :: es)[e - j]? = true := by
      intro h
      obtain ⟨h1, h2⟩ := effsOf_mem h
      have e1 : e - j = (e - (j + 1)) + 1 := by omega
      exact ⟨by omega, by rw [e1]; simpa using h2⟩
    cases x with
    | ef v sa' =>
      simp only [effsOf, List.mem_cons, Prod.mk.injEq] at h
      rcases h with ⟨rfl, rfl, rfl⟩ | h
      · exact ⟨Nat.le_refl _, by simp [isEf]⟩
      · exact rec' h
    | _ => exact rec' (by simpa [effsOf] using h)

theorem stable_cut {ds : List DOper} {es : List DEnt} {s0 : St} {wrs : List (Nat × Nat × Nat)} {i : Nat} {o : DOper} {args : List AV} {v : AV} {c : Nat} (hl : es.length = ds.length)
    (h1 : ∀ e d, isEf es[e]? = true → ds[e]? = some d → e < c → testB d.before i = false) (h2 : ∀ e, isEf es[e]? = true → c ≤ e → testB o.before e = false) :
    ∀ (m j : Nat), c - j = m → j ≤ c → stable wrs i o args v (effsOf j (ds.drop j) (es.drop j)) (lastS es s0 j) = true → readIs (dropW i (lastS es s0 c) wrs) o.k args v = true
  | 0, j, hm, hj, hst => by
    have : j = c := by omega
    subst this
    have hany : anyIn o.before (effsOf j (ds.drop j) (es.drop j)) = false := anyIn_false fun e b sa he => by
      obtain ⟨g1, g2⟩ := effsOf_mem he
      rw [List.getElem?_drop] at g2
      have e1 : j + (e - j) = e := by omega
      rw [e1] at g2
      exact h2 e g2 g1
    generalize effsOf j (ds.drop j) (es.drop j) = effs at hst hany
    cases effs with
    | nil => exact hst
    | cons x l =>
      obtain ⟨e, b, sa⟩ := x
      simp only [stable, Bool.and_eq_true, hany, cond_false] at hst
      exact hst.1
  | m + 1, j, hm, hj, hst => by
    have ih := stable_cut (s0 := s0) (wrs := wrs) (args := args) (v := v) hl h1 h2 m (j + 1) (by omega) (by omega)
    rcases Nat.lt_or_ge j ds.length with hlt | hge
    · have hle : j < es.length := by omega
      have d1 : ds.drop j = ds[j] :: ds.drop (j + 1) := List.drop_eq_getElem_cons hlt
      have d2 : es.drop j = es[j] :: es.drop (j + 1) := List.drop_eq_getElem_cons hle
      have ge : es[j]? = some es[j] := List.getElem?_eq_getElem hle
      rw [d1, d2] at hst
      have hls : lastS es s0 (j + 1) = match es[j] with | .ef _ sa => sa | _ => lastS es s0 j := by
        rw [lastS, ge]
        cases es[j] <;> rfl
      cases he : es[j] with
      | ef v' sa =>
        rw [he] at hst hls
        simp only [effsOf, stable, Bool.and_eq_true] at hst
        have hb := h1 j ds[j] (by rw [ge, he]; rfl) (List.getElem?_eq_getElem hlt) (by omega)
        rw [hb] at hst
        simp only at hls
        rw [← hls] at hst
        exact ih hst.2
      | _ =>
        rw [he] at hst hls
        simp only [effsOf] at hst
        simp only at hls
        rw [← hls] at hst
        exact ih hst
    · have e1 : ds.drop j = [] := List.drop_eq_nil_of_le hge
      have e2 : ds.drop (j + 1) = [] := List.drop_eq_nil_of_le (by omega)
      have e3 : es[j]? = none := List.getElem?_eq_none (by omega)
      refine ih ?_
      rw [e2]
      rw [e1] at hst
      rw [lastS, e3]
      exact hst
theorem stables_spec {wrs : List (Nat × Nat × Nat)} {effs : List (Nat × Nat × St)} {s0 : St} : ∀ {ds : List DOper} {es : List DEnt} {j : Nat}, stables wrs effs s0 j ds es = true →
    ∀ (i : Nat) (d : DOper) (v : AV) (args : List AV), ds[i]? = some d → es[i]? = some (.rd v args) → stable wrs (j + i) d args v effs s0 = true
  | [], es, j, _, i, d, v, args, hd, _ => by simp at hd
  | o :: ds, [], j, _, i, d, v, args, _, he => by simp at he
  | o :: ds, e :: es, j, h, i, d, v, args, hd, he => by
    have rec' : stables wrs effs s0 (j + 1) ds es = true → ∀ i', i = i' + 1 → stable wrs (j + i) d args v effs s0 = true := by
      intro h i' hi
      subst hi
      have := stables_spec h i' d v args (by simpa using hd) (by simpa using he)
      have e1 : j + 1 + i' = j + (i' + 1) := by omega
      rw [e1] at this; exact this
    cases i with
    | zero =>
      simp at hd he
      subst hd; subst he
      simp only [stables, Bool.and_eq_true] at h
      exact h.1
    | succ i =>
      cases e with
      | rd v' args' =>
        simp only [stables, Bool.and_eq_true] at h
        exact rec' h.2 i rfl
      | _ => exact rec' (by simpa [stables] using h) i rfl
theorem dropW_get {i : Nat} {σ : St} : ∀ {wrs : List (Nat × Nat × Nat)} {id : Nat} {o : AObj}, (dropW i σ wrs).get id = some o → σ.get id = some o ∧ ∀ j b, (j, b, id) ∈ wrs → testB b i = true
  | [], id, o, h => ⟨h, by simp⟩
  | (j, b, id') :: l, id, o, h => by
    simp only [dropW] at h
    cases hb : testB b i with
    | true =>
      simp only [hb, cond_true] at h
      obtain ⟨h1, h2⟩ := dropW_get h
      refine ⟨h1, fun j' b' hm => ?_⟩
      rcases List.mem_cons.1 hm with hm | hm
      · simp at hm; obtain ⟨_, rfl, _⟩ := hm; exact hb
      · exact h2 j' b' hm
    | false =>
      simp only [hb, cond_false, St.get_drop] at h
      by_cases e : id = id'
      · simp [e] at h
      · rw [if_neg e] at h
        obtain ⟨h1, h2⟩ := dropW_get h
        refine ⟨h1, fun j' b' hm => ?_⟩
        rcases List.mem_cons.1 hm with hm | hm
        · simp at hm; exact absurd hm.2.2 e
        · exact h2 j' b' hm

theorem readCells_mono {s s' : St} (hs : ∀ id o, s.get id = some o → s'.get id = some o) {id off n : Nat} {l : List AV} (h : readCells s id off n = some l) : readCells s' id off n = some l := by
  unfold readCells at h ⊢
  cases hg : s.get id with
  | none => simp [hg] at h
  | some o => rw [hs id o hg]; rw [hg] at h; exact h
theorem readOne_mono {s s' : St} (hs : ∀ id o, s.get id = some o → s'.get id = some o) {id off : Nat} {l : AV} (h : readOne s id off = some l) : readOne s' id off = some l := by
  unfold readOne at h ⊢
  cases hg : s.get id with
  | none => simp [hg] at h
  | some o => rw [hs id o hg]; rw [hg] at h; exact h
end Go.Ab
