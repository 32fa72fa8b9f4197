/- The abstract machine: the other operations do what the model's operations do. -/
import Derived.Test.YtdkcpdmpdpglbaaGreatDoorAb1
import Derived.Laws.Tables
import Derived.Lib.UnsafeStr
import Derived.Lib.Builder
import Derived.Lib.FrozenHead
set_option autoImplicit false
set_option linter.unusedVariables false
set_option linter.unusedSimpArgs false
set_option linter.unnecessarySimpa false
/-! Equality as an operation; maps' keys. -/
namespace Go.Ab
variable {P : Program} {CR : Code → AC → Prop} {θ : Th} {s : St} {w : World}

theorem run_eqV {ks : KS} {t : TypeId} {x y : AV} {b : Bool} (hk : ksT P t = some ks) (h : eqV ks x y = some b) (D : Nat) (hD : 8 ≤ D) :
    (Op.equalIn D t (conc θ x) (conc θ y)).run P w = .ok b w := by
  unfold ksT at hk
  cases hu : P.underlying t with
  | none => simp [hu] at hk
  | some ds =>
    have st : (∀ fs, ds ≠ .struct fs) → (Op.equalIn D t (conc θ x) (conc θ y)).run P w = .ok b w := by
      intro hd
      cases hkk : keysT P 8 t with
      | none => cases ds <;> simp [hu, hkk] at hk
      | some kl =>
        obtain ⟨k, rfl, hnb, hat⟩ := (run_keys (w := w) (θ := θ) 8 t kl D hkk hD).2 (fun fs e => hd fs (by rw [hu] at e; exact Option.some.inj e))
        have : ks = .atom k := by cases ds <;> simp [hu, hkk] at hk <;> first | exact hk.symm | exact absurd rfl (hd _)
        subst this
        exact hat x y b h
    cases ds with
    | struct fs =>
      cases hkk : keysT P 8 t with
      | none => simp [hu, hkk] at hk
      | some kl =>
        simp [hu, hkk] at hk
        obtain ⟨_, rfl⟩ := hk
        match x, y, h with
        | .agg xs, .agg ys, h =>
          simp only [eqV, nbeq, lenL_eq] at h
          by_cases h1 : xs.length = kl.length
          · by_cases h2 : ys.length = kl.length
            · simp [h1, h2] at h
              exact (run_keys (w := w) (θ := θ) 8 t kl D hkk hD).1 fs hu xs ys b h1 h2 h
            · simp [h1, h2] at h
          · simp [h1] at h
    | _ => exact st (by intro fs; simp)
theorem run_equal {ks : KS} {t : TypeId} {x y : AV} {b : Bool} (hk : ksT P t = some ks) (h : eqV ks x y = some b) : (Op.equal t (conc θ x) (conc θ y)).run P w = .ok b w :=
  run_eqV hk h Op.maxDepth (by simp [Op.maxDepth])

/-- what a search for a key tells -/
def foundOf (θ : Th) : Option Nat → Option AV → Option (Nat × Value)
  | some j, some v => some (j, conc θ v)
  | _, _ => none
/-- where a key stands -/
def findI (ks : KS) (k : AV) : List MEnt → Nat → Option Nat
  | [], _ => none
  | e :: es, i => match eqV ks k e.key with
    | some true => some i
    | _ => findI ks k es (i + 1)

theorem run_findAsking {ks : KS} {t : TypeId} (hk : ksT P t = some ks) {k : AV} : ∀ (es : List MEnt) (i : Nat) (r : Option AV), findE ks k es = some r →
    (Instr.findAsking t (conc θ k) (es.map (concE θ)) i).run P w = .ok (foundOf θ (findI ks k es i) r) w
  | [], i, r, h => by simp [findE] at h; subst h; simp [Instr.findAsking, findI, foundOf]
  | e :: es, i, r, h => by
    simp only [findE] at h
    cases he : eqV ks k e.key with
    | none => simp [he] at h
    | some b =>
      have hq := run_equal (w := w) (θ := θ) hk he
      cases b
      · simp [he] at h
        have ih := run_findAsking hk es (i + 1) r h
        simp [Instr.findAsking, concE, hq, findI, he] at ih ⊢
        simp [ih]
      · simp [he] at h
        subst h
        simp [Instr.findAsking, concE, hq, findI, he, foundOf]

theorem sameNow_atom {ek : EK} {d : TypeDesc} {x y : AV} {b : Bool} (h : eqAtom ek x y = some b) {c : Bool} (hs : Instr.sameNow d (conc θ x) (conc θ y) = some c) : c = b := by
  cases ek <;> cases x <;> cases y <;> simp [eqAtom] at h <;> cases d <;> simp [conc, Instr.sameNow] at hs
  case bool.bool.bool.bool p q => subst h; subst hs; cases p <;> cases q <;> rfl
  case int.int.int.int k a k' b' _ =>
    rw [eqK_eq, eqI_eq] at h
    by_cases e : k = k'
    · subst e; simp at h hs; rw [← hs, ← h]
    · simp [e] at h
  case str.str.str.string a b' =>
    rw [eqB_eq] at h
    subst h; subst hs
    rw [beq_toListBytes]; simp

theorem findNow_eq {ks : KS} {d : TypeDesc} {k : AV} : ∀ (es : List MEnt) (i : Nat) (r : Option AV), findE ks k es = some r → ∀ q, Instr.findNow d (conc θ k) (es.map (concE θ)) i = some q →
    q = (foundOf θ (findI ks k es i) r)
  | [], i, r, h, q, hq => by simp [findE] at h; subst h; simp [Instr.findNow] at hq; subst hq; simp [findI, foundOf]
  | e :: es, i, r, h, q, hq => by
    simp only [findE] at h
    simp only [List.map_cons, Instr.findNow, concE] at hq
    cases he : eqV ks k e.key with
    | none => simp [he] at h
    | some b =>
      cases hs : Instr.sameNow d (conc θ k) (conc θ e.key) with
      | none => simp [hs] at hq
      | some c =>
        have hcb : c = b := by
          cases ks with
          | atom ek => exact sameNow_atom he hs
          | cells kl =>
            cases k <;> cases he' : e.key <;> simp [he', eqV] at he
            simp [he', conc, Instr.sameNow] at hs
        subst hcb
        cases c
        · simp [he] at h
          simp [hs] at hq
          have ih := findNow_eq es (i + 1) r h q hq
          simp [findI, he, ih]
        · simp [he] at h
          subst h
          simp [hs] at hq
          subst hq
          simp [findI, he, foundOf]

theorem run_findKey {ks : KS} {t : TypeId} (hk : ksT P t = some ks) {k : AV} {es : List MEnt} {r : Option AV} (h : findE ks k es = some r) :
    (Instr.findKey t (conc θ k) (es.map (concE θ))).run P w = .ok (foundOf θ (findI ks k es 0) r) w := by
  have hu : ∃ d, P.underlying t = some d := by
    unfold ksT at hk
    cases hu : P.underlying t with
    | none => simp [hu] at hk
    | some d => exact ⟨d, rfl⟩
  obtain ⟨d, hu⟩ := hu
  have ha := run_findAsking (w := w) (θ := θ) hk es 0 r h
  unfold Instr.findKey
  simp only [Sem.run_bind, run_underlying hu, Result.andThen_ok]
  cases hn : Instr.findNow d (conc θ k) (es.map (concE θ)) 0 with
  | none => simp only [ha]
  | some q => simp only [Sem.run_pure]; rw [findNow_eq es 0 r h q hn]

/-- a key of such a type may be a key -/
theorem run_checkKeys (e : Bool) : ∀ (d : Nat) (t : TypeId) (ks : List EK) (D : Nat), keysT P d t = some ks → d ≤ D →
    (∀ fs, P.underlying t = some (.struct fs) → ∀ (xs : List AV), xs.length = ks.length → (Instr.checkKey e D t (.agg (concL θ xs).toArray)).run P w = .ok () w) ∧
    ((∀ fs, P.underlying t ≠ some (.struct fs)) → ∀ v, (Instr.checkKey e D t v).run P w = .ok () w) := by
  intro d
  induction d with
  | zero => intro t ks D h; simp [keysT] at h
  | succ d ih =>
    intro t ks D h hD
    obtain ⟨D, rfl⟩ : ∃ D', D = D' + 1 := ⟨D - 1, by omega⟩
    refine ⟨?_, ?_⟩
    · intro fs hu xs hxl
      have h' := h
      simp only [keysT, hu] at h'
      by_cases hs : P.stoodInHeld t
      · simp [hs] at h'
      · have hs' : P.stoodInHeld t = false := by simpa using hs
        simp [hs'] at h'
        have main : ∀ (fl : List Field) (off : Nat) (kl : List EK) (px xl : List AV), keysFields P (keysT P d) off fl = some kl → px.length = off → xs = px ++ xl →
            xl.length = kl.length → (forIn fl PUnit.unit (fun f (_ : PUnit) => do
              if f.name ≠ "_" then Instr.checkKey e D f.type (← part f.type (concL θ xs).toArray f.offset)
              pure (ForInStep.yield PUnit.unit)) : Sem PUnit).run P w = .ok () w := by
          intro fl
          induction fl with
          | nil => intro off kl px xl hk _ _ _; simp
          | cons f fl ihf =>
            intro off kl px xl hk hpx hxs hlx
            simp only [keysFields] at hk
            by_cases hof : f.offset = off
            · simp only [hof, if_true] at hk
              cases hn : sizeT P f.type with
              | none => simp [hn] at hk
              | some n =>
                simp only [hn] at hk
                by_cases hb : f.name = "_"
                · simp only [hb, if_true] at hk
                  cases hrest : keysFields P (keysT P d) (off + n) fl with
                  | none => simp [hrest] at hk
                  | some kb =>
                    simp [hrest] at hk
                    subst hk
                    simp at hlx
                    have := ihf (off + n) kb (px ++ xl.take n) (xl.drop n) hrest (by simp; omega) (by rw [hxs, List.append_assoc, List.take_append_drop]) (by simp; omega)
                    simp [hb] at this ⊢
                    exact this
                · simp only [hb, if_false] at hk
                  cases hka : keysT P d f.type with
                  | none => simp [hka] at hk
                  | some ka =>
                    cases hrest : keysFields P (keysT P d) (off + n) fl with
                    | none => simp [hka, hrest] at hk
                    | some kb =>
                      simp [hka, hrest] at hk
                      obtain ⟨hlen, rfl⟩ := hk
                      simp at hlx
                      have ihd := ih f.type ka D hka (by omega)
                      obtain ⟨x1, x2, rfl, hx1⟩ : ∃ x1 x2, xl = x1 ++ x2 ∧ x1.length = n := ⟨xl.take n, xl.drop n, (List.take_append_drop n xl).symm, by simp; omega⟩
                      have hfin : ∃ u, (part f.type (concL θ xs).toArray f.offset).run P w = .ok u w ∧ (Instr.checkKey e D f.type u).run P w = .ok () w := by
                        by_cases hst : ∃ fs', P.underlying f.type = some (.struct fs')
                        · obtain ⟨fs', hfs'⟩ := hst
                          have hag := (keysT_size hka).2 fs' hfs'
                          have p1 := run_partN (P := P) (w := w) hag hn (concL θ xs).toArray f.offset
                          rw [extract_list, ← concL_drop, ← concL_take, hof, hxs] at p1
                          rw [List.drop_left' hpx, List.take_left' hx1] at p1
                          subst hxs
                          exact ⟨_, by rw [hof]; exact p1, ihd.1 fs' hfs' x1 (by omega)⟩
                        · have hst' : ∀ fs', P.underlying f.type ≠ some (.struct fs') := fun fs' e => hst ⟨fs', e⟩
                          obtain ⟨kk, rfl, hnb, hat⟩ := (run_keys (w := w) (θ := θ) d f.type ka d hka (Nat.le_refl _)).2 hst'
                          obtain ⟨bb, hag⟩ := (keysT_size hka).1
                          simp at hlen
                          subst hlen
                          match x1, hx1 with
                          | [x], _ =>
                            have hbb : bb = false := by
                              cases hd' : d with
                              | zero => subst hd'; simp [keysT] at hka
                              | succ d' =>
                                subst hd'
                                simp only [keysT] at hka
                                cases hu' : P.underlying f.type with
                                | none => simp [hu'] at hka
                                | some ds =>
                                  simp only [aggT, hu'] at hag
                                  cases ds <;> simp [hu'] at hka hag <;> first | exact hag | exact hag.symm | exact absurd hu' (hst' _)
                            subst hbb
                            have c1 : (concL θ xs).toArray[f.offset]? = some (conc θ x) := by
                              rw [hof, hxs]; simp [concL_append, concL, hpx, concL_length]
                            exact ⟨_, run_part1 (P := P) (w := w) hag c1, ihd.2 hst' _⟩
                      obtain ⟨u, p1, p2⟩ := hfin
                      have := ihf (off + n) kb (px ++ x1) x2 hrest (by simp [hpx, hx1]) (by simp [hxs]) (by simp at hlx; omega)
                      simp [hb, p1, p2] at this ⊢
                      exact this
            · simp [hof] at hk
        have := main fs.toList 0 ks [] xs h' rfl rfl hxl
        simp only [Instr.checkKey, Sem.run_bind, run_underlying hu, Result.andThen_ok]
        rw [← Array.forIn_toList]
        simp at this ⊢
        simp [this]
    · intro hd v
      have h' := h
      simp only [keysT] at h'
      cases hu : P.underlying t with
      | none => simp [hu] at h'
      | some ds =>
        cases ds <;> simp only [hu] at h' <;> first | (cases h'; done) | exact absurd hu (hd _) | simp [Instr.checkKey, run_underlying hu]
theorem run_checkKey {ks : KS} {t : TypeId} (hk : ksT P t = some ks) {k : AV} (h : keyOk ks k = true) (e : Bool) : (Instr.checkKey e 10000 t (conc θ k)).run P w = .ok () w := by
  unfold ksT at hk
  cases hu : P.underlying t with
  | none => simp [hu] at hk
  | some ds =>
    have st : (∀ fs, ds ≠ .struct fs) → (Instr.checkKey e 10000 t (conc θ k)).run P w = .ok () w := by
      intro hd
      cases hkk : keysT P 8 t with
      | none => cases ds <;> simp [hu, hkk] at hk
      | some kl => exact (run_checkKeys (w := w) (θ := θ) e 8 t kl 10000 hkk (by omega)).2 (fun fs e => hd fs (by rw [hu] at e; exact Option.some.inj e)) _
    cases ds with
    | struct fs =>
      cases hkk : keysT P 8 t with
      | none => simp [hu, hkk] at hk
      | some kl =>
        simp [hu, hkk] at hk
        obtain ⟨_, rfl⟩ := hk
        match k, h with
        | .agg xs, h =>
          simp only [keyOk, nbeq, lenL_eq] at h
          exact (run_checkKeys (w := w) (θ := θ) e 8 t kl 10000 hkk (by omega)).1 fs hu xs (by simpa using h)
    | _ => exact st (by intro fs; simp)
end Go.Ab
/-! The rest of what reads; all of it. -/
namespace Go.Ab
variable {P : Program} {CR : Code → AC → Prop} {θ : Th} {s : St} {w : World}
section
variable {o : Oper} {ρ : Operand → Value} {k : OpK} {xs : List Operand} {l : List AV} {v : AV}

theorem map_block (hp : HRel P CR θ s w) {id clock : Nat} {es : List MEnt} (h : s.get id = some (.map es clock)) :
    w.heap[θ.blk id]? = some (.map (es.map (concE θ)).toArray clock) ∧ wfE θ es := hp.obj id _ h
theorem run_getMap (hp : HRel P CR θ s w) {id clock : Nat} {es : List MEnt} (h : s.get id = some (.map es clock)) :
    (getObj (θ.blk id)).run P w = .ok (.map (es.map (concE θ)).toArray clock) w := by
  simp [getObj, Sem.run, (map_block hp h).1]

theorem findE_wf {ks : KS} {k : AV} {es : List MEnt} {v : AV} (hw : wfE θ es) (h : findE ks k es = some (some v)) : wf θ v := by
  induction es with
  | nil => simp [findE] at h
  | cons e es ih =>
    simp only [findE] at h
    cases he : eqV ks k e.key with
    | none => simp [he] at h
    | some b =>
      cases b <;> simp [he] at h
      · exact ih (fun x hx => hw x (by simp [hx])) h
      · subst h; exact (hw e (by simp)).2
theorem findI_some {ks : KS} {k : AV} {es : List MEnt} {v : AV} (h : findE ks k es = some (some v)) (i : Nat) : ∃ j, findI ks k es i = some j := by
  induction es generalizing i with
  | nil => simp [findE] at h
  | cons e es ih =>
    simp only [findE] at h
    cases he : eqV ks k e.key with
    | none => simp [he] at h
    | some b =>
      cases b <;> simp [he] at h
      · obtain ⟨j, hj⟩ := ih h (i + 1); exact ⟨j, by simp [findI, he, hj]⟩
      · exact ⟨i, by simp [findI, he]⟩

theorem snd_lookup (t : TypeId) (x i : Operand) (ok : Bool) (ho : o.op = .lookup t x i ok) (htr : trOp P o = some (k, xs)) (hx : xs.map ρ = concL θ l) (hw : wfL θ l) (hp : HRel P CR θ s w)
    (hr : aread s k l = some v) : (execOp ρ o).run P w = .ok (.value (conc θ v)) w ∧ wf θ v := by
  simp only [trOp, ho] at htr
  cases hkm : keyM P t with
  | none => simp [hkm] at htr
  | some ke =>
    obtain ⟨kt, et⟩ := ke
    have hu : P.underlying t = some (.map kt et) := by
      unfold keyM at hkm
      cases hu : P.underlying t with
      | none => simp [hu] at hkm
      | some d => cases d <;> simp [hu] at hkm; obtain ⟨rfl, rfl⟩ := hkm; rfl
    cases hks : ksT P kt with
    | none => simp [hkm, hks] at htr
    | some ks =>
      cases hz : zeroT P et with
      | none => simp [hkm, hks, hz] at htr
      | some z =>
        simp [hkm, hks, hz] at htr
        obtain ⟨rfl, rfl⟩ := htr
        obtain ⟨m, kk, rfl, hm, hkk⟩ := map2 hx
        simp only [aread] at hr
        by_cases hok : keyOk ks kk = true
        · simp only [hok, cond_true] at hr
          have hzr := zeroT_run (θ := θ) hz w
          have hck := fun e => run_checkKey (w := w) (θ := θ) hks hok e
          -- what comes of a search
          have fin : ∀ (es : List MEnt) (r : Option AV), findE ks kk es = some r → wfE θ es → (match r with
                | some u => some (cond ok (.tuple [u, .bool true]) u) | none => some (cond ok (.tuple [z, .bool false]) z) : Option AV) = some v →
              wf θ v ∧ (((Instr.findKey kt (conc θ kk) (es.map (concE θ))).run P w = .ok none w ∧ conc θ v = (if ok then .tuple #[conc θ z, .bool false] else conc θ z)) ∨
                ∃ j u, (Instr.findKey kt (conc θ kk) (es.map (concE θ))).run P w = .ok (some (j, u)) w ∧ conc θ v = (if ok then .tuple #[u, .bool true] else u)) := by
            intro es r hf hwe hv
            have hq := run_findKey (w := w) (θ := θ) hks hf
            cases r with
            | none =>
              have : foundOf θ (findI ks kk es 0) none = none := by cases findI ks kk es 0 <;> rfl
              rw [this] at hq
              simp at hv
              subst hv
              refine ⟨by cases ok <;> simp [wf, wfL, hzr.2], .inl ⟨hq, by cases ok <;> simp [conc, concL]⟩⟩
            | some u =>
              obtain ⟨j, hj⟩ := findI_some hf 0
              have hwu := findE_wf hwe hf
              rw [hj] at hq
              simp at hv
              subst hv
              refine ⟨by cases ok <;> simp [wf, wfL, hwu], .inr ⟨j, conc θ u, hq, by cases ok <;> simp [conc, concL]⟩⟩
          cases m <;> simp at hr
          · rename_i id
            cases hg : s.get id with
            | none => simp [hg] at hr
            | some ob =>
              cases ob <;> simp [hg] at hr
              rename_i es clock
              cases hf : findE ks kk es with
              | none => simp [hf] at hr
              | some r =>
                have hwe := (map_block hp hg).2
                have := fin es r hf hwe (by cases r <;> simp [hf] at hr ⊢ <;> exact hr)
                refine ⟨?_, this.1⟩
                simp only [execOp, ho, hm, hkk, conc, Instr.lookup, Sem.run_bind, run_underlying hu, Result.andThen_ok, run_getMap hp hg, Sem.run_pure]
                simp only [hck, Result.andThen_ok]
                rcases this.2 with ⟨h1, h2⟩ | ⟨j, u, h1, h2⟩
                · simp [h1, h2, hzr.1]
                · simp [h1, h2]
          · have := fin [] none rfl (by intro e he; cases he) (by simpa using hr)
            refine ⟨?_, this.1⟩
            simp only [execOp, ho, hm, hkk, conc, Instr.lookup, Sem.run_bind, run_underlying hu, Result.andThen_ok, Sem.run_pure]
            simp only [hck, Result.andThen_ok]
            rcases this.2 with ⟨h1, h2⟩ | ⟨j, u, h1, h2⟩
            · simp at h1
              simp [h1, h2, hzr.1]
            · simp at h1
              simp [h1, h2]
        · simp [hok] at hr

theorem eqNil3 {a b : AV} {c : Bool} (h : eqNil 3 a b = some c) : (a = .niliface ∧ b = .niliface ∧ c = true) ∨ (∃ q r, a = .niliface ∧ b = .iface q r ∧ c = false) ∨ (∃ q r, a = .iface q r ∧ b = .niliface ∧ c = false) := by
  unfold eqNil at h
  split at h <;> simp_all
theorem eqNil1 {a b : AV} {c : Bool} (h : eqNil 1 a b = some c) : (a = .nilmap ∧ b = .nilmap ∧ c = true) ∨ (∃ q, a = .nilmap ∧ b = .map q ∧ c = false) ∨ (∃ q, a = .map q ∧ b = .nilmap ∧ c = false) := by
  unfold eqNil at h
  split at h <;> simp_all
theorem eqNil2 {a b : AV} {c : Bool} (h : eqNil 2 a b = some c) : (a = .nilfunc ∧ b = .nilfunc ∧ c = true) ∨ (∃ q r r', a = .nilfunc ∧ b = .func q r r' ∧ c = false) ∨ (∃ q r r', a = .func q r r' ∧ b = .nilfunc ∧ c = false) := by
  unfold eqNil at h
  split at h <;> simp_all
theorem eqNil0 {a b : AV} {c : Bool} (h : eqNil 0 a b = some c) : (a = .nilslice ∧ b = .nilslice ∧ c = true) ∨ (∃ q, a = .nilslice ∧ (∃ n m, conc θ b = .slice (some q) n m) ∧ b = b ∧ c = false) ∨ (∃ q, b = .nilslice ∧ (∃ n m, conc θ a = .slice (some q) n m) ∧ b = b ∧ c = false) := by
  unfold eqNil at h
  split at h <;> simp_all [conc]
theorem litNil_const {x : Operand} (h : litNil x = true) : ∃ v, x = .const v := by
  unfold litNil at h
  split at h
  · exact ⟨_, rfl⟩
  · cases h
theorem eqGuard_lit (op : BinOp) (t : TypeId) (x y : Operand) (h : (∃ v, x = .const v) ∨ (∃ v, y = .const v)) (u v : Value) (hu : ∀ c, u ≠ .agg c) : (eqGuard op t x y u v).run P w = .ok () w := by
  cases op <;> (try (simp [eqGuard]; done))
  all_goals
    rcases h with ⟨c0, rfl⟩ | ⟨c0, rfl⟩ <;> cases u <;> cases v <;> first | exact absurd rfl (hu _) | simp [eqGuard]
section
variable {t e kt et : TypeId} {ms : Array Method} {D : Nat}
theorem run_eq_slice0 (hu : P.underlying t = some (.slice e)) (a b c d : Nat) (q : Option Addr) : (Op.equalIn (D + 1) t (.slice none a b) (.slice q c d)).run P w = .ok q.isNone w := by
  simp [Op.equalIn, run_underlying hu]
theorem run_eq_slice1 (hu : P.underlying t = some (.slice e)) (a b c d : Nat) (q : Addr) : (Op.equalIn (D + 1) t (.slice (some q) a b) (.slice none c d)).run P w = .ok false w := by
  simp [Op.equalIn, run_underlying hu]
theorem run_eq_map0 (hu : P.underlying t = some (.map kt et)) (q : Option Nat) : (Op.equalIn (D + 1) t (.map none) (.map q)).run P w = .ok q.isNone w := by
  simp [Op.equalIn, run_underlying hu]
theorem run_eq_map1 (hu : P.underlying t = some (.map kt et)) (q : Nat) : (Op.equalIn (D + 1) t (.map (some q)) (.map none)).run P w = .ok false w := by
  simp [Op.equalIn, run_underlying hu]
end
theorem equal_succ (t : TypeId) (x y : Value) : Op.equal t x y = Op.equalIn (9999 + 1) t x y := rfl
theorem snd_eq (op : BinOp) (neg : Bool) (t yt : TypeId) (x y : Operand) (ho : o.op = .binOp op t x y yt) (hop : op = if neg then .neq else .eql) (htr : trEq P neg t x y = some (k, xs))
    (hx : xs.map ρ = concL θ l) (hxc : ∀ v, x = .const v → ρ x = v) (hyc : ∀ v, y = .const v → ρ y = v) (hr : aread s k l = some v) : (execOp ρ o).run P w = .ok (.value (conc θ v)) w ∧ wf θ v := by
  have hopo : op = .eql ∨ op = .neq := by cases neg <;> simp at hop <;> simp [hop]
  unfold trEq at htr
  cases hu : P.underlying t with
  | none => simp [hu] at htr
  | some d =>
    have basic : some (OpK.bin op, [x, y]) = some (k, xs) → (execOp ρ o).run P w = .ok (.value (conc θ v)) w ∧ wf θ v := by
      intro htr
      simp at htr
      obtain ⟨rfl, rfl⟩ := htr
      obtain ⟨a, b, rfl, ha, hb⟩ := map2 hx
      simp only [aread] at hr
      obtain ⟨h1, h2⟩ := run_binA (P := P) (w := w) (θ := θ) (t := t) hr
      refine ⟨?_, h2⟩
      have hg : (eqGuard op t x y (conc θ a) (conc θ b)).run P w = .ok () w := by
        cases a <;> cases b <;> simp only [binA] at hr <;> first | (cases hr; done) | skip
        · exact run_eqGuard_plain t x y _ _ (by intro c; simp [conc]) (by simp [conc])
        · exact run_eqGuard_plain t x y _ _ (by intro c; simp [conc]) (by simp [conc])
      simp [execOp, ho, hg, ha, hb, h1]
    -- by the type's equality
    have viaEqual : ∀ (a b : AV) (c : Bool), ρ x = conc θ a → ρ y = conc θ b → (eqGuard op t x y (conc θ a) (conc θ b)).run P w = .ok () w → (Op.equal t (conc θ a) (conc θ b)).run P w = .ok c w →
        (∀ kd n, conc θ a ≠ .int kd n) → (∀ q, conc θ a ≠ .string q) → (∀ q n, conc θ a ≠ .float q n) → (∀ q n m, conc θ a ≠ .complex q n m) → v = .bool (cond neg (!c) c) →
        (execOp ρ o).run P w = .ok (.value (conc θ v)) w ∧ wf θ v := by
      intro a b c ha hb hg he n1 n2 n3 n4 hv
      subst hv
      refine ⟨?_, by simp [wf]⟩
      have hbin : (Go.binOp op t (conc θ a) (conc θ b)).run P w = .ok (.bool (cond neg (!c) c)) w := by
        subst hop
        generalize conc θ a = va at *
        generalize conc θ b = vb at *
        cases neg
        · cases va <;> first | exact absurd rfl (n1 _ _) | exact absurd rfl (n2 _) | exact absurd rfl (n3 _ _) | exact absurd rfl (n4 _ _ _) | (simp [Go.binOp, he])
        · cases va <;> first | exact absurd rfl (n1 _ _) | exact absurd rfl (n2 _) | exact absurd rfl (n3 _ _) | exact absurd rfl (n4 _ _ _) | (simp [Go.binOp, he])
      simp [execOp, ho, ha, hb, hg, hbin, conc]
    have hbop : (if neg then BinOp.neq else BinOp.eql) = op := hop.symm
    have atom : ∀ kk, (∀ fs, d ≠ .struct fs) → keysT P 1 t = some [kk] → some (OpK.eq1 neg kk, [x, y]) = some (k, xs) → (∀ ks, d ≠ .int ks) → d ≠ .string → (execOp ρ o).run P w = .ok (.value (conc θ v)) w ∧ wf θ v := by
      intro kk hd hkk htr ni ns
      simp at htr
      obtain ⟨rfl, rfl⟩ := htr
      obtain ⟨a, b, rfl, ha, hb⟩ := map2 hx
      simp only [aread] at hr
      cases he : eqAtom kk a b with
      | none => simp [he] at hr
      | some c =>
        simp [he] at hr
        have hq := run_eqAtom (w := w) (θ := θ) 9999 (fun fs e => hd fs (by rw [hu] at e; exact Option.some.inj e)) hkk he
        have hkind : kk = .bool ∨ kk = .ptr := by
          simp only [keysT, hu] at hkk
          cases d <;> simp at hkk <;> first | exact absurd rfl (ni _) | exact absurd rfl ns | exact absurd rfl (hd _) | skip
          · exact .inl hkk.symm
          · rename_i e
            cases hn : sizeT P e with
            | none => simp [hn] at hkk
            | some n => cases n <;> simp [hn] at hkk; exact .inr hkk.symm
        have hshape : (∃ p, conc θ a = .bool p) ∨ (∃ p, conc θ a = .pointer p) := by
          rcases hkind with rfl | rfl <;> cases a <;> cases b <;> simp [eqAtom] at he <;> simp [conc]
        refine viaEqual a b c ha hb ?_ hq ?_ ?_ ?_ ?_ hr.symm
        · rcases hshape with ⟨p, e⟩ | ⟨p, e⟩ <;> rw [e] <;> exact run_eqGuard_plain t x y _ _ (by intro c; simp) (by simp)
        all_goals (rcases hshape with ⟨p, e⟩ | ⟨p, e⟩ <;> rw [e] <;> simp)
    cases d <;> simp only [hu] at htr
    case int => exact basic (by rw [← hbop]; exact htr)
    case string => exact basic (by rw [← hbop]; exact htr)
    case struct fs =>
      by_cases hgt : P.eqGuardType P.depth t
      · simp [hgt] at htr
      · have hgt' : P.eqGuardType P.depth t = false := by simpa using hgt
        cases hkk : keysT P 8 t with
        | none => simp [hgt', hkk] at htr
        | some kl =>
          simp [hgt', hkk] at htr
          obtain ⟨rfl, rfl⟩ := htr
          obtain ⟨a, b, rfl, ha, hb⟩ := map2 hx
          simp only [aread] at hr
          cases a with
          | agg as => ?_
          | _ => simp at hr
          cases b with
          | agg bs => ?_
          | _ => simp at hr
          simp only [nbeq, lenL_eq] at hr
          by_cases h1 : as.length = kl.length
          · by_cases h2 : bs.length = kl.length
            · simp [h1, h2] at hr
              cases he : eqCells kl as bs with
              | none => simp [he] at hr
              | some c =>
                simp [he] at hr
                have hq := (run_keys (w := w) (θ := θ) 8 t kl 10000 hkk (by omega)).1 fs hu as bs c h1 h2 he
                refine viaEqual (.agg as) (.agg bs) c ha hb ?_ (by simpa [Op.equal, Op.maxDepth, conc] using hq) (by simp [conc]) (by simp [conc]) (by simp [conc]) (by simp [conc]) hr.symm
                simp only [conc]
                exact run_eqGuard_agg w op t x y _ _ hgt'
            · simp [h1, h2] at hr
          · simp [h1] at hr
    case interface ms =>
      by_cases hl : litNil x || litNil y
      · simp [hl] at htr
        obtain ⟨rfl, rfl⟩ := htr
        obtain ⟨a, b, rfl, ha, hb⟩ := map2 hx
        simp only [aread] at hr
        cases he : eqNil 3 a b with
        | none => simp [he] at hr
        | some c =>
          simp [he] at hr
          have hlit : (∃ v, x = .const v) ∨ (∃ v, y = .const v) := by
            rcases Bool.or_eq_true _ _ ▸ hl with h | h
            · exact .inl (litNil_const h)
            · exact .inr (litNil_const h)
          have hgd : ∀ u v, (∀ c, u ≠ .agg c) → (eqGuard op t x y u v).run P w = .ok () w := fun u v => eqGuard_lit op t x y hlit u v
          obtain ⟨rfl, rfl, rfl⟩ | ⟨q, r, rfl, rfl, rfl⟩ | ⟨q, r, rfl, rfl, rfl⟩ := eqNil3 he
          all_goals
            refine viaEqual _ _ _ ha hb (hgd _ _ (by intro c; simp [conc])) ?_ (by simp [conc]) (by simp [conc]) (by simp [conc]) (by simp [conc]) hr.symm
            rw [equal_succ]
            generalize 9999 = D
            simp only [conc, Op.equalIn, Sem.run_bind, run_underlying hu, Result.andThen_ok, Sem.run_pure]
      · simp [hl] at htr
    case slice e =>
      simp at htr
      obtain ⟨rfl, rfl⟩ := htr
      obtain ⟨a, b, rfl, ha, hb⟩ := map2 hx
      simp only [aread] at hr
      cases he : eqNil 0 a b with
      | none => simp [he] at hr
      | some c =>
        simp [he] at hr
        obtain ⟨rfl, rfl, rfl⟩ | ⟨q, rfl, h2, _, rfl⟩ | ⟨q, rfl, h2, _, rfl⟩ := eqNil0 (θ := θ) he
        · refine viaEqual _ _ _ ha hb (run_eqGuard_plain t x y _ _ (by intro c; simp [conc]) (by simp [conc])) ?_ (by simp [conc]) (by simp [conc]) (by simp [conc]) (by simp [conc]) hr.symm
          rw [equal_succ]
          exact run_eq_slice0 hu _ _ _ _ _
        · obtain ⟨n, m, h2⟩ := h2
          refine viaEqual _ _ _ ha hb (run_eqGuard_plain t x y _ _ (by intro c; simp [conc]) (by simp [conc])) ?_ (by simp [conc]) (by simp [conc]) (by simp [conc]) (by simp [conc]) hr.symm
          rw [equal_succ, h2]
          exact run_eq_slice0 hu _ _ _ _ _
        · obtain ⟨n, m, h2⟩ := h2
          refine viaEqual _ _ _ ha hb (run_eqGuard_plain t x y _ _ (by intro c; rw [h2]; simp) (by rw [h2]; simp)) ?_ (by rw [h2]; simp) (by rw [h2]; simp) (by rw [h2]; simp) (by rw [h2]; simp) hr.symm
          rw [equal_succ, h2]
          exact run_eq_slice1 hu _ _ _ _ _
    case map kt et =>
      simp at htr
      obtain ⟨rfl, rfl⟩ := htr
      obtain ⟨a, b, rfl, ha, hb⟩ := map2 hx
      simp only [aread] at hr
      cases he : eqNil 1 a b with
      | none => simp [he] at hr
      | some c =>
        simp [he] at hr
        obtain ⟨rfl, rfl, rfl⟩ | ⟨q, rfl, rfl, rfl⟩ | ⟨q, rfl, rfl, rfl⟩ := eqNil1 he
        all_goals
          refine viaEqual _ _ _ ha hb (run_eqGuard_plain t x y _ _ (by intro c; simp [conc]) (by simp [conc])) ?_ (by simp [conc]) (by simp [conc]) (by simp [conc]) (by simp [conc]) hr.symm
          rw [equal_succ]
          first | exact run_eq_map0 hu _ | exact run_eq_map1 hu _
    case func q1 q2 q3 =>
      simp at htr
      obtain ⟨rfl, rfl⟩ := htr
      obtain ⟨a, b, rfl, ha, hb⟩ := map2 hx
      simp only [aread] at hr
      cases he : eqNil 2 a b with
      | none => simp [he] at hr
      | some c =>
        simp [he] at hr
        obtain ⟨rfl, rfl, rfl⟩ | ⟨q, r, r', rfl, rfl, rfl⟩ | ⟨q, r, r', rfl, rfl, rfl⟩ := eqNil2 he
        all_goals
          refine viaEqual _ _ _ ha hb (run_eqGuard_plain t x y _ _ (by intro c; simp [conc]) (by simp [conc])) ?_ (by simp [conc]) (by simp [conc]) (by simp [conc]) (by simp [conc]) hr.symm
          rw [equal_succ]
          generalize 9999 = D
          simp only [conc, Op.equalIn, Sem.run_bind, run_underlying hu, Result.andThen_ok, Sem.run_pure]
    case bool => cases hkk : keysT P 1 t with
      | none => simp [hkk] at htr
      | some kl => match kl, hkk, htr with
        | [kk], hkk, htr => exact atom kk (by simp) hkk (by simpa [hkk] using htr) (by simp) (by simp)
        | [], hkk, htr => simp [hkk] at htr
        | _ :: _ :: _, hkk, htr => simp [hkk] at htr
    case pointer e => cases hkk : keysT P 1 t with
      | none => simp [hkk] at htr
      | some kl => match kl, hkk, htr with
        | [kk], hkk, htr => exact atom kk (by simp) hkk (by simpa [hkk] using htr) (by simp) (by simp)
        | [], hkk, htr => simp [hkk] at htr
        | _ :: _ :: _, hkk, htr => simp [hkk] at htr
    all_goals (exfalso; revert htr; unfold keysT; rw [hu]; intro htr; cases htr)

theorem run_call_builtin (c : Call) (b : Builtin) (ho : o.op = .call c) (hb : c.callee = .builtin b) :
    (execOp ρ o).run P w = (builtin b c.argTypes o.type (c.args.map fun | .const _ => true | _ => false) (c.args.map ρ)).run P w := by
  simp [execOp, ho, resolve, hb, invoke]
  rfl

theorem minmax_run (mx : Bool) : ∀ (l : List AV) (a v : AV), minmaxA mx a l = some v → (l = [] ∨ ∃ kd n, a = .int kd n) →
    ((l.map (conc θ)).foldlM (if mx then Builtin.max2 else Builtin.min2) (conc θ a)).run P w = .ok (conc θ v) w
  | [], a, v, h, _ => by simp [minmaxA] at h; subst h; simp
  | x :: l, a, v, h, _ => by
    cases a <;> cases x <;> simp only [minmaxA] at h <;> first | (cases h; done) | skip
    rename_i kd p kd' q _hh0
    rw [eqK_eq, leI_eq, leI_eq] at h
    by_cases e : kd = kd'
    · subst e
      simp at h
      have ih := minmax_run mx l _ v h (.inr ⟨_, _, rfl⟩)
      cases mx
      · simp at ih ⊢
        simp [conc, Builtin.min2] at ih ⊢
        rw [← ih]
        congr 2
        by_cases hh : p ≤ q
        · have : ¬ q < p := by omega
          simp [hh, this, conc]
        · have : q < p := by omega
          simp [hh, this, conc]
      · simp at ih ⊢
        simp [conc, Builtin.max2] at ih ⊢
        rw [← ih]
        congr 2
        by_cases hh : q ≤ p
        · have : ¬ p < q := by omega
          simp [hh, this, conc]
        · have : p < q := by omega
          simp [hh, this, conc]
    · simp [e] at h
theorem minmaxA_wf {mx : Bool} : ∀ {l : List AV} {a v : AV}, minmaxA mx a l = some v → wf θ a → wf θ v
  | [], a, v, h, hw => by simp [minmaxA] at h; subst h; exact hw
  | x :: l, a, v, h, hw => by
    cases a <;> cases x <;> simp only [minmaxA] at h <;> first | (cases h; done) | skip
    rename_i kd p kd' q
    by_cases e : eqK kd kd' = true
    · simp [e] at h
      exact minmaxA_wf h (by simp [wf])
    · simp [e] at h

theorem array1 {a : Array TypeId} {t : TypeId} (h : a.toList = [t]) : a = #[t] := by
  apply Array.ext'; simpa using h
theorem arrayMap {a : Array Operand} {l : List Operand} (h : a.toList = l) (ρ : Operand → Value) : a.map ρ = (l.map ρ).toArray := by
  apply Array.ext'; simp [h]

/-- the builtins that read -/
theorem snd_builtin (c : Call) (b : Builtin) (ho : o.op = .call c) (hb : c.callee = .builtin b) (htr : trBuiltin P b c.argTypes.toList o.type c.args.toList = some (k, xs))
    (hx : xs.map ρ = concL θ l) (hw : wfL θ l) (hp : HRel P CR θ s w) (hr : aread s k l = some v) : (execOp ρ o).run P w = .ok (.value (conc θ v)) w ∧ wf θ v := by
  rw [run_call_builtin c b ho hb]
  unfold trBuiltin at htr
  split at htr
  · -- append: does not read
    rename_i t u d x hat har
    exfalso
    cases he : elemS P t with
    | none => simp [he] at htr
    | some e =>
      cases hi : P.info? e with
      | none => simp [he, hi] at htr
      | some i =>
        cases hu : P.underlying u with
        | none => simp [he, hi, hu] at htr
        | some du =>
          cases du <;> simp [he, hi, hu] at htr
          · obtain ⟨_, rfl, rfl⟩ := htr; simp [aread] at hr
          · obtain ⟨_, rfl, rfl⟩ := htr; simp [aread] at hr
  · -- len
    rename_i t x hat har
    rw [array1 hat, arrayMap har]
    cases hu : P.underlying t with
    | none => simp [hu] at htr
    | some d =>
      cases d <;> simp [hu] at htr <;> obtain ⟨rfl, rfl⟩ := htr
      · obtain ⟨a, rfl, ha⟩ := map1 hx
        simp only [aread] at hr
        cases a <;> simp at hr
        rename_i bs
        subst hr
        rw [lenL_eq]
        have hsz : (ByteArray.mk bs.toArray).size = bs.length := by show bs.toArray.size = bs.length; simp
        refine ⟨?_, by simp [wf]⟩
        simp [builtin, Builtin.len_, run_underlying hu, ha, conc, goInt, hsz]
      · obtain ⟨a, rfl, ha⟩ := map1 hx
        simp only [aread] at hr
        cases a <;> simp at hr <;> subst hr <;> refine ⟨?_, by simp [wf]⟩ <;> simp [builtin, Builtin.len_, run_underlying hu, ha, conc, goInt]
      · obtain ⟨a, rfl, ha⟩ := map1 hx
        simp only [aread] at hr
        cases a <;> simp at hr
        · rename_i id
          cases hg : s.get id with
          | none => simp [hg] at hr
          | some ob =>
            cases ob <;> simp [hg] at hr
            subst hr
            refine ⟨?_, by simp [wf]⟩
            simp [builtin, Builtin.len_, run_underlying hu, ha, conc, goInt, run_getMap hp hg, lenL_eq]
        · subst hr; refine ⟨?_, by simp [wf]⟩; simp [builtin, Builtin.len_, run_underlying hu, ha, conc, goInt]
  · -- cap
    rename_i t x hat har
    rw [array1 hat, arrayMap har]
    cases hu : P.underlying t with
    | none => simp [hu] at htr
    | some d =>
      cases d <;> simp [hu] at htr
      obtain ⟨rfl, rfl⟩ := htr
      obtain ⟨a, rfl, ha⟩ := map1 hx
      simp only [aread] at hr
      cases a <;> simp at hr
      subst hr; refine ⟨?_, by simp [wf]⟩; simp [builtin, Builtin.cap_, run_underlying hu, ha, conc, goInt]
  · rename_i t _ d x hat har
    exfalso
    cases he : elemS P t with
    | none => simp [he] at htr
    | some e => cases hn : sizeT P e <;> simp [he, hn] at htr; obtain ⟨rfl, rfl⟩ := htr; simp [aread] at hr
  · rename_i t _ d x hat har
    exfalso
    cases he : keyM P t with
    | none => simp [he] at htr
    | some ke => cases hn : ksT P ke.1 <;> simp [he, hn] at htr; obtain ⟨rfl, rfl⟩ := htr; simp [aread] at hr
  · -- max
    rename_i hat
    simp at htr
    obtain ⟨rfl, rfl⟩ := htr
    rw [arrayMap rfl, hx]
    match l, hr with
    | [], hr => simp [aread] at hr
    | a :: l', hr =>
      simp only [aread] at hr
      simp only [wfL] at hw
      refine ⟨?_, minmaxA_wf hr hw.1⟩
      match l', hr with
      | [], hr => simp [minmaxA] at hr; subst hr; simp [builtin, Builtin.max_, concL]
      | b :: l', hr =>
        have : ∃ kd n, a = .int kd n := by cases a <;> cases b <;> simp [minmaxA] at hr; exact ⟨_, _, rfl⟩
        have := minmax_run (P := P) (w := w) (θ := θ) true (b :: l') a v hr (.inr this)
        have e : Builtin.max_ c.argTypes o.type (concL θ (a :: b :: l')).toArray = ((b :: l').map (conc θ)).foldlM Builtin.max2 (conc θ a) := by simp [Builtin.max_, concL, concL_eq]
        simp only [builtin, Sem.run_bind, e]
        simp only [if_true, if_false, Bool.false_eq_true] at this
        rw [this]
        simp
  · -- min
    rename_i hat
    simp at htr
    obtain ⟨rfl, rfl⟩ := htr
    rw [arrayMap rfl, hx]
    match l, hr with
    | [], hr => simp [aread] at hr
    | a :: l', hr =>
      simp only [aread] at hr
      simp only [wfL] at hw
      refine ⟨?_, minmaxA_wf hr hw.1⟩
      match l', hr with
      | [], hr => simp [minmaxA] at hr; subst hr; simp [builtin, Builtin.min_, concL]
      | b :: l', hr =>
        have : ∃ kd n, a = .int kd n := by cases a <;> cases b <;> simp [minmaxA] at hr; exact ⟨_, _, rfl⟩
        have := minmax_run (P := P) (w := w) (θ := θ) false (b :: l') a v hr (.inr this)
        have e : Builtin.min_ c.argTypes o.type (concL θ (a :: b :: l')).toArray = ((b :: l').map (conc θ)).foldlM Builtin.min2 (conc θ a) := by simp [Builtin.min_, concL, concL_eq]
        simp only [builtin, Sem.run_bind, e]
        simp only [if_true, if_false, Bool.false_eq_true] at this
        rw [this]
        simp
  · -- unsafe.SliceData
    rename_i x hat har
    simp at htr
    obtain ⟨rfl, rfl⟩ := htr
    rw [arrayMap har]
    obtain ⟨a, rfl, ha⟩ := map1 hx
    replace hw := wf1 hw
    simp only [aread] at hr
    cases a <;> simp at hr
    · rename_i id off n cc
      rw [nbeq] at hr
      by_cases h0 : cc = 0
      · simp [h0] at hr
      · simp [h0] at hr
        subst hr
        simp only [wf] at hw ⊢
        refine ⟨?_, hw.1⟩
        have := Lib.run_unsafeSliceData_row (P := P) w c.argTypes o.type ⟨θ.blk id, θ.off id + off, none⟩ n cc h0
        simp [builtin, ha, conc, this]
    · rename_i id off n cc
      rw [nbeq] at hr
      by_cases h0 : n = 0
      · simp [h0] at hr
      · simp [h0] at hr
        subst hr
        simp only [wf] at hw ⊢
        refine ⟨?_, hw.1⟩
        have : ¬ θ.cap id - cc = 0 := by omega
        have := Lib.run_unsafeSliceData_row (P := P) w c.argTypes o.type ⟨θ.blk id, θ.off id + off, none⟩ n (θ.cap id - cc) this
        simp [builtin, ha, conc, this]
    · subst hr; refine ⟨?_, by simp [wf]⟩; simp [builtin, Lib.run_unsafeSliceData_nil, ha, conc]
  · rename_i t _ x n hat har
    exfalso
    cases hu : P.underlying t with
    | none => simp [hu] at htr
    | some d =>
      cases d <;> simp [hu] at htr
      split at htr <;> simp at htr
      obtain ⟨rfl, rfl⟩ := htr; simp [aread] at hr
  · cases htr

theorem bytesOf_push {l : List AV} {bs : List UInt8} (h : bytesOf l = some bs) : concL θ l = bs.map fun b => Value.int .u8 b.toNat := by
  induction l generalizing bs with
  | nil => simp [bytesOf] at h; subst h; simp [concL]
  | cons a l ih =>
    cases a <;> try (simp [bytesOf] at h; done)
    rename_i kd n
    cases kd <;> try (simp [bytesOf] at h; done)
    cases n <;> try (simp [bytesOf] at h; done)
    rename_i n
    simp only [bytesOf, nble] at h
    by_cases hn : n ≤ 255
    · cases hb : bytesOf l with
      | none => simp [hn, hb] at h
      | some bs' =>
        simp [hn, hb] at h
        subst h
        have : (UInt8.ofNat n).toNat = n := by simp; omega
        simp [concL, ih hb, conc, this]
    · simp [hn] at h
theorem run_bytesLoop : ∀ (bs : List UInt8) (acc : ByteArray) (w : World),
    (forIn (bs.map fun b => Value.int .u8 (b.toNat : Int)) acc (fun c (s : ByteArray) => do
      let .int .u8 n := c | stuck "bytesToString: byte expected"
      pure (ForInStep.yield (s.push (UInt8.ofNat n.toNat)))) : Sem ByteArray).run P w = .ok ⟨acc.data ++ bs.toArray⟩ w
  | [], acc, w => by simp
  | b :: bs, acc, w => by
    have ih := run_bytesLoop bs (acc.push b) w
    simp at ih ⊢
    rw [ih]

theorem run_bytesToStr {id off n : Nat} {vs : List AV} {bs : List UInt8} (hp : HRel P CR θ s w) (h : readCells s id off n = some vs) (hb : bytesOf vs = some bs) (c : Nat) :
    (Conv.bytesToString (.slice (some ⟨θ.blk id, θ.off id + off, none⟩) n c)).run P w = .ok (.string ⟨bs.toArray⟩) w := by
  have h1 := (run_readCells (P := P) hp h).1
  rw [bytesOf_push hb] at h1
  have h2 := run_bytesLoop (P := P) bs .empty w
  simp only [Conv.bytesToString, Sem.run_bind, h1, Result.andThen_ok]
  rw [← Array.forIn_toList]
  simp at h2 ⊢
  rw [h2]

theorem encode_run (n : Int) : Utf8.encode n = ⟨(encodeA n).toArray⟩ := by
  have key : (if Utf8.valid n then n.toNat else Utf8.runeError) = runeOf n := by
    cases n with
    | ofNat c =>
      have : Utf8.valid (Int.ofNat c) = validR c := by
        unfold Utf8.valid validR
        rw [nble, nble, nble, Bool.eq_iff_iff]
        simp
        omega
      rw [this]
      cases hv : validR c <;> simp [Utf8.runeError, runeOf, hv]
    | negSucc c =>
      have : Utf8.valid (Int.negSucc c) = false := by
        unfold Utf8.valid
        rw [Bool.eq_false_iff]
        simp
        omega
      simp [this, Utf8.runeError, runeOf]
  unfold Utf8.encode encodeA encC
  simp only [key]
  generalize runeOf n = c
  have e1 : (c < 0x80) ↔ Nat.ble (c + 1) 0x80 = true := by rw [nble]; simp; omega
  have e2 : (c < 0x800) ↔ Nat.ble (c + 1) 0x800 = true := by rw [nble]; simp; omega
  have e3 : (c < 0x10000) ↔ Nat.ble (c + 1) 0x10000 = true := by rw [nble]; simp; omega
  by_cases h1 : c < 0x80
  · rw [if_pos h1, e1.1 h1]; rfl
  · have n1 : Nat.ble (c + 1) 0x80 = false := by rw [Bool.eq_false_iff]; exact fun h => h1 (e1.2 h)
    rw [if_neg h1, n1]
    by_cases h2 : c < 0x800
    · rw [if_pos h2, e2.1 h2]; rfl
    · have n2 : Nat.ble (c + 1) 0x800 = false := by rw [Bool.eq_false_iff]; exact fun h => h2 (e2.2 h)
      rw [if_neg h2, n2]
      by_cases h3 : c < 0x10000
      · rw [if_pos h3, e3.1 h3]; rfl
      · have n3 : Nat.ble (c + 1) 0x10000 = false := by rw [Bool.eq_false_iff]; exact fun h => h3 (e3.2 h)
        rw [if_neg h3, n3]; rfl

theorem noSl_spec {e : TypeId} (h : noSl P e = true) : ∀ t, t < P.types.size → P.underlying t ≠ some (.slice e) := by
  intro t ht hu
  unfold noSl at h
  rw [List.all_eq_true] at h
  have := h t (List.mem_range.2 ht)
  rw [hu] at this
  simp [nbeq] at this

theorem liesAt_self {u k : Nat} (h0 : 0 < P.cellsOf u) (hk : 1 ≤ k) : liesAt P P.depth u k 0 u 1 = true := by
  have hd : P.depth = (2 * (P.types.size + Made.depth) + 1) + 1 := rfl
  rw [hd]
  have hs : sameLayout P (2 * (P.types.size + Made.depth) + 1 + 1) u u = true := by simp [sameLayout]
  have hr : rowAt P (sameLayout P P.depth · u) P.depth u k 0 1 = true := by
    rw [hd]
    simp only [rowAt]
    simp [Nat.ne_of_gt h0, hs]
    exact .inl hk
  unfold liesAt
  rw [hr]
  rfl

theorem snd_convert (src dst : TypeId) (x : Operand) (ho : o.op = .convert src dst x) (htr : trOp P o = some (k, xs)) (hx : xs.map ρ = concL θ l) (hp : HRel P CR θ s w)
    (hr : aread s k l = some v) : (execOp ρ o).run P w = .ok (.value (conc θ v)) w ∧ wf θ v := by
  simp only [trOp, ho] at htr
  cases hc : trConv P src dst with
  | none => simp [hc] at htr
  | some cv =>
    simp [hc] at htr
    obtain ⟨rfl, rfl⟩ := htr
    obtain ⟨a, rfl, ha⟩ := map1 hx
    unfold trConv at hc
    cases hs : P.underlying src with
    | none => simp [hs] at hc
    | some ds =>
      cases hd : P.underlying dst with
      | none => cases ds <;> simp [hs, hd] at hc
      | some dd =>
        simp only [hs, hd] at hc
        split at hc
        · rename_i e1 e2
          simp at e1 e2 hc
          subst e1; subst e2; subst hc
          simp only [aread] at hr
          cases a <;> simp at hr
          subst hr
          refine ⟨?_, by simp [wf]⟩
          simp [execOp, ho, ha, conc, convert, run_underlying hs, run_underlying hd, Conv.intToInt]
        · rename_i e1 e2
          simp at e1 e2 hc
          subst e1; subst e2; subst hc
          simp only [aread] at hr
          cases a <;> simp at hr
          subst hr
          refine ⟨?_, by simp [wf]⟩
          simp [execOp, ho, ha, conc, convert, run_underlying hs, run_underlying hd, Conv.intToString, encode_run]
        · rename_i e1 e2
          simp at e1 e2 hc
          subst e1; subst e2; subst hc
          simp only [aread] at hr
          cases a <;> simp at hr
          subst hr
          refine ⟨?_, by simp [wf]⟩
          simp [execOp, ho, ha, conc, convert, run_underlying hs, run_underlying hd]
        · rename_i e e1 e2
          simp at e1 e2
          subst e1; subst e2
          cases he : P.underlying e with
          | none => simp [he] at hc
          | some de =>
            simp only [he] at hc
            split at hc
            · rename_i e3
              simp at e3 hc
              subst e3; subst hc
              simp only [aread] at hr
              cases a <;> simp at hr
              · rename_i id off n c
                cases h1 : readCells s id off n with
                | none => simp [h1] at hr
                | some vs =>
                  cases h2 : bytesOf vs with
                  | none => simp [h1, h2] at hr
                  | some bs =>
                    simp [h1, h2] at hr
                    subst hr
                    refine ⟨?_, by simp [wf]⟩
                    simp [execOp, ho, ha, conc, convert, run_underlying hs, run_underlying hd, run_underlying he, run_bytesToStr hp h1 h2]
              · rename_i id off n c
                cases h1 : readCells s id off n with
                | none => simp [h1] at hr
                | some vs =>
                  cases h2 : bytesOf vs with
                  | none => simp [h1, h2] at hr
                  | some bs =>
                    simp [h1, h2] at hr
                    subst hr
                    refine ⟨?_, by simp [wf]⟩
                    simp [execOp, ho, ha, conc, convert, run_underlying hs, run_underlying hd, run_underlying he, run_bytesToStr hp h1 h2]
              · subst hr
                refine ⟨?_, by simp [wf]⟩
                simp [execOp, ho, ha, conc, convert, run_underlying hs, run_underlying hd, run_underlying he, Conv.bytesToString]
                rfl
            · cases hc
        · rename_i t e1 e2
          simp at e1 e2
          subst e1; subst e2
          split at hc
          · rename_i m hn
            simp at hc
            subst hc
            unfold sizeT at hn
            cases hi : P.info? t with
            | none => simp [hi] at hn
            | some inf =>
              simp [hi] at hn
              simp only [aread] at hr
              cases a <;> simp at hr
              · rename_i id off
                cases hg : s.get id with
                | none => simp [hg] at hr
                | some ob =>
                  cases ob <;> simp [hg] at hr
                  rename_i e cs frz
                  rw [lenL_eq, nble] at hr
                  by_cases hlt : off + 1 ≤ cs.length
                  · simp [hlt] at hr
                    subst hr
                    obtain ⟨c, fr, q1, q2, _⟩ := hp.obj id _ hg
                    have hc : θ.off id + off < c.size := by
                      have := q2 off cs[off] (List.getElem?_eq_getElem (by omega))
                      exact (Array.getElem?_eq_some_iff.1 this).1
                    refine ⟨?_, by simp only [wf]; exact hp.dom id _ hg⟩
                    have hsh : w.shape? (θ.blk id) = some (e, c.size) := by simp [World.shape?, q1]
                    have := Lib.run_to_unsafe (P := P) (w := w) ⟨θ.blk id, θ.off id + off, none⟩ hs hd hi (by omega) hsh hc
                    simp [execOp, ho, ha, conc, this]
                  · simp [hlt] at hr
              · subst hr
                refine ⟨?_, by simp [wf]⟩
                simp [execOp, ho, ha, conc, convert, run_underlying hs, run_underlying hd, Conv.unsafePointer]
          · cases hc
        · rename_i u e1 e2
          simp at e1 e2
          subst e1; subst e2
          split at hc
          · rename_i m hn
            by_cases hns : noSl P u = true
            · rw [if_pos hns] at hc
              simp at hc
              subst hc
              unfold sizeT at hn
              cases hi : P.info? u with
              | none => simp [hi] at hn
              | some inf =>
                simp [hi] at hn
                simp only [aread] at hr
                cases a <;> simp at hr
                · rename_i id off
                  cases hg : s.get id with
                  | none => simp [hg] at hr
                  | some ob =>
                    cases ob <;> simp [hg] at hr
                    rename_i e cs frz
                    rw [lenL_eq, nble, nbeq, nbeq] at hr
                    by_cases hlt : e = u ∧ off = 0 ∧ m + 1 ≤ cs.length
                    · obtain ⟨rfl, rfl, hlt⟩ := hlt
                      simp [hlt] at hr
                      subst hr
                      obtain ⟨c, fr, q1, q2, _, _, q5, q6⟩ := hp.obj id _ hg
                      have hoff := q6 (noSl_spec hns)
                      have hcc := q5 inf hi
                      have hce : P.cellsOf e = m + 1 := by simp [Program.cellsOf, hi, hn]
                      have hk : 1 ≤ c.size / P.cellsOf e := by
                        rw [hce]
                        refine (Nat.le_div_iff_mul_le (by omega)).2 ?_
                        omega
                      refine ⟨?_, by simp only [wf]; exact hp.dom id _ hg⟩
                      have hsh : w.shape? (θ.blk id) = some (e, c.size) := by simp [World.shape?, q1]
                      have hl := liesAt_self (P := P) (u := e) (k := c.size / P.cellsOf e) (by omega) hk
                      have := Lib.run_from_unsafe (P := P) (w := w) ⟨θ.blk id, θ.off id + 0, none⟩ hs hd hi hsh (by simpa [hoff] using hl)
                      simp only [Nat.add_zero] at this
                      simp [execOp, ho, ha, conc, this]
                    · exfalso
                      have hb : (decide (e = u) && (decide (off = 0) && decide (m + 1 ≤ cs.length))) = false := by
                        rw [Bool.eq_false_iff]
                        intro hh
                        exact hlt (by simpa using hh)
                      rw [hb] at hr
                      cases hr
                · subst hr
                  refine ⟨?_, by simp [wf]⟩
                  simp [execOp, ho, ha, conc, convert, run_underlying hs, run_underlying hd, Conv.unsafePointer]
            · rw [if_neg hns] at hc; cases hc
          · cases hc
        · cases hc

/-- **WHAT IS READ IS WHAT THE OPERATION GIVES; the world stays.** -/
theorem read_sound (htr : trOp P o = some (k, xs)) (hx : xs.map ρ = concL θ l) (hw : wfL θ l) (hp : HRel P CR θ s w) (hcon : ∀ v, ρ (.const v) = v)
    (hr : aread s k l = some v) : (execOp ρ o).run P w = .ok (.value (conc θ v)) w ∧ wf θ v := by
  cases ho : o.op with
  | move x => simp [trOp, ho] at htr; obtain ⟨rfl, rfl⟩ := htr; exact snd_move x (.inl ho) hx hw hr
  | assign x => simp [trOp, ho] at htr; obtain ⟨rfl, rfl⟩ := htr; exact snd_move x (.inr ho) hx hw hr
  | pick c a b => simp [trOp, ho] at htr; obtain ⟨rfl, rfl⟩ := htr; exact snd_pick c a b ho hx hw hr
  | build t ps => exact snd_build t ps ho htr hx hw hr
  | load t a => exact snd_load t a ho htr hx hp hr
  | nilCheck x => simp [trOp, ho] at htr; obtain ⟨rfl, rfl⟩ := htr; exact snd_nilCheck x ho hx hw hr
  | binOp op t x y yt =>
    have gen : trOp P o = some (.bin op, [x, y]) → (execOp ρ o).run P w = .ok (.value (conc θ v)) w ∧ wf θ v := by
      intro h
      rw [h] at htr
      simp at htr
      obtain ⟨rfl, rfl⟩ := htr
      exact snd_bin op t yt x y ho h hx hr
    have hxc : ∀ v, x = .const v → ρ x = v := fun v e => by rw [e]; exact hcon v
    have hyc : ∀ v, y = .const v → ρ y = v := fun v e => by rw [e]; exact hcon v
    cases op
    case eql => exact snd_eq .eql false t yt x y ho rfl (by simpa [trOp, ho] using htr) hx hxc hyc hr
    case neq => exact snd_eq .neq true t yt x y ho rfl (by simpa [trOp, ho] using htr) hx hxc hyc hr
    all_goals exact gen (by simp [trOp, ho])
  | unOp op t x => simp [trOp, ho] at htr; obtain ⟨rfl, rfl⟩ := htr; exact snd_un op t x ho hx hr
  | convert src dst x => exact snd_convert src dst x ho htr hx hp hr
  | makeInterface t x => exact snd_mkIface t x ho htr hx hw hr
  | makeFunc fn a b =>
    cases fn <;> simp [trOp, ho] at htr
    obtain ⟨rfl, rfl⟩ := htr
    exact snd_mkFunc _ a b ho hx hw hr
  | slice t x lo hi mx => exact snd_slice t x lo hi mx ho htr hx hw hr
  | fieldAddr t x f => exact snd_fieldAddr t x f ho htr hx hw hr
  | field t x f => exact snd_field t x f ho htr hx hw hr
  | indexAddr t x i => exact snd_indexAddr t x i ho htr hx hw hr
  | index t x i => exact snd_index t x i ho htr hx hw hr
  | lookup t x i ok => exact snd_lookup t x i ok ho htr hx hw hp hr
  | extract x i => simp [trOp, ho] at htr; obtain ⟨rfl, rfl⟩ := htr; exact snd_extract x i ho hx hw hr
  | call c =>
    cases hb : c.callee with
    | builtin b => exact snd_builtin c b ho hb (by simpa [trOp, ho, hb] using htr) hx hw hp hr
    | value f =>
      exfalso
      cases f <;> simp [trOp, ho, hb] at htr <;> obtain ⟨rfl, rfl⟩ := htr <;> simp [aread] at hr
    | invoke r m => simp [trOp, ho, hb] at htr
  | alloc e =>
    exfalso
    simp only [trOp, ho] at htr
    cases hz : zeroCellsT P e <;> simp [hz] at htr
    obtain ⟨rfl, rfl⟩ := htr; simp [aread] at hr
  | box e x =>
    exfalso
    simp only [trOp, ho] at htr
    cases hz : sizeT P e <;> simp [hz] at htr
    obtain ⟨rfl, rfl⟩ := htr; simp [aread] at hr
  | buildSlice t n ps =>
    exfalso
    simp only [trOp, ho] at htr
    cases he : elemS P t with
    | none => simp [he] at htr
    | some e =>
      cases hz : zeroCellsT P e with
      | none => simp [he, hz] at htr
      | some z => simp [he, hz] at htr; obtain ⟨_, rfl, rfl⟩ := htr; simp [aread] at hr
  | store t a x =>
    exfalso
    simp only [trOp, ho] at htr
    cases hz : sizeT P t <;> simp [hz] at htr
    obtain ⟨rfl, rfl⟩ := htr; simp [aread] at hr
  | makeMap t r =>
    exfalso
    cases r <;> simp [trOp, ho] at htr
    obtain ⟨rfl, rfl⟩ := htr; simp [aread] at hr
  | makeSlice t a b =>
    exfalso
    simp only [trOp, ho] at htr
    cases he : elemS P t with
    | none => simp [he] at htr
    | some e =>
      cases hi : P.info? e with
      | none => simp [he, hi] at htr
      | some i =>
        cases hz : zeroCellsT P e with
        | none => simp [he, hi, hz] at htr
        | some z => simp [he, hi, hz] at htr; obtain ⟨rfl, rfl⟩ := htr; simp [aread] at hr
  | mapUpdate t m kk x =>
    exfalso
    simp only [trOp, ho] at htr
    cases hm : keyM P t with
    | none => simp [hm] at htr
    | some ke => cases hk : ksT P ke.1 <;> simp [hm, hk] at htr; obtain ⟨rfl, rfl⟩ := htr; simp [aread] at hr
  | insert t m kk x =>
    exfalso
    simp only [trOp, ho] at htr
    cases hm : keyM P t with
    | none => simp [hm] at htr
    | some ke => cases hk : ksT P ke.1 <;> simp [hm, hk] at htr; obtain ⟨rfl, rfl⟩ := htr; simp [aread] at hr
  | mapEntry t m kk =>
    exfalso
    simp only [trOp, ho] at htr
    cases hm : keyM P t with
    | none => simp [hm] at htr
    | some ke =>
      cases hk : ksT P ke.1 with
      | none => simp [hm, hk] at htr
      | some ks => cases hz : zeroT P ke.2 <;> simp [hm, hk, hz] at htr; obtain ⟨rfl, rfl⟩ := htr; simp [aread] at hr
  | entryStore t m st x => exfalso; simp [trOp, ho] at htr; obtain ⟨rfl, rfl⟩ := htr; simp [aread] at hr
  | range t x =>
    exfalso
    simp only [trOp, ho] at htr
    cases hu : P.underlying t with
    | none => simp [hu] at htr
    | some d => cases d <;> simp [hu] at htr; obtain ⟨rfl, rfl⟩ := htr; simp [aread] at hr
  | next x b => exfalso; cases b <;> simp [trOp, ho] at htr; obtain ⟨rfl, rfl⟩ := htr; simp [aread] at hr
  | _ => simp [trOp, ho] at htr
end
end Go.Ab
/-! Operations that make memory. -/
namespace Go.Ab
variable {P : Program} {CR : Code → AC → Prop} {θ : Th} {s : St} {w : World}
section
variable {o : Oper} {ρ : Operand → Value} {k : OpK} {xs : List Operand} {l : List AV} {v : AV}

theorem orel_fresh {b id e c f : Nat} {cs : List AV} {rest : List Value} {arr : Array Value} (hw : wfL θ cs) (hid : ¬ θ.dom id) (ha : arr.toList = concL θ cs ++ rest)
    (hcap : ∀ inf, P.info? e = some inf → cs.length ≤ c * inf.size ∧ c * inf.size ≤ arr.size) (w1 : World) (h1 : w1.heap[b]? = some (.cells arr e (0, 0))) :
    ORel P CR (θ.add id b 0 c) w1 id (.cells e cs f) := by
  have hle : θ.Le (θ.add id b 0 c) := Th.le_add hid
  have e1 : (θ.add id b 0 c).blk id = b := by simp [Th.add]
  have e2 : (θ.add id b 0 c).off id = 0 := by simp [Th.add]
  have e3 : (θ.add id b 0 c).cap id = c := by simp [Th.add]
  refine ⟨arr, (0, 0), by rw [e1]; exact h1, ?_, wfL_le hle _ hw, by simp, ?_, fun _ => e2⟩
  · intro i v hv
    have hlt : i < cs.length := (List.getElem?_eq_some_iff.1 hv).1
    rw [e2, Nat.zero_add, conc_le hle v ((wfL_iff _ _).1 hw v (List.mem_of_getElem? hv)), ← Array.getElem?_toList, ha, List.getElem?_append_left (by rw [concL_length]; exact hlt), concL_eq, List.getElem?_map, hv]
    rfl
  · intro inf hinf
    rw [e2, e3]
    simpa using hcap inf hinf

/-- what an allocation does -/
def MakesAs (P : Program) (CR : Code → AC → Prop) (θ : Th) (w : World) (r : Result Next) (ob : AObj) (mk : Nat → AV) : Prop :=
  ∃ cob c w', Made w w' cob ∧ ∀ id, ¬ θ.dom id → (r = .ok (.value (conc (θ.add id w.heap.size 0 c) (mk id))) w' ∧ wf (θ.add id w.heap.size 0 c) (mk id) ∧
    ∀ w1, w1.heap[w.heap.size]? = some cob → ORel P CR (θ.add id w.heap.size 0 c) w1 id ob)

theorem conc_ptr_new (θ : Th) (id b c : Nat) : conc (θ.add id b 0 c) (.ptr id 0) = .pointer (some ⟨b, 0, none⟩) ∧ wf (θ.add id b 0 c) (.ptr id 0) := by
  simp [conc, Th.add, wf]
theorem conc_slice_new (θ : Th) (id b c n m : Nat) (h : n ≤ m) : conc (θ.add id b 0 c) (.slice id 0 n m) = .slice (some ⟨b, 0, none⟩) n m ∧ wf (θ.add id b 0 c) (.slice id 0 n m) := by
  simp [conc, Th.add, wf, h]

theorem rep_eq {α : Type} [Inhabited α] (z : List α) : ∀ (n : Nat), rep n z = (List.range (n * z.length)).map (fun i => z.toArray[i % z.length]!)
  | 0 => by simp [rep]
  | n + 1 => by
    rw [rep, appL_eq, rep_eq z n]
    have e : (n + 1) * z.length = z.length + n * z.length := by rw [Nat.add_mul]; omega
    rw [e, List.range_add, List.map_append]
    congr 1
    · apply List.ext_getElem
      · simp
      · intro i h1 h2
        simp at h2
        simp [Nat.mod_eq_of_lt h2, h2]
    · simp
theorem rep_length {α : Type} (z : List α) (n : Nat) : (rep n z).length = n * z.length := by
  induction n with
  | zero => simp [rep]
  | succ n ih => simp [rep, appL_eq, ih, Nat.add_mul]; omega
theorem rep_mem {α : Type} {z : List α} {n : Nat} {v : α} (h : v ∈ rep n z) : v ∈ z := by
  induction n with
  | zero => simp [rep] at h
  | succ n ih =>
    simp [rep, appL_eq] at h
    rcases h with h | h
    · exact h
    · exact ih h
theorem concL_rep (z : List AV) (n : Nat) : concL θ (rep n z) = rep n (concL θ z) := by
  induction n with
  | zero => simp [rep, concL]
  | succ n ih => simp [rep, appL_eq, concL_append, ih]
theorem array_rep (z : List Value) (n : Nat) : (Array.range (n * z.length)).map (fun i => z.toArray[i % z.length]!) = (rep n z).toArray := by
  apply Array.ext'
  rw [rep_eq]
  simp

theorem mk_alloc (e : TypeId) (ho : o.op = .alloc e) (htr : trOp P o = some (k, xs)) (hx : xs.map ρ = concL θ l) {ob : AObj} {mk : Nat → AV} (ha : aalloc k l = some (ob, mk)) :
    MakesAs P CR θ w ((execOp ρ o).run P w) ob mk := by
  simp only [trOp, ho] at htr
  cases hz : zeroCellsT P e with
  | none => simp [hz] at htr
  | some z =>
    simp [hz] at htr
    obtain ⟨rfl, rfl⟩ := htr
    obtain rfl := map0 hx
    obtain ⟨i, zv, hi, hzv, hzc, hwz, hlen, _⟩ := zeroCellsT_run (θ := θ) hz
    simp [aalloc] at ha
    obtain ⟨rfl, rfl⟩ := ha
    refine ⟨_, 1, _, Made.alloc w (.cells zv.cells e), fun id hid => ⟨?_, (conc_ptr_new _ _ _ _).2, ?_⟩⟩
    · rw [(conc_ptr_new _ _ _ _).1]
      simp [execOp, ho, Instr.alloc, zeroValue, typeInfo, hi, hzv, newVar, newRow]
    · intro w1 h1
      refine orel_fresh (rest := []) hwz hid (by simpa using hzc) (fun inf hinf => ?_) w1 h1
      rw [hi] at hinf
      simp at hinf
      subst hinf
      have : zv.cells.size = i.size := by
        have := congrArg List.length hzc
        rw [concL_length] at this
        simpa [hlen] using this
      omega

theorem mk_box (e : TypeId) (x : Operand) (ho : o.op = .box e x) (htr : trOp P o = some (k, xs)) (hx : xs.map ρ = concL θ l) (hw : wfL θ l) {ob : AObj} {mk : Nat → AV} (ha : aalloc k l = some (ob, mk)) :
    MakesAs P CR θ w ((execOp ρ o).run P w) ob mk := by
  simp only [trOp, ho] at htr
  cases hz : sizeT P e with
  | none => simp [hz] at htr
  | some n =>
    simp [hz] at htr
    obtain ⟨rfl, rfl⟩ := htr
    obtain ⟨a, rfl, hxa⟩ := map1 hx
    simp only [aalloc, nbeq, lenL_eq] at ha
    by_cases h1 : a.cells.length = n
    · cases h2 : allOne a.cells with
      | false => simp [h1, h2] at ha
      | true =>
        simp [h1, h2] at ha
        obtain ⟨rfl, rfl⟩ := ha
        refine ⟨_, 1, _, Made.alloc w (.cells (conc θ a).cells e), fun id hid => ⟨?_, (conc_ptr_new _ _ _ _).2, ?_⟩⟩
        · rw [(conc_ptr_new _ _ _ _).1]
          simp [execOp, ho, Instr.box, newVar, newRow, hxa]
        · intro w1 hw1
          refine orel_fresh (rest := []) (wfL_cells (wf1 hw)) hid (by simp [cells_conc]) (fun inf hinf => ?_) w1 hw1
          have : inf.size = n := by unfold sizeT at hz; simpa [hinf] using hz
          have h3 := congrArg List.length (cells_conc (θ := θ) a)
          rw [concL_length] at h3
          simp at h3
          omega
    · simp [h1] at ha

theorem mk_buildSlice (t : TypeId) (n : Nat) (ps : Array (Nat × Operand)) (ho : o.op = .buildSlice t n ps) (htr : trOp P o = some (k, xs)) (hx : xs.map ρ = concL θ l) (hw : wfL θ l) {ob : AObj} {mk : Nat → AV} (ha : aalloc k l = some (ob, mk)) :
    MakesAs P CR θ w ((execOp ρ o).run P w) ob mk := by
  simp only [trOp, ho] at htr
  cases he : elemS P t with
  | none => simp [he] at htr
  | some e =>
    cases hz : zeroCellsT P e with
    | none => simp [he, hz] at htr
    | some z =>
      simp [he, hz] at htr
      obtain ⟨⟨hlim, hpos⟩, rfl, rfl⟩ := htr
      obtain ⟨i, zv, hi, hzv, hzc, hwz, hlen, _⟩ := zeroCellsT_run (θ := θ) hz
      have hu : P.underlying t = some (.slice e) := (elemS_some he).1
      obtain ⟨h1, h2⟩ := partsS_spec (size := z.length) ps.toList
      simp only [aalloc] at ha
      cases hf : fillA (rep n z) (partsS z.length ps.toList).1 l with
      | none => simp [hf] at ha
      | some r =>
        simp [hf] at ha
        obtain ⟨rfl, rfl⟩ := ha
        have hwrep : wfL θ (rep n z) := (wfL_iff _ _).2 fun v hv => (wfL_iff _ _).1 hwz v (rep_mem hv)
        have hfill := run_fill (θ := θ) (place := fun i => some (i * z.length, z.length)) ps.toList _ ρ (rep n z) l r (by rw [h2]; simp) (by
            intro n i x p hi hp
            rw [h2, List.getElem?_map, hi] at hp
            simpa using hp) (by rw [h1] at hx; exact hx) hw hwrep hf
        have harr : (Array.range (n * z.length)).map (fun i => zv.cells[i % zv.cells.size]!) = (concL θ (rep n z)).toArray := by
          have hzs : zv.cells.size = z.length := by
            have := congrArg List.length hzc
            rw [concL_length] at this
            simpa using this
          have hza : zv.cells = (concL θ z).toArray := by rw [← hzc]
          have := array_rep (concL θ z) n
          rw [concL_length] at this
          rw [concL_rep, ← this, hzs, hza]
        have hrl : r.length = n * z.length := by rw [hfill.2.2, rep_length]
        refine ⟨_, n, _, Made.alloc w (.cells (concL θ r).toArray e), fun id hid => ⟨?_, (conc_slice_new _ _ _ _ _ _ (Nat.le_refl n)).2, ?_⟩⟩
        · rw [(conc_slice_new _ _ _ _ _ _ (Nat.le_refl n)).1]
          have hl24 : ¬ (16777216 < n * i.size) := by rw [← hlen]; omega
          by_cases hn0 : n = 0
          · subst hn0
            have hff := hfill.1
            have hff2 : Instr.fill (fun i_1 => some (i_1 * i.size, i.size)) (Array.map (fun x => default) (Array.range 0)) (ps.toList.map fun x => (x.1, ρ x.2)) = some (concL θ r).toArray := by
              have e0 : (Array.map (fun x => (default : Value)) (Array.range 0)) = (concL θ (rep 0 z)).toArray := by simp [rep, concL]
              rw [e0, ← hlen]
              exact hff
            simp [execOp, ho, Instr.buildSlice, run_underlying hu, sizeOf, typeInfo, hi, newRow, hff2]
          · have hn1 : ¬ (n * i.size = 0) := by
              rw [← hlen]
              intro h
              rcases Nat.mul_eq_zero.1 h with h | h
              · exact hn0 h
              · omega
            have hn2 : ¬ (n = 0 ∨ i.size = 0) := by
              intro h
              exact hn1 (Nat.mul_eq_zero.2 h)
            have hff := hfill.1
            rw [← harr] at hff
            rw [hlen] at hff
            simp at hff
            simp [execOp, ho, Instr.buildSlice, run_underlying hu, sizeOf, typeInfo, zeroValue, hi, hzv, hl24, hn2, newRow, hff]
            exact fun h => absurd h hn1
        · intro w1 hw1
          refine orel_fresh (rest := []) hfill.2.1 hid (by simp) (fun inf hinf => ?_) w1 hw1
          rw [hi] at hinf
          simp at hinf
          subst hinf
          simp [concL_length, hrl, hlen]

theorem mk_makeMap (t : TypeId) (rs : Option Operand) (ho : o.op = .makeMap t rs) (htr : trOp P o = some (k, xs)) {ob : AObj} {mk : Nat → AV} (ha : aalloc k l = some (ob, mk)) :
    MakesAs P CR θ w ((execOp ρ o).run P w) ob mk := by
  cases rs <;> simp [trOp, ho] at htr
  obtain ⟨rfl, rfl⟩ := htr
  simp [aalloc] at ha
  obtain ⟨rfl, rfl⟩ := ha
  refine ⟨_, 0, _, Made.alloc w (.map #[] 0), fun id hid => ⟨?_, by simp [wf, Th.add], ?_⟩⟩
  · simp [execOp, ho, Instr.makeMap, conc, Th.add]
  · intro w1 h1
    exact ⟨by simpa [Th.add] using h1, by simp [wfE]⟩

theorem wrap_small (n : Nat) (h : n ≤ 1000000) : IntKind.i64.wrap (n : Int) = n := by
  rw [IntKind.wrap_i64, Int.emod_eq_of_lt (by omega) (by omega)]
  omega
theorem mk_makeSlice (t : TypeId) (x y : Operand) (ho : o.op = .makeSlice t x y) (htr : trOp P o = some (k, xs)) (hx : xs.map ρ = concL θ l) {ob : AObj} {mk : Nat → AV} (ha : aalloc k l = some (ob, mk)) :
    MakesAs P CR θ w ((execOp ρ o).run P w) ob mk := by
  simp only [trOp, ho] at htr
  cases he : elemS P t with
  | none => simp [he] at htr
  | some e =>
    cases hi : P.info? e with
    | none => simp [he, hi] at htr
    | some i =>
      cases hz : zeroCellsT P e with
      | none => simp [he, hi, hz] at htr
      | some z =>
        simp [he, hi, hz] at htr
        obtain ⟨rfl, rfl⟩ := htr
        obtain ⟨a, b, rfl, hxa, hxb⟩ := map2 hx
        obtain ⟨i', zv, hi', hzv, hzc, hwz, hlen, _⟩ := zeroCellsT_run (θ := θ) hz
        rw [hi] at hi'
        simp at hi'
        subst hi'
        have hu : P.underlying t = some (.slice e) := (elemS_some he).1
        simp only [aalloc] at ha
        cases hia : idx a with
        | none => simp [hia] at ha
        | some n =>
          cases hib : idx b with
          | none => simp [hia, hib] at ha
          | some c =>
            obtain ⟨k1, rfl⟩ := idx_int hia
            obtain ⟨k2, rfl⟩ := idx_int hib
            simp only [hia, hib, nble] at ha
            by_cases h1 : n ≤ c
            · by_cases h2 : c * (i.bytes + 1) ≤ 1000000
              · simp [h1, h2] at ha
                obtain ⟨rfl, rfl⟩ := ha
                rw [Nat.mul_add] at h2
                have hwrep : wfL θ (rep c z) := (wfL_iff _ _).2 fun v hv => (wfL_iff _ _).1 hwz v (rep_mem hv)
                have hzs : zv.cells.size = z.length := by
                  have := congrArg List.length hzc
                  rw [concL_length] at this
                  simpa using this
                have hza : zv.cells = (concL θ z).toArray := by rw [← hzc]
                have harr : (Array.range (c * i.size)).map (fun i => zv.cells[i % zv.cells.size]!) = (concL θ (rep c z)).toArray := by
                  have := array_rep (concL θ z) c
                  rw [concL_length] at this
                  rw [concL_rep, ← this, hzs, hza, hlen]
                have wn : IntKind.i64.wrap (n : Int) = n := wrap_small n (by omega)
                have wc : IntKind.i64.wrap (c : Int) = c := wrap_small c (by omega)
                have hb : ¬ ((281474976710656 : Int) < (i.bytes : Int) * (c : Int)) := by
                  have : i.bytes * c ≤ 1000000 := by rw [Nat.mul_comm]; omega
                  have h3 : ((i.bytes * c : Nat) : Int) ≤ 1000000 := Int.ofNat_le.2 this
                  rw [Int.natCast_mul] at h3
                  omega
                have hc0 : ¬ ((c : Int) < 0) := by omega
                have hn0 : ¬ ((n : Int) < 0) := by omega
                have hcn : ¬ ((c : Int) < (n : Int)) := by omega
                refine ⟨_, c, _, Made.alloc w (.cells (concL θ (rep c z)).toArray e), fun id hid => ⟨?_, (conc_slice_new _ _ _ _ _ _ h1).2, ?_⟩⟩
                · rw [(conc_slice_new _ _ _ _ _ _ h1).1]
                  by_cases hz0 : c * i.size = 0
                  · have hrep0 : (concL θ (rep c z)).toArray = #[] := by
                      have : (concL θ (rep c z)).length = 0 := by rw [concL_length, rep_length, hlen, hz0]
                      rw [List.eq_nil_of_length_eq_zero this]
                    rw [hrep0]
                    simp [execOp, ho, Instr.makeSlice, run_underlying hu, sizeOf, typeInfo, zeroValue, hi, hzv, hxa, hxb, conc, asInt, asIntOf, wn, wc, hb, hc0, hn0, hcn, newRow, hz0]
                    congr 2
                    apply Array.ext'
                    simp
                  · have hz1 : ¬ (c = 0 ∨ i.size = 0) := fun h => hz0 (Nat.mul_eq_zero.2 h)
                    simp [execOp, ho, Instr.makeSlice, run_underlying hu, sizeOf, typeInfo, zeroValue, hi, hzv, hxa, hxb, conc, asInt, asIntOf, wn, wc, hb, hc0, hn0, hcn, newRow, hz0, hz1, harr]
                · intro w1 hw1
                  refine orel_fresh (rest := []) hwrep hid (by simp) (fun inf hinf => ?_) w1 hw1
                  rw [hi] at hinf
                  simp at hinf
                  subst hinf
                  simp [concL_length, rep_length, hlen]
              · simp [h1, h2] at ha
            · simp [h1] at ha

theorem mk_range (t : TypeId) (x : Operand) (ho : o.op = .range t x) (htr : trOp P o = some (k, xs)) (hx : xs.map ρ = concL θ l) {ob : AObj} {mk : Nat → AV} (ha : aalloc k l = some (ob, mk)) :
    MakesAs P CR θ w ((execOp ρ o).run P w) ob mk := by
  simp only [trOp, ho] at htr
  cases hu : P.underlying t with
  | none => simp [hu] at htr
  | some d =>
    cases d <;> simp [hu] at htr
    obtain ⟨rfl, rfl⟩ := htr
    obtain ⟨a, rfl, hxa⟩ := map1 hx
    simp only [aalloc] at ha
    cases a <;> simp at ha
    rename_i bs
    obtain ⟨rfl, rfl⟩ := ha
    refine ⟨_, 0, _, Made.alloc w (.stringIter ⟨bs.toArray⟩ 0), fun id hid => ⟨?_, (conc_ptr_new _ _ _ _).2, ?_⟩⟩
    · rw [(conc_ptr_new _ _ _ _).1]
      simp [execOp, ho, Instr.range, run_underlying hu, hxa, conc]
    · intro w1 h1
      exact ⟨by simp [Th.add], ⟨bs.toArray⟩, by simpa [Th.add] using h1, by simp⟩
end
end Go.Ab
/-! Operations that change memory. -/
namespace Go.Ab
variable {P : Program} {CR : Code → AC → Prop} {θ : Th} {s : St} {w : World}
section
variable {o : Oper} {ρ : Operand → Value} {k : OpK} {xs : List Operand} {l : List AV} {v : AV}

theorem alloc_sound (htr : trOp P o = some (k, xs)) (hx : xs.map ρ = concL θ l) (hw : wfL θ l) {ob : AObj} {mk : Nat → AV} (ha : aalloc k l = some (ob, mk)) :
    MakesAs P CR θ w ((execOp ρ o).run P w) ob mk := by
  cases ho : o.op with
  | alloc e => exact mk_alloc e ho htr hx ha
  | box e x => exact mk_box e x ho htr hx hw ha
  | buildSlice t n ps => exact mk_buildSlice t n ps ho htr hx hw ha
  | makeMap t r => exact mk_makeMap t r ho htr ha
  | makeSlice t a b => exact mk_makeSlice t a b ho htr hx ha
  | range t x => exact mk_range t x ho htr hx ha
  | makeFunc fn a b => exfalso; cases fn <;> simp [trOp, ho] at htr; obtain ⟨rfl, _⟩ := htr; simp [aalloc] at ha
  | next x b => exfalso; cases b <;> simp [trOp, ho] at htr; obtain ⟨rfl, _⟩ := htr; simp [aalloc] at ha
  | _ =>
    exfalso
    simp only [trOp, ho] at htr
    try simp only [trEq, trBuiltin] at htr
    repeat' split at htr
    all_goals first
      | (cases htr; done)
      | (simp only [Option.some.injEq, Prod.mk.injEq] at htr; obtain ⟨rfl, _⟩ := htr; simp [aalloc] at ha; done)
end
end Go.Ab
/-! Operations that change memory. -/
namespace Go.Ab
variable {P : Program} {CR : Code → AC → Prop} {θ θ' : Th} {s s' : St} {w w' : World}
section
variable {o : Oper} {ρ : Operand → Value} {k : OpK} {xs : List Operand} {l : List AV} {v : AV}

/-- what an operation with an effect does -/
def Does (P : Program) (CR : Code → AC → Prop) (θ : Th) (s : St) (w : World) (r : Result Next) (v : AV) (s' : St) : Prop :=
  ∃ θ' w', (r = .ok (.value (conc θ' v)) w' ∨ (r = .ok .skip w' ∧ v = AV.undef)) ∧ HRel P CR θ' s' w' ∧ FRel θ s w θ' s' w' ∧ wf θ' v

theorem one_oneCell {v : AV} (h : one v = true) : (conc θ v).oneCell' = true := by
  cases v
  case uat id => simp only [conc]; cases θ.uv id <;> rfl
  all_goals simp_all [one, conc, Value.oneCell']
theorem allOne_all {l : List AV} (h : allOne l = true) : ∀ u ∈ concL θ l, u.oneCell' = true := by
  induction l with
  | nil => simp [concL]
  | cons v l ih =>
    simp only [allOne] at h
    cases h1 : one v with
    | false => simp [h1] at h
    | true =>
      simp [h1] at h
      intro u hu
      simp only [concL, List.mem_cons] at hu
      rcases hu with rfl | hu
      · exact one_oneCell h1
      · exact ih h u hu

theorem store_core (hp : HRel P CR θ s w) {id e frz off : Nat} {cs vs : List AV} (hg : s.get id = some (.cells e cs frz)) (hfrz : frz ≤ off) (hoff : off ≤ cs.length)
    (hroom : ∀ c fr, w.heap[θ.blk id]? = some (.cells c e fr) → θ.off id + off + vs.length ≤ c.size) (hone : allOne vs = true) (hwv : wfL θ vs)
    (hcap : ∀ inf, P.info? e = some inf → (setL cs off vs).length ≤ θ.cap id * inf.size) :
    ∃ w', (storeCells ⟨θ.blk id, θ.off id + off, none⟩ (concL θ vs)).run P w = .ok () w' ∧ HRel P CR θ (s.put id (.cells e (setL cs off vs) frz)) w' ∧
      FRel θ s w θ (s.put id (.cells e (setL cs off vs) frz)) w' := by
  obtain ⟨c, fr, h1, h2, h3, h4, h5, h6⟩ := hp.obj id _ hg
  have hr := hroom c fr h1
  have hst := run_storeCells_atF P (θ.blk id) (θ.off id + off) e fr (concL θ vs) 0 c w h1 (by omega) (by rw [concL_length]; omega) (allOne_all hone)
  refine ⟨_, hst, ?_⟩
  have hsz : (w.setRow (θ.blk id) (c.toList.take (θ.off id + off + 0) ++ concL θ vs ++ c.toList.drop (θ.off id + off + 0 + (concL θ vs).length)).toArray).heap.size = w.heap.size := by simp [World.setRow]
  refine hp.change hg (by simp) rfl rfl rfl hsz (fun b hb => setRow_other _ _ _ _ hb) ?_
  have hcs : ∀ i v, cs[i]? = some v → θ.off id + i < c.size := by
    intro i v hv
    have := h2 i v hv
    exact (Array.getElem?_eq_some_iff.1 this).1
  refine ⟨_, fr, setRow_heap w (θ.blk id) c _ e fr h1, ?_, ?_, h4, ?_, h6⟩
  · intro i v hv
    rw [setL_eq] at hv
    simp only [Nat.add_zero, concL_length]
    rw [List.append_assoc]
    simp only [List.getElem?_toArray]
    have hl1 : (c.toList.take (θ.off id + off)).length = θ.off id + off := by simp; omega
    by_cases hi : i < off
    · rw [List.getElem?_append_left (by rw [hl1]; omega), List.getElem?_take_of_lt (by omega), Array.getElem?_toList]
      rw [List.getElem?_append_left (by simp; omega), List.getElem?_take_of_lt hi] at hv
      exact h2 i v hv
    · rw [List.getElem?_append_right (by rw [hl1]; omega), hl1]
      rw [List.getElem?_append_right (by simp; omega)] at hv
      have e1 : (cs.take off).length = off := by simp; omega
      rw [e1] at hv
      have e2 : θ.off id + i - (θ.off id + off) = i - off := by omega
      rw [e2]
      by_cases hi2 : i - off < vs.length
      · rw [List.getElem?_append_left (by rw [concL_length]; exact hi2), concL_eq, List.getElem?_map]
        rw [List.getElem?_append_left hi2] at hv
        rw [hv]; rfl
      · rw [List.getElem?_append_right (by rw [concL_length]; omega), concL_length]
        rw [List.getElem?_append_right (by omega)] at hv
        rw [List.getElem?_drop] at hv ⊢
        have e3 : off + vs.length + (i - off - vs.length) = i := by omega
        have e4 : θ.off id + off + vs.length + (i - off - vs.length) = θ.off id + i := by omega
        rw [e3] at hv
        rw [e4, Array.getElem?_toList]
        exact h2 i v hv
  · rw [setL_eq]
    exact wfL_append (wfL_take h3 _) (wfL_append hwv (wfL_drop h3 _))
  · intro inf hinf
    refine ⟨hcap inf hinf, ?_⟩
    have hsz : (c.toList.take (θ.off id + off + 0) ++ concL θ vs ++ c.toList.drop (θ.off id + off + 0 + (concL θ vs).length)).toArray.size = c.size := by
      simp [concL_length]; omega
    rw [hsz]
    exact (h5 inf hinf).2

theorem writeCells_sound (hp : HRel P CR θ s w) {id off : Nat} {vs : List AV} (h : writeCells s id off vs = some s') (hwv : wfL θ vs) :
    ∃ w', (storeCells ⟨θ.blk id, θ.off id + off, none⟩ (concL θ vs)).run P w = .ok () w' ∧ HRel P CR θ s' w' ∧ FRel θ s w θ s' w' := by
  unfold writeCells at h
  cases hg : s.get id with
  | none => simp [hg] at h
  | some ob =>
    cases ob <;> simp [hg] at h
    rename_i e cs frz
    simp only [nble, lenL_eq] at h
    by_cases h1 : frz ≤ off
    · by_cases h2 : off + vs.length ≤ cs.length
      · cases h3 : allOne vs with
        | false => simp [h1, h2, h3] at h
        | true =>
          simp [h1, h2, h3] at h
          subst h
          obtain ⟨c, fr, q1, q2, q3, q4, q5, q6⟩ := hp.obj id _ hg
          have hlen : (setL cs off vs).length = cs.length := by rw [setL_eq]; simp; omega
          by_cases hv : vs = []
          · subst hv
            have hset : setL cs off [] = cs := by rw [setL_eq]; simp
            rw [hset]
            exact ⟨w, by simp [concL, storeCells], hp.change hg (by simp) rfl rfl rfl rfl (fun _ _ => rfl) (hp.obj id _ hg)⟩
          · refine store_core hp hg h1 (by omega) ?_ h3 hwv ?_
            · intro c' fr' hc'
              rw [q1] at hc'
              simp at hc'
              obtain ⟨rfl, rfl⟩ := hc'
              have hv0 : vs.length ≠ 0 := by simpa using hv
              have hl : off + vs.length - 1 < cs.length := by omega
              have := q2 (off + vs.length - 1) _ (List.getElem?_eq_getElem hl)
              have := (Array.getElem?_eq_some_iff.1 this).1
              omega
            · intro inf hinf
              rw [hlen]
              exact (q5 inf hinf).1
      · simp [h1, h2] at h
    · simp [h1] at h

theorem snd_store (t : TypeId) (a x : Operand) (ho : o.op = .store t a x) (htr : trOp P o = some (k, xs)) (hx : xs.map ρ = concL θ l) (hw : wfL θ l) (hp : HRel P CR θ s w)
    (hr : aeff s k l = some (.val v s')) : Does P CR θ s w ((execOp ρ o).run P w) v s' := by
  simp only [trOp, ho] at htr
  cases hz : sizeT P t with
  | none => simp [hz] at htr
  | some n =>
    simp [hz] at htr
    obtain ⟨rfl, rfl⟩ := htr
    obtain ⟨x1, x2, rfl, e1, e2⟩ := map2 hx
    have hw2 := (wf2 hw).2
    simp only [aeff, nbeq, lenL_eq] at hr
    cases x1 <;> simp at hr
    rename_i id off
    by_cases h1 : x2.cells.length = n
    · cases h2 : writeCells s id off x2.cells with
      | none => simp [h1, h2] at hr
      | some s1 =>
        simp [h1, h2] at hr
        obtain ⟨rfl, rfl⟩ := hr
        obtain ⟨w', r1, r2, r3⟩ := writeCells_sound hp h2 (wfL_cells hw2)
        refine ⟨θ, w', .inr ⟨?_, rfl⟩, r2, r3, by simp [AV.undef, wf, wfL]⟩
        have hsz : (conc θ x2).cells.size = n := by
          have := congrArg List.length (cells_conc (θ := θ) x2)
          rw [concL_length] at this
          simpa [h1] using this
        simp [execOp, ho, e1, e2, conc, Instr.storeAt, Instr.sureAddr, storeVar, sizeT_run hz, hsz, cells_conc, r1]
    · simp [h1] at hr

/-! ### maps -/
theorem find_modify {ks : KS} {k : AV} : ∀ (es : List MEnt) (n : Nat), True := fun _ _ => trivial
end
end Go.Ab
/-! Operations that change maps. -/
namespace Go.Ab
variable {P : Program} {CR : Code → AC → Prop} {θ θ' : Th} {s s' : St} {w w' : World}
section
variable {o : Oper} {ρ : Operand → Value} {k : OpK} {xs : List Operand} {l : List AV} {v : AV}

theorem findI_shift (ks : KS) (k : AV) : ∀ (es : List MEnt) (i : Nat), findI ks k es i = (findI ks k es 0).map (· + i)
  | [], i => by simp [findI]
  | e :: es, i => by
    simp only [findI]
    rw [findI_shift ks k es (i + 1), findI_shift ks k es (0 + 1)]
    split
    · simp
    · cases findI ks k es 0 <;> simp; omega

theorem find_some {ks : KS} {k u : AV} : ∀ {es : List MEnt}, findE ks k es = some (some u) →
    ∃ j e, findI ks k es 0 = some j ∧ es[j]? = some e ∧ eqV ks k e.key = some true ∧ e.val = u ∧ (∀ v c, updE ks k v c es = es.modify j (fun e => ⟨k, v, e.born⟩)) ∧ (∀ c, bornE ks k c es = e.born) ∧ delE ks k es = es.eraseIdx j
  | [], h => by simp [findE] at h
  | e :: es, h => by
    simp only [findE] at h
    cases he : eqV ks k e.key with
    | none => simp [he] at h
    | some b =>
      cases b with
      | true =>
        simp [he] at h
        exact ⟨0, e, by simp [findI, he], rfl, he, h, by intro v c; simp [updE, he], by intro c; simp [bornE, he], by simp [delE, he]⟩
      | false =>
        simp [he] at h
        obtain ⟨j, e', h1, h2, h3, h4, h5, h6, h7⟩ := find_some h
        refine ⟨j + 1, e', ?_, by simpa using h2, h3, h4, ?_, ?_, ?_⟩
        · simp only [findI, he]; rw [findI_shift, h1]; rfl
        · intro v c; simp [updE, he, h5]
        · intro c; simp [bornE, he, h6]
        · simp [delE, he, h7]
theorem find_none {ks : KS} {k : AV} : ∀ {es : List MEnt}, findE ks k es = some none →
    findI ks k es 0 = none ∧ (∀ v c, updE ks k v c es = es ++ [⟨k, v, c⟩]) ∧ (∀ c, bornE ks k c es = c) ∧ delE ks k es = es
  | [], h => ⟨rfl, fun _ _ => rfl, fun _ => rfl, rfl⟩
  | e :: es, h => by
    simp only [findE] at h
    cases he : eqV ks k e.key with
    | none => simp [he] at h
    | some b =>
      cases b with
      | true => simp [he] at h
      | false =>
        simp [he] at h
        obtain ⟨h1, h2, h3, h4⟩ := find_none h
        refine ⟨?_, ?_, ?_, ?_⟩
        · simp only [findI, he]; rw [findI_shift, h1]; rfl
        · intro v c; simp [updE, he, h2]
        · intro c; simp [bornE, he, h3]
        · simp [delE, he, h4]

/-- keys that are equal are the same -/
theorem eqAtom_same {θ : Th} {ek : EK} {x y : AV} (h : eqAtom ek x y = some true) : x = y ∧ ∀ n, Instr.sameBits n (conc θ x) (conc θ x) = true := by
  unfold eqAtom at h
  split at h <;> (try simp only [eqK_eq, eqI_eq, eqB_eq, nbeq] at h)
  · rename_i a b; cases a <;> cases b <;> simp_all [conc, Instr.sameBits]
  · rename_i j a k b
    by_cases h1 : j = k
    · simp [h1] at h; subst h; subst h1; simp [conc, Instr.sameBits]
    · simp [h1] at h
  · simp at h; subst h; simp [conc, Instr.sameBits]
    rename_i a
    show (a.toArray == a.toArray) = true
    simp
  · simp [conc, Instr.sameBits]
  · simp at h
  · simp at h
  · rename_i i o j p
    by_cases h1 : i = j
    · simp [h1] at h; subst h; subst h1; simp [conc, Instr.sameBits]
    · simp [h1] at h
  · simp [conc, Instr.sameBits]
  · simp at h
  · simp at h
  · simp at h
theorem eqCells_same {θ : Th} : ∀ {ks : List EK} {xs ys : List AV}, noBlank ks = true → eqCells ks xs ys = some true → xs = ys ∧ ∀ n, ∀ p ∈ (concL θ xs).zip (concL θ xs), Instr.sameBits n p.1 p.2 = true
  | [], [], [], _, _ => ⟨rfl, fun n p hp => by simp [concL] at hp⟩
  | k :: ks, x :: xs, y :: ys, hb, h => by
    have hk : k ≠ .blank := by rintro rfl; simp [noBlank] at hb
    have hb' : noBlank ks = true := by cases k <;> simp_all [noBlank]
    have h' : eqAtom k x y = some true ∧ eqCells ks xs ys = some true := by
      cases k <;> first | exact absurd rfl hk | skip
      all_goals
        simp only [eqCells] at h
        split at h <;> simp_all
    obtain ⟨e1, h1⟩ := eqAtom_same (θ := θ) h'.1
    obtain ⟨e2, h2⟩ := eqCells_same (θ := θ) hb' h'.2
    refine ⟨by rw [e1, e2], fun n p hp => ?_⟩
    simp only [concL, List.zip_cons_cons, List.mem_cons] at hp
    rcases hp with rfl | hp
    · exact h1 n
    · exact h2 n p hp
  | [], [], _ :: _, _, h => by simp [eqCells] at h
  | [], _ :: _, [], _, h => by simp [eqCells] at h
  | [], _ :: _, _ :: _, _, h => by simp [eqCells] at h
  | k :: _, [], [], _, h => by cases k <;> simp [eqCells] at h
  | k :: _, [], _ :: _, _, h => by cases k <;> simp [eqCells] at h
  | k :: _, _ :: _, [], _, h => by cases k <;> simp [eqCells] at h

theorem eqV_same {ks : KS} {t : TypeId} (hk : ksT P t = some ks) {x y : AV} (h : eqV ks x y = some true) : x = y ∧ Instr.sameBits 10000 (conc θ x) (conc θ x) = true := by
  cases ks with
  | atom ek => exact ⟨(eqAtom_same (θ := θ) h).1, (eqAtom_same h).2 _⟩
  | cells kl =>
    have hnb : noBlank kl = true := by
      unfold ksT at hk
      cases hu : P.underlying t with
      | none => simp [hu] at hk
      | some d =>
        cases hkk : keysT P 8 t with
        | none => cases d <;> simp [hu, hkk] at hk
        | some q =>
          cases d <;> simp [hu, hkk] at hk
          case struct => obtain ⟨h1, rfl⟩ := hk; exact h1
          all_goals (split at hk <;> simp at hk)
    match x, y, h with
    | .agg a, .agg b, h =>
      simp only [eqV, nbeq, lenL_eq] at h
      by_cases h1 : a.length = kl.length
      · by_cases h2 : b.length = kl.length
        · simp [h1, h2] at h
          obtain ⟨e1, h3⟩ := eqCells_same (θ := θ) hnb h
          refine ⟨by rw [e1], ?_⟩
          show Instr.sameBits (9999 + 1) (conc θ (.agg a)) (conc θ (.agg a)) = true
          simp only [conc, Instr.sameBits, Bool.and_eq_true, List.all_eq_true]
          refine ⟨by simp, ?_⟩
          simpa using fun p q hpq => h3 9999 (p, q) hpq
        · simp [h1, h2] at h
      · simp [h1] at h

theorem map_modify (es : List MEnt) (j : Nat) (f : MEnt → MEnt) (g : MapEntry → MapEntry) (h : ∀ e, es[j]? = some e → concE θ (f e) = g (concE θ e)) :
    (es.modify j f).map (concE θ) = (es.map (concE θ)).modify j g := by
  apply List.ext_getElem?
  intro i
  simp only [List.getElem?_map, List.getElem?_modify]
  by_cases e : j = i
  · subst e
    cases he : es[j]? with
    | none => simp
    | some x => simp [h x he]
  · cases es[i]? <;> simp [e]

/-- a map is another one -/
theorem run_setMap (hp : HRel P CR θ s w) {id clock clock' : Nat} {es es' : List MEnt} (h : s.get id = some (.map es clock)) (hw : wfE θ es') {arr : Array MapEntry} (ha : arr = (es'.map (concE θ)).toArray) :
    ∃ w', (setObj (θ.blk id) (.map arr clock')).run P w = .ok () w' ∧ HRel P CR θ (s.put id (.map es' clock')) w' ∧ FRel θ s w θ (s.put id (.map es' clock')) w' := by
  obtain ⟨hb, _⟩ := map_block hp h
  have hlt : θ.blk id < w.heap.size := (Array.getElem?_eq_some_iff.1 hb).1
  refine ⟨{ w with heap := w.heap.setIfInBounds (θ.blk id) (.map arr clock') }, by simp [setObj, Sem.run, hb], ?_⟩
  refine hp.change h (by simp) rfl rfl rfl (by simp) (fun b hne => ?_) ⟨?_, hw⟩
  · simp [Array.getElem?_setIfInBounds, Ne.symm hne]
  · simp [Array.getElem?_setIfInBounds, hlt, ha]

theorem wfE_upd {ks : KS} {k v : AV} {c : Nat} : ∀ {es : List MEnt}, wfE θ es → wf θ k → wf θ v → wfE θ (updE ks k v c es)
  | [], _, hk, hv => by intro e he; simp [updE] at he; subst he; exact ⟨hk, hv⟩
  | e :: es, h, hk, hv => by
    simp only [updE]
    have h1 := h e (by simp)
    have h2 : wfE θ es := fun x hx => h x (by simp [hx])
    split
    · intro x hx
      simp at hx
      rcases hx with rfl | hx
      · exact ⟨hk, hv⟩
      · exact h2 x hx
    · intro x hx
      simp at hx
      rcases hx with rfl | hx
      · exact h1
      · exact wfE_upd h2 hk hv x hx
theorem wfE_del {ks : KS} {k : AV} : ∀ {es : List MEnt}, wfE θ es → wfE θ (delE ks k es)
  | [], _ => by intro e he; simp [delE] at he
  | e :: es, h => by
    simp only [delE]
    have h1 := h e (by simp)
    have h2 : wfE θ es := fun x hx => h x (by simp [hx])
    split
    · exact h2
    · intro x hx
      simp at hx
      rcases hx with rfl | hx
      · exact h1
      · exact wfE_del h2 x hx

theorem keyM_u {t kt et : TypeId} (h : keyM P t = some (kt, et)) : P.underlying t = some (.map kt et) := by
  unfold keyM at h
  cases hu : P.underlying t with
  | none => simp [hu] at h
  | some d => cases d <;> simp [hu] at h; obtain ⟨rfl, rfl⟩ := h; rfl

theorem snd_mapUpdate (t : TypeId) (m kk x : Operand) (ho : o.op = .mapUpdate t m kk x ∨ o.op = .insert t m kk x) (htr : trOp P o = some (k, xs)) (hx : xs.map ρ = concL θ l) (hw : wfL θ l) (hp : HRel P CR θ s w)
    (hr : aeff s k l = some (.val v s')) : Does P CR θ s w ((execOp ρ o).run P w) v s' := by
  have hex : execOp ρ o = (do Instr.mapUpdate t (ρ m) (ρ kk) (ρ x); pure .skip) := by
    rcases ho with ho | ho <;> simp [execOp, ho]
  obtain ⟨kt, et, ks, hm, hks, rfl, rfl⟩ : ∃ kt et ks, keyM P t = some (kt, et) ∧ ksT P kt = some ks ∧ k = .mapUpdate ks ∧ xs = [m, kk, x] := by
    rcases ho with ho | ho
    all_goals
      simp only [trOp, ho] at htr
      cases hm : keyM P t with
      | none => simp [hm] at htr
      | some ke =>
        cases hks : ksT P ke.1 with
        | none => simp [hm, hks] at htr
        | some ks =>
          simp [hm, hks] at htr
          exact ⟨ke.1, ke.2, ks, rfl, hks, htr.1.symm, htr.2.symm⟩
  have hu := keyM_u hm
  obtain ⟨x1, x2, x3, rfl, e1, e2, e3⟩ := map3 hx
  simp only [wfL] at hw
  simp only [aeff] at hr
  cases hko : keyOk ks x2 with
  | false => simp [hko] at hr
  | true =>
    simp only [hko, cond_true] at hr
    cases x1 <;> simp at hr
    rename_i id
    cases hg : s.get id with
    | none => simp [hg] at hr
    | some ob =>
      cases ob <;> simp [hg] at hr
      rename_i es c
      cases hf : findE ks x2 es with
      | none => simp [hf] at hr
      | some r =>
        simp [hf] at hr
        obtain ⟨rfl, rfl⟩ := hr
        obtain ⟨hb, hwe⟩ := map_block hp hg
        have hwe' := wfE_upd (ks := ks) (c := c) hwe hw.2.1 hw.2.2.1
        have hfk := run_findKey (w := w) (θ := θ) hks hf
        have hck := run_checkKey (w := w) (θ := θ) hks hko false
        cases r with
        | none =>
          obtain ⟨q1, q2, q3, q4⟩ := find_none hf
          obtain ⟨w', r1, r2⟩ := run_setMap (clock' := c + 1) (arr := ((es.map (concE θ)).toArray.push { key := conc θ x2, val := conc θ x3, born := c })) hp hg hwe' (by rw [q2]; simp [concE])
          refine ⟨θ, w', .inr ⟨?_, rfl⟩, r2.1, r2.2, by simp [AV.undef, wf, wfL]⟩
          try simp at r1
          simp [hex, Instr.mapUpdate, run_underlying hu, e1, e2, e3, conc, run_getMap hp hg, hck, hfk, q1, foundOf, r1]
        | some u =>
          obtain ⟨j, e, q1, q2, q3, q4, q5, q6, q7⟩ := find_some hf
          obtain ⟨hke, hsb⟩ := eqV_same (θ := θ) hks q3
          obtain ⟨w', r1, r2⟩ := run_setMap (clock' := c) (arr := ((es.map (concE θ)).toArray.modify j fun e => { e with key := conc θ x2, val := conc θ x3 })) hp hg hwe' (by
            rw [q5]
            apply Array.ext'
            rw [map_modify es j _ (fun e => { e with key := conc θ x2, val := conc θ x3 }) (fun e he => by simp [concE])]
            simp)
          refine ⟨θ, w', .inr ⟨?_, rfl⟩, r2.1, r2.2, by simp [AV.undef, wf, wfL]⟩
          try simp at r1
          have hkey : (concE θ e).key = conc θ x2 := by simp [concE, hke]
          simp [hex, Instr.mapUpdate, run_underlying hu, e1, e2, e3, conc, run_getMap hp hg, hck, hfk, q1, foundOf, q2, hkey, Instr.keyThatStays, hsb, r1]

theorem snd_mapEntry (t : TypeId) (m kk : Operand) (ho : o.op = .mapEntry t m kk) (htr : trOp P o = some (k, xs)) (hx : xs.map ρ = concL θ l) (hw : wfL θ l) (hp : HRel P CR θ s w)
    (hr : aeff s k l = some (.val v s')) : Does P CR θ s w ((execOp ρ o).run P w) v s' := by
  obtain ⟨kt, et, ks, z, hm, hks, hz, rfl, rfl⟩ : ∃ kt et ks z, keyM P t = some (kt, et) ∧ ksT P kt = some ks ∧ zeroT P et = some z ∧ k = .mapEntry ks z ∧ xs = [m, kk] := by
    simp only [trOp, ho] at htr
    cases hm : keyM P t with
    | none => simp [hm] at htr
    | some ke =>
      cases hks : ksT P ke.1 with
      | none => simp [hm, hks] at htr
      | some ks =>
        cases hz : zeroT P ke.2 with
        | none => simp [hm, hks, hz] at htr
        | some z =>
          simp [hm, hks, hz] at htr
          exact ⟨ke.1, ke.2, ks, z, rfl, hks, hz, htr.1.symm, htr.2.symm⟩
  have hu := keyM_u hm
  obtain ⟨x1, x2, rfl, e1, e2⟩ := map2 hx
  have hwk := (wf2 hw).2
  obtain ⟨hzr, hzw⟩ := zeroT_run (θ := θ) hz w
  simp only [aeff] at hr
  cases hko : keyOk ks x2 with
  | false => simp [hko] at hr
  | true =>
    simp only [hko, cond_true] at hr
    cases x1 <;> simp at hr
    rename_i id
    cases hg : s.get id with
    | none => simp [hg] at hr
    | some ob =>
      cases ob <;> simp [hg] at hr
      rename_i es c
      obtain ⟨hb, hwe⟩ := map_block hp hg
      have hck := run_checkKey (w := w) (θ := θ) hks hko false
      cases hf : findE ks x2 es with
      | none => simp [hf] at hr
      | some r =>
        have hfk := run_findKey (w := w) (θ := θ) hks hf
        cases r with
        | none =>
          simp [hf] at hr
          obtain ⟨rfl, rfl⟩ := hr
          obtain ⟨q1, q2, q3, q4⟩ := find_none hf
          have hwe' := wfE_upd (ks := ks) (c := c) hwe hwk hzw
          obtain ⟨w', r1, r2⟩ := run_setMap (clock' := c + 1) (arr := ((es.map (concE θ)).toArray.push { key := conc θ x2, val := conc θ z, born := c })) hp hg hwe' (by rw [q2]; simp [concE])
          refine ⟨θ, w', .inl ?_, r2.1, r2.2, by simp [wf, wfL, hzw]⟩
          try simp at r1
          simp [execOp, ho, Instr.mapEntry, run_underlying hu, e1, e2, conc, concL, run_getMap hp hg, hck, hfk, q1, foundOf, hzr, r1, goInt]
        | some u =>
          simp [hf] at hr
          obtain ⟨rfl, rfl⟩ := hr
          obtain ⟨j, e, q1, q2, q3, q4, q5, q6, q7⟩ := find_some hf
          obtain ⟨hke, hsb⟩ := eqV_same (θ := θ) hks q3
          have hwu := findE_wf hwe hf
          have hwe' := wfE_upd (ks := ks) (c := c) hwe hwk hwu
          obtain ⟨w', r1, r2⟩ := run_setMap (clock' := c) (arr := ((es.map (concE θ)).toArray.modify j fun e => { e with key := conc θ x2 })) hp hg hwe' (by
            rw [q5]
            apply Array.ext'
            rw [map_modify es j _ (fun e => { e with key := conc θ x2 }) (fun e' he' => by
              rw [q2] at he'
              simp at he'
              subst he'
              simp [concE, q4])]
            simp)
          refine ⟨θ, w', .inl ?_, r2.1, r2.2, by simp [wf, wfL, hwu]⟩
          have hkey : (concE θ e).key = conc θ x2 := by simp [concE, hke]
          have hborn : (concE θ e).born = e.born := rfl
          try simp at r1
          simp [execOp, ho, Instr.mapEntry, run_underlying hu, e1, e2, conc, concL, run_getMap hp hg, hck, hfk, q1, foundOf, q2, hkey, hborn, Instr.keyThatStays, hsb, r1, goInt, q6]

theorem setBorn_spec {θ : Th} {b : Nat} {v : AV} : ∀ {es es' : List MEnt}, setBorn b v es = some es' → ∃ j, (es.map (concE θ)).findIdx? (fun e => (e.born : Int) == (b : Int)) = some j ∧ es' = es.modify j (fun e => ⟨e.key, v, e.born⟩)
  | [], _, h => by simp [setBorn] at h
  | e :: es, es', h => by
    simp only [setBorn, nbeq] at h
    by_cases hb : e.born = b
    · simp [hb] at h
      subst h
      refine ⟨0, ?_, by simp [hb]⟩
      simp [List.findIdx?_cons, concE, hb]
    · simp [hb] at h
      cases hs : setBorn b v es with
      | none => simp [hs] at h
      | some l =>
        simp [hs] at h
        subst h
        obtain ⟨j, h1, h2⟩ := setBorn_spec (θ := θ) hs
        refine ⟨j + 1, ?_, by simp [h2]⟩
        have hne : ¬ ((e.born : Int) = (b : Int)) := by omega
        simp [List.findIdx?_cons, concE, hne]
        simp at h1
        exact h1
theorem wfE_modify {es : List MEnt} {j : Nat} {f : MEnt → MEnt} (h : wfE θ es) (hf : ∀ e, wf θ e.key ∧ wf θ e.val → wf θ (f e).key ∧ wf θ (f e).val) : wfE θ (es.modify j f) := by
  intro x hx
  obtain ⟨i, hi⟩ := List.mem_iff_getElem?.1 hx
  rw [List.getElem?_modify] at hi
  cases he : es[i]? with
  | none => simp [he] at hi
  | some e =>
    have := h e (List.mem_of_getElem? he)
    simp [he] at hi
    subst hi
    split
    · exact hf e this
    · exact this

theorem snd_entryStore (t : TypeId) (m st x : Operand) (ho : o.op = .entryStore t m st x) (hx : [m, st, x].map ρ = concL θ l) (hw : wfL θ l) (hp : HRel P CR θ s w)
    (hr : aeff s .entryStore l = some (.val v s')) : Does P CR θ s w ((execOp ρ o).run P w) v s' := by
  obtain ⟨x1, x2, x3, rfl, e1, e2, e3⟩ := map3 hx
  simp only [wfL] at hw
  simp only [aeff] at hr
  cases x1 <;> try (simp at hr; done)
  rename_i id
  cases hi : idx x2 with
  | none => simp [hi] at hr
  | some b =>
    obtain ⟨kd, rfl⟩ := idx_int hi
    simp only [hi] at hr
    cases hg : s.get id with
    | none => simp [hg] at hr
    | some ob =>
      cases ob <;> simp [hg] at hr
      rename_i es c
      cases hs : setBorn b x3 es with
      | none => simp [hs] at hr
      | some es' =>
        simp [hs] at hr
        obtain ⟨rfl, rfl⟩ := hr
        obtain ⟨hb, hwe⟩ := map_block hp hg
        obtain ⟨j, h1, h2⟩ := setBorn_spec (θ := θ) hs
        have hwe' : wfE θ es' := by
          rw [h2]; exact wfE_modify hwe fun e he => ⟨he.1, hw.2.2.1⟩
        obtain ⟨w', r1, r2⟩ := run_setMap (clock' := c) (arr := ((es.map (concE θ)).toArray.modify j fun e => { e with val := conc θ x3 })) hp hg hwe' (by
          rw [h2]
          apply Array.ext'
          rw [map_modify es j _ (fun e => { e with val := conc θ x3 }) (fun e' he' => by simp [concE])]
          simp)
        refine ⟨θ, w', .inr ⟨?_, rfl⟩, r2.1, r2.2, by simp [AV.undef, wf, wfL]⟩
        try simp at h1
        try simp at r1
        simp [execOp, ho, Instr.entryStore, e1, e2, e3, conc, run_getMap hp hg, asInt, asIntOf, h1, r1]

theorem wf_undef : wf θ AV.undef := by simp [AV.undef, wf, wfL]
theorem conc_undef : conc θ AV.undef = .tuple #[] := by simp [AV.undef, conc, concL]
theorem eraseIdx_map' {α β : Type} (f : α → β) : ∀ (l : List α) (j : Nat), (l.map f).eraseIdx j = (l.eraseIdx j).map f
  | [], j => by simp
  | a :: l, 0 => by simp
  | a :: l, j + 1 => by simp [eraseIdx_map' f l j]
theorem erase_map (es : List MEnt) (j : Nat) : ((es.map (concE θ)).toArray.eraseIdxIfInBounds j) = ((es.eraseIdx j).map (concE θ)).toArray := by
  apply Array.ext'
  simp [eraseIdx_map']

theorem snd_delete (c : Call) (t : TypeId) (m kk : Operand) (ks : KS) (ho : o.op = .call c) (hb : c.callee = .builtin .delete) (hat : ∃ r, c.argTypes.toList = t :: r) (hargs : c.args.toList = [m, kk])
    {kt et : TypeId} (hm : keyM P t = some (kt, et)) (hks : ksT P kt = some ks) (hx : [m, kk].map ρ = concL θ l) (hw : wfL θ l) (hp : HRel P CR θ s w)
    (hr : aeff s (.delete ks) l = some (.val v s')) : Does P CR θ s w ((execOp ρ o).run P w) v s' := by
  have hu := keyM_u hm
  obtain ⟨x1, x2, rfl, e1, e2⟩ := map2 hx
  have hat0 : c.argTypes[0]? = some t := by
    obtain ⟨r, hat⟩ := hat
    rw [← Array.getElem?_toList, hat]; rfl
  have harr : c.args.map ρ = #[conc θ x1, conc θ x2] := by
    rw [arrayMap hargs]; simp [e1, e2]
  rw [run_call_builtin c .delete ho hb, harr]
  simp only [aeff] at hr
  cases hko : keyOk ks x2 with
  | false => simp [hko] at hr
  | true =>
    simp only [hko, cond_true] at hr
    have hck := fun e => run_checkKey (w := w) (θ := θ) hks hko e
    cases x1 <;> simp at hr
    · rename_i id
      cases hg : s.get id with
      | none => simp [hg] at hr
      | some ob =>
        cases ob <;> simp [hg] at hr
        rename_i es cl
        obtain ⟨hbb, hwe⟩ := map_block hp hg
        cases hf : findE ks x2 es with
        | none => simp [hf] at hr
        | some r =>
          simp [hf] at hr
          obtain ⟨rfl, rfl⟩ := hr
          have hfk := run_findKey (w := w) (θ := θ) hks hf
          cases r with
          | none =>
            obtain ⟨q1, q2, q3, q4⟩ := find_none hf
            obtain ⟨w', r1, r2⟩ := run_setMap (clock' := cl) (arr := (es.map (concE θ)).toArray) hp hg (wfE_del (ks := ks) (k := x2) hwe) (by rw [q4])
            refine ⟨θ, w', .inl ?_, r2.1, r2.2, wf_undef⟩
            try simp at r1
            simp [builtin, Builtin.delete_, hat0, run_underlying hu, conc, run_getMap hp hg, hck, hfk, q1, foundOf, r1, conc_undef]
          | some u =>
            obtain ⟨j, e, q1, q2, q3, q4, q5, q6, q7⟩ := find_some hf
            obtain ⟨w', r1, r2⟩ := run_setMap (clock' := cl) (arr := (es.map (concE θ)).toArray.eraseIdxIfInBounds j) hp hg (wfE_del (ks := ks) (k := x2) hwe) (by rw [erase_map, q7])
            refine ⟨θ, w', .inl ?_, r2.1, r2.2, wf_undef⟩
            try simp at r1
            simp [builtin, Builtin.delete_, hat0, run_underlying hu, conc, run_getMap hp hg, hck, hfk, q1, foundOf, r1, conc_undef]
    · obtain ⟨rfl, rfl⟩ := hr
      refine ⟨θ, w, .inl ?_, hp, FRel.refl _ _ _, wf_undef⟩
      simp [builtin, Builtin.delete_, hat0, run_underlying hu, conc, hck, conc_undef]

/-! ### a string, rune by rune -/
theorem byteAt_run (s : ByteArray) (i k : Nat) : (s.get! (i + k)).toNat = byteAt (s.data.toList.drop i) k := by
  unfold byteAt
  rw [nth_eq, List.getElem?_drop]
  cases h : s.data.toList[i + k]? with
  | none =>
    have : s.data[i + k]? = none := by rw [← Array.getElem?_toList, h]
    simp [ByteArray.get!, getElem!_def, this]
    rfl
  | some b =>
    have : s.data[i + k]? = some b := by rw [← Array.getElem?_toList, h]
    simp [ByteArray.get!, getElem!_def, this]
theorem cont_run (s : ByteArray) (i k : Nat) : (decide (i + k < s.size) && (s.get! (i + k)).toNat / 64 == 2) = contA (s.data.toList.drop i) k := by
  unfold contA
  rw [nth_eq, List.getElem?_drop]
  cases h : s.data.toList[i + k]? with
  | none =>
    have : ¬ (i + k < s.size) := by
      have := List.getElem?_eq_none_iff.1 h
      have e : s.size = s.data.size := rfl
      simp at this
      omega
    simp [this]
  | some b =>
    have h1 : i + k < s.size := by
      have := (List.getElem?_eq_some_iff.1 h).1
      have e : s.size = s.data.size := rfl
      simp at this
      omega
    have h2 : s.data[i + k]? = some b := by rw [← Array.getElem?_toList, h]
    have h3 : s.get! (i + k) = b := by simp [ByteArray.get!, getElem!_def, h2]
    rw [h3]
    simp only [h1, decide_true, Bool.true_and, nbeq]
    rw [Bool.eq_iff_iff]; simp
theorem validR_run (c : Nat) : Utf8.valid (c : Int) = validR c := by
  unfold Utf8.valid validR
  rw [nble, nble, nble, Bool.eq_iff_iff]
  simp
  omega
theorem decode_run (s : ByteArray) (i : Nat) : Utf8.decode s i = decodeA (s.data.toList.drop i) := by
  unfold Utf8.decode decodeA
  simp only [cont_run]
  simp only [byteAt_run, validR_run, Utf8.runeError, ge_iff_le]
  have c1 : ∀ a b : Nat, (decide (a < b)) = Nat.ble (a + 1) b := fun a b => by rw [nble, Bool.eq_iff_iff]; simp; omega
  have c2 : ∀ a b : Nat, (decide (a ≤ b)) = Nat.ble a b := fun a b => by rw [nble]
  have c3 : ∀ a b : Nat, (a == b) = Nat.beq a b := fun a b => by rw [nbeq, Bool.eq_iff_iff]; simp
  have e1 : ∀ {α : Type} (a b : Nat) (x y : α), (if a < b then x else y) = cond (Nat.ble (a + 1) b) x y := fun a b x y => by rw [← c1]; by_cases h : a < b <;> simp [h]
  have e2 : ∀ {α : Type} (a b : Nat) (x y : α), (if a ≤ b then x else y) = cond (Nat.ble a b) x y := fun a b x y => by rw [← c2]; by_cases h : a ≤ b <;> simp [h]
  have e3 : ∀ {α : Type} (c : Bool) (x y : α), (if c = true then x else y) = cond c x y := fun c x y => by cases c <;> rfl
  simp only [e1, e2, e3, c2, c3, Bool.and_assoc]

theorem snd_next (x : Operand) (ho : o.op = .next x true) (hx : [x].map ρ = concL θ l) (hw : wfL θ l) (hp : HRel P CR θ s w)
    (hr : aeff s .next l = some (.val v s')) : Does P CR θ s w ((execOp ρ o).run P w) v s' := by
  obtain ⟨a, rfl, e1⟩ := map1 hx
  simp only [aeff] at hr
  cases a <;> simp at hr
  rename_i id off
  cases off <;> simp at hr
  cases hg : s.get id with
  | none => simp [hg] at hr
  | some ob =>
    cases ob <;> simp [hg] at hr
    rename_i bs pos
    obtain ⟨ho0, full, hb, hd⟩ := hp.obj id _ hg
    have hlt : θ.blk id < w.heap.size := (Array.getElem?_eq_some_iff.1 hb).1
    have hget : (getObj (θ.blk id)).run P w = .ok (.stringIter full pos) w := by simp [getObj, Sem.run, hb]
    cases bs with
    | nil =>
      simp at hr
      obtain ⟨rfl, rfl⟩ := hr
      have hpos : ¬ (pos < full.size) := by
        have := congrArg List.length hd
        have e : full.size = full.data.size := rfl
        simp at this
        omega
      refine ⟨θ, w, .inl ?_, hp, FRel.refl _ _ _, by simp [wf, wfL]⟩
      simp [execOp, ho, e1, conc, concL, Instr.next, ho0, hget, hpos]
    | cons c bs =>
      simp at hr
      obtain ⟨rfl, rfl⟩ := hr
      have hpos : pos < full.size := by
        have := congrArg List.length hd
        have e : full.size = full.data.size := rfl
        simp at this
        omega
      have hdec : Utf8.decode full pos = decodeA (c :: bs) := by rw [decode_run, hd]
      have hset : (setObj (θ.blk id) (.stringIter full (pos + (decodeA (c :: bs)).2))).run P w = .ok () { w with heap := w.heap.setIfInBounds (θ.blk id) (.stringIter full (pos + (decodeA (c :: bs)).2)) } := by
        simp [setObj, Sem.run, hb]
      have hch := hp.change (o := .siter (dropL (c :: bs) (decodeA (c :: bs)).2) (pos + (decodeA (c :: bs)).2)) (w' := { w with heap := w.heap.setIfInBounds (θ.blk id) (.stringIter full (pos + (decodeA (c :: bs)).2)) })
        hg (by simp) rfl rfl rfl (by simp) (fun b hne => by simp [Array.getElem?_setIfInBounds, Ne.symm hne])
        ⟨ho0, full, by simp [Array.getElem?_setIfInBounds, hlt], by rw [← List.drop_drop, hd, dropL_eq]⟩
      refine ⟨θ, _, .inl ?_, hch.1, hch.2, by simp [wf, wfL]⟩
      simp [execOp, ho, e1, conc, concL, Instr.next, ho0, hget, hpos, hdec, hset, goInt]
end
end Go.Ab
/-! append, copy, a string over bytes. -/
namespace Go.Ab
variable {P : Program} {CR : Code → AC → Prop} {θ θ' : Th} {s s' : St} {w w' : World}
section
variable {o : Oper} {ρ : Operand → Value} {k : OpK} {xs : List Operand} {l : List AV} {v : AV}

theorem HRel.world (h : HRel P CR θ s w) (e : w'.heap = w.heap) : HRel P CR θ s w' := by
  refine ⟨h.dom, fun id o ho => ?_, h.lt, h.apart⟩
  exact (h.obj id o ho).keep (h.dom id o ho) (.refl θ) (by rw [e])
theorem FRel.world (h : FRel θ s w θ' s' w') {w0 : World} (e : w.heap = w0.heap) (e1 : w.tape = w0.tape) (e2 : w.os = w0.os) (e3 : w.output = w0.output) : FRel θ s w0 θ' s' w' :=
  ⟨h.le, h.next, h.fresh, h.tape.trans e1, h.os.trans e2, h.output.trans e3, by rw [← e]; exact h.size, by rw [← e]; exact h.frame, by rw [← e]; exact h.wher, by rw [← e]; exact h.ro, h.dfr, h.new⟩
theorem FRel.of_forget {id : Nat} {o0 : AObj} (h0 : s.get id = some o0) (hro : ∀ cs, o0 ≠ .ro cs) (h : FRel θ (s.drop id) w θ' s' w') : FRel θ s w θ' s' w' := by
  have key : ∀ k o1, (s.drop id).get k = some o1 → s.get k = some o1 := by
    intro k o1 hk
    rw [St.get_drop] at hk
    by_cases e : k = id
    · simp [e] at hk
    · simpa [e] using hk
  refine ⟨h.le, h.next, ?_, h.tape, h.os, h.output, h.size, ?_, ?_, ?_, h.dfr, h.new⟩
  · intro i o hi
    rcases h.fresh i o hi with ⟨o1, h1⟩ | h1
    · exact .inl ⟨o1, key _ _ h1⟩
    · exact .inr h1
  · intro b hb hne
    exact h.frame b hb fun i o hi => hne i o (key _ _ hi)
  · intro i o hi
    rcases h.wher i o hi with h1 | ⟨i0, o1, h1, h2⟩
    · exact .inl h1
    · exact .inr ⟨i0, o1, key _ _ h1, h2⟩
  · intro i cs hi
    have hne : i ≠ id := by rintro rfl; rw [h0] at hi; exact hro cs (Option.some.inj hi)
    exact h.ro i cs (by rw [St.get_drop, if_neg hne]; exact hi)

/-! ### what is appended or copied -/
theorem ofBytes_conc (bs : List UInt8) : concL θ (ofBytes bs) = bs.map fun b => Value.int .u8 b.toNat := by
  induction bs with
  | nil => rfl
  | cons b bs ih => simp [ofBytes, concL, conc, ih]
theorem ofBytes_length (bs : List UInt8) : (ofBytes bs).length = bs.length := by induction bs <;> simp [ofBytes, *]
theorem ofBytes_wf (bs : List UInt8) : wfL θ (ofBytes bs) := by induction bs <;> simp [ofBytes, wfL, wf, *]

theorem run_src (hp : HRel P CR θ s w) {x : AV} {m esz : Nat} {cs : List AV} (hm : lenA x = some m) (hs : srcCells s esz x = some cs) :
    (Builtin.lenOf (conc θ x)).run P w = .ok m w ∧ cs.length = m * esz ∧ wfL θ cs ∧
      ∀ n, n ≤ m → (Builtin.firstCells esz n (conc θ x)).run P w = .ok (concL θ (cs.take (n * esz))).toArray w := by
  cases x <;> simp only [lenA, srcCells] at hm hs <;> first | (cases hm; done) | skip
  · rename_i bs
    simp [lenL_eq] at hm
    subst hm
    simp only [nbeq] at hs
    by_cases h1 : esz = 1
    · subst h1
      simp at hs
      subst hs
      refine ⟨?_, by simp [ofBytes_length], ofBytes_wf bs, fun n hn => ?_⟩
      · simp [conc, Builtin.lenOf]; rfl
      · simp [conc, Builtin.firstCells, concL_take, ofBytes_conc]
    · simp [h1] at hs
  · simp at hm
    subst hm
    obtain ⟨h1, h2, h3⟩ := readCells_cells hp hs
    refine ⟨by simp [conc, Builtin.lenOf], h1, h3, fun n hn => ?_⟩
    have hle : n * esz ≤ cs.length := by rw [h1]; exact Nat.mul_le_mul_right _ hn
    have := run_loadCells_list (P := P) w ⟨θ.blk _, θ.off _ + _, none⟩ (concL θ (cs.take (n * esz))) (fun j u hu => h2 j u (by
      rw [concL_take, List.getElem?_take] at hu
      split at hu
      · exact hu
      · cases hu))
    rw [concL_length, List.length_take, Nat.min_eq_left hle] at this
    simp [conc, Builtin.firstCells, this]
  · simp at hm
    subst hm
    obtain ⟨h1, h2, h3⟩ := readCells_cells hp hs
    refine ⟨by simp [conc, Builtin.lenOf], h1, h3, fun n hn => ?_⟩
    have hle : n * esz ≤ cs.length := by rw [h1]; exact Nat.mul_le_mul_right _ hn
    have := run_loadCells_list (P := P) w ⟨θ.blk _, θ.off _ + _, none⟩ (concL θ (cs.take (n * esz))) (fun j u hu => h2 j u (by
      rw [concL_take, List.getElem?_take] at hu
      split at hu
      · exact hu
      · cases hu))
    rw [concL_length, List.length_take, Nat.min_eq_left hle] at this
    simp [conc, Builtin.firstCells, this]
  · simp at hm hs
    subst hm; subst hs
    refine ⟨by simp [conc, Builtin.lenOf], by simp, trivial, fun n hn => ?_⟩
    simp [conc, Builtin.firstCells, concL]

theorem snd_copy (c : Call) (t : TypeId) (d x : Operand) (ho : o.op = .call c) (hb : c.callee = .builtin .copy) (hat : ∃ r, c.argTypes.toList = t :: r) (hargs : c.args.toList = [d, x])
    {e n : Nat} (he : elemS P t = some e) (hn : sizeT P e = some n) (hx : [d, x].map ρ = concL θ l) (hw : wfL θ l) (hp : HRel P CR θ s w)
    (hr : aeff s (.copy n) l = some (.val v s')) : Does P CR θ s w ((execOp ρ o).run P w) v s' := by
  have hu : P.underlying t = some (.slice e) := (elemS_some he).1
  obtain ⟨x1, x2, rfl, e1, e2⟩ := map2 hx
  have hat0 : c.argTypes[0]? = some t := by
    obtain ⟨r, hat⟩ := hat
    rw [← Array.getElem?_toList, hat]; rfl
  have harr : c.args.map ρ = #[conc θ x1, conc θ x2] := by
    rw [arrayMap hargs]; simp [e1, e2]
  rw [run_call_builtin c .copy ho hb, harr]
  simp only [aeff] at hr
  cases h1 : lenA x1 with
  | none => simp [h1] at hr
  | some a =>
    cases h2 : lenA x2 with
    | none => simp [h1, h2] at hr
    | some m =>
      cases h3 : srcCells s n x2 with
      | none => simp [h1, h2, h3] at hr
      | some cs =>
        simp only [h1, h2, h3, nble] at hr
        obtain ⟨r1, r2, r3, r4⟩ := run_src hp h2 h3
        have hmin : (cond (decide (a ≤ m)) a m) = min m a := by
          by_cases h : a ≤ m
          · simp [h]
          · simp [h]; omega
        have hnm : Nat.min m a = min m a := rfl
        rw [hmin] at hr
        have hf := r4 (min m a) (Nat.min_le_left _ _)
        have hgo : ∀ (id off cp : Nat), x1 = .slice id off a cp ∨ x1 = .sliceO id off a cp → writeCells s id off (takeL cs (min m a * n)) = some s' → v = .int .i64 (.ofNat (min m a)) →
            Does P CR θ s w ((builtin .copy c.argTypes o.type (c.args.map fun | .const _ => true | _ => false) #[conc θ x1, conc θ x2]).run P w) v s' := by
          intro id off cp hx1 hwc hv
          rw [takeL_eq] at hwc
          obtain ⟨w', q1, q2, q3⟩ := writeCells_sound hp hwc (wfL_take r3 _)
          refine ⟨θ, w', .inl ?_, q2, q3, by rw [hv]; simp [wf]⟩
          rcases hx1 with rfl | rfl
          · simp [builtin, Builtin.copy_, hat0, run_underlying hu, sizeT_run hn, r1, hf, hv, conc, q1, goInt, hnm]
          · simp [builtin, Builtin.copy_, hat0, run_underlying hu, sizeT_run hn, r1, hf, hv, conc, q1, goInt, hnm]
        cases x1 <;> simp only [lenA] at h1 <;> first | (cases h1; done) | skip
        · simp at hr
        · simp at h1
          subst h1
          simp only at hr
          split at hr
          · rename_i s1 hwc
            simp at hr
            obtain ⟨rfl, rfl⟩ := hr
            exact hgo _ _ _ (.inl rfl) hwc rfl
          · cases hr
        · simp at h1
          subst h1
          simp only at hr
          split at hr
          · rename_i s1 hwc
            simp at hr
            obtain ⟨rfl, rfl⟩ := hr
            exact hgo _ _ _ (.inr rfl) hwc rfl
          · cases hr
        · simp at h1 hr
          subst h1
          obtain ⟨rfl, rfl⟩ := hr
          refine ⟨θ, w, .inl ?_, hp, FRel.refl _ _ _, by simp [wf]⟩
          simp at hf
          simp [builtin, Builtin.copy_, hat0, run_underlying hu, sizeT_run hn, r1, hf, conc, goInt, hnm]

/-! ### append -/
theorem run_append_fit {t u ty e : TypeId} {i : TypeInfo} {du : TypeDesc} (ht : P.underlying t = some (.slice e)) (hu : P.underlying u = some du) (hdu : (∃ e', du = .slice e') ∨ du = .string)
    (hi : P.info? e = some i) {a : Addr} {sLen sCap n : Nat} {xv : Value} {newv : Array Value} (hlen : (Builtin.lenOf xv).run P w = .ok n w)
    (hfirst : (Builtin.firstCells i.size n xv).run P w = .ok newv w) (hfit : sLen + n ≤ sCap) (hst : (storeCells (a.add (sLen * i.size)) newv.toList).run P w = .ok () w') :
    (Builtin.append_ #[t, u] ty #[.slice (some a) sLen sCap, xv]).run P w = .ok (.slice (some a) (sLen + n) sCap) w' := by
  rcases hdu with ⟨e', rfl⟩ | rfl
  · simp [Builtin.append_, run_underlying ht, run_underlying hu, sizeOf, typeInfo, hi, hlen, hfit, hfirst, hst]
  · simp [Builtin.append_, run_underlying ht, run_underlying hu, sizeOf, typeInfo, hi, hlen, hfit, hfirst, hst]
theorem run_append_nofit {t u ty e : TypeId} {i : TypeInfo} {z : Value} {du : TypeDesc} (ht : P.underlying t = some (.slice e)) (hu : P.underlying u = some du) (hdu : (∃ e', du = .slice e') ∨ du = .string)
    (hi : P.info? e = some i) (hz : i.zero = some z) {base : Option Addr} {sLen sCap n : Nat} {xv : Value} {oldv newv : Array Value} (hlen : (Builtin.lenOf xv).run P w = .ok n w)
    (hold : (Builtin.firstCells i.size sLen (.slice base sLen sCap)).run P w.drew = .ok oldv w.drew)
    (hfirst : (Builtin.firstCells i.size n xv).run P w.drew = .ok newv w.drew) (hfit : sCap < sLen + n) (hb : (sLen + n) * (i.bytes + 1) ≤ 1000000000) :
    (Builtin.append_ #[t, u] ty #[.slice base sLen sCap, xv]).run P w = .ok (.slice (some ⟨w.heap.size, 0, none⟩) (sLen + n) (grownCap w (sLen + n) sCap e))
      (w.drew.alloc (.cells (oldv ++ newv ++ Builtin.zeroCells z.cells (grownCap w (sLen + n) sCap e - (sLen + n))) e)) := by
  have hn : ¬ (sLen + n ≤ sCap) := by omega
  have hb' : (sLen + n) * i.bytes + (sLen + n) ≤ 1000000000 := by rw [Nat.mul_add] at hb; omega
  have h63' : ¬ (9223372036854775807 < ((sLen : Int) + (n : Int))) := by
    generalize (sLen + n) * i.bytes = q at hb'
    omega
  have h48' : ¬ (281474976710656 < Builtin.nextslicecap (sLen + n) sCap * i.bytes) := by
    have := growslice_fits (need := sLen + n) (old := sCap) (bytes := i.bytes) hfit (by omega)
    omega
  rcases hdu with ⟨e', rfl⟩ | rfl
  · simp [Builtin.append_, run_underlying ht, run_underlying hu, sizeOf, typeInfo, zeroValue, hi, hz, hlen, hn, h63', h48', Question.forced, hold, hfirst, newRow, grownCap]
  · simp [Builtin.append_, run_underlying ht, run_underlying hu, sizeOf, typeInfo, zeroValue, hi, hz, hlen, hn, h63', h48', Question.forced, hold, hfirst, newRow, grownCap]
end
end Go.Ab
namespace Go.Ab
variable {P : Program} {CR : Code → AC → Prop} {θ θ' : Th} {s s' : St} {w w' : World}
section
variable {o : Oper} {ρ : Operand → Value} {k : OpK} {xs : List Operand} {l : List AV} {v : AV}

theorem conc_sliceO_new (θ : Th) (id b off c n : Nat) (h : n ≤ c) : conc (θ.add id b off c) (.sliceO id 0 n 0) = .slice (some ⟨b, off, none⟩) n c ∧ wf (θ.add id b off c) (.sliceO id 0 n 0) := by
  simp [conc, Th.add, wf, h]

/-- a row that has grown -/
theorem grown_sound (hp : HRel P CR θ s w) {e : TypeId} {i : TypeInfo} {z : Value} (hi : P.info? e = some i) (hz : z.cells.size = i.size) {cs : List AV} (hw : wfL θ cs) {need cap f : Nat}
    (hlen : cs.length = need * i.size) (hge : need ≤ cap) {arr : Array Value} (harr : arr = (concL θ cs).toArray ++ Builtin.zeroCells z.cells (cap - need)) :
    ∃ θ', HRel P CR θ' (s.new (.cells e cs f)) (w.drew.alloc (.cells arr e)) ∧ FRel θ s w θ' (s.new (.cells e cs f)) (w.drew.alloc (.cells arr e)) ∧
      conc θ' (.sliceO s.next 0 need 0) = .slice (some ⟨w.heap.size, 0, none⟩) need cap ∧ wf θ' (.sliceO s.next 0 need 0) := by
  have hid : ¬ θ.dom s.next := fun hd => Nat.lt_irrefl _ (hp.lt _ hd)
  have hsz : arr.size = cap * i.size := by
    rw [harr]
    simp [Builtin.zeroCells, concL_length, hlen, hz]
    rw [← Nat.add_mul]
    congr 1
    omega
  have := hp.mkNew (Made.drewAlloc w (.cells arr e)) cap (.cells e cs f) (fun w1 h1 => orel_fresh (rest := (Builtin.zeroCells z.cells (cap - need)).toList) hw hid (by rw [harr]; simp) (fun inf hinf => by
    rw [hi] at hinf
    simp at hinf
    subst hinf
    exact ⟨by rw [hlen]; exact Nat.mul_le_mul_right _ hge, by rw [hsz]; exact Nat.le_refl _⟩) w1 h1)
  refine ⟨_, this.1, this.2, ?_⟩
  exact conc_sliceO_new θ s.next w.heap.size 0 cap need hge

theorem snd_append (c : Call) (t u : TypeId) (d x : Operand) (ho : o.op = .call c) (hb : c.callee = .builtin .append) (hat : c.argTypes.toList = [t, u]) (hargs : c.args.toList = [d, x])
    {e : TypeId} {i : TypeInfo} {z : Value} {du : TypeDesc} (he : elemS P t = some e) (hi : P.info? e = some i) (hz : i.zero = some z) (hzs : z.cells.size = i.size) (hu : P.underlying u = some du) (hdu : (∃ e', du = .slice e') ∨ du = .string)
    (hx : [d, x].map ρ = concL θ l) (hw : wfL θ l) (hp : HRel P CR θ s w)
    (hr : aeff s (.append e i.size i.bytes) l = some (.val v s')) : Does P CR θ s w ((execOp ρ o).run P w) v s' := by
  have ht : P.underlying t = some (.slice e) := (elemS_some he).1
  obtain ⟨x1, x2, rfl, e1, e2⟩ := map2 hx
  have hw1 := (wf2 hw).1
  have hata : c.argTypes = #[t, u] := by
    apply Array.ext'; simpa using hat
  have harr : c.args.map ρ = #[conc θ x1, conc θ x2] := by
    rw [arrayMap hargs]; simp [e1, e2]
  rw [run_call_builtin c .append ho hb, harr, hata]
  simp only [aeff] at hr
  cases h2 : lenA x2 with
  | none => simp [h2] at hr
  | some n =>
    cases h3 : srcCells s i.size x2 with
    | none => simp [h2, h3] at hr
    | some new =>
      simp only [h2, h3] at hr
      have hpd : HRel P CR θ s w.drew := hp.world rfl
      obtain ⟨r1, r2, r3, r4⟩ := run_src hp h2 h3
      obtain ⟨_, _, _, r4d⟩ := run_src hpd h2 h3
      have hf := r4 n (Nat.le_refl n)
      have hfd := r4d n (Nat.le_refl n)
      have htake : new.take (n * i.size) = new := by rw [← r2]; exact List.take_length
      rw [htake] at hf hfd
      have hbi : ∀ q, (builtin .append #[t, u] o.type q #[conc θ x1, conc θ x2]).run P w = ((Builtin.append_ #[t, u] o.type #[conc θ x1, conc θ x2]).run P w).andThen fun a w' => .ok (.value a) w' := by
        intro q; simp [builtin]
      rw [hbi]
      unfold appendA at hr
      simp only [nbeq, nble, lenL_eq, takeL_eq, dropL_eq, appL_eq] at hr
      by_cases hn0 : n = 0
      · subst hn0
        have hnil : new = [] := by simpa using r2
        subst hnil
        simp at hr
        simp [concL] at hf
        cases x1 <;> simp at hr
        · obtain ⟨rfl, rfl⟩ := hr
          rename_i id off len cap
          simp only [wf] at hw1
          have := run_append_fit (P := P) (w := w) (w' := w) (ty := o.type) (a := ⟨θ.blk id, θ.off id + off, none⟩) (sLen := len) (sCap := cap) ht hu hdu hi r1 hf (by omega) (by simp [storeCells])
          exact ⟨θ, w, .inl (by simp [conc, this]), hp, FRel.refl _ _ _, by simpa [wf] using hw1⟩
        · obtain ⟨rfl, rfl⟩ := hr
          rename_i id off len k0
          simp only [wf] at hw1
          have := run_append_fit (P := P) (w := w) (w' := w) (ty := o.type) (a := ⟨θ.blk id, θ.off id + off, none⟩) (sLen := len) (sCap := θ.cap id - k0) ht hu hdu hi r1 hf (by omega) (by simp [storeCells])
          exact ⟨θ, w, .inl (by simp [conc, this]), hp, FRel.refl _ _ _, by simpa [wf] using hw1⟩
        · obtain ⟨rfl, rfl⟩ := hr
          refine ⟨θ, w, .inl ?_, hp, FRel.refl _ _ _, by simp [wf]⟩
          rcases hdu with ⟨e', rfl⟩ | rfl
          · simp [conc, Builtin.append_, run_underlying ht, run_underlying hu, sizeOf, typeInfo, hi, r1, hf]
          · simp [conc, Builtin.append_, run_underlying ht, run_underlying hu, sizeOf, typeInfo, hi, r1, hf]
      · by_cases hs0 : i.size = 0
        · simp [hn0, hs0] at hr
        · have hspos : 0 < i.size := by omega
          simp only [hn0, hs0, decide_false, cond_false] at hr
          cases x1 <;> simp at hr
          · -- a slice whose room is known
            rename_i id off len cap
            simp only [wf] at hw1
            by_cases hbig : (len + n) * (i.bytes + 1) ≤ 1000000000
            · by_cases hroom : len + n ≤ cap
              · simp only [hbig, hroom, decide_true, cond_true] at hr
                split at hr
                · rename_i s1 hwc
                  simp at hr
                  obtain ⟨rfl, rfl⟩ := hr
                  obtain ⟨w', q1, q2, q3⟩ := writeCells_sound hp hwc r3
                  have := run_append_fit (P := P) (w := w) (w' := w') (ty := o.type) (a := ⟨θ.blk id, θ.off id + off, none⟩) (sLen := len) (sCap := cap) ht hu hdu hi r1 hf hroom (by
                    rw [addr_add, Nat.add_assoc]; exact q1)
                  exact ⟨θ, w', .inl (by simp [conc, this]), q2, q3, by simp [wf]; exact ⟨hw1.1, hroom⟩⟩
                · cases hr
              · simp only [hbig, hroom, decide_true, decide_false, cond_true, cond_false] at hr
                split at hr
                · rename_i old hrd
                  cases hone : allOne new with
                  | false => simp [hone] at hr
                  | true =>
                    simp [hone] at hr
                    obtain ⟨rfl, rfl⟩ := hr
                    obtain ⟨q1, q2⟩ := run_readCells (P := P) hpd hrd
                    have hol : old.length = len * i.size := (readCells_cells hp hrd).1
                    have hrun := run_append_nofit (P := P) (w := w) (ty := o.type) (base := some ⟨θ.blk id, θ.off id + off, none⟩) (sLen := len) (sCap := cap) ht hu hdu hi hz r1 (by simpa [Builtin.firstCells] using q1) hfd (by omega) hbig
                    obtain ⟨θ', g1, g2, g3, g4⟩ := grown_sound (cs := old ++ new) (need := len + n) hp hi hzs (wfL_append q2 r3) (by simp [hol, r2, Nat.add_mul]) (grownCap_ge w (len + n) cap e) (arr := (concL θ old).toArray ++ (concL θ new).toArray ++ Builtin.zeroCells z.cells (grownCap w (len + n) cap e - (len + n))) (by simp [concL_append])
                    refine ⟨θ', _, .inl ?_, g1, g2, g4⟩
                    rw [g3]
                    simp only [conc, hrun, Result.andThen_ok]
                · cases hr
            · simp [hbig] at hr
          · -- a slice whose room is not known
            rename_i id off len k0
            simp only [wf] at hw1
            by_cases hbig : (len + n) * (i.bytes + 1) ≤ 1000000000
            · by_cases hoff : off = k0 * i.size
              · cases hone : allOne new with
                | false => simp [hone] at hr
                | true =>
                  simp only [hbig, hoff, hone, decide_true, cond_true, Bool.true_and, Bool.and_true] at hr
                  cases hg : s.get id with
                  | none => simp [hg] at hr
                  | some ob =>
                    cases ob <;> simp only [hg] at hr <;> first | (cases hr; done) | skip
                    rename_i eo cs frz
                    by_cases heo : eo = e
                    · subst heo
                      by_cases hfz : frz ≤ k0 * i.size + len * i.size
                      · by_cases hle : k0 * i.size + len * i.size ≤ cs.length
                        · simp only [hfz, hle, decide_true, cond_true, Bool.and_true] at hr
                          obtain ⟨cc, fr, q1, q2, q3, q4, q5, q6⟩ := hp.obj id _ hg
                          have q5' := q5 i hi
                          by_cases hin : k0 * i.size + (len + n) * i.size ≤ cs.length
                          · simp only [hin, decide_true, cond_true] at hr
                            simp at hr
                            obtain ⟨rfl, rfl⟩ := hr
                            have hsl : (setL cs (k0 * i.size + len * i.size) new).length = cs.length := by
                              rw [setL_eq]; simp [r2]; rw [Nat.add_mul] at hin; omega
                            have hcapk : k0 + len + n ≤ θ.cap id := by
                              have : (k0 + len + n) * i.size ≤ θ.cap id * i.size := by
                                rw [Nat.add_mul] at hin
                                rw [Nat.add_mul, Nat.add_mul]
                                omega
                              exact Nat.le_of_mul_le_mul_right this hspos
                            subst hoff
                            obtain ⟨w', p1, p2, p3⟩ := store_core (off := k0 * i.size + len * i.size) hp hg hfz hle (by
                              intro c' fr' hc'
                              rw [q1] at hc'
                              simp at hc'
                              obtain ⟨rfl, rfl⟩ := hc'
                              rw [Nat.add_mul] at hin
                              rw [r2]
                              omega) hone r3 (by
                              intro inf hinf
                              rw [hsl]
                              exact (q5 inf hinf).1)
                            have := run_append_fit (P := P) (w := w) (w' := w') (ty := o.type) (a := ⟨θ.blk id, θ.off id + k0 * i.size, none⟩) (sLen := len) (sCap := θ.cap id - k0) ht hu hdu hi r1 hf (by omega) (by
                              rw [addr_add, Nat.add_assoc]; exact p1)
                            refine ⟨θ, w', .inl ?_, p2, p3, ?_⟩
                            · simp only [conc, this, Result.andThen_ok]
                            · simp only [wf]; exact ⟨hw1.1, by omega⟩
                          · simp only [hin, decide_false, cond_false] at hr
                            simp at hr
                            obtain ⟨rfl, rfl⟩ := hr
                            have hlen1 : ((cs.drop (k0 * i.size)).take (len * i.size)).length = len * i.size := by
                              simp; omega
                            have hwcs : wfL θ ((cs.drop (k0 * i.size)).take (len * i.size) ++ new) := wfL_append (wfL_take (wfL_drop q3 _) _) r3
                            subst hoff
                            have hkl : k0 ≤ θ.cap id := by omega
                            have hsub : k0 * i.size + (θ.cap id - k0) * i.size = θ.cap id * i.size := by rw [← Nat.add_mul]; congr 1; omega
                            by_cases hroom : len + n ≤ θ.cap id - k0
                            · have hfit : len * i.size + n * i.size ≤ (θ.cap id - k0) * i.size := by rw [← Nat.add_mul]; exact Nat.mul_le_mul_right _ hroom
                              have hst := run_storeCells_atF P (θ.blk id) (θ.off id + (k0 * i.size + len * i.size)) eo fr (concL θ new) 0 cc w q1 (by omega) (by rw [concL_length, r2]; omega) (allOne_all hone)
                              have hrun := run_append_fit (P := P) (w := w) (ty := o.type) (a := ⟨θ.blk id, θ.off id + k0 * i.size, none⟩) (sLen := len) (sCap := θ.cap id - k0) ht hu hdu hi r1 hf hroom (by
                                rw [addr_add, Nat.add_assoc]; exact hst)
                              have hid : ¬ θ.dom s.next := fun hd => Nat.lt_irrefl _ (hp.lt _ hd)
                              have hle' : θ.Le (θ.add s.next (θ.blk id) (θ.off id + k0 * i.size) (θ.cap id - k0)) := Th.le_add hid
                              have hren := hp.rename (o := .cells eo ((cs.drop (k0 * i.size)).take (len * i.size) ++ new) (frz - k0 * i.size)) hg (by simp) (θ.off id + k0 * i.size) (θ.cap id - k0)
                                (w' := w.setRow (θ.blk id) (cc.toList.take (θ.off id + (k0 * i.size + len * i.size) + 0) ++ concL θ new ++ cc.toList.drop (θ.off id + (k0 * i.size + len * i.size) + 0 + (concL θ new).length)).toArray)
                                rfl rfl rfl (by simp [World.setRow]) (fun b hb => setRow_other _ _ _ _ hb) (by
                                  have b1 : (θ.add s.next (θ.blk id) (θ.off id + k0 * i.size) (θ.cap id - k0)).blk s.next = θ.blk id := by simp [Th.add]
                                  have b2 : (θ.add s.next (θ.blk id) (θ.off id + k0 * i.size) (θ.cap id - k0)).off s.next = θ.off id + k0 * i.size := by simp [Th.add]
                                  have b3 : (θ.add s.next (θ.blk id) (θ.off id + k0 * i.size) (θ.cap id - k0)).cap s.next = θ.cap id - k0 := by simp [Th.add]
                                  refine ⟨_, fr, by rw [b1]; exact setRow_heap w (θ.blk id) cc _ eo fr q1, ?_, wfL_le hle' _ hwcs, by rw [b2]; omega, ?_, fun hz => absurd ht (hz t (elemS_some he).2)⟩
                                  · intro j u hj
                                    rw [conc_le hle' u ((wfL_iff _ _).1 hwcs u (List.mem_of_getElem? hj)), b2]
                                    simp only [Nat.add_zero, concL_length]
                                    rw [List.append_assoc]
                                    simp only [List.getElem?_toArray]
                                    have hl1 : (cc.toList.take (θ.off id + (k0 * i.size + len * i.size))).length = θ.off id + (k0 * i.size + len * i.size) := by simp; omega
                                    by_cases hj1 : j < len * i.size
                                    · rw [List.getElem?_append_left (by rw [hl1]; omega), List.getElem?_take_of_lt (by omega), Array.getElem?_toList]
                                      rw [List.getElem?_append_left (by rw [hlen1]; exact hj1), List.getElem?_take_of_lt hj1, List.getElem?_drop] at hj
                                      have := q2 _ _ hj
                                      rw [← Nat.add_assoc] at this
                                      exact this
                                    · rw [List.getElem?_append_right (by rw [hl1]; omega), hl1]
                                      rw [List.getElem?_append_right (by rw [hlen1]; omega), hlen1] at hj
                                      have hlt : j - len * i.size < new.length := (List.getElem?_eq_some_iff.1 hj).1
                                      have e2 : θ.off id + k0 * i.size + j - (θ.off id + (k0 * i.size + len * i.size)) = j - len * i.size := by omega
                                      rw [e2, List.getElem?_append_left (by rw [concL_length]; exact hlt), concL_eq, List.getElem?_map, hj]
                                      rfl
                                  · intro inf hinf
                                    rw [hi] at hinf
                                    simp at hinf
                                    subst hinf
                                    rw [b2, b3]
                                    refine ⟨by rw [List.length_append, hlen1, r2]; exact hfit, ?_⟩
                                    have hsz : (cc.toList.take (θ.off id + (k0 * i.size + len * i.size) + 0) ++ concL θ new ++ cc.toList.drop (θ.off id + (k0 * i.size + len * i.size) + 0 + (concL θ new).length)).toArray.size = cc.size := by
                                      simp [concL_length, r2]; omega
                                    rw [hsz]; omega)
                              refine ⟨_, _, .inl ?_, hren.1, hren.2, (conc_sliceO_new _ _ _ _ _ _ hroom).2⟩
                              rw [(conc_sliceO_new _ _ _ _ _ _ hroom).1]
                              simp only [conc, hrun, Result.andThen_ok]
                            · have hrd : readCells s id (k0 * i.size) (len * i.size) = some ((cs.drop (k0 * i.size)).take (len * i.size)) := by
                                simp [readCells, hg, nble, lenL_eq, hle, takeL_eq, dropL_eq]
                              obtain ⟨p1, p2⟩ := run_readCells (P := P) hpd hrd
                              have hrun := run_append_nofit (P := P) (w := w) (ty := o.type) (base := some ⟨θ.blk id, θ.off id + k0 * i.size, none⟩) (sLen := len) (sCap := θ.cap id - k0) ht hu hdu hi hz r1 (by simpa [Builtin.firstCells] using p1) hfd (by omega) hbig
                              obtain ⟨θ', g1, g2, g3, g4⟩ := grown_sound (f := frz - k0 * i.size) (cs := (cs.drop (k0 * i.size)).take (len * i.size) ++ new) (need := len + n) (hp.forget id) hi hzs hwcs (by rw [List.length_append, hlen1, r2, Nat.add_mul]) (grownCap_ge w (len + n) (θ.cap id - k0) eo) (arr := (concL θ ((cs.drop (k0 * i.size)).take (len * i.size))).toArray ++ (concL θ new).toArray ++ Builtin.zeroCells z.cells (grownCap w (len + n) (θ.cap id - k0) eo - (len + n))) (by simp [concL_append])
                              refine ⟨θ', _, .inl ?_, g1, g2.of_forget hg (by simp), g4⟩
                              have e0 : (s.drop id).next = s.next := rfl
                              rw [e0] at g3
                              rw [g3]
                              simp only [conc, hrun, Result.andThen_ok]
                        · simp [hfz, hle] at hr
                      · simp [hfz] at hr
                    · simp [heo] at hr
              · simp [hbig, hoff] at hr
            · simp [hbig] at hr
          · -- nil
            by_cases hbig : n * (i.bytes + 1) ≤ 1000000000
            · cases hone : allOne new with
              | false => simp [hone] at hr
              | true =>
                simp [hbig, hone] at hr
                obtain ⟨rfl, rfl⟩ := hr
                have hrun := run_append_nofit (P := P) (w := w) (ty := o.type) (base := none) (sLen := 0) (sCap := 0) (oldv := #[]) ht hu hdu hi hz r1 (by simp [Builtin.firstCells]) hfd (by omega) (by simpa using hbig)
                obtain ⟨θ', g1, g2, g3, g4⟩ := grown_sound (cs := new) (need := n) hp hi hzs r3 r2 (grownCap_ge w n 0 e) (arr := #[] ++ (concL θ new).toArray ++ Builtin.zeroCells z.cells (grownCap w n 0 e - n)) (by simp)
                refine ⟨θ', _, .inl ?_, g1, g2, g4⟩
                rw [g3]
                simp only [Nat.zero_add] at hrun
                simp only [conc, hrun, Result.andThen_ok]
            · simp [hbig] at hr
end
end Go.Ab
namespace Go.Ab
variable {P : Program} {CR : Code → AC → Prop} {θ θ' : Th} {s s' : St} {w w' : World}
section
variable {o : Oper} {ρ : Operand → Value} {k : OpK} {xs : List Operand} {l : List AV} {v : AV}

theorem liesAt_row {e : TypeId} (hc : P.cellsOf e = 1) (count off n : Nat) (hn : off + n ≤ count) : liesAt P P.depth e count off e n = true := by
  have hd : P.depth = (2 * (P.types.size + Made.depth) + 1) + 1 := rfl
  rw [hd]
  simp only [liesAt, Bool.or_eq_true]
  left
  rw [hd]
  simp [rowAt, hc, hn, sameLayout, Nat.mod_one]

theorem us_none (ats : Array TypeId) (ty : TypeId) (y : Value) : Builtin.unsafeString_ ats ty #[.pointer none, y] =
    (do
      let n ← asInt y
      let some pt := ats[0]? | stuck "unsafe.String: no argument types"
      if n < 0 then runtimePanic (.error "unsafe.String: len out of range")
      if n > IntKind.i64.max then unsupported (.unsafePointer "String: a length above the largest int")
      if n = 0 then pure (.string .empty)
      else runtimePanic (.error "unsafe.String: ptr is nil and len is not zero")) := rfl
theorem us_some (ats : Array TypeId) (ty : TypeId) (a : Addr) (y : Value) : Builtin.unsafeString_ ats ty #[.pointer (some a), y] =
    (do
      let n ← asInt y
      let some pt := ats[0]? | stuck "unsafe.String: no argument types"
      if n < 0 then runtimePanic (.error "unsafe.String: len out of range")
      if n > IntKind.i64.max then unsupported (.unsafePointer "String: a length above the largest int")
      if n = 0 then pure (.string .empty)
      else if ← variablesAt a (← elemOf pt) n.toNat then do
        let s ← loadBytes a .empty n.toNat
        freeze a n.toNat
        pure (.string s)
      else unsupported (.unsafePointer "String: not so many bytes at ptr")) := rfl
theorem snd_uString (c : Call) (t : TypeId) (x n : Operand) (ho : o.op = .call c) (hb : c.callee = .builtin .unsafeString) (hat : ∃ r, c.argTypes.toList = t :: r) (hargs : c.args.toList = [x, n])
    {e : TypeId} (hu : P.underlying t = some (.pointer e)) (hn : sizeT P e = some 1) (hx : [x, n].map ρ = concL θ l) (hw : wfL θ l) (hp : HRel P CR θ s w)
    (hr : aeff s (.uString e) l = some (.val v s')) : Does P CR θ s w ((execOp ρ o).run P w) v s' := by
  obtain ⟨x1, x2, rfl, e1, e2⟩ := map2 hx
  have hat0 : c.argTypes[0]? = some t := by
    obtain ⟨r, hat⟩ := hat
    rw [← Array.getElem?_toList, hat]; rfl
  have harr : c.args.map ρ = #[conc θ x1, conc θ x2] := by
    rw [arrayMap hargs]; simp [e1, e2]
  rw [run_call_builtin c .unsafeString ho hb, harr]
  have hmax : IntKind.i64.max = 9223372036854775807 := rfl
  simp only [aeff] at hr
  cases hi : idx x2 with
  | none => simp [hi] at hr
  | some m =>
    obtain ⟨kd, rfl⟩ := idx_int hi
    rw [hi] at hr
    by_cases hm0 : m = 0
    · subst hm0
      cases x1 <;> simp at hr
      · obtain ⟨rfl, rfl⟩ := hr
        refine ⟨θ, w, .inl ?_, hp, FRel.refl _ _ _, by simp [wf]⟩
        simp [builtin, us_some, conc, asInt, asIntOf, hat0, hmax]
        rfl
      · obtain ⟨rfl, rfl⟩ := hr
        refine ⟨θ, w, .inl ?_, hp, FRel.refl _ _ _, by simp [wf]⟩
        simp [builtin, us_none, conc, asInt, asIntOf, hat0, hmax]
        rfl
    · obtain ⟨m', rfl⟩ : ∃ m', m = m' + 1 := ⟨m - 1, by omega⟩
      cases x1 <;> simp only at hr <;> first | (cases hr; done) | skip
      rename_i id off
      cases hg : s.get id with
      | none => simp [hg] at hr
      | some ob =>
        cases ob <;> simp only [hg] at hr <;> first | (cases hr; done) | skip
        rename_i eo cs frz
        simp only [nbeq, nble, lenL_eq, takeL_eq, dropL_eq] at hr
        by_cases heo : eo = e
        · by_cases hle : off + (m' + 1) ≤ cs.length
          · by_cases hbig : m' + 1 ≤ 1000000000
            · simp only [heo, hle, hbig, decide_true, Bool.and_self, cond_true] at hr
              cases hby : bytesOf ((cs.drop off).take (m' + 1)) with
              | none => simp [hby] at hr
              | some bs =>
                simp only [hby] at hr
                simp at hr
                obtain ⟨rfl, rfl⟩ := hr
                subst heo
                obtain ⟨cc, fr, q1, q2, q3, q4, q5, q6⟩ := hp.obj id _ hg
                have hcl : P.cellsOf eo = 1 := by
                  unfold sizeT at hn
                  simp [Program.cellsOf, hn]
                have hlen : ((cs.drop off).take (m' + 1)).length = m' + 1 := by simp; omega
                have hbl : bs.length = m' + 1 := by
                  have := congrArg List.length (bytesOf_push (θ := θ) hby)
                  rw [concL_length, hlen] at this
                  simpa using this.symm
                have hlast := q2 (off + m') _ (List.getElem?_eq_getElem (by omega))
                have hsz : θ.off id + (off + m') < cc.size := (Array.getElem?_eq_some_iff.1 hlast).1
                have hshape : w.shape? (θ.blk id) = some (eo, cc.size) := by simp [World.shape?, q1]
                have hva : (variablesAt ⟨θ.blk id, θ.off id + off, none⟩ eo (m' + 1)).run P w = .ok true w := by
                  have := liesAt_row (P := P) hcl cc.size (θ.off id + off) (m' + 1) (by omega)
                  simp [variablesAt, hshape, hcl, this]
                have hload := Lib.run_loadBytes (P := P) w bs ⟨θ.blk id, θ.off id + off, none⟩ .empty (by
                  intro j b hj
                  rw [addr_add]
                  have hc := congrArg (fun l => l[j]?) (bytesOf_push (θ := θ) hby)
                  simp [hj] at hc
                  rw [concL_eq, List.getElem?_map] at hc
                  have hjlt : j < m' + 1 := by rw [← hbl]; exact (List.getElem?_eq_some_iff.1 hj).1
                  rw [List.getElem?_take_of_lt hjlt, List.getElem?_drop] at hc
                  cases hcv : cs[off + j]? with
                  | none => simp [hcv] at hc
                  | some u =>
                    simp [hcv] at hc
                    have := q2 _ _ hcv
                    rw [hc, ← Nat.add_assoc] at this
                    exact cell_of q1 this)
                rw [hbl] at hload
                have hch := hp.change (o := .cells eo cs (cond (decide (frz ≤ off + (m' + 1))) (off + (m' + 1)) frz)) (w' := w.freeze ⟨θ.blk id, θ.off id + off, none⟩ (m' + 1)) hg (by simp)
                  (by simp [World.freeze]) (by simp [World.freeze]) (by simp [World.freeze]) (by simp [World.freeze]) (fun b hne => by simp [World.freeze, Array.getElem?_modify, Ne.symm hne]) (by
                    obtain ⟨lo, hi⟩ := fr
                    refine ⟨cc, (if lo == hi then (θ.off id + off, θ.off id + off + (m' + 1)) else (min lo (θ.off id + off), max hi (θ.off id + off + (m' + 1)))), ?_, q2, q3, ?_, q5, q6⟩
                    · simp [World.freeze, Array.getElem?_modify, q1]
                    · simp only at q4
                      by_cases h1 : lo == hi <;> by_cases h2 : frz ≤ off + (m' + 1) <;> simp [h1, h2] <;> omega)
                refine ⟨θ, _, .inl ?_, hch.1, hch.2, by simp [wf]⟩
                have hnb : ¬ ((9223372036854775807 : Int) < (m' : Int) + 1) := by omega
                have hnn : ¬ ((m' : Int) + 1 < 0) := by omega
                have hnz : ¬ ((m' : Int) + 1 = 0) := by omega
                have htn : ((m' : Int) + 1).toNat = m' + 1 := by omega
                have hemp : ByteArray.empty.data ++ bs.toArray = bs.toArray := by simp
                rw [hemp] at hload
                simp [builtin, us_some, conc, asInt, asIntOf, hat0, hmax, hnb, hnn, hnz, htn, elemOf, run_underlying hu, hva, hload]
            · simp [heo, hle, hbig] at hr
          · simp [heo, hle] at hr
        · simp [heo] at hr

/-- **WHAT CHANGES MEMORY.** -/
theorem eff_sound (htr : trOp P o = some (k, xs)) (hx : xs.map ρ = concL θ l) (hw : wfL θ l) (hp : HRel P CR θ s w)
    (hr : aeff s k l = some (.val v s')) : Does P CR θ s w ((execOp ρ o).run P w) v s' := by
  cases ho : o.op with
  | store t a x => exact snd_store t a x ho htr hx hw hp hr
  | mapUpdate t m kk x => exact snd_mapUpdate t m kk x (.inl ho) htr hx hw hp hr
  | insert t m kk x => exact snd_mapUpdate t m kk x (.inr ho) htr hx hw hp hr
  | mapEntry t m kk => exact snd_mapEntry t m kk ho htr hx hw hp hr
  | entryStore t m st x =>
    simp [trOp, ho] at htr
    obtain ⟨rfl, rfl⟩ := htr
    exact snd_entryStore t m st x ho hx hw hp hr
  | next x b =>
    cases b <;> simp [trOp, ho] at htr
    obtain ⟨rfl, rfl⟩ := htr
    exact snd_next x ho hx hw hp hr
  | makeFunc fn a b => exfalso; cases fn <;> simp [trOp, ho] at htr; obtain ⟨rfl, _⟩ := htr; simp [aeff] at hr
  | makeMap t r => exfalso; cases r <;> simp [trOp, ho] at htr; obtain ⟨rfl, _⟩ := htr; simp [aeff] at hr
  | call c =>
    cases hb : c.callee with
    | value f =>
      exfalso
      have hac : ∀ (f : AV) (q : List AV), asCall f q = some (.val v s') → False := by
        intro f q h
        unfold asCall at h
        split at h <;> simp at h
      cases f <;> simp [trOp, ho, hb] at htr <;> obtain ⟨rfl, rfl⟩ := htr <;> (cases l <;> simp [aeff] at hr) <;> exact hac _ _ hr
    | invoke r m => simp [trOp, ho, hb] at htr
    | builtin b =>
      have htr' : trBuiltin P b c.argTypes.toList o.type c.args.toList = some (k, xs) := by simpa [trOp, ho, hb] using htr
      unfold trBuiltin at htr'
      split at htr'
      · -- append
        rename_i t u d x hat har
        cases he : elemS P t with
        | none => simp [he] at htr'
        | some e =>
          cases hi : P.info? e with
          | none => simp [he, hi] at htr'
          | some i =>
            cases hu : P.underlying u with
            | none => simp [he, hi, hu] at htr'
            | some du =>
              have fin : ∀ (hdu : (∃ e', du = .slice e') ∨ du = .string), (∃ z, i.zero = some z ∧ z.cells.size = i.size) → k = .append e i.size i.bytes → xs = [d, x] → Does P CR θ s w ((execOp ρ o).run P w) v s' := by
                intro hdu ⟨z, hz, hzs⟩ hk hxs
                subst hk; subst hxs
                exact snd_append c t u d x ho hb hat har he hi hz hzs hu hdu hx hw hp hr
              cases du <;> simp only [he, hi, hu] at htr' <;> first | (cases htr'; done) | skip
              all_goals
                by_cases hz : i.zero.any (fun z => z.cells.size == i.size) = true
                · rw [if_pos hz] at htr'
                  simp only [Option.some.injEq, Prod.mk.injEq] at htr'
                  refine fin (by first | exact .inr rfl | exact .inl ⟨_, rfl⟩) ?_ htr'.1.symm htr'.2.symm
                  cases hzz : i.zero with
                  | none => simp [hzz] at hz
                  | some z => exact ⟨z, rfl, by simpa [hzz] using hz⟩
                · rw [if_neg hz] at htr'; cases htr'
      · exfalso
        repeat' split at htr'
        all_goals first
          | (cases htr'; done)
          | (simp only [Option.some.injEq, Prod.mk.injEq] at htr'; obtain ⟨rfl, _⟩ := htr'; simp [aeff] at hr; done)
      · exfalso
        repeat' split at htr'
        all_goals first
          | (cases htr'; done)
          | (simp only [Option.some.injEq, Prod.mk.injEq] at htr'; obtain ⟨rfl, _⟩ := htr'; simp [aeff] at hr; done)
      · -- copy
        rename_i t q d x hat har
        cases he : elemS P t with
        | none => simp [he] at htr'
        | some e =>
          cases hn : sizeT P e with
          | none => simp [he, hn] at htr'
          | some n =>
            simp [he, hn] at htr'
            obtain ⟨rfl, rfl⟩ := htr'
            exact snd_copy c t d x ho hb ⟨q, hat⟩ har he hn hx hw hp hr
      · -- delete
        rename_i t q m kk hat har
        cases hm : keyM P t with
        | none => simp [hm] at htr'
        | some ke =>
          cases hks : ksT P ke.1 with
          | none => simp [hm, hks] at htr'
          | some ks =>
            simp [hm, hks] at htr'
            obtain ⟨rfl, rfl⟩ := htr'
            exact snd_delete c t m kk ks ho hb ⟨q, hat⟩ har (kt := ke.1) (et := ke.2) hm hks hx hw hp hr
      · exfalso; simp at htr'; obtain ⟨rfl, _⟩ := htr'; simp [aeff] at hr
      · exfalso; simp at htr'; obtain ⟨rfl, _⟩ := htr'; simp [aeff] at hr
      · exfalso; simp at htr'; obtain ⟨rfl, _⟩ := htr'; simp [aeff] at hr
      · rename_i t q x n hat har
        cases hu : P.underlying t with
        | none => simp [hu] at htr'
        | some d =>
          cases d <;> simp only [hu] at htr' <;> first | (cases htr'; done) | skip
          rename_i e
          split at htr'
          · rename_i hn
            simp at htr'
            obtain ⟨rfl, rfl⟩ := htr'
            exact snd_uString c t x n ho hb ⟨q, hat⟩ har hu hn hx hw hp hr
          · cases htr'
      · cases htr'
  | _ =>
    exfalso
    simp only [trOp, ho] at htr
    try simp only [trEq] at htr
    repeat' split at htr
    all_goals first
      | (cases htr; done)
      | (simp only [Option.some.injEq, Prod.mk.injEq] at htr; obtain ⟨rfl, _⟩ := htr; simp [aeff] at hr; done)
end
end Go.Ab
