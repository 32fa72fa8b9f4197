/- The abstract machine is sound: what it runs to, the model's run comes to, whatever the tape. Functions that are not run; calls that were run before; a closed call. -/
import Derived.Test.YtdkcpdmpdpglbaaGreatDoorAb3
import Derived.Laws.Externs
import Derived.Lib.Bytealg
import Derived.Lib.Index
import Derived.Lib.SlKeysI
import Derived.Maps.Own
import Derived.Below
set_option autoImplicit false
set_option linter.unusedVariables false
set_option linter.unusedSimpArgs false
set_option linter.unnecessarySimpa false
namespace Go.Ab
variable {P : Program} {θ θ' θ'' : Th} {s s' s'' : St} {w w' w'' : World}

theorem aread_mono {s s' : St} (hs : ∀ id o, s.get id = some o → s'.get id = some o) {k : OpK} {l : List AV} {v : AV} (h : aread s k l = some v) : aread s' k l = some v := by
  cases k
  case load1 =>
    match l, h with
    | [a], h =>
      simp only [aread] at h ⊢
      cases a <;> first | (cases h; done) | exact readOne_mono hs h
    | [], h => simp [aread] at h
    | _ :: _ :: _, h => simp [aread] at h
  case loadN n =>
    match l, h with
    | [a], h =>
      simp only [aread] at h ⊢
      cases a <;> first | (cases h; done) | skip
      rename_i id off
      cases hr : readCells s id off n with
      | none => simp [hr] at h
      | some vs => simp only [hr] at h; simp only [readCells_mono hs hr]; exact h
    | [], h => simp [aread] at h
    | _ :: _ :: _, h => simp [aread] at h
  case conv c =>
    match l, h with
    | [a], h =>
      cases c <;> cases a <;> first | exact h | (simp [aread] at h; done) | skip
      case toUns.ptr id off =>
        simp only [aread] at h ⊢
        cases hg : s.get id with
        | none => simp [hg] at h
        | some o => rw [hs id o hg]; rw [hg] at h; exact h
      case fromUns.ptr u n id off =>
        simp only [aread] at h ⊢
        cases hg : s.get id with
        | none => simp [hg] at h
        | some o => rw [hs id o hg]; rw [hg] at h; exact h
      all_goals
        rename_i id off n q
        simp only [aread] at h ⊢
        cases hr : readCells s id off n with
        | none => simp [hr] at h
        | some vs => simp only [hr] at h; simp only [readCells_mono hs hr]; exact h
    | [], h => simp [aread] at h
    | _ :: _ :: _, h => simp [aread] at h
  case lookup ks z ok =>
    match l, h with
    | [m, q], h =>
      simp only [aread] at h ⊢
      cases hk : keyOk ks q with
      | false => simp [hk] at h
      | true =>
        simp only [hk, cond_true] at h ⊢
        cases m <;> first | exact h | skip
        rename_i id
        try simp only at h ⊢
        cases hg : s.get id with
        | none => simp [hg] at h
        | some o => rw [hs id o hg]; rw [hg] at h; exact h
    | [], h => simp [aread] at h
    | [_], h => simp [aread] at h
    | _ :: _ :: _ :: _, h => simp [aread] at h
  case lenMap =>
    match l, h with
    | [m], h =>
      simp only [aread] at h ⊢
      cases m <;> first | exact h | skip
      rename_i id
      try simp only at h ⊢
      cases hg : s.get id with
      | none => simp [hg] at h
      | some o => rw [hs id o hg]; rw [hg] at h; exact h
    | [], h => simp [aread] at h
    | _ :: _ :: _, h => simp [aread] at h
  all_goals
    match l, h with
    | [], h => first | exact h | (simp only [aread] at h ⊢; exact h)
    | [a], h => first | exact h | (simp only [aread] at h ⊢; exact h)
    | [a, b], h => first | exact h | (simp only [aread] at h ⊢; exact h)
    | [a, b, c], h => first | exact h | (simp only [aread] at h ⊢; exact h)
    | a :: b :: c :: d :: l, h => first | exact h | (simp only [aread] at h ⊢; exact h)

/-- the same state, in other words -/
theorem HRel.ext {CR : Code → AC → Prop} (h : HRel P CR θ s w) (hs : ∀ k, s'.get k = s.get k) (hn : s'.next = s.next) : HRel P CR θ s' w :=
  h.sub (fun k o hk => by rw [← hs]; exact hk) (Nat.le_of_eq hn.symm)
theorem FRel.ext (h : FRel θ s w θ' s' w') (hs : ∀ k, s''.get k = s'.get k) (hn : s''.next = s'.next) (hd : s''.dfr = s'.dfr) : FRel θ s w θ' s'' w' :=
  ⟨h.le, by rw [hn]; exact h.next, fun id o hi => h.fresh id o (by rw [← hs]; exact hi), h.tape, h.os, h.output, h.size, h.frame, fun id o hi => h.wher id o (by rw [← hs]; exact hi),
    fun id cs hi => ⟨by rw [hs]; exact (h.ro id cs hi).1, (h.ro id cs hi).2⟩, by rw [hd]; exact h.dfr, h.new⟩

/-- what a part of memory is run on leaves the rest -/
theorem frame_rule {CR : Code → AC → Prop} {R R' σ sa : St} (hp : HRel P CR θ R w) (hsub : ∀ id o, σ.get id = some o → R.get id = some o) (hn0 : σ.next = R.next) (h' : HRel P CR θ' sa w') (f : FRel θ σ w θ' sa w')
    (hR1 : ∀ id o, sa.get id = some o → R'.get id = some o) (hR2 : ∀ id, sa.get id = none → σ.get id = none → R'.get id = R.get id) (hR3 : ∀ id o, sa.get id = none → σ.get id = some o → R'.get id = none)
    (hn : R'.next = sa.next) (hd : R'.dfr = R.dfr) : HRel P CR θ' R' w' ∧ FRel θ R w θ' R' w' := by
  -- what is neither made nor changed
  have extra : ∀ id o, R'.get id = some o → sa.get id = none → σ.get id = none ∧ R.get id = some o := by
    intro id o hi hs
    cases hσ : σ.get id with
    | some o' => rw [hR3 id o' hs hσ] at hi; cases hi
    | none => exact ⟨rfl, by rw [← hR2 id hs hσ]; exact hi⟩
  have same : ∀ id o, R.get id = some o → σ.get id = none → w'.heap[θ.blk id]? = w.heap[θ.blk id]? := by
    intro id o hi hσ
    refine f.frame _ (hp.obj id o hi).lt fun j oj hj => ?_
    have hne : j ≠ id := by rintro rfl; rw [hσ] at hj; cases hj
    exact hp.apart j id oj o (hsub j oj hj) hi hne
  have none_new : ∀ id o, R.get id = some o → σ.get id = none → sa.get id = none := by
    intro id o hi hσ
    cases hs : sa.get id with
    | none => rfl
    | some o' =>
      rcases f.fresh id o' hs with ⟨o0, h0⟩ | h0
      · rw [hσ] at h0; cases h0
      · exact absurd (hp.dom id o hi) h0
  have keepR : ∀ id o, R.get id = some o → σ.get id = none → R'.get id = some o := fun id o hi hσ => by rw [hR2 id (none_new id o hi hσ) hσ]; exact hi
  refine ⟨⟨?_, ?_, ?_, ?_⟩, ⟨f.le, by rw [hn, ← hn0]; exact f.next, ?_, f.tape, f.os, f.output, f.size, ?_, ?_, ?_, hd, ?_⟩⟩
  · intro id o hi
    cases hs : sa.get id with
    | some o' => exact h'.dom id o' hs
    | none => exact f.le.dom id (hp.dom id o (extra id o hi hs).2)
  · intro id o hi
    cases hs : sa.get id with
    | some o' =>
      rw [hR1 id o' hs] at hi
      simp at hi
      subst hi
      exact h'.obj id o' hs
    | none =>
      obtain ⟨q1, q2⟩ := extra id o hi hs
      exact (hp.obj id o q2).keep (hp.dom id o q2) f.le (same id o q2 q1)
  · intro id hi; rw [hn]; exact h'.lt id hi
  · intro i j oi oj hi hj hij
    cases hsi : sa.get i with
    | some oi' =>
      cases hsj : sa.get j with
      | some oj' => exact h'.apart i j oi' oj' hsi hsj hij
      | none =>
        obtain ⟨q1, q2⟩ := extra j oj hj hsj
        have hb : θ'.blk j = θ.blk j := f.le.blk j (hp.dom j oj q2)
        have hlt := (hp.obj j oj q2).lt
        rcases f.wher i oi' hsi with h1 | ⟨i0, o0, h1, h2⟩
        · rw [hb]; omega
        · rw [hb, ← h2]
          have hne : i0 ≠ j := by rintro rfl; rw [q1] at h1; cases h1
          exact hp.apart i0 j o0 oj (hsub i0 o0 h1) q2 hne
    | none =>
      obtain ⟨q1, q2⟩ := extra i oi hi hsi
      have hb : θ'.blk i = θ.blk i := f.le.blk i (hp.dom i oi q2)
      have hlt := (hp.obj i oi q2).lt
      cases hsj : sa.get j with
      | some oj' =>
        rcases f.wher j oj' hsj with h1 | ⟨i0, o0, h1, h2⟩
        · rw [hb]; omega
        · rw [hb, ← h2]
          have hne : i ≠ i0 := by rintro rfl; rw [q1] at h1; cases h1
          exact hp.apart i i0 oi o0 q2 (hsub i0 o0 h1) hne
      | none =>
        obtain ⟨r1, r2⟩ := extra j oj hj hsj
        have hbj : θ'.blk j = θ.blk j := f.le.blk j (hp.dom j oj r2)
        rw [hb, hbj]
        exact hp.apart i j oi oj q2 r2 hij
  · intro id o hi
    cases hs : sa.get id with
    | some o' =>
      rcases f.fresh id o' hs with ⟨o0, h0⟩ | h0
      · exact .inl ⟨o0, hsub id o0 h0⟩
      · exact .inr h0
    | none => exact .inl ⟨o, (extra id o hi hs).2⟩
  · intro b hb hne
    exact f.frame b hb fun id o hi => hne id o (hsub id o hi)
  · intro id o hi
    cases hs : sa.get id with
    | some o' =>
      rcases f.wher id o' hs with h1 | ⟨i0, o0, h1, h2⟩
      · exact .inl h1
      · exact .inr ⟨i0, o0, hsub i0 o0 h1, h2⟩
    | none =>
      have q := (extra id o hi hs).2
      exact .inr ⟨id, o, q, (f.le.blk id (hp.dom id o q)).symm⟩
  · intro id cs hi
    cases hσ : σ.get id with
    | none => exact ⟨keepR id _ hi hσ, same id _ hi hσ⟩
    | some o =>
      have : o = .ro cs := by have := hsub id o hσ; rw [hi] at this; exact (Option.some.inj this).symm
      subst this
      obtain ⟨q1, q2⟩ := f.ro id cs hσ
      exact ⟨hR1 id _ q1, q2⟩
  · intro id hi
    rcases f.new id hi with h1 | h1
    · exact .inl h1
    · exact .inr (by rw [← hn0]; exact h1)

/-- one more made, with a name kept for it -/
theorem frame_make {R R' : St} {θs : Th} {ss : St} {ws : World} {CR : Code → AC → Prop} (hps : ∀ id o, ss.get id = some o → θs.dom id) (hp : HRel P CR θ R w) (f : FRel θs ss ws θ R w) {cob : Obj} (hm : Made w w' cob) (id c : Nat) (o : AObj) (hid : ¬ θ.dom id) (hge : ss.next ≤ id) (hlt : id < R.next)
    (hs : ∀ k, R'.get k = if k = id then some o else R.get k) (hn : R'.next = R.next) (hd : R'.dfr = R.dfr)
    (ho : ∀ w1, w1.heap[w.heap.size]? = some cob → ORel P CR (θ.add id w.heap.size 0 c) w1 id o) :
    HRel P CR (θ.add id w.heap.size 0 c) R' w' ∧ FRel θs ss ws (θ.add id w.heap.size 0 c) R' w' := by
  have hle : θ.Le (θ.add id w.heap.size 0 c) := Th.le_add hid
  have live_ne : ∀ k o0, R.get k = some o0 → k ≠ id := fun k o0 hk e => hid (e ▸ hp.dom k o0 hk)
  have hold : ∀ b, b < w.heap.size → w'.heap[b]? = w.heap[b]? := by
    intro b hb
    rw [hm.heap, Array.getElem?_push_lt hb]
    exact (Array.getElem?_eq_getElem hb).symm
  have hnew : w'.heap[w.heap.size]? = some cob := by rw [hm.heap]; simp
  have blkid : (θ.add id w.heap.size 0 c).blk id = w.heap.size := by simp [Th.add]
  have key : ∀ k o1, R'.get k = some o1 → (k = id ∧ o1 = o) ∨ (k ≠ id ∧ R.get k = some o1) := by
    intro k o1 hk
    rw [hs] at hk
    by_cases e : k = id
    · simp [e] at hk; exact .inl ⟨e, hk.symm⟩
    · simp [e] at hk; exact .inr ⟨e, hk⟩
  refine ⟨⟨?_, ?_, ?_, ?_⟩, ⟨f.le.trans hle, by rw [hn]; exact f.next, ?_, hm.tape.trans f.tape, hm.os.trans f.os, hm.output.trans f.output, ?_, ?_, ?_, ?_, hd.trans f.dfr, ?_⟩⟩
  · intro k o1 hk
    rcases key k o1 hk with ⟨e, _⟩ | ⟨_, h1⟩
    · exact .inr e
    · exact .inl (hp.dom k o1 h1)
  · intro k o1 hk
    rcases key k o1 hk with ⟨e, e1⟩ | ⟨_, h1⟩
    · subst e; subst e1; exact ho w' hnew
    · exact (hp.obj k o1 h1).keep (hp.dom k o1 h1) hle (hold _ (hp.obj k o1 h1).lt)
  · intro k hk
    rw [hn]
    rcases hk with hk | rfl
    · exact hp.lt k hk
    · exact hlt
  · intro i j oi oj hi hj hij
    rcases key i oi hi with ⟨e, _⟩ | ⟨n1, h1⟩
    · rcases key j oj hj with ⟨e', _⟩ | ⟨n2, h2⟩
      · exact absurd (e.trans e'.symm) hij
      · subst e
        rw [blkid, hle.blk j (hp.dom j oj h2)]
        have := (hp.obj j oj h2).lt
        omega
    · rcases key j oj hj with ⟨e', _⟩ | ⟨n2, h2⟩
      · subst e'
        rw [blkid, hle.blk i (hp.dom i oi h1)]
        have := (hp.obj i oi h1).lt
        omega
      · rw [hle.blk i (hp.dom i oi h1), hle.blk j (hp.dom j oj h2)]
        exact hp.apart i j oi oj h1 h2 hij
  · intro k o1 hk
    rcases key k o1 hk with ⟨e, _⟩ | ⟨_, h1⟩
    · exact .inr fun hx => hid (e ▸ f.le.dom k hx)
    · exact f.fresh k o1 h1
  · rw [hm.heap]; simp; have := f.size; omega
  · intro b hb hne
    rw [hold b (Nat.lt_of_lt_of_le hb f.size)]
    exact f.frame b hb hne
  · intro k o1 hk
    rcases key k o1 hk with ⟨e, _⟩ | ⟨_, h1⟩
    · subst e; exact .inl (by rw [blkid]; exact f.size)
    · rw [hle.blk k (hp.dom k o1 h1)]
      exact f.wher k o1 h1
  · intro k cs hk
    obtain ⟨q1, q2⟩ := f.ro k cs hk
    refine ⟨by rw [hs, if_neg (live_ne k _ q1)]; exact q1, ?_⟩
    rw [← q2]
    apply hold
    have := (hp.obj k _ q1).lt
    have hb : θ.blk k = θs.blk k := f.le.blk k (hps k _ hk)
    rw [← hb]; exact this
  · intro k hk
    rcases hk with hk | rfl
    · exact f.new k hk
    · exact .inr hge
end Go.Ab
namespace Go.Ab
variable {P : Program} {θ θ' θ'' : Th} {s s' s'' : St} {w w' w'' : World}

theorem lastW_some {es : List DEnt} {L : Nat → Bool} {id : Nat} {ob : AObj} : ∀ {n : Nat}, lastW es L id n = some ob → ∃ k, k < n ∧ L k = true ∧ es[k]? = some (.wr id ob) ∧ ∀ m ob', k < m → m < n → L m = true → es[m]? ≠ some (.wr id ob')
  | 0, h => by simp [lastW] at h
  | n + 1, h => by
    rw [lastW] at h
    have rec' : (lastW es L id n = some ob) → (∀ ob', L n = true → es[n]? ≠ some (.wr id ob')) → ∃ k, k < n + 1 ∧ L k = true ∧ es[k]? = some (.wr id ob) ∧ ∀ m ob', k < m → m < n + 1 → L m = true → es[m]? ≠ some (.wr id ob') := by
      intro h1 h2
      obtain ⟨k, q1, q2, q3, q4⟩ := lastW_some h1
      refine ⟨k, Nat.lt_succ_of_lt q1, q2, q3, fun m ob' hkm hm hL => ?_⟩
      rcases Nat.lt_succ_iff_lt_or_eq.1 hm with hlt | rfl
      · exact q4 m ob' hkm hlt hL
      · exact h2 ob' hL
    cases he : es[n]? with
    | none => rw [he] at h; exact rec' h (by intro ob' _; rw [he]; simp)
    | some e =>
      rw [he] at h
      cases e with
      | wr id' ob' =>
        simp only at h
        cases hL : L n && Nat.beq id' id with
        | true =>
          rw [hL] at h
          simp at h
          subst h
          simp only [Bool.and_eq_true, nbeq, decide_eq_true_eq] at hL
          obtain ⟨hL1, rfl⟩ := hL
          exact ⟨n, Nat.lt_succ_self n, hL1, he, fun m ob'' h1 h2 => by omega⟩
        | false =>
          rw [hL] at h
          refine rec' h fun ob'' hLn => ?_
          rw [he]
          intro e
          simp at e
          rw [hLn, e.1] at hL
          simp [nbeq] at hL
      | _ => exact rec' h (by intro ob' _; rw [he]; simp)
theorem lastW_none {es : List DEnt} {L : Nat → Bool} {id : Nat} : ∀ {n : Nat}, lastW es L id n = none ↔ ∀ k, k < n → L k = true → ∀ ob, es[k]? ≠ some (.wr id ob)
  | 0 => by simp [lastW]
  | n + 1 => by
    rw [lastW]
    have rec' : (∀ ob', L n = true → es[n]? ≠ some (.wr id ob')) → ((lastW es L id n = none) ↔ ∀ k, k < n + 1 → L k = true → ∀ ob, es[k]? ≠ some (.wr id ob)) := by
      intro h2
      rw [lastW_none]
      constructor
      · intro h k hk hL ob
        rcases Nat.lt_succ_iff_lt_or_eq.1 hk with hlt | rfl
        · exact h k hlt hL ob
        · exact h2 ob hL
      · intro h k hk; exact h k (Nat.lt_succ_of_lt hk)
    cases he : es[n]? with
    | none => exact rec' (by intro ob' _; rw [he]; simp)
    | some e =>
      cases e with
      | wr id' ob' =>
        simp only
        cases hL : L n && Nat.beq id' id with
        | true =>
          simp only [Bool.and_eq_true, nbeq, decide_eq_true_eq] at hL
          obtain ⟨hL1, rfl⟩ := hL
          simp only [cond_true]
          constructor
          · intro h; cases h
          · intro h; exact absurd he (h n (Nat.lt_succ_self n) hL1 ob')
        | false =>
          refine rec' fun ob'' hLn => ?_
          rw [he]
          intro e
          simp at e
          rw [hLn, e.1] at hL
          simp [nbeq] at hL
      | _ => exact rec' (by intro ob' _; rw [he]; simp)
theorem lastW_congr {es : List DEnt} {L L' : Nat → Bool} {id : Nat} : ∀ {n : Nat}, (∀ k, k < n → (∃ ob, es[k]? = some (.wr id ob)) → L k = L' k) → lastW es L id n = lastW es L' id n
  | 0, _ => rfl
  | n + 1, h => by
    rw [lastW, lastW, lastW_congr (n := n) fun k hk => h k (Nat.lt_succ_of_lt hk)]
    cases he : es[n]? with
    | none => rfl
    | some e =>
      cases e with
      | wr id' ob' =>
        simp only
        by_cases hid : id' = id
        · subst hid
          rw [h n (Nat.lt_succ_self n) ⟨ob', he⟩]
        · simp [nbeq, hid]
      | _ => rfl
theorem lastS_eq {es : List DEnt} {s0 : St} : ∀ {b a : Nat}, a ≤ b → (∀ k, a ≤ k → k < b → isEf es[k]? = false) → lastS es s0 b = lastS es s0 a
  | 0, a, h, _ => by have : a = 0 := by omega
                     subst this; rfl
  | b + 1, a, h, hn => by
    rcases Nat.lt_or_ge a (b + 1) with hlt | hge
    · rw [lastS]
      have hb := hn b (by omega) (Nat.lt_succ_self b)
      have ih := lastS_eq (es := es) (s0 := s0) (b := b) (a := a) (by omega) fun k h1 h2 => hn k h1 (Nat.lt_succ_of_lt h2)
      cases he : es[b]? with
      | none => exact ih
      | some e => cases e <;> first | exact ih | (rw [he] at hb; simp [isEf] at hb)
    · have : a = b + 1 := by omega
      subst this; rfl

open Classical in
noncomputable def alAt (ds : List DOper) (es : List DEnt) (L : Nat → Bool) (c base id : Nat) : Option AObj :=
  if base ≤ id then
    match es[id - base]? with
    | some (.al _ ob) => if L (id - base) = true ∧ NotIns ds es c (id - base) then some ob else none
    | _ => none
  else none
theorem alAt_some {ds : List DOper} {es : List DEnt} {L : Nat → Bool} {c base id : Nat} {ob : AObj} : alAt ds es L c base id = some ob ↔ ∃ k v, id = base + k ∧ es[k]? = some (.al v ob) ∧ L k = true ∧ NotIns ds es c k := by
  unfold alAt
  constructor
  · intro h
    split at h
    · rename_i hb
      split at h
      · rename_i v ob' he
        split at h
        · rename_i hc
          simp at h
          subst h
          exact ⟨id - base, v, by omega, he, hc.1, hc.2⟩
        · cases h
      · cases h
    · cases h
  · rintro ⟨k, v, rfl, he, hL, hn⟩
    rw [if_pos (Nat.le_add_right _ _)]
    have : base + k - base = k := by omega
    rw [this, he]
    simp only
    rw [if_pos ⟨hL, hn⟩]
theorem alAt_none {ds : List DOper} {es : List DEnt} {L : Nat → Bool} {c base id : Nat} : alAt ds es L c base id = none ↔ ∀ k v ob, id = base + k → es[k]? = some (.al v ob) → L k = true → ¬ NotIns ds es c k := by
  constructor
  · intro h k v ob h1 h2 h3 h4
    have := alAt_some.2 ⟨k, v, h1, h2, h3, h4⟩
    rw [h] at this; cases this
  · intro h
    cases ha : alAt ds es L c base id with
    | none => rfl
    | some ob =>
      obtain ⟨k, v, h1, h2, h3, h4⟩ := alAt_some.1 ha
      exact absurd h4 (h k v ob h1 h2 h3)

noncomputable def specR (ds : List DOper) (es : List DEnt) (s0 : St) (base : Nat) (L : Nat → Bool) (c id : Nat) : Option AObj :=
  match lastW es L id ds.length with
  | some ob => some ob
  | none => match alAt ds es L c base id with
    | some ob => some ob
    | none => (lastS es s0 c).get id
theorem specR_w {ds : List DOper} {es : List DEnt} {s0 : St} {base c id : Nat} {L : Nat → Bool} {ob : AObj} (h : lastW es L id ds.length = some ob) : specR ds es s0 base L c id = some ob := by simp [specR, h]
theorem specR_a {ds : List DOper} {es : List DEnt} {s0 : St} {base c id : Nat} {L : Nat → Bool} {ob : AObj} (h : lastW es L id ds.length = none) (h1 : alAt ds es L c base id = some ob) : specR ds es s0 base L c id = some ob := by simp [specR, h, h1]
theorem specR_s {ds : List DOper} {es : List DEnt} {s0 : St} {base c id : Nat} {L : Nat → Bool} (h : lastW es L id ds.length = none) (h1 : alAt ds es L c base id = none) : specR ds es s0 base L c id = (lastS es s0 c).get id := by simp [specR, h, h1]

def Ladd (L : Nat → Bool) (i : Nat) : Nat → Bool := fun k => cond (Nat.beq k i) true (L k)
theorem Ladd_self (L : Nat → Bool) (i : Nat) : Ladd L i i = true := by simp [Ladd, nbeq]
theorem Ladd_ne {L : Nat → Bool} {i k : Nat} (h : k ≠ i) : Ladd L i k = L k := by simp [Ladd, nbeq, h]
theorem Ladd_or {L : Nat → Bool} {i k : Nat} (h : Ladd L i k = true) : k = i ∨ L k = true := by
  by_cases e : k = i
  · exact .inl e
  · rw [Ladd_ne e] at h; exact .inr h

structure DInv (P : Program) (ds : List DOper) (es : List DEnt) (s0 : St) (t0 : Tm) (base nt : Nat) (θs : Th) (ss : St) (ws : World) (a0 : Act) (L : Nat → Bool) (a : Act) (w : World) (θ : Th) (R : St) (c : Nat) : Prop where
  hp : HRel P (CRt P) θ R w
  fr : FRel θs ss ws θ R w
  dfr : a.defers = a0.defers
  cut : ∀ k, isEf es[k]? = true → (L k = true ↔ k < c)
  closed : ∀ k d, ds[k]? = some d → L k = true → ∀ j, testB d.before j = true → L j = true
  spec : ∀ id, R.get id = specR ds es s0 base L c id
  i1 : ∀ k, NotIns ds es c k → k < ds.length → (lastS es s0 c).get (base + k) = none
  i3 : ∀ k, k < ds.length → L k = false → ¬ θ.dom (base + k)
  nx : R.next = (lastS es s0 c).next
  lim : base + ds.length ≤ R.next
  sd : (lastS es s0 c).dfr = ss.dfr
  tsz : a.tmps.size = nt
  tdone : ∀ k d e x, ds[k]? = some d → es[k]? = some e → L k = true → d.dst = some x → a.tmps[x]? = some (conc θ (valOf e)) ∧ wf θ (valOf e)
  told : ∀ x v, t0.get x = some v → (∀ k d, ds[k]? = some d → L k = true → d.dst ≠ some x) → a.tmps[x]? = some (conc θ v) ∧ wf θ v

section
variable {ds : List DOper} {es : List DEnt} {s0 : St} {t0 : Tm} {base nt : Nat} {θs : Th} {ss : St} {ws : World} {a0 a : Act} {L : Nat → Bool} {R : St} {c : Nat}

/-- what is the same at every step -/
theorem DInv.step (h : DInv P ds es s0 t0 base nt θs ss ws a0 L a w θ R c) (hrows : ∀ i j x y, ds[i]? = some x → ds[j]? = some y → pairOk i x j y = true) {i : Nat} {d : DOper} {e : DEnt} (hd : ds[i]? = some d) (he : es[i]? = some e)
    (hready : ∀ j, testB d.before j = true → L j = true) (hdst : ∀ x, d.dst = some x → x < nt) {R' : St} {c' : Nat} (hle : θ.Le θ') (hwf : wf θ' (valOf e))
    (hp' : HRel P (CRt P) θ' R' w') (fr' : FRel θs ss ws θ' R' w') (cut' : ∀ k, isEf es[k]? = true → (Ladd L i k = true ↔ k < c')) (spec' : ∀ id, R'.get id = specR ds es s0 base (Ladd L i) c' id)
    (i1' : ∀ k, NotIns ds es c' k → k < ds.length → (lastS es s0 c').get (base + k) = none) (i3' : ∀ k, k < ds.length → L k = false → k ≠ i → ¬ θ'.dom (base + k)) (nx' : R'.next = (lastS es s0 c').next) (lim' : base + ds.length ≤ R'.next) (sd' : (lastS es s0 c').dfr = ss.dfr) :
    DInv P ds es s0 t0 base nt θs ss ws a0 (Ladd L i) (a.put d.dst (conc θ' (valOf e))) w' θ' R' c' := by
  have other : ∀ x, d.dst ≠ some x → (a.put d.dst (conc θ' (valOf e))).tmps[x]? = a.tmps[x]? := by
    intro x hx
    cases hdd : d.dst with
    | none => rfl
    | some y =>
      have : y ≠ x := by rintro rfl; exact hx hdd
      simp [Act.put, Array.getElem?_setIfInBounds, this]
  refine ⟨hp', fr', by rw [put_defers]; exact h.dfr, cut', ?_, spec', i1', ?_, nx', lim', sd', ?_, ?_, ?_⟩
  · intro k dk hk hL j hj
    by_cases hji : j = i
    · rw [hji]; exact Ladd_self L i
    · rw [Ladd_ne hji]
      rcases Ladd_or hL with rfl | hL
      · rw [hd] at hk; simp at hk; subst hk; exact hready j hj
      · exact h.closed k dk hk hL j hj
  · intro k hk hL
    have hne : k ≠ i := by rintro rfl; rw [Ladd_self] at hL; cases hL
    rw [Ladd_ne hne] at hL
    exact i3' k hk hL hne
  · cases hdd : d.dst with
    | none => exact h.tsz
    | some y => simp [Act.put, h.tsz]
  · intro k dk ek x hk hek hL hx
    by_cases hki : k = i
    · subst hki
      rw [hd] at hk; simp at hk; subst hk
      rw [he] at hek; simp at hek; subst hek
      have hlt := hdst x hx
      refine ⟨?_, hwf⟩
      simp [Act.put, hx, Array.getElem?_setIfInBounds, h.tsz, hlt]
    · rw [Ladd_ne hki] at hL
      have hne : d.dst ≠ some x := fun hdx => hki ((pairOk_spec (hrows i k d dk hd hk) hx).2 hdx).symm
      obtain ⟨q1, q2⟩ := h.tdone k dk ek x hk hek hL hx
      rw [other x hne, q1, conc_le hle _ q2]
      exact ⟨rfl, wf_le hle _ q2⟩
  · intro x v hx hno
    have hne : d.dst ≠ some x := hno i d hd (Ladd_self L i)
    have hL' : ∀ k, L k = true → Ladd L i k = true := by
      intro k hk
      by_cases e : k = i
      · rw [e]; exact Ladd_self L i
      · rw [Ladd_ne e]; exact hk
    obtain ⟨q1, q2⟩ := h.told x v hx fun k dk hk hL => hno k dk hk (hL' k hL)
    rw [other x hne, q1, conc_le hle _ q2]
    exact ⟨rfl, wf_le hle _ q2⟩

/-- what an operation looks at is there -/
theorem DInv.slot (h : DInv P ds es s0 t0 base nt θs ss ws a0 L a w θ R c) (hrows : ∀ i j x y, ds[i]? = some x → ds[j]? = some y → pairOk i x j y = true) (hbef : ∀ m d, ds[m]? = some d → ∀ k, testB d.before k = true → k < m) {i : Nat} {d : DOper}
    (hd : ds[i]? = some d) (hLi : L i = false) (hready : ∀ j, testB d.before j = true → L j = true) {T : Tm} {S : St} {hh : List (Nat × AObj)} {em : Nat} {wl : List (Nat × AObj)} (hpre : Pre ds es s0 t0 i T S hh em wl)
    {x : Nat} {v : AV} (hu : usesD d x = true) (hx : T.get x = some v) : a.tmps[x]? = some (conc θ v) ∧ wf θ v := by
  rcases hpre.tm x v hx with ⟨k, dk, ek, hk, hdk, hek, hdst, rfl⟩ | ⟨h0, hno⟩
  · have hL : L k = true := by
      rcases (pairOk_spec (hrows i k d dk hd hdk) hdst).1 hu with hb | hb
      · exact hready k hb
      · have := hbef k dk hdk i hb; omega
    exact h.tdone k dk ek x hdk hek hL hdst
  · refine h.told x v h0 fun k dk hdk hL hdst => ?_
    rcases Nat.lt_or_ge k i with hlt | hge
    · exact hno k dk hlt hdk hdst
    · rcases (pairOk_spec (hrows i k d dk hd hdk) hdst).1 hu with hb | hb
      · have := hbef i d hd k hb
        omega
      · have := h.closed k dk hdk hL i hb
        rw [hLi] at this; cases this
end
end Go.Ab
namespace Go.Ab
variable {P : Program} {θ θ' θ'' : Th} {s s' s'' : St} {w w' w'' : World}

theorem evalO_used {t : Tm} {a : Act} (hg : Glob P θ) {x : Operand} {o : Opd} {v : AV} (hu : ∀ n u, o = .t n → t.get n = some u → a.tmps[n]? = some (conc θ u) ∧ wf θ u) (ho : opd P x = some o) (hv : evalO t o = some v) : a.eval x = conc θ v ∧ wf θ v := by
  cases x with
  | tmp n =>
    simp [opd] at ho
    subst ho
    simp [evalO] at hv
    obtain ⟨h1, h2⟩ := hu n v rfl hv
    exact ⟨by simp [Act.eval, Array.getD_eq_getD_getElem?, h1], h2⟩
  | const c =>
    simp only [opd] at ho
    cases hc : av c with
    | none => simp [hc] at ho
    | some u =>
      simp [hc] at ho
      subst ho
      simp [evalO] at hv
      subst hv
      have := conc_av (θ := θ) hc
      exact ⟨by simp [Act.eval, this.1], this.2⟩
  | global g =>
    simp only [opd] at ho
    by_cases h : g < P.globals.size
    · simp [h] at ho
      subst ho
      simp [evalO] at hv
      subst hv
      obtain ⟨h1, h2, h3⟩ := hg g h
      exact ⟨by simp [Act.eval, conc, h2, h3], by simpa [wf] using h1⟩
    · simp [h] at ho
  | func f =>
    simp [opd] at ho
    subst ho
    simp [evalO] at hv
    subst hv
    exact ⟨by simp [Act.eval, conc, concL], by simp [wf, wfL]⟩
theorem evals_used {t : Tm} {a : Act} (hg : Glob P θ) : ∀ {xs : List Operand} {os : List Opd} {vs : List AV}, (∀ n u, isSlot n os = true → t.get n = some u → a.tmps[n]? = some (conc θ u) ∧ wf θ u) → opds P xs = some os → evals t os = some vs →
    xs.map a.eval = concL θ vs ∧ wfL θ vs
  | [], os, vs, hu, ho, hv => by
    simp [opds] at ho
    subst ho
    simp [evals] at hv
    subst hv
    exact ⟨rfl, trivial⟩
  | x :: xs, os, vs, hu, ho, hv => by
    simp only [opds] at ho
    cases h1 : opd P x with
    | none => simp [h1] at ho
    | some o =>
      cases h2 : opds P xs with
      | none => simp [h1, h2] at ho
      | some os' =>
        simp [h1, h2] at ho
        subst ho
        simp only [evals] at hv
        cases h3 : evalO t o with
        | none => simp [h3] at hv
        | some v =>
          cases h4 : evals t os' with
          | none => simp [h3, h4] at hv
          | some vs' =>
            simp [h3, h4] at hv
            subst hv
            obtain ⟨e1, w1⟩ := evalO_used (a := a) hg (fun n u hn hu' => hu n u (by subst hn; simp [isSlot, nbeq]) hu') h1 h3
            obtain ⟨e2, w2⟩ := evals_used (a := a) hg (fun n u hn hu' => hu n u (by
              cases o with
              | t y =>
                simp only [isSlot, nbeq]
                by_cases e : n = y
                · simp [e]
                · simp [e, hn]
              | c q => simp only [isSlot]; exact hn) hu') h2 h4
            exact ⟨by simp [concL, e1, e2], w1, w2⟩
theorem guard_used {t : Tm} {a : Act} {ops : Array Oper} {o : Oper} {g : Option (Nat × Bool)} {b : Bool} (hu : ∀ n bb u, g = some (n, bb) → t.get n = some u → a.tmps[n]? = some (conc θ u) ∧ wf θ u) (hgd : guardOf ops o.guard = some g) (hv : guardV t g = some b) :
    Region.wanted o (yielded ops a.tmps) = b := by
  unfold guardOf at hgd
  cases ho : o.guard with
  | none =>
    simp [ho] at hgd
    subst hgd
    simp [guardV] at hv
    subst hv
    simp [Region.wanted, ho]
  | some jw =>
    obtain ⟨j, want⟩ := jw
    simp only [ho] at hgd
    cases hd : (ops[j]?).bind (·.dst) with
    | none => simp [hd] at hgd
    | some d =>
      simp [hd] at hgd
      subst hgd
      simp only [guardV] at hv
      cases hg : t.get d with
      | none => simp [hg] at hv
      | some u =>
        have h1 := (hu d want u rfl hg).1
        simp only [Region.wanted, ho, yielded, hd, Option.bind_some, h1]
        cases u <;> simp [hg] at hv
        · rename_i b'
          subst hv
          simp only [conc]
          cases b' <;> cases want <;> rfl
        · subst hv
          simp [conc]

section
variable {ds : List DOper} {es : List DEnt} {s0 : St} {t0 : Tm} {base nt : Nat} {θs : Th} {ss : St} {ws : World} {a0 a : Act} {L : Nat → Bool} {R : St} {c : Nat}

theorem alAt_congr {L L' : Nat → Bool} {c c' id : Nat} (h : ∀ k v ob, id = base + k → es[k]? = some (.al v ob) → (L k = true ∧ NotIns ds es c k ↔ L' k = true ∧ NotIns ds es c' k)) : alAt ds es L c base id = alAt ds es L' c' base id := by
  cases h1 : alAt ds es L c base id with
  | some ob =>
    obtain ⟨k, v, q1, q2, q3⟩ := alAt_some.1 h1
    exact (alAt_some.2 ⟨k, v, q1, q2, (h k v ob q1 q2).1 q3⟩).symm
  | none =>
    cases h2 : alAt ds es L' c' base id with
    | none => rfl
    | some ob =>
      obtain ⟨k, v, q1, q2, q3⟩ := alAt_some.1 h2
      have := alAt_some.2 ⟨k, v, q1, q2, (h k v ob q1 q2).2 q3⟩
      rw [h1] at this; cases this

/-- an operation that leaves memory as it was -/
theorem specR_still {i : Nat} {e : DEnt} (he : es[i]? = some e) (h1 : ∀ v ob, e ≠ .al v ob) (h2 : ∀ id ob, e ≠ .wr id ob) (id : Nat) : specR ds es s0 base (Ladd L i) c id = specR ds es s0 base L c id := by
  have hw : lastW es (Ladd L i) id ds.length = lastW es L id ds.length := lastW_congr fun k hk ⟨ob, hob⟩ => by
    have : k ≠ i := by rintro rfl; rw [he] at hob; simp at hob; exact h2 _ _ hob
    exact Ladd_ne this
  have ha : alAt ds es (Ladd L i) c base id = alAt ds es L c base id := alAt_congr fun k v ob hk hal => by
    have : k ≠ i := by rintro rfl; rw [he] at hal; simp at hal; exact h1 _ _ hal
    rw [Ladd_ne this]
  simp only [specR, hw, ha]

theorem insHeld_get {m base : Nat} {s : St} : ∀ {h : List (Nat × AObj)} {id : Nat} {o : AObj}, (insHeld m base s h).get id = some o → (∃ k, id = base + k ∧ (k, o) ∈ h ∧ testB m k = true) ∨ s.get id = some o
  | [], id, o, hi => .inr hi
  | (k, ob) :: l, id, o, hi => by
    simp only [insHeld] at hi
    cases hb : testB m k with
    | true =>
      simp only [hb, cond_true, St.get_put] at hi
      by_cases e : id = base + k
      · rw [if_pos e] at hi
        simp at hi
        exact .inl ⟨k, e, by simp [hi], hb⟩
      · rw [if_neg e] at hi
        rcases insHeld_get hi with ⟨k', q1, q2, q3⟩ | q
        · exact .inl ⟨k', q1, by simp [q2], q3⟩
        · exact .inr q
    | false =>
      simp only [hb, cond_false] at hi
      rcases insHeld_get hi with ⟨k', q1, q2, q3⟩ | q
      · exact .inl ⟨k', q1, by simp [q2], q3⟩
      · exact .inr q
theorem insHeld_none {m base : Nat} {s : St} : ∀ {h : List (Nat × AObj)} {id : Nat}, (insHeld m base s h).get id = none → (∀ k o, id = base + k → (k, o) ∈ h → testB m k = false) ∧ s.get id = none
  | [], id, hi => ⟨by simp, hi⟩
  | (k, ob) :: l, id, hi => by
    simp only [insHeld] at hi
    cases hb : testB m k with
    | true =>
      simp only [hb, cond_true, St.get_put] at hi
      by_cases e : id = base + k
      · rw [if_pos e] at hi; cases hi
      · rw [if_neg e] at hi
        obtain ⟨q1, q2⟩ := insHeld_none hi
        refine ⟨fun k' o h1 h2 => ?_, q2⟩
        rcases List.mem_cons.1 h2 with h2 | h2
        · simp at h2; exact absurd (h2.1 ▸ h1) e
        · exact q1 k' o h1 h2
    | false =>
      simp only [hb, cond_false] at hi
      obtain ⟨q1, q2⟩ := insHeld_none hi
      refine ⟨fun k' o h1 h2 => ?_, q2⟩
      rcases List.mem_cons.1 h2 with h2 | h2
      · simp at h2; rw [h2.1]; exact hb
      · exact q1 k' o h1 h2
theorem insHeld_next {m base : Nat} {s : St} : ∀ {h : List (Nat × AObj)}, (insHeld m base s h).next = s.next ∧ (insHeld m base s h).dfr = s.dfr
  | [] => ⟨rfl, rfl⟩
  | (k, ob) :: l => by
    simp only [insHeld]
    cases testB m k
    · exact insHeld_next (h := l)
    · exact insHeld_next (h := l)
end

/-- which effects may come behind what -/
theorem noEff_spec : ∀ {l : List DOper}, noEff l = true → ∀ d ∈ l, isEffK d.k = false
  | [], _, d, hd => by cases hd
  | o :: l, h, d, hd => by
    simp only [noEff] at h
    cases hk : isEffK o.k with
    | true => simp [hk] at h
    | false =>
      simp only [hk, cond_false] at h
      rcases List.mem_cons.1 hd with rfl | hd
      · exact hk
      · exact noEff_spec h d hd
end Go.Ab
namespace Go.Ab
variable {P : Program} {θ θ' θ'' : Th} {s s' s'' : St} {w w' w'' : World}

theorem aeff_kinds {k : OpK} {l : List AV} {r : R} (h : aeff s k l = some r) : isEffK k = true ∨ ∃ n id off x, k = .store n ∧ l = [.ptr id off, x] := by
  cases k <;> first | exact .inl rfl | skip
  case store n =>
    match l, h with
    | [a, x], h =>
      simp only [aeff] at h
      cases a <;> first | (cases h; done) | exact .inr ⟨n, _, _, x, rfl, rfl⟩
    | [], h => simp [aeff] at h
    | [_], h => simp [aeff] at h
    | _ :: _ :: _ :: _, h => simp [aeff] at h
  all_goals (exfalso; simp [aeff] at h)

section
variable {C : Ctx} {N : Nat} {ds : List DOper} {es : List DEnt} {s0 : St} {t0 : Tm} {base nt : Nat} {θs : Th} {ss : St} {ws : World} {a0 a : Act} {L : Nat → Bool} {R : St} {c : Nat}

/-- all that is known of a region that draws -/
structure DFix (P : Program) (C : Ctx) (N : Nat) (ds : List DOper) (es : List DEnt) (s0 : St) (t0 : Tm) (base nt : Nat) (ss : St) : Prop where
  hlen : es.length = ds.length
  hrows : ∀ i j x y, ds[i]? = some x → ds[j]? = some y → pairOk i x j y = true
  hbef : ∀ m d, ds[m]? = some d → ∀ k, testB d.before k = true → k < m
  facts : ∀ k o, ds[k]? = some o → ∃ e T S h em wl, es[k]? = some e ∧ Pre ds es s0 t0 k T S h em wl ∧ OpF C N nt base (base + ds.length) k o (ds.drop (k + 1)) T S h em wl e ∧ ∀ x, o.dst = some x → x < nt
  hwrs : wrsOk (wrsOf 0 ds es) = true
  hst : stables (wrsOf 0 ds es) (effsOf 0 ds es) s0 0 ds es = true
  hbase : ss.next ≤ base

/-- no effect comes behind a store at the end -/
theorem DFix.wr_last (hf : DFix P C N ds es s0 t0 base nt ss) {i id : Nat} {ob : AObj} (hi : es[i]? = some (.wr id ob)) {k : Nat} (hk : isEf es[k]? = true) : k < i ∧ ∀ d, ds[i]? = some d → testB d.before k = true := by
  have hil : i < ds.length := by rw [← hf.hlen]; exact (List.getElem?_eq_some_iff.1 hi).1
  have hdi : ds[i]? = some ds[i] := List.getElem?_eq_getElem hil
  obtain ⟨e, T, S, h, em, wl, he, hpre, hop, _⟩ := hf.facts i ds[i] hdi
  rw [hi] at he
  simp at he
  subst he
  cases hop with
  | wr args _ _ cur sa h1 h2 h3 h4 h5 h6 h7 h8 h9 =>
    have hlt : k < i := by
      rcases Nat.lt_or_ge k i with hlt | hge
      · exact hlt
      · exfalso
        cases hek : es[k]? with
        | none => rw [hek] at hk; simp [isEf] at hk
        | some ek =>
          have hkl : k < ds.length := by rw [← hf.hlen]; exact (List.getElem?_eq_some_iff.1 hek).1
          have hne : k ≠ i := by rintro rfl; rw [hi] at hk; simp [isEf] at hk
          have hdk : ds[k]? = some ds[k] := List.getElem?_eq_getElem hkl
          have hmem : ∀ j, i < j → (hj : j < ds.length) → ds[j] ∈ ds.drop (i + 1) := by
            intro j hij hj
            refine List.mem_iff_getElem?.2 ⟨j - (i + 1), ?_⟩
            rw [List.getElem?_drop]
            have : i + 1 + (j - (i + 1)) = j := by omega
            rw [this]; exact List.getElem?_eq_getElem hj
          have hno := noEff_spec h4 ds[k] (hmem k (by omega) hkl)
          have hno2 : noEff (ds.drop (k + 1)) = true := by
            have : ∀ l : List DOper, (∀ d ∈ l, isEffK d.k = false) → noEff l = true := by
              intro l
              induction l with
              | nil => intro _; rfl
              | cons d l ih => intro hh; simp only [noEff, hh d (by simp), cond_false]; exact ih fun d' hd' => hh d' (by simp [hd'])
            refine this _ fun d hd => ?_
            obtain ⟨m, hm⟩ := List.mem_iff_getElem?.1 hd
            rw [List.getElem?_drop] at hm
            have hml := (List.getElem?_eq_some_iff.1 hm).1
            have := (List.getElem?_eq_some_iff.1 hm).2
            rw [← this]
            exact noEff_spec h4 _ (hmem _ (by omega) hml)
          obtain ⟨e', T', S', h', em', wl', he', _, hop', _⟩ := hf.facts k ds[k] hdk
          rw [he'] at hk
          have bad : ∀ {r : R} {args' : List AV}, aeff (insHeld ds[k].before base S' h') ds[k].k args' = some r → (cond (noEff (ds.drop (k + 1))) (storeId ds[k].k args') none) = none → False := by
            intro r args' hr hq
            rcases aeff_kinds hr with h1 | ⟨n, id', off, x, h1, h2⟩
            · rw [hno] at h1; cases h1
            · rw [hno2, h1, h2] at hq; simp [storeId] at hq
          cases hop' with
          | ef args' v sa' g1 g2 g3 g4 g5 =>
            rcases g5 with g5 | ⟨_, _, _, _, g5, _⟩ | ⟨_, _, _, _, g5, _⟩ <;> exact bad g5 g4
          | _ => simp [isEf] at hk
    refine ⟨hlt, fun d hd => ?_⟩
    rw [hdi] at hd
    simp at hd
    subst hd
    exact testB_sub h3 ((hpre.em k).2 ⟨hlt, hk⟩)

/-- reads: the same at every state at which they may come -/
theorem DFix.read (hf : DFix P C N ds es s0 t0 base nt ss) (h : DInv P ds es s0 t0 base nt θs ss ws a0 L a w θ R c) {i : Nat} {d : DOper} (hd : ds[i]? = some d) (hLi : L i = false) (hready : ∀ j, testB d.before j = true → L j = true)
    {v : AV} {args : List AV} (he : es[i]? = some (.rd v args)) : aread R d.k args = some v := by
  have hst := stables_spec hf.hst i d v args hd he
  rw [Nat.zero_add] at hst
  have hL : ∀ k dk, ds[k]? = some dk → L k = true → testB dk.before i = false := by
    intro k dk hk hLk
    cases hb : testB dk.before i with
    | false => rfl
    | true => have := h.closed k dk hk hLk i hb; rw [hLi] at this; cases this
  have hcut := stable_cut (s0 := s0) (c := c) hf.hlen (fun e de hef hde hlt => hL e de hde ((h.cut e hef).2 hlt)) (fun e hef hge => by
    cases hb : testB d.before e with
    | false => rfl
    | true => have := (h.cut e hef).1 (hready e hb); omega) c 0 (by omega) (Nat.zero_le _) (by simpa [lastS] using hst)
  unfold readIs at hcut
  cases hr : aread (dropW i (lastS es s0 c) (wrsOf 0 ds es)) d.k args with
  | none => simp [hr] at hcut
  | some v' =>
    simp only [hr] at hcut
    have := eqAV_eq _ _ hcut
    subst this
    refine aread_mono (fun id o hi => ?_) hr
    obtain ⟨q1, q2⟩ := dropW_get hi
    rw [h.spec]
    have hw : lastW es L id ds.length = none := lastW_none.2 fun k hk hLk ob hob => by
      have hdk : ds[k]? = some ds[k] := List.getElem?_eq_getElem hk
      have := q2 k ds[k].before (wrsOf_mem.2 ⟨Nat.zero_le _, ds[k], ob, by simpa using hdk, by simpa using hob, rfl⟩)
      rw [hL k ds[k] hdk hLk] at this; cases this
    have ha : alAt ds es L c base id = none := alAt_none.2 fun k v' ob hk hal hLk hni => by
      have hkl : k < ds.length := by rw [← hf.hlen]; exact (List.getElem?_eq_some_iff.1 hal).1
      have := h.i1 k hni hkl
      rw [← hk, q1] at this; cases this
    rw [specR_s hw ha]
    exact q1
end
end Go.Ab
namespace Go.Ab
variable {P : Program} {θ θ' θ'' : Th} {s s' s'' : St} {w w' w'' : World}
section
variable {C : Ctx} {N : Nat} {ds : List DOper} {es : List DEnt} {s0 : St} {t0 : Tm} {base nt : Nat} {θs : Th} {ss : St} {ws : World} {a0 a : Act} {L : Nat → Bool} {R : St} {c : Nat}

/-- an allocation -/
theorem DInv.al (hf : DFix P C N ds es s0 t0 base nt ss) (hps : ∀ id o, ss.get id = some o → θs.dom id) (h : DInv P ds es s0 t0 base nt θs ss ws a0 L a w θ R c) {i : Nat} {d : DOper} (hd : ds[i]? = some d) (hLi : L i = false) (hready : ∀ j, testB d.before j = true → L j = true) (hdst : ∀ x, d.dst = some x → x < nt)
    {ob : AObj} {v : AV} (he : es[i]? = some (.al v ob)) {cob : Obj} {cc : Nat} (hm : Made w w' cob) (hv : wf (θ.add (base + i) w.heap.size 0 cc) v)
    (ho : ∀ w1, w1.heap[w.heap.size]? = some cob → ORel P (CRt P) (θ.add (base + i) w.heap.size 0 cc) w1 (base + i) ob) :
    DInv P ds es s0 t0 base nt θs ss ws a0 (Ladd L i) (a.put d.dst (conc (θ.add (base + i) w.heap.size 0 cc) v)) w' (θ.add (base + i) w.heap.size 0 cc) (R.put (base + i) ob) c := by
  have hil : i < ds.length := (List.getElem?_eq_some_iff.1 hd).1
  have hid := h.i3 i hil hLi
  have hmk := frame_make (R' := R.put (base + i) ob) hps h.hp h.fr hm (base + i) cc ob hid (Nat.le_trans hf.hbase (Nat.le_add_right _ _)) (Nat.lt_of_lt_of_le (by omega) h.lim) (St.get_put R (base + i) ob) rfl rfl ho
  have hni : NotIns ds es c i := fun m hmc hef dm hdm => by
    cases hb : testB dm.before i with
    | false => rfl
    | true =>
      have := h.closed m dm hdm ((h.cut m hef).2 hmc) i hb
      rw [hLi] at this; cases this
  refine h.step hf.hrows hd he hready hdst (Th.le_add hid) hv hmk.1 hmk.2 ?_ ?_ h.i1 ?_ h.nx h.lim h.sd
  · intro k hk
    have : k ≠ i := by rintro rfl; rw [he] at hk; simp [isEf] at hk
    rw [Ladd_ne this]; exact h.cut k hk
  · intro id
    rw [St.get_put]
    have hw : ∀ id', lastW es (Ladd L i) id' ds.length = lastW es L id' ds.length := fun id' => lastW_congr fun k hk ⟨ob', hob⟩ => by
      have : k ≠ i := by rintro rfl; rw [he] at hob; simp at hob
      exact Ladd_ne this
    by_cases hidi : id = base + i
    · rw [if_pos hidi]
      have hwn : lastW es (Ladd L i) id ds.length = none := by
        rw [hw]
        refine lastW_none.2 fun k hk hLk ob' hob => ?_
        have hdk : ds[k]? = some ds[k] := List.getElem?_eq_getElem hk
        obtain ⟨e', T', S', h', em', wl', he', _, hop', _⟩ := hf.facts k ds[k] hdk
        rw [hob] at he'
        simp at he'
        subst he'
        cases hop' with
        | wr args _ _ cur sa h1 h2 h3 h4 h5 h6 h7 h8 h9 =>
          have hc : (Nat.ble base id && Nat.ble (id + 1) (base + ds.length)) = true := by
            simp [nble, hidi]; omega
          rw [hc] at h9
          simp only [cond_true] at h9
          have hsub : id - base = i := by omega
          rw [hsub] at h9
          have := h.closed k ds[k] hdk hLk i h9
          rw [hLi] at this; cases this
      exact (specR_a hwn (alAt_some.2 ⟨i, v, hidi, he, Ladd_self L i, hni⟩)).symm
    · rw [if_neg hidi, h.spec]
      have ha : alAt ds es (Ladd L i) c base id = alAt ds es L c base id := alAt_congr fun k v' ob' hk hal => by
        have : k ≠ i := by rintro rfl; exact hidi hk
        rw [Ladd_ne this]
      simp only [specR, hw, ha]
  · intro k hk hL hne hdom
    rcases hdom with hdom | hdom
    · exact h.i3 k hk hL hdom
    · omega

open Classical in
noncomputable def putA (ds : List DOper) (es : List DEnt) (L : Nat → Bool) (c base : Nat) (sa : St) : Nat → St
  | 0 => sa
  | n + 1 => match es[n]? with
    | some (.al _ ob) => if L n = true ∧ NotIns ds es c n then (putA ds es L c base sa n).put (base + n) ob else putA ds es L c base sa n
    | _ => putA ds es L c base sa n
theorem putA_next {sa : St} : ∀ (n : Nat), (putA ds es L c base sa n).next = sa.next ∧ (putA ds es L c base sa n).dfr = sa.dfr
  | 0 => ⟨rfl, rfl⟩
  | n + 1 => by
    have ih := putA_next (sa := sa) n
    unfold putA
    split
    · split
      · exact ih
      · exact ih
    · exact ih
theorem putA_get {sa : St} {id : Nat} : ∀ (n : Nat), (∀ k v ob, k < n → id = base + k → es[k]? = some (.al v ob) → L k = true → NotIns ds es c k → (putA ds es L c base sa n).get id = some ob) ∧
    ((∀ k v ob, k < n → id = base + k → es[k]? = some (.al v ob) → L k = true → ¬ NotIns ds es c k) → (putA ds es L c base sa n).get id = sa.get id)
  | 0 => ⟨fun k v ob h => by omega, fun _ => rfl⟩
  | n + 1 => by
    obtain ⟨i1, i2⟩ := putA_get (sa := sa) (id := id) n
    refine ⟨fun k v ob hk hid hal hL hn => ?_, fun hno => ?_⟩
    · unfold putA
      rcases Nat.lt_succ_iff_lt_or_eq.1 hk with hlt | rfl
      · have := i1 k v ob hlt hid hal hL hn
        split
        · split
          · rw [St.get_put, if_neg (by omega)]; exact this
          · exact this
        · exact this
      · rw [hal]
        simp only
        rw [if_pos ⟨hL, hn⟩, St.get_put, if_pos hid]
    · unfold putA
      have := i2 fun k v ob hk => hno k v ob (Nat.lt_succ_of_lt hk)
      split
      · rename_i v ob hal
        split
        · rename_i hc
          rw [St.get_put, if_neg (fun hid => hno n v ob (Nat.lt_succ_self n) hid hal hc.1 hc.2)]
          exact this
        · exact this
      · exact this
theorem putA_some {sa : St} {id : Nat} {ob : AObj} (hl : es.length = ds.length) (h : alAt ds es L c base id = some ob) : (putA ds es L c base sa ds.length).get id = some ob := by
  obtain ⟨k, v, q1, q2, q3, q4⟩ := alAt_some.1 h
  exact (putA_get ds.length).1 k v ob (by rw [← hl]; exact (List.getElem?_eq_some_iff.1 q2).1) q1 q2 q3 q4
theorem putA_none {sa : St} {id : Nat} (h : alAt ds es L c base id = none) : (putA ds es L c base sa ds.length).get id = sa.get id :=
  (putA_get ds.length).2 fun k v ob _ h1 h2 h3 => alAt_none.1 h k v ob h1 h2 h3

/-- an effect -/
theorem DInv.ef (hf : DFix P C N ds es s0 t0 base nt ss) (h : DInv P ds es s0 t0 base nt θs ss ws a0 L a w θ R c) {i : Nat} {d : DOper} (hd : ds[i]? = some d) (hLi : L i = false) (hready : ∀ j, testB d.before j = true → L j = true) (hdst : ∀ x, d.dst = some x → x < nt)
    {v : AV} {sa : St} (he : es[i]? = some (.ef v sa)) {T : Tm} {S : St} {hh : List (Nat × AObj)} {em : Nat} {wl : List (Nat × AObj)} (hpre : Pre ds es s0 t0 i T S hh em wl) (hem : Nat.beq (Nat.land em d.before) em = true) :
    HRel P (CRt P) θ (insHeld d.before base S hh) w ∧
    (∀ θ' w', HRel P (CRt P) θ' sa w' → FRel θ (insHeld d.before base S hh) w θ' sa w' → wf θ' v → (hps : ∀ id o, ss.get id = some o → θs.dom id) →
      ∃ R' c', DInv P ds es s0 t0 base nt θs ss ws a0 (Ladd L i) (a.put d.dst (conc θ' v)) w' θ' R' c') := by
  have hil : i < ds.length := (List.getElem?_eq_some_iff.1 hd).1
  have hci : c ≤ i := by
    rcases Nat.lt_or_ge i c with hlt | hge
    · have := (h.cut i (by rw [he]; rfl)).2 hlt
      rw [hLi] at this; cases this
    · exact hge
  -- the effects ahead are those that have come
  have efL : ∀ k, isEf es[k]? = true → k < i → L k = true := fun k hk hlt => hready k (testB_sub hem ((hpre.em k).2 ⟨hlt, hk⟩))
  have noef : ∀ k, c ≤ k → k < i → isEf es[k]? = false := fun k h1 h2 => by
    cases hk : isEf es[k]? with
    | false => rfl
    | true => have := (h.cut k hk).1 (efL k hk h2); omega
  have hS : S = lastS es s0 c := by rw [hpre.st]; exact lastS_eq hci noef
  have notins : ∀ k, NotIns ds es i k ↔ NotIns ds es c k := fun k => ⟨fun hn m hm => hn m (by omega), fun hn m hm hef => hn m ((h.cut m hef).1 (efL m hef hm)) hef⟩
  have noW : ∀ id, lastW es L id ds.length = none := fun id => lastW_none.2 fun k hk hLk ob hob => by
    have hdk : ds[k]? = some ds[k] := List.getElem?_eq_getElem hk
    have := (hf.wr_last hob (k := i) (by rw [he]; rfl)).2 ds[k] hdk
    have := h.closed k ds[k] hdk hLk i this
    rw [hLi] at this; cases this
  have hsub : ∀ id o, (insHeld d.before base S hh).get id = some o → R.get id = some o := by
    intro id o hi
    rw [h.spec]
    rcases insHeld_get hi with ⟨k, q1, q2, q3⟩ | q
    · obtain ⟨r1, ⟨v', r2⟩, r3⟩ := (hpre.held k o).1 q2
      exact specR_a (noW id) (alAt_some.2 ⟨k, v', q1, r2, hready k q3, (notins k).1 r3⟩)
    · rw [hS] at q
      refine (specR_s (noW id) (alAt_none.2 fun k v' ob hk hal hLk hni => ?_)).trans q
      have hkl : k < ds.length := by rw [← hf.hlen]; exact (List.getElem?_eq_some_iff.1 hal).1
      have := h.i1 k hni hkl
      rw [← hk, q] at this; cases this
  have hnx : (insHeld d.before base S hh).next = R.next := by rw [insHeld_next.1, hS, h.nx]
  have hndf : (insHeld d.before base S hh).dfr = ss.dfr := by rw [insHeld_next.2, hS, h.sd]
  refine ⟨h.hp.sub hsub (Nat.le_of_eq hnx.symm), fun θ' w' h' f hv hps => ?_⟩
  have hls : lastS es s0 (i + 1) = sa := by rw [lastS, he]
  have inC : ∀ k, NotIns ds es (i + 1) k → NotIns ds es c k := fun k hn m hm => hn m (by omega)
  have notB : ∀ k, NotIns ds es (i + 1) k → testB d.before k = false := fun k hn => hn i (Nat.lt_succ_self i) (by rw [he]; rfl) d hd
  have i1' : ∀ k, NotIns ds es (i + 1) k → k < ds.length → sa.get (base + k) = none := by
    intro k hn hk
    cases hs : sa.get (base + k) with
    | none => rfl
    | some o =>
      exfalso
      rcases f.fresh _ o hs with ⟨o0, h0⟩ | h0
      · rcases insHeld_get h0 with ⟨k', q1, q2, q3⟩ | q
        · have : k = k' := by omega
          subst this
          rw [notB k hn] at q3; cases q3
        · rw [hS, h.i1 k (inC k hn) hk] at q; cases q
      · rcases f.new _ (h'.dom _ o hs) with h1 | h1
        · exact h0 h1
        · rw [hnx] at h1
          have := h.lim
          omega
  have alMore : ∀ id ob, alAt ds es (Ladd L i) (i + 1) base id = some ob → alAt ds es L c base id = some ob ∧ ∃ k, id = base + k ∧ k < ds.length ∧ NotIns ds es (i + 1) k := by
    intro id ob ha
    obtain ⟨k, v', q1, q2, q3, q4⟩ := alAt_some.1 ha
    have hne : k ≠ i := by rintro rfl; rw [he] at q2; simp at q2
    rw [Ladd_ne hne] at q3
    exact ⟨alAt_some.2 ⟨k, v', q1, q2, q3, inC k q4⟩, k, q1, by rw [← hf.hlen]; exact (List.getElem?_eq_some_iff.1 q2).1, q4⟩
  have hRsp : ∀ id, R.get id = match alAt ds es L c base id with | some ob => some ob | none => (lastS es s0 c).get id := by
    intro id
    rw [h.spec]
    simp only [specR, noW id]
    all_goals (cases alAt ds es L c base id <;> rfl)
  have hfr := frame_rule (R' := putA ds es (Ladd L i) (i + 1) base sa ds.length) h.hp hsub hnx h' f
    (fun id o hs => by
      cases ha : alAt ds es (Ladd L i) (i + 1) base id with
      | none => rw [putA_none ha]; exact hs
      | some ob =>
        exfalso
        obtain ⟨_, k, q1, q2, q3⟩ := alMore id ob ha
        rw [q1, i1' k q3 q2] at hs; cases hs)
    (fun id hs hσ => by
      obtain ⟨g1, g2⟩ := insHeld_none hσ
      cases ha : alAt ds es (Ladd L i) (i + 1) base id with
      | some ob =>
        rw [putA_some hf.hlen ha, hRsp, (alMore id ob ha).1]
      | none =>
        rw [putA_none ha, hs, hRsp]
        cases hb : alAt ds es L c base id with
        | none => simp only; rw [← hS]; exact g2.symm
        | some ob =>
          exfalso
          obtain ⟨k, v', q1, q2, q3, q4⟩ := alAt_some.1 hb
          have hne : k ≠ i := by rintro rfl; rw [he] at q2; simp at q2
          have hnn : ¬ NotIns ds es (i + 1) k := fun hn => by
            have := alAt_none.1 ha k v' ob q1 q2 (by rw [Ladd_ne hne]; exact q3)
            exact this hn
          have hbt : testB d.before k = true := by
            cases hbt : testB d.before k with
            | true => rfl
            | false =>
              refine absurd (fun m hm hef dm hdm => ?_) hnn
              rcases Nat.lt_succ_iff_lt_or_eq.1 hm with hlt | rfl
              · exact (notins k).2 q4 m hlt hef dm hdm
              · rw [hd] at hdm; simp at hdm; subst hdm; exact hbt
          have := g1 k ob q1 ((hpre.held k ob).2 ⟨hf.hbef i d hd k hbt, ⟨v', q2⟩, (notins k).2 q4⟩)
          rw [hbt] at this; cases this)
    (fun id o hs hσ => by
      cases ha : alAt ds es (Ladd L i) (i + 1) base id with
      | none => rw [putA_none ha]; exact hs
      | some ob =>
        exfalso
        obtain ⟨_, k, q1, q2, q3⟩ := alMore id ob ha
        rcases insHeld_get hσ with ⟨k', r1, r2, r3⟩ | r
        · have : k = k' := by omega
          subst this
          rw [notB k q3] at r3; cases r3
        · rw [hS, q1, h.i1 k (inC k q3) q2] at r; cases r)
    (putA_next _).1 (by rw [(putA_next _).2, f.dfr, hndf, h.fr.dfr])
  refine ⟨_, i + 1, h.step hf.hrows hd he hready hdst f.le hv hfr.1 (FRel.trans hps h.fr hfr.2) ?_ ?_ (by rw [hls]; exact i1') ?_ (by rw [hls]; exact (putA_next _).1) (by rw [(putA_next _).1]; have := f.next; have := h.lim; omega) (by rw [hls, f.dfr, hndf])⟩
  · intro k hk
    by_cases hki : k = i
    · subst hki; simp [Ladd_self]
    · rw [Ladd_ne hki]
      constructor
      · intro hL; have := (h.cut k hk).1 hL; omega
      · intro hlt; exact efL k hk (by omega)
  · intro id
    have hw : lastW es (Ladd L i) id ds.length = none := by
      rw [← noW id]
      refine lastW_congr fun k hk ⟨ob', hob⟩ => ?_
      have : k ≠ i := by rintro rfl; rw [he] at hob; simp at hob
      exact Ladd_ne this
    cases ha : alAt ds es (Ladd L i) (i + 1) base id with
    | some ob => rw [specR_a hw ha]; exact putA_some hf.hlen ha
    | none => rw [specR_s hw ha, hls]; exact putA_none ha
  · intro k hk hL hne hdom
    rcases f.new _ hdom with h1 | h1
    · exact h.i3 k hk hL h1
    · rw [hnx] at h1
      have := h.lim
      omega
end
end Go.Ab
namespace Go.Ab
variable {P : Program} {θ θ' θ'' : Th} {s s' s'' : St} {w w' w'' : World}

theorem store_at {n id off : Nat} {x : AV} {v : AV} {sa : St} {cur : AObj} (h : aeff s (.store n) [.ptr id off, x] = some (.val v sa)) (hc : s.get id = some cur) :
    ∃ ob, sa.get id = some ob ∧ ∀ s2 : St, s2.get id = some cur → aeff s2 (.store n) [.ptr id off, x] = some (.val v (s2.put id ob)) := by
  simp only [aeff] at h ⊢
  cases h1 : Nat.beq (lenL x.cells) n with
  | false => simp only [h1, cond_false] at h; cases h
  | true =>
    simp only [h1, cond_true] at h ⊢
    unfold writeCells at h ⊢
    rw [hc] at h
    cases cur <;> simp only at h <;> first | (cases h; done) | skip
    rename_i e cs frz
    cases h2 : (Nat.ble frz off && (Nat.ble (off + lenL x.cells) (lenL cs) && allOne x.cells)) with
    | false => rw [h2] at h; simp at h
    | true =>
      rw [h2] at h
      simp at h
      obtain ⟨rfl, rfl⟩ := h
      refine ⟨.cells e (setL cs off x.cells) frz, by rw [St.get_put, if_pos rfl], fun s2 h2' => ?_⟩
      rw [h2']
      simp only [h2, cond_true]

section
variable {C : Ctx} {N : Nat} {ds : List DOper} {es : List DEnt} {s0 : St} {t0 : Tm} {base nt : Nat} {θs : Th} {ss : St} {ws : World} {a0 a : Act} {L : Nat → Bool} {R : St} {c : Nat}

/-- a store at the end: what it finds -/
theorem DInv.wr_cur (hf : DFix P C N ds es s0 t0 base nt ss) (h : DInv P ds es s0 t0 base nt θs ss ws a0 L a w θ R c) {i : Nat} {d : DOper} (hd : ds[i]? = some d) (hLi : L i = false) (hready : ∀ j, testB d.before j = true → L j = true)
    {id : Nat} {ob cur : AObj} (he : es[i]? = some (.wr id ob)) {T : Tm} {S : St} {hh : List (Nat × AObj)} {em : Nat} {wl : List (Nat × AObj)} (hpre : Pre ds es s0 t0 i T S hh em wl)
    (hcur : curOf (lookW id wl) ((insHeld d.before base S hh).get id) = some cur) : R.get id = some cur := by
  have dsome : ∀ (k : Nat) (ob' : AObj), es[k]? = some (.wr id ob') → ∃ dk, ds[k]? = some dk := fun k ob' hk => ⟨_, List.getElem?_eq_getElem (by rw [← hf.hlen]; exact (List.getElem?_eq_some_iff.1 hk).1)⟩
  have later : ∀ (k : Nat) (ob' : AObj), i < k → es[k]? = some (.wr id ob') → L k = false := fun k ob' hlt hk => by
    cases hL : L k with
    | false => rfl
    | true =>
      obtain ⟨dk, hdk⟩ := dsome k ob' hk
      have := h.closed k dk hdk hL i (wrs_order hf.hwrs hd hdk he hk hlt)
      rw [hLi] at this; cases this
  have earlier : ∀ (k : Nat) (ob' : AObj), k < i → es[k]? = some (.wr id ob') → L k = true := fun k ob' hlt hk => by
    obtain ⟨dk, hdk⟩ := dsome k ob' hk
    exact hready k (wrs_order hf.hwrs hdk hd hk he hlt)
  have efi : ∀ (k : Nat), isEf es[k]? = true → k < i ∧ k < c := fun k hk => by
    obtain ⟨q1, q2⟩ := hf.wr_last he hk
    exact ⟨q1, (h.cut k hk).1 (hready k (q2 d hd))⟩
  have hS : S = lastS es s0 c := by
    rw [hpre.st]
    rcases Nat.le_total c i with hle | hle
    · exact lastS_eq hle fun k h1 h2 => by
        cases hk : isEf es[k]? with
        | false => rfl
        | true => have := (efi k hk).2; omega
    · exact (lastS_eq hle fun k h1 h2 => by
        cases hk : isEf es[k]? with
        | false => rfl
        | true => have := (efi k hk).1; omega).symm
  rw [h.spec]
  cases hlk : lookW id wl with
  | some ob0 =>
    rw [hlk] at hcur
    simp [curOf] at hcur
    subst hcur
    rw [hpre.wl] at hlk
    obtain ⟨k, q1, _, q3, q4⟩ := lastW_some hlk
    have hkL := earlier k ob0 q1 q3
    have hkl : k < ds.length := by rw [← hf.hlen]; exact (List.getElem?_eq_some_iff.1 q3).1
    cases hlw : lastW es L id ds.length with
    | none => exact absurd q3 (lastW_none.1 hlw k hkl hkL ob0)
    | some ob1 =>
      obtain ⟨k1, r1, r2, r3, r4⟩ := lastW_some hlw
      rw [specR_w hlw]
      rcases Nat.lt_trichotomy k1 k with hlt | rfl | hgt
      · exact absurd q3 (r4 k ob0 hlt hkl hkL)
      · rw [q3] at r3; simp at r3; rw [r3]
      · exfalso
        rcases Nat.lt_trichotomy k1 i with hlt' | rfl | hgt'
        · exact q4 k1 ob1 hgt hlt' rfl r3
        · rw [hLi] at r2; cases r2
        · rw [later k1 ob1 hgt' r3] at r2; cases r2
  | none =>
    rw [hlk] at hcur
    simp only [curOf] at hcur
    rw [hpre.wl] at hlk
    have hlw : lastW es L id ds.length = none := lastW_none.2 fun k hk hLk ob' hob => by
      rcases Nat.lt_trichotomy k i with hlt | rfl | hgt
      · exact lastW_none.1 hlk k hlt rfl ob' hob
      · rw [hLi] at hLk; cases hLk
      · rw [later k ob' hgt hob] at hLk; cases hLk
    rcases insHeld_get hcur with ⟨k, q1, q2, q3⟩ | q
    · obtain ⟨r1, ⟨v', r2⟩, r3⟩ := (hpre.held k cur).1 q2
      exact specR_a hlw (alAt_some.2 ⟨k, v', q1, r2, hready k q3, fun m hm hef => r3 m (efi m hef).1 hef⟩)
    · rw [hS] at q
      refine (specR_s hlw (alAt_none.2 fun k v' ob' hk hal hLk hni => ?_)).trans q
      have hkl : k < ds.length := by rw [← hf.hlen]; exact (List.getElem?_eq_some_iff.1 hal).1
      have := h.i1 k hni hkl
      rw [← hk, q] at this; cases this

theorem DInv.wr (hf : DFix P C N ds es s0 t0 base nt ss) (hps : ∀ id o, ss.get id = some o → θs.dom id) (h : DInv P ds es s0 t0 base nt θs ss ws a0 L a w θ R c) {i : Nat} {d : DOper} (hd : ds[i]? = some d) (hLi : L i = false) (hready : ∀ j, testB d.before j = true → L j = true) (hdst : ∀ x, d.dst = some x → x < nt)
    {id : Nat} {ob : AObj} (he : es[i]? = some (.wr id ob)) (hle : θ.Le θ') (h' : HRel P (CRt P) θ' (R.put id ob) w') (f : FRel θ R w θ' (R.put id ob) w') :
    DInv P ds es s0 t0 base nt θs ss ws a0 (Ladd L i) (a.put d.dst (conc θ' AV.undef)) w' θ' (R.put id ob) c := by
  have hil : i < ds.length := (List.getElem?_eq_some_iff.1 hd).1
  refine h.step hf.hrows hd he hready hdst hle wf_undef h' (FRel.trans hps h.fr f) ?_ ?_ h.i1 ?_ h.nx h.lim h.sd
  · intro k hk
    have : k ≠ i := by rintro rfl; rw [he] at hk; simp [isEf] at hk
    rw [Ladd_ne this]; exact h.cut k hk
  · intro id'
    rw [St.get_put]
    by_cases hid : id' = id
    · rw [if_pos hid]
      subst hid
      cases hlw : lastW es (Ladd L i) id' ds.length with
      | none => exact absurd he (lastW_none.1 hlw i hil (Ladd_self L i) ob)
      | some ob1 =>
        obtain ⟨k1, r1, r2, r3, r4⟩ := lastW_some hlw
        rw [specR_w hlw]
        rcases Nat.lt_trichotomy k1 i with hlt | rfl | hgt
        · exact absurd he (r4 i ob hlt hil (Ladd_self L i))
        · rw [he] at r3; simp at r3; rw [r3]
        · exfalso
          rw [Ladd_ne (by omega)] at r2
          have hdk : ds[k1]? = some ds[k1] := List.getElem?_eq_getElem r1
          have := h.closed k1 ds[k1] hdk r2 i (wrs_order hf.hwrs hd hdk he r3 hgt)
          rw [hLi] at this; cases this
    · rw [if_neg hid, h.spec]
      have hw : lastW es (Ladd L i) id' ds.length = lastW es L id' ds.length := lastW_congr fun k hk ⟨ob', hob⟩ => by
        have : k ≠ i := by rintro rfl; rw [he] at hob; simp at hob; exact hid hob.1.symm
        exact Ladd_ne this
      have ha : alAt ds es (Ladd L i) c base id' = alAt ds es L c base id' := alAt_congr fun k v' ob' hk hal => by
        have : k ≠ i := by rintro rfl; rw [he] at hal; simp at hal
        rw [Ladd_ne this]
      simp only [specR, hw, ha]
  · intro k hk hL hne hdom
    rcases f.new _ hdom with h1 | h1
    · exact h.i3 k hk hL h1
    · have := h.lim; omega

/-- nothing happens to memory -/
theorem DInv.still (hf : DFix P C N ds es s0 t0 base nt ss) (h : DInv P ds es s0 t0 base nt θs ss ws a0 L a w θ R c) {i : Nat} {d : DOper} {e : DEnt} (hd : ds[i]? = some d) (hready : ∀ j, testB d.before j = true → L j = true) (hdst : ∀ x, d.dst = some x → x < nt)
    (he : es[i]? = some e) (h1 : ∀ v ob, e ≠ .al v ob) (h2 : ∀ id ob, e ≠ .wr id ob) (h3 : ∀ v sa, e ≠ .ef v sa) (hwf : wf θ (valOf e)) :
    DInv P ds es s0 t0 base nt θs ss ws a0 (Ladd L i) (a.put d.dst (conc θ (valOf e))) w θ R c := by
  refine h.step hf.hrows hd he hready hdst (.refl θ) hwf h.hp h.fr ?_ (fun id => by rw [specR_still he h1 h2]; exact h.spec id) h.i1 (fun k hk hL _ => h.i3 k hk hL) h.nx h.lim h.sd
  intro k hk
  have : k ≠ i := by rintro rfl; rw [he, isEf_false h3] at hk; cases hk
  rw [Ladd_ne this]; exact h.cut k hk
end
end Go.Ab
namespace Go.Ab
variable {P : Program} {θ θ' θ'' : Th} {s s' s'' : St} {w w' w'' : World}
theorem aop_call {k : OpK} {l : List AV} {r : R} (h : aeff s k l = some r) (hr : ∀ v s', r ≠ .val v s') : aop s k l = some r := by
  rcases aeff_kind h with ⟨v, s', rfl⟩ | ⟨f, rfl, rfl⟩ | ⟨rfl, fv, l', rfl, hc⟩
  · exact absurd rfl (hr v s')
  · simp [aop, aread, aalloc, h]
  · simp [aop, aread, aalloc, h]
section
variable {C : Ctx} {N : Nat} {ds : List DOper} {es : List DEnt} {s0 : St} {t0 : Tm} {base nt : Nat} {θs : Th} {ss : St} {ws : World} {a0 a : Act} {L : Nat → Bool} {R : St} {c : Nat}

/-- one operation, whichever is next -/
theorem DInv.go (hf : DFix P C N ds es s0 t0 base nt ss) (hps : ∀ id o, ss.get id = some o → θs.dom id) (hgl : Glob P θs) (ih : ∀ m, m < N → Snd P C m) (h : DInv P ds es s0 t0 base nt θs ss ws a0 L a w θ R c) {ops : Array Oper} {ro : Option Nat} {Q : Exit → Act → World → Prop} {i : Nat} {d : DOper} {o0 : Oper}
    (hd : ds[i]? = some d) (ho : ops[i]? = some o0) (htr : trOper P ops o0 = some d.toAOper) (hLi : L i = false) (hready : ∀ j, testB d.before j = true → L j = true)
    {K : Act → World → Prop} (hK : ∀ a' w' θ' R' c', DInv P ds es s0 t0 base nt θs ss ws a0 (Ladd L i) a' w' θ' R' c' → K a' w') : wpOpIn (fw ro) 0 P ops Q i K a w := by
  have hg : Glob P θ := hgl.le h.fr.le
  obtain ⟨e, T, S, hh, em, wl, he, hpre, hop, hdst⟩ := hf.facts i d hd
  have hslot : ∀ x v, usesD d x = true → T.get x = some v → a.tmps[x]? = some (conc θ v) ∧ wf θ v := fun x v hu hx => h.slot hf.hrows hf.hbef hd hLi hready hpre hu hx
  have hguard : ∀ n bb u, d.guard = some (n, bb) → T.get n = some u → a.tmps[n]? = some (conc θ u) ∧ wf θ u := fun n bb u hgd hx => hslot n u (by
    unfold usesD
    rw [hgd]
    cases isSlot n d.args <;> simp [nbeq]) hx
  have hargs : ∀ n u, isSlot n d.args = true → T.get n = some u → a.tmps[n]? = some (conc θ u) ∧ wf θ u := fun n u hn hx => hslot n u (by unfold usesD; rw [hn]; rfl) hx
  simp only [wpOpIn, ho]
  unfold trOper at htr
  -- what is translated
  have hcase : ∃ g, guardOf ops o0.guard = some g ∧ d.guard = g ∧ d.dst = o0.dst ∧ ((∃ xs, trOp P o0 = some (d.k, xs) ∧ opds P xs = some d.args) ∨ (d.k = .bad "" ∧ d.args = [])) := by
    cases hto : trOp P o0 with
    | none =>
      simp only [hto] at htr
      cases hgd : guardOf ops o0.guard with
      | none => simp [hgd] at htr
      | some g =>
        simp [hgd] at htr
        exact ⟨g, rfl, by rw [← htr], by rw [← htr], .inr ⟨by rw [← htr], by rw [← htr]⟩⟩
    | some kx =>
      obtain ⟨k, xs⟩ := kx
      simp only [hto] at htr
      cases has : opds P xs with
      | none => simp [has] at htr
      | some as =>
        cases hgd : guardOf ops o0.guard with
        | none => simp [has, hgd] at htr
        | some g =>
          simp [has, hgd] at htr
          exact ⟨g, rfl, by rw [← htr], by rw [← htr], .inl ⟨xs, by rw [← htr], by rw [← htr]; exact has⟩⟩
  obtain ⟨g, hgd, hdg, hdd, hk⟩ := hcase
  have hwant : ∀ b, guardV T d.guard = some b → Region.wanted o0 (yielded ops a.tmps) = b := fun b hb => guard_used (fun n bb u hgg hx => hguard n bb u (hdg.trans hgg) hx) hgd (hdg ▸ hb)
  -- what is carried out is translated
  have live : (∃ args, evals T d.args = some args ∧ ((∃ v, aread S d.k args = some v) ∨ (∃ r, aalloc d.k args = some r) ∨ (∃ s' r, aeff s' d.k args = some r))) → ∃ xs, trOp P o0 = some (d.k, xs) ∧ opds P xs = some d.args := by
    rintro ⟨args, hev, hr⟩
    rcases hk with hk | ⟨k1, k2⟩
    · exact hk
    · exfalso
      rw [k2] at hev
      simp [evals] at hev
      subst hev
      rw [k1] at hr
      rcases hr with ⟨v, hr⟩ | ⟨r, hr⟩ | ⟨s', r, hr⟩
      · simp [aread] at hr
      · simp [aalloc] at hr
      · simp [aeff] at hr
  cases hop with
  | sk hgv =>
    rw [hwant false hgv]
    simp only [Bool.false_eq_true, if_false]
    refine ⟨fun _ _ => trivial, ?_⟩
    have := h.still hf hd hready hdst he (by simp) (by simp) (by simp) wf_undef
    rw [show valOf DEnt.sk = AV.undef from rfl, conc_undef, hdd] at this
    exact hK _ _ _ _ _ this
  | rd v args hgv hev hrd =>
    rw [hwant true hgv, if_pos rfl]
    obtain ⟨xs, hto, has⟩ := live ⟨args, hev, .inl ⟨v, hrd⟩⟩
    obtain ⟨hx, hwf⟩ := evals_used hg hargs has hev
    have hrR := hf.read h hd hLi hready he
    obtain ⟨er, hv⟩ := read_sound (ρ := a.eval) hto hx hwf h.hp (fun _ => rfl) hrR
    refine ⟨fun _ _ => trivial, ?_⟩
    rw [Oper.semAt_eq _ _ _ (not_defer hto), er, Oper.uponIn_value]
    have := h.still hf hd hready hdst he (by simp) (by simp) (by simp) hv
    rw [show valOf (DEnt.rd v args) = v from rfl, hdd] at this
    exact hK _ _ _ _ _ this
  | al args ob mk hgv hev hal =>
    rw [hwant true hgv, if_pos rfl]
    obtain ⟨xs, hto, has⟩ := live ⟨args, hev, .inr (.inl ⟨_, hal⟩)⟩
    obtain ⟨hx, hwf⟩ := evals_used hg hargs has hev
    obtain ⟨cob, cc, w', hm, hall⟩ := alloc_sound (CR := CRt P) (w := w) hto hx hwf hal
    have hil : i < ds.length := (List.getElem?_eq_some_iff.1 hd).1
    obtain ⟨er, hv, hor⟩ := hall (base + i) (h.i3 i hil hLi)
    refine ⟨fun _ _ => trivial, ?_⟩
    rw [Oper.semAt_eq _ _ _ (not_defer hto), er, Oper.uponIn_value]
    have := h.al hf hps hd hLi hready hdst he hm hv hor
    rw [hdd] at this
    exact hK _ _ _ _ _ this
  | wr args id ob cur sa hgv hev hem hne hsid hcur hef hsa hck =>
    rw [hwant true hgv, if_pos rfl]
    obtain ⟨xs, hto, has⟩ := live ⟨args, hev, .inr (.inr ⟨_, _, hef⟩)⟩
    obtain ⟨hx, hwf⟩ := evals_used hg hargs has hev
    obtain ⟨_, n, off, x, hkk, hargs'⟩ := storeId_undef hsid hef
    subst hargs'
    have hid : id = id := rfl
    rw [hkk] at hsid hef hto
    have hRc := h.wr_cur hf hd hLi hready he hpre hcur
    obtain ⟨ob', q1, q2⟩ := store_at hef (by rw [St.get_put, if_pos rfl])
    rw [hsa] at q1
    simp at q1
    subst q1
    have hR := q2 R hRc
    refine upon_does (not_defer hto) (eff_sound hto hx hwf h.hp hR) fun θ1 w1 g1 g2 g3 => ?_
    have := h.wr hf hps hd hLi hready hdst he g2.le g1 g2
    rw [hdd] at this
    exact hK _ _ _ _ _ this
  | ef args v sa hgv hev hem hns hcs =>
    rw [hwant true hgv, if_pos rfl]
    have hany : ∃ r, aeff (insHeld d.before base S hh) d.k args = some r := by
      rcases hcs with q | ⟨_, _, _, _, q, _⟩ | ⟨_, _, _, _, q, _⟩ <;> exact ⟨_, q⟩
    obtain ⟨r0, hr0⟩ := hany
    obtain ⟨xs, hto, has⟩ := live ⟨args, hev, .inr (.inr ⟨_, _, hr0⟩)⟩
    obtain ⟨hx, hwf⟩ := evals_used hg hargs has hev
    obtain ⟨hσ, hgo⟩ := h.ef hf hd hLi hready hdst he hpre hem
    have fin : ∀ θ' w', HRel P (CRt P) θ' sa w' → FRel θ (insHeld d.before base S hh) w θ' sa w' → wf θ' v → K (a.put o0.dst (conc θ' v)) w' := by
      intro θ' w' g1 g2 g3
      obtain ⟨R', c', hD⟩ := hgo θ' w' g1 g2 g3 hps
      rw [hdd] at hD
      exact hK _ _ _ _ _ hD
    rcases hcs with q | ⟨m, f, l, hm, q, hcl⟩ | ⟨m, id, l, hm, q, hcl⟩
    · exact upon_does (not_defer hto) (eff_sound hto hx hwf hσ q) fin
    · have hsn := op_sound (ρ := a.eval) hto hx hwf hσ (fun _ => rfl) (fun _ => rfl) (aop_call q (by simp))
      exact upon_call (not_defer hto) hsn.1 ((ih m hm).call f l _ v sa θ w hcl hσ hsn.2 hg).1 fin
    · have hsn := op_sound (ρ := a.eval) hto hx hwf hσ (fun _ => rfl) (fun _ => rfl) (aop_call q (by simp))
      obtain ⟨fn, tmps, ca, cb, e1, hr⟩ := (ih m hm).yield id l _ v sa θ w hcl hσ hsn.2.1 hg
      exact upon_yield (args := #[]) (not_defer hto) (hsn.1.trans e1) hr fin
end
end Go.Ab
namespace Go.Ab
variable {P : Program} {θ θ' θ'' : Th} {s s' s'' : St} {w w' w'' : World}

theorem allHeld_get {base : Nat} {s : St} : ∀ {h : List (Nat × AObj)} {id : Nat}, (∃ k o, (k, o) ∈ h ∧ id = base + k ∧ (allHeld base s h).get id = some o) ∨ ((∀ k o, (k, o) ∈ h → id ≠ base + k) ∧ (allHeld base s h).get id = s.get id)
  | [], id => .inr ⟨by simp, rfl⟩
  | (k, ob) :: l, id => by
    simp only [allHeld, St.get_put]
    by_cases e : id = base + k
    · exact .inl ⟨k, ob, by simp, e, by rw [if_pos e]⟩
    · rw [if_neg e]
      rcases allHeld_get (base := base) (s := s) (h := l) (id := id) with ⟨k', o, q1, q2, q3⟩ | ⟨q1, q2⟩
      · exact .inl ⟨k', o, by simp [q1], q2, q3⟩
      · refine .inr ⟨fun k' o h => ?_, q2⟩
        rcases List.mem_cons.1 h with h | h
        · simp at h; rw [h.1]; exact e
        · exact q1 k' o h
theorem allW_get {s : St} : ∀ {wl : List (Nat × AObj)} {id : Nat}, (allW s wl).get id = match lookW id wl with | some o => some o | none => s.get id
  | [], id => rfl
  | (k, ob) :: l, id => by
    simp only [allW, St.get_put, lookW, nbeq]
    by_cases e : id = k
    · subst e; simp
    · rw [if_neg e, allW_get]
      simp [Ne.symm e]
theorem allHeld_next {base : Nat} {s : St} : ∀ {h : List (Nat × AObj)}, (allHeld base s h).next = s.next ∧ (allHeld base s h).dfr = s.dfr
  | [] => ⟨rfl, rfl⟩
  | _ :: l => allHeld_next (h := l)
theorem allW_next {s : St} : ∀ {h : List (Nat × AObj)}, (allW s h).next = s.next ∧ (allW s h).dfr = s.dfr
  | [] => ⟨rfl, rfl⟩
  | _ :: l => allW_next (h := l)

/-- the end of a region that draws -/
theorem DInv.done {C : Ctx} {N : Nat} {ds : List DOper} {es : List DEnt} {s0 : St} {t0 : Tm} {base nt : Nat} {θs : Th} {ss : St} {ws : World} {a0 a : Act} {L : Nat → Bool} {R : St} {c : Nat}
    (hf : DFix P C N ds es s0 t0 base nt ss) (h : DInv P ds es s0 t0 base nt θs ss ws a0 L a w θ R c) (hall : ∀ k, k < ds.length → L k = true) {T' : Tm} {S' : St} {hh wl : List (Nat × AObj)} {em : Nat} (hpre : Pre ds es s0 t0 ds.length T' S' hh em wl) :
    CRes P θs ss ws a0 nt T' (allW (allHeld base S' hh) wl) θ a w := by
  have lt : ∀ {k : Nat} {e : DEnt}, es[k]? = some e → k < ds.length := fun hk => by rw [← hf.hlen]; exact (List.getElem?_eq_some_iff.1 hk).1
  have efc : ∀ k, isEf es[k]? = true → k < ds.length ∧ k < c := fun k hk => by
    have hkl : k < ds.length := by
      cases hek : es[k]? with
      | none => rw [hek] at hk; simp [isEf] at hk
      | some e => exact lt hek
    exact ⟨hkl, (h.cut k hk).1 (hall k hkl)⟩
  have hS : S' = lastS es s0 c := by
    rw [hpre.st]
    rcases Nat.le_total c ds.length with hle | hle
    · exact lastS_eq hle fun k h1 h2 => by
        cases hk : isEf es[k]? with
        | false => rfl
        | true => have := (efc k hk).2; omega
    · exact (lastS_eq hle fun k h1 h2 => by
        cases hk : isEf es[k]? with
        | false => rfl
        | true => have := (efc k hk).1; omega).symm
  have notins : ∀ k, NotIns ds es ds.length k ↔ NotIns ds es c k := fun k => ⟨fun hn m _ hef => hn m (efc m hef).1 hef, fun hn m _ hef => hn m (efc m hef).2 hef⟩
  have hget : ∀ id, (allW (allHeld base S' hh) wl).get id = R.get id := by
    intro id
    rw [allW_get, hpre.wl, h.spec]
    have hw : lastW es (fun _ => true) id ds.length = lastW es L id ds.length := lastW_congr fun k hk _ => (hall k hk).symm
    rw [hw]
    cases hlw : lastW es L id ds.length with
    | some ob => rw [specR_w hlw]
    | none =>
      simp only
      rcases allHeld_get (base := base) (s := S') (h := hh) (id := id) with ⟨k, o, q1, q2, q3⟩ | ⟨q1, q2⟩
      · obtain ⟨r1, ⟨v, r2⟩, r3⟩ := (hpre.held k o).1 q1
        rw [q3, specR_a hlw (alAt_some.2 ⟨k, v, q2, r2, hall k r1, (notins k).1 r3⟩)]
      · rw [q2, hS]
        refine (specR_s hlw (alAt_none.2 fun k v ob hk hal hLk hni => ?_)).symm
        exact q1 k ob ((hpre.held k ob).2 ⟨lt hal, ⟨v, hal⟩, (notins k).2 hni⟩) hk
  have hn : (allW (allHeld base S' hh) wl).next = R.next := by rw [allW_next.1, allHeld_next.1, hS, h.nx]
  have hd : (allW (allHeld base S' hh) wl).dfr = ss.dfr := by rw [allW_next.2, allHeld_next.2, hS, h.sd]
  refine ⟨⟨h.tsz, ?_, ?_⟩, h.hp.ext hget hn, ?_, [], by simpa using hd, by simpa using h.dfr, by simp⟩
  · intro x v hx
    rcases hpre.tm x v hx with ⟨k, d, e, hk, hdk, hek, hdst, rfl⟩ | ⟨h0, hno⟩
    · exact (h.tdone k d e x hdk hek (hall k hk) hdst).1
    · exact (h.told x v h0 fun k d hdk _ => hno k d (List.getElem?_eq_some_iff.1 hdk).1 hdk).1
  · intro x v hx
    rcases hpre.tm x v hx with ⟨k, d, e, hk, hdk, hek, hdst, rfl⟩ | ⟨h0, hno⟩
    · exact (h.tdone k d e x hdk hek (hall k hk) hdst).2
    · exact (h.told x v h0 fun k d hdk _ => hno k d (List.getElem?_eq_some_iff.1 hdk).1 hdk).2
  · have := h.fr.ext (s'' := { (allW (allHeld base S' hh) wl) with dfr := ss.dfr }) hget hn (by rw [h.fr.dfr])
    exact this
end Go.Ab
namespace Go.Ab
variable {P : Program} {θ θ' θ'' : Th} {s s' s'' : St} {w w' w'' : World}

theorem draw_sound (hm : P.follows .mixedOrders = true) {C : Ctx} {n : Nat} (ih : ∀ m, m < n + 1 → Snd P C m) : DrawSnd P C (n + 1) := by
  intro ro rd nt id ops c t s e t' s' θ a w Q h htr hrd ht hp hg hQ
  simp only [trC, if_true] at htr
  cases hco : trCoin P ops.toList with
  | some xy =>
    obtain ⟨x, y⟩ := xy
    simp [hco] at htr
    subst htr
    simp only [aexec, nble] at h
    by_cases hx : x + 1 ≤ nt
    · by_cases hy : y + 1 ≤ nt
      · simp [hx, hy] at h
        obtain ⟨rfl, rfl, rfl⟩ := h
        obtain ⟨hc⟩ := coinOps hco
        exact coin_sound hm hc (by omega) (by omega) ht hp hQ
      · simp [hx, hy] at h
    · simp [hx] at h
  | none =>
    simp only [hco] at htr
    cases hl : trOpers P ops ops.toList with
    | none => simp [hl] at htr
    | some l =>
      simp [hl] at htr
      obtain ⟨bl1, bl2, bl3⟩ := befores_spec ops.toList []
      obtain ⟨ol1, ol2⟩ := trOpers_spec hl
      have hlb : l.length = (befores [] ops.toList).length := by rw [bl1, ol1]; simp
      obtain ⟨td1, td2⟩ := trDs_spec l (befores [] ops.toList) hlb
      generalize hds : trDs l (befores [] ops.toList) = ds at htr td1 td2
      subst htr
      have hdl : ds.length = ops.size := by rw [td1, ol1]; simp
      simp only [aexec] at h
      cases hro : (rowsOk ds 0 ds && befOk 0 ds) with
      | false => simp [hro] at h
      | true =>
        simp only [hro, cond_true] at h
        simp only [Bool.and_eq_true] at hro
        cases had : adpass C nt s.next (s.next + lenL ds) n 0 ds t { s with next := s.next + lenL ds } [] 0 [] with
        | none => simp [had] at h
        | some r =>
          obtain ⟨es, t1, s1, held, wl⟩ := r
          simp only [had] at h
          cases hck : (wrsOk (wrsOf 0 ds es) && stables (wrsOf 0 ds es) (effsOf 0 ds es) { s with next := s.next + lenL ds } 0 ds es) with
          | false => simp only [hck, cond_false] at h; cases h
          | true =>
            simp only [hck, cond_true] at h
            simp at h
            obtain ⟨rfl, rfl, rfl⟩ := h
            simp only [Bool.and_eq_true] at hck
            rw [lenL_eq] at had hck
            have hbef : ∀ m d, ds[m]? = some d → ∀ k, testB d.before k = true → k < m := fun m d hd k hk => by
              have := befOk_spec hro.2 m d hd
              rw [Nat.zero_add] at this
              exact testB_lt this hk
            have pre0 : Pre ds es { s with next := s.next + ds.length } t 0 t { s with next := s.next + ds.length } [] 0 [] :=
              ⟨fun x v hx => .inr ⟨hx, fun k d hk => by omega⟩, rfl, by simp, fun k => by simp [testB_zero], fun id => rfl⟩
            obtain ⟨facts, ⟨em', preN⟩, hel⟩ := adpass_facts (N := n + 1) hbef n 0 ds t _ [] 0 [] es t1 s1 held wl had rfl rfl pre0 (by omega) (by omega)
            have hf : DFix P C (n + 1) ds es { s with next := s.next + ds.length } t s.next nt s :=
              ⟨hel, fun i j x y hx hy => by
                have h1 := rowsOk_spec hro.1 i x hx
                rw [Nat.zero_add] at h1
                have h2 := rowOk_spec h1 j y hy
                rw [Nat.zero_add] at h2
                exact h2, hbef, fun k o ho => facts k o (Nat.zero_le _) ho, hck.1, hck.2, Nat.le_refl _⟩
            -- the operations
            have hop : ∀ (i : Nat) (o : Oper), ops[i]? = some o → ∃ d, ds[i]? = some d ∧ trOper P ops o = some d.toAOper ∧ ∀ j, testB d.before j = true ↔ ∃ ed ∈ o.after.toList, Region.binds .any ed = true ∧ (ed.on = j ∨ testB ((nth ((befores [] ops.toList).take i) ed.on).getD 0) j = true) := by
              intro i o ho
              have ho' : ops.toList[i]? = some o := by rw [Array.getElem?_toList]; exact ho
              obtain ⟨ao, h1, h2⟩ := ol2 i o ho'
              have h3 := bl3 i o ho'
              simp only [List.length_nil, Nat.zero_add] at h3
              exact ⟨_, td2 i ao _ h1 h3, h2, fun j => bef1_spec⟩
            have hbs : ∀ (i : Nat) (d : DOper), ds[i]? = some d → (befores [] ops.toList)[i]? = some d.before := by
              intro i d hd
              have hi : i < l.length := by rw [← td1]; exact (List.getElem?_eq_some_iff.1 hd).1
              have hb : i < (befores [] ops.toList).length := by rw [← hlb]; exact hi
              have := td2 i l[i] (befores [] ops.toList)[i] (List.getElem?_eq_getElem hi) (List.getElem?_eq_getElem hb)
              rw [hd] at this
              simp at this
              rw [this]
              exact List.getElem?_eq_getElem hb
            let LL : Array Bool → Nat → Bool := fun listed k => listed.getD k false
            refine wpIn_region_any hm (wpAny_inv (fun listed a' w' => ∃ θ' R' c', DInv P ds es { s with next := s.next + ds.length } t s.next nt θ s w a (LL listed) a' w' θ' R' c') ?_ ?_ ?_ _ _ _ _ (by simp) ?_ ?_)
            · intro i o ho ed hed hbd
              obtain ⟨d, hd, _, hb⟩ := hop i o ho
              exact hbef i d hd ed.on ((hb ed.on).2 ⟨ed, by simpa using hed, hbd, .inl rfl⟩)
            · rintro listed a' w' i hls ⟨θ1, R1, c1, hD⟩ hi
              obtain ⟨hun, o, ho, hal⟩ := mem_ready.1 hi
              obtain ⟨d, hd, htr, hb⟩ := hop i o ho
              have hil : i < listed.size := by rw [hls]; exact (Array.getElem?_eq_some_iff.1 ho).1
              have hLi : LL listed i = false := by
                simp [LL, Array.getD_eq_getD_getElem?, hil] at hun ⊢
                exact hun
              have hready : ∀ j, testB d.before j = true → LL listed j = true := by
                intro j hj
                obtain ⟨ed, hed, hbd, hc⟩ := (hb j).1 hj
                have hon := hal ed (by simpa using hed) hbd
                rcases hc with rfl | hc
                · exact hon
                · have hlt : ed.on < i := hbef i d hd ed.on ((hb ed.on).2 ⟨ed, hed, hbd, .inl rfl⟩)
                  have hdl' : ed.on < ds.length := by rw [hdl]; have := (Array.getElem?_eq_some_iff.1 ho).1; omega
                  have hde := hbs ed.on ds[ed.on] (List.getElem?_eq_getElem hdl')
                  rw [nth_eq, List.getElem?_take_of_lt hlt, hde] at hc
                  exact hD.closed ed.on _ (List.getElem?_eq_getElem hdl') hon j hc
              refine hD.go hf hp.dom hg (fun m hm => ih m hm) hd ho htr hLi hready fun a2 w2 θ2 R2 c2 h2 => ⟨θ2, R2, c2, ?_⟩
              have hLL : LL (listed.setIfInBounds i true) = Ladd (LL listed) i := by
                funext k
                simp only [LL, getD_set listed i k hil, Ladd, nbeq]
                by_cases hk : k = i <;> simp [hk]
              rw [hLL]; exact h2
            · rintro listed a' w' hls ⟨θ1, R1, c1, hD⟩ hall
              exact hQ θ1 a' w' (hD.done hf (fun k hk => by
                have := hall k (by rw [← hdl]; exact hk)
                simp [LL, Array.getD_eq_getD_getElem?, this]) preN)
            · have hL0 : ∀ k, LL (Array.replicate ops.size false) k = false := fun k => by
                simp only [LL, Array.getD_eq_getD_getElem?]
                by_cases hk : k < ops.size <;> simp [hk]
              have hpw : HRel P (CRt P) θ { s with next := s.next + ds.length } { w with drawn := w.drawn + 1 } := (hp.sub (s' := { s with next := s.next + ds.length }) (fun _ _ h => h) (Nat.le_add_right _ _)).world (w' := { w with drawn := w.drawn + 1 }) rfl
              have hfw : FRel θ s w θ { s with next := s.next + ds.length } { w with drawn := w.drawn + 1 } :=
                ⟨.refl θ, Nat.le_add_right _ _, fun _ o h => .inl ⟨o, h⟩, rfl, rfl, rfl, Nat.le_refl _, fun _ _ _ => rfl, fun id o h => .inr ⟨id, o, h, rfl⟩, fun _ _ h => ⟨h, rfl⟩, rfl, fun _ h => .inl h⟩
              refine ⟨θ, { s with next := s.next + ds.length }, 0, hpw, hfw, rfl, ?_, ?_, ?_, ?_, ?_, rfl, Nat.le_refl _, rfl, ht.size, ?_, ?_⟩
              · intro k _; simp [hL0]
              · intro k d _ hL; rw [hL0] at hL; cases hL
              · intro id
                have hw : lastW es (LL (Array.replicate ops.size false)) id ds.length = none := lastW_none.2 fun k _ hL => by rw [hL0] at hL; cases hL
                have ha : alAt ds es (LL (Array.replicate ops.size false)) 0 s.next id = none := alAt_none.2 fun k v ob _ _ hL => by rw [hL0] at hL; cases hL
                rw [specR_s hw ha]; rfl
              · intro k _ _
                cases hs : s.get (s.next + k) with
                | none => exact hs
                | some o => have := hp.lt _ (hp.dom _ o hs); omega
              · intro k _ _ hd; have := hp.lt _ hd; omega
              · intro k d e x _ _ hL; rw [hL0] at hL; cases hL
              · intro x v hx _; exact ⟨ht.at' x v hx, ht.wf x v hx⟩
            · simp [List.count_replicate]

/-- **THE ABSTRACT MACHINE IS SOUND.** -/
theorem sound (hm : P.follows .mixedOrders = true) {C : Ctx} (hC : COk P C) : ∀ n, Snd P C n := snd_all hC fun n ih => draw_sound hm ih
end Go.Ab
/-! Calls that were run before: what is known of them is used again. -/
namespace Go.Ab

def objIn (a : AObj) : Option AObj → Bool
  | some b => eqObj a b
  | none => false
def isRo : Option AObj → Bool
  | some (.ro _) => true
  | _ => false
/-- every object of one memory lies in another one -/
def subH : Tr AObj → Tr AObj → Bool
  | .nil, _ => true
  | .node v l r, .node v' l' r' => (match v with | none => true | some a => objIn a v') && (subH l l' && subH r r')
  | .node v l r, .nil => (match v with | none => true | some _ => false) && (subH l .nil && subH r .nil)
/-- every object that is only read lies in another one, too -/
def roH : Tr AObj → Tr AObj → Bool
  | .nil, _ => true
  | .node v l r, .node v' l' r' => cond (isRo v) v'.isSome true && (roH l l' && roH r r')
  | .node v l r, .nil => !(isRo v) && (roH l .nil && roH r .nil)

theorem objIn_eq {a : AObj} {x : Option AObj} (h : objIn a x = true) : x = some a := by
  cases x with
  | none => cases h
  | some b => rw [eqObj_eq _ _ h]

theorem subH_get : ∀ (a b : Tr AObj) (k : Nat) (o : AObj), subH a b = true → a.get k = some o → b.get k = some o
  | .nil, _, _, _, _, h => by simp [Tr.get] at h
  | .node v l r, .node v' l' r', k, o, hs, h => by
    simp only [subH, Bool.and_eq_true] at hs
    obtain ⟨h1, h2, h3⟩ := hs
    simp only [Tr.get] at h ⊢
    cases hk : Nat.beq k 0 with
    | true =>
      simp only [hk, cond_true] at h ⊢
      subst h
      exact objIn_eq h1
    | false =>
      simp only [hk, cond_false] at h ⊢
      cases hp : Nat.beq (k % 2) 1 with
      | true => simp only [hp, cond_true] at h ⊢; exact subH_get l l' _ o h2 h
      | false => simp only [hp, cond_false] at h ⊢; exact subH_get r r' _ o h3 h
  | .node v l r, .nil, k, o, hs, h => by
    exfalso
    simp only [subH, Bool.and_eq_true] at hs
    obtain ⟨h1, h2, h3⟩ := hs
    simp only [Tr.get] at h
    cases hk : Nat.beq k 0 with
    | true =>
      simp only [hk, cond_true] at h
      subst h
      simp at h1
    | false =>
      simp only [hk, cond_false] at h
      cases hp : Nat.beq (k % 2) 1 with
      | true => simp only [hp, cond_true] at h; have := subH_get l .nil _ o h2 h; simp [Tr.get] at this
      | false => simp only [hp, cond_false] at h; have := subH_get r .nil _ o h3 h; simp [Tr.get] at this

theorem roH_get : ∀ (a b : Tr AObj) (k : Nat) (cs : List AV), roH a b = true → a.get k = some (.ro cs) → ∃ o, b.get k = some o
  | .nil, _, _, _, _, h => by simp [Tr.get] at h
  | .node v l r, .node v' l' r', k, cs, hs, h => by
    simp only [roH, Bool.and_eq_true] at hs
    obtain ⟨h1, h2, h3⟩ := hs
    simp only [Tr.get] at h ⊢
    cases hk : Nat.beq k 0 with
    | true =>
      simp only [hk, cond_true] at h ⊢
      subst h
      simp only [isRo, cond_true] at h1
      exact Option.isSome_iff_exists.1 h1
    | false =>
      simp only [hk, cond_false] at h ⊢
      cases hp : Nat.beq (k % 2) 1 with
      | true => simp only [hp, cond_true] at h ⊢; exact roH_get l l' _ cs h2 h
      | false => simp only [hp, cond_false] at h ⊢; exact roH_get r r' _ cs h3 h
  | .node v l r, .nil, k, cs, hs, h => by
    exfalso
    simp only [roH, Bool.and_eq_true] at hs
    obtain ⟨h1, h2, h3⟩ := hs
    simp only [Tr.get] at h
    cases hk : Nat.beq k 0 with
    | true =>
      simp only [hk, cond_true] at h
      subst h
      simp [isRo] at h1
    | false =>
      simp only [hk, cond_false] at h
      cases hp : Nat.beq (k % 2) 1 with
      | true => simp only [hp, cond_true] at h; obtain ⟨o, ho⟩ := roH_get l .nil _ cs h2 h; simp [Tr.get] at ho
      | false => simp only [hp, cond_false] at h; obtain ⟨o, ho⟩ := roH_get r .nil _ cs h3 h; simp [Tr.get] at ho

/-- one memory is a part of another one, with all that is only read -/
structure Part (a b : St) : Prop where
  sub : ∀ k o, a.get k = some o → b.get k = some o
  ro : ∀ k cs, b.get k = some (.ro cs) → a.get k = some (.ro cs)
  next : b.next ≤ a.next
def partB (a b : St) : Bool := Nat.ble b.next a.next && (subH a.heap b.heap && roH b.heap a.heap)
theorem part_of {a b : St} (h : partB a b = true) : Part a b := by
  simp only [partB, Bool.and_eq_true, nble, decide_eq_true_eq] at h
  obtain ⟨h1, h2, h3⟩ := h
  have hs : ∀ k o, a.get k = some o → b.get k = some o := fun k o => subH_get _ _ k o h2
  refine ⟨hs, fun k cs hk => ?_, h1⟩
  obtain ⟨o, ho⟩ := roH_get _ _ k cs h3 hk
  have := hs k o ho
  rw [hk] at this
  rw [this]; exact ho

variable {P : Program} {θ θ' : Th} {s s' s0 s1 : St} {w w' : World}

theorem FRel.parts (h : FRel θ s0 w θ' s1 w') (h0 : Part s0 s) (h1 : Part s' s1) (hd : s'.dfr = s.dfr) : FRel θ s w θ' s' w' :=
  ⟨h.le, Nat.le_trans h0.next (Nat.le_trans h.next h1.next),
   fun id o hi => (h.fresh id o (h1.sub id o hi)).imp (fun ⟨o0, ho⟩ => ⟨o0, h0.sub id o0 ho⟩) (fun x => x),
   h.tape, h.os, h.output, h.size, fun b hb hn => h.frame b hb (fun id o hi => hn id o (h0.sub id o hi)),
   fun id o hi => (h.wher id o (h1.sub id o hi)).imp (fun x => x) (fun ⟨i0, o0, hi0, e⟩ => ⟨i0, o0, h0.sub i0 o0 hi0, e⟩),
   fun id cs hi => ⟨h1.ro id cs (h.ro id cs (h0.ro id cs hi)).1, (h.ro id cs (h0.ro id cs hi)).2⟩, hd,
   fun id hi => (h.new id hi).imp (fun x => x) (fun x => Nat.le_trans h0.next x)⟩

structure Memo where
  f : Nat
  args : List AV
  s0 : St
  v : AV
  s1 : St

def Memo.look (m : Memo) (args : List AV) (s : St) : Option (AV × St) :=
  cond (eqAVL args m.args && partB m.s0 s) (some (m.v, { m.s1 with dfr := s.dfr })) none
def memoAll (f : Nat) : List Memo → List AV → St → Option (AV × St)
  | [], _, _ => none
  | m :: ms, args, s => cond (Nat.beq m.f f) (match m.look args s with | some r => some r | none => memoAll f ms args s) (memoAll f ms args s)
def inMemo (f : Nat) : List Memo → Bool
  | [] => false
  | m :: ms => cond (Nat.beq m.f f) true (inMemo f ms)
def Ctx.memo (C : Ctx) (ms : List Memo) : Ctx :=
  { fns := C.fns, intr := fun f => match C.intr f with | some g => some g | none => cond (inMemo f ms) (some (memoAll f ms)) none }

/-- the run of a call, as a test -/
def runs (C : Ctx) (n : Nat) (m : Memo) : Bool :=
  match acall C n m.f m.args m.s0 with
  | some (v, s) => eqAV v m.v && partB m.s1 s
  | none => false

def MemoOk (P : Program) (m : Memo) : Prop :=
  ∀ args s v s' θ w, m.look args s = some (v, s') → HRel P (CRt P) θ s w → wfL θ args → Glob P θ → CallDone P 0 m.f (concL θ args).toArray w (Post P θ s w v s')

theorem Post.parts {v : AV} {e : Ending} (h : Post P θ s0 w v s1 e w') (h0 : Part s0 s) (h1 : Part s' s1) (hd : s'.dfr = s.dfr) : Post P θ s w v s' e w' := by
  cases e with
  | returned x =>
    obtain ⟨θ', hx, hv, hh, hf⟩ := h
    exact ⟨θ', hx, hv, hh.sub h1.sub h1.next, hf.parts h0 h1 hd⟩
  | panicked => exact h
  | outgrown => exact h

theorem CallDone.mono {m : Nat} {f : FuncId} {args : Array Value} {R R' : Ending → World → Prop} (h : CallDone P m f args w R) (hr : ∀ e w', R e w' → R' e w') : CallDone P m f args w R' := by
  rcases h with ⟨h1, h2⟩ | ⟨v, w1, h1, h2⟩
  · exact .inl ⟨h1, h2.mono hr⟩
  · exact .inr ⟨v, w1, h1, hr _ _ h2⟩

theorem memo_ok {C : Ctx} {n : Nat} (hS : Snd P C n) {m : Memo} (h : runs C n m = true) : MemoOk P m := by
  intro args s v s' θ w hl hp hw hg
  unfold runs at h
  cases ha : acall C n m.f m.args m.s0 with
  | none => simp [ha] at h
  | some r =>
    obtain ⟨v1, s1⟩ := r
    simp only [ha, Bool.and_eq_true] at h
    obtain ⟨hv, hp1⟩ := h
    have hv := eqAV_eq _ _ hv
    subst hv
    unfold Memo.look at hl
    cases hc : (eqAVL args m.args && partB m.s0 s) with
    | false => simp [hc] at hl
    | true =>
      simp [hc] at hl
      obtain ⟨rfl, rfl⟩ := hl
      simp only [Bool.and_eq_true] at hc
      have hargs := eqAVL_eq _ _ hc.1
      subst hargs
      have p0 := part_of hc.2
      have p1 := part_of hp1
      have := (hS.call m.f m.args m.s0 m.v s1 θ w (by rw [ha]) (hp.sub p0.sub p0.next) hw hg).1
      exact this.mono fun e w' he => he.parts p0 (s' := { m.s1 with dfr := s.dfr }) ⟨p1.sub, p1.ro, p1.next⟩ rfl

theorem memoAll_ok {f : Nat} : ∀ {ms : List Memo}, (∀ m ∈ ms, MemoOk P m) → ∀ args s v s' θ w, memoAll f ms args s = some (v, s') → HRel P (CRt P) θ s w → wfL θ args → Glob P θ →
    CallDone P 0 f (concL θ args).toArray w (Post P θ s w v s')
  | [], _, args, s, v, s', θ, w, h, _, _, _ => by simp [memoAll] at h
  | m :: ms, hm, args, s, v, s', θ, w, h, hp, hw, hg => by
    have ih := memoAll_ok (f := f) (ms := ms) (fun m hm' => hm m (List.mem_cons_of_mem _ hm')) args s v s' θ w
    simp only [memoAll] at h
    cases hf : Nat.beq m.f f with
    | false => simp only [hf, cond_false] at h; exact ih h hp hw hg
    | true =>
      simp only [hf, cond_true] at h
      have e : m.f = f := Nat.eq_of_beq_eq_true hf
      cases hl : m.look args s with
      | none => simp only [hl] at h; exact ih h hp hw hg
      | some r =>
        simp only [hl, Option.some.injEq] at h
        subst h
        rw [← e]
        exact hm m (List.mem_cons_self ..) args s v s' θ w hl hp hw hg

theorem cok_memo {C : Ctx} (h : COk P C) {ms : List Memo} (hm : ∀ m ∈ ms, MemoOk P m) : COk P (C.memo ms) := by
  refine ⟨h.fns, ?_⟩
  intro f g hi
  simp only [Ctx.memo] at hi
  cases hc : C.intr f with
  | some g' =>
    simp only [hc, Option.some.injEq] at hi
    subst hi
    exact h.intr f g' hc
  | none =>
    simp only [hc] at hi
    cases hb : inMemo f ms with
    | false => simp [hb] at hi
    | true =>
      simp only [hb, cond_true, Option.some.injEq] at hi
      subst hi
      exact memoAll_ok hm
end Go.Ab
/-! The functions whose bodies are not run: what is told of them is so. -/
namespace Go.Ab
variable {P : Program} {θ θ' : Th} {s s' : St} {w w' : World}

theorem post_same {v : AV} (hp : HRel P (CRt P) θ s w) (hw : wf θ v) {x : Value} (hx : x = conc θ v) : Post P θ s w v s (.returned x) w := ⟨θ, hx, hw, hp, FRel.refl θ s w⟩
/-- a function without a body answers at once -/
theorem done_value {f : FuncId} {args : Array Value} {v : AV} {x : Value} (hr : (callFunc f args).run P w = .ok (.value x) w) (hp : HRel P (CRt P) θ s w) (hw : wf θ v) (hx : x = conc θ v) :
    CallDone P 0 f args w (Post P θ s w v s) := .inr ⟨x, w, hr, post_same hp hw hx⟩
theorem done_calls {f : FuncId} {args : Array Value} {R : Ending → World → Prop} (he : (callFunc f args).run P w = .ok (.enter f args) w) (hc : Calls P f args w R) : CallDone P 0 f args w R :=
  .inl ⟨he, callsIn_wide.2 hc⟩

/-- what is asked of such a function -/
def IntrOk (P : Program) (f : FuncId) (g : List AV → St → Option (AV × St)) : Prop :=
  ∀ args s v s' θ w, g args s = some (v, s') → HRel P (CRt P) θ s w → wfL θ args → Glob P θ → CallDone P 0 f (concL θ args).toArray w (Post P θ s w v s')

section
variable {f : FuncId} {fn : Func}
/-- a function without a body, whose entry is e -/
structure IsExt (P : Program) (f : FuncId) (fn : Func) (e : Array Value → Sem Value) : Prop where
  func : P.funcs[f]? = some fn
  name : (fn.name == "runtime.NumGoroutine") = false
  body : fn.body.isNone = true
  next : Extern.findNext fn = none
  find : Extern.find fn = some e

theorem noEscape_ok (h : IsExt P f fn Extern.AbiNoEscape.same) : IntrOk P f inNoEscape := by
  intro args s v s' θ w hi hp hw hg
  match args, hi with
  | [a], hi =>
    simp only [inNoEscape, Option.some.injEq, Prod.mk.injEq] at hi
    obtain ⟨rfl, rfl⟩ := hi
    refine done_value ?_ hp hw.1 rfl
    rw [run_callFunc_extern h.func h.name h.body h.next h.find]
    rfl
  | [], hi => simp [inNoEscape] at hi
  | _ :: _ :: _, hi => simp [inNoEscape] at hi

theorem fbyte_eq (c : Nat) (b : UInt8) (hb : b.toNat = c) : ∀ (l : List UInt8) (n : Nat), fbyte c l n = if Lib.indexByte l b = -1 then none else some (n + (Lib.indexByte l b).toNat)
  | [], n => by simp [fbyte, Lib.indexByte]
  | x :: l, n => by
    have ih := fbyte_eq c b hb l (n + 1)
    have hge := Lib.indexByte_ge l b
    simp only [fbyte, Lib.indexByte]
    by_cases e : x = b
    · subst e
      have : Nat.beq x.toNat c = true := beq_t hb
      simp [this]
    · have h1 : Nat.beq x.toNat c = false := beq_f (fun h => e (UInt8.toNat_inj.1 (h.trans hb.symm)))
      have h2 : (x == b) = false := by simpa using e
      simp only [h1, cond_false, ih, h2, Bool.false_eq_true, if_false]
      by_cases h3 : Lib.indexByte l b = -1
      · simp [h3]
      · have h4 : (Lib.indexByte l b == -1) = false := by simpa using h3
        have h5 : ¬ (Lib.indexByte l b + 1 = -1) := by omega
        simp [h3, h5]
        omega
theorem optI_fbyte {c : Nat} (hc : c ≤ 255) (l : List UInt8) : optI (fbyte c l 0) = Lib.indexByte l (Int.ofNat c).toNat.toUInt8 := by
  have hb : ((Int.ofNat c).toNat.toUInt8).toNat = c := by simp; omega
  rw [fbyte_eq c _ hb l 0]
  have hge := Lib.indexByte_ge l (Int.ofNat c).toNat.toUInt8
  split
  · rename_i h; rw [h]; rfl
  · simp only [optI]
    have : (Int.ofNat (0 + (Lib.indexByte l (Int.ofNat c).toNat.toUInt8).toNat)) = ((Lib.indexByte l (Int.ofNat c).toNat.toUInt8).toNat : Int) := by simp
    rw [this]; omega

theorem indexByte_ok (h : IsExt P f fn Extern.BytealgIndexByte.indexByte) : IntrOk P f inIndexByte := by
  intro args s v s' θ w hi hp hw hg
  unfold inIndexByte at hi
  split at hi
  · rename_i l c
    cases hc : Nat.ble c 255 with
    | false => simp [hc] at hi
    | true =>
      simp [hc] at hi
      obtain ⟨rfl, rfl⟩ := hi
      rw [nble] at hc
      simp at hc
      refine done_value (x := .int .i64 (firstIdx ⟨l.toArray⟩ (Int.ofNat c).toNat.toUInt8)) ?_ hp (by simp [wf]) ?_
      · rw [run_callFunc_extern h.func h.name h.body h.next h.find]
        have := run_indexByte_string (P := P) ⟨l.toArray⟩ (Int.ofNat c) w
        simp only [concL, conc]
        rw [this]
        rfl
      · rw [Lib.firstIdx_eq, ← optI_fbyte hc]; simp [conc]
  · cases hi
end

theorem preB_eq : ∀ (p l : List UInt8), preB p l = p.isPrefixOf l
  | [], l => by simp [preB]
  | a :: p, [] => by simp [preB]
  | a :: p, b :: l => by
    have ih := preB_eq p l
    simp only [preB, List.isPrefixOf, ih]
    by_cases e : a = b
    · subst e; simp [nbeq]
    · have h1 : Nat.beq a.toNat b.toNat = false := beq_f (fun h => e (UInt8.toNat_inj.1 h))
      have h2 : (a == b) = false := by simpa using e
      simp [h1, h2]
theorem fsub_eq (p : List UInt8) : ∀ (l : List UInt8) (n : Nat), fsub p l n = if Lib.index l p = -1 then none else some (n + (Lib.index l p).toNat)
  | [], n => by
    simp only [fsub, Lib.index, preB_eq]
    cases p <;> simp [List.isPrefixOf]
  | x :: l, n => by
    have ih := fsub_eq p l (n + 1)
    have hge := Lib.index_ge l p
    simp only [fsub, Lib.index, preB_eq]
    by_cases e : p.isPrefixOf (x :: l) = true
    · simp [e]
    · have e := Bool.eq_false_iff.2 e
      simp only [e, cond_false, ih, Bool.false_eq_true, if_false]
      by_cases h3 : Lib.index l p = -1
      · simp [h3]
      · have h4 : (Lib.index l p == -1) = false := by simpa using h3
        have h5 : ¬ (Lib.index l p + 1 = -1) := by omega
        simp [h3, h5]
        omega
theorem optI_fsub (l p : List UInt8) : optI (fsub p l 0) = Lib.index l p := by
  rw [fsub_eq p l 0]
  have hge := Lib.index_ge l p
  split
  · rename_i h; rw [h]; rfl
  · simp only [optI]
    have : (Int.ofNat (0 + (Lib.index l p).toNat)) = ((Lib.index l p).toNat : Int) := by simp
    rw [this]; omega

theorem index_ok {f : FuncId} {g : Nat} (hg : g < P.globals.size) (he : ∀ args w, (callFunc f args).run P w = .ok (.enter f args) w)
    (hc : ∀ (s sub : ByteArray) (m : Int) (w : World), s.size < 4294967281 → w.cell? ⟨g, 0, none⟩ = some (.int .i64 m) →
      Calls P f #[.string s, .string sub] w fun e w' => e = .returned (.int .i64 (Lib.index s.data.toList sub.data.toList)) ∧ w' = w) : IntrOk P f (inIndex g) := by
  intro args s v s' θ w hi hp hw hgl
  unfold inIndex at hi
  split at hi
  · rename_i l p
    split at hi
    · rename_i i hgo
      cases hc0 : Nat.ble (lenL l) 1000000 with
      | false => simp [hc0] at hi
      | true =>
        simp [hc0] at hi
        obtain ⟨rfl, rfl⟩ := hi
        rw [nble, lenL_eq] at hc0
        simp at hc0
        refine done_calls (he _ _) ?_
        obtain ⟨c, e, fr, h1, h2, _⟩ := hp.obj g _ hgo
        obtain ⟨_, g1, g2⟩ := hgl g hg
        have h3 := h2 0 _ rfl
        have hcell : w.cell? ⟨g, 0, none⟩ = some (.int .i64 (intOfV (θ.uv i))) := by
          rw [g1] at h1
          rw [g2] at h3
          simp [World.cell?, h1, Nat.add_zero] at h3 ⊢
          exact h3
        refine (hc ⟨l.toArray⟩ ⟨p.toArray⟩ _ w (by simp [ByteArray.size]; omega) hcell).mono ?_
        rintro e' w' ⟨rfl, rfl⟩
        exact post_same hp (by simp [wf]) (by simp [conc, optI_fsub])
    · cases hi
  · cases hi
end Go.Ab
/-! slices.Sorted(maps.Keys(m)), at keys of type int. -/
namespace Go.Ab
open Go.WideElems (Fit rd rg)
open Go.RowKit (Below)
variable {P : Program} {θ θ' : Th} {s s' : St} {w w' : World}

/-! ### lists -/
theorem insI_perm (a : Int) : ∀ l, (insI a l).Perm (a :: l)
  | [] => .refl _
  | b :: l => by
    simp only [insI]
    cases leI a b with
    | true => exact .refl _
    | false => exact ((insI_perm a l).cons b).trans (.swap a b l)
theorem isort_perm : ∀ l, (isort l).Perm l
  | [] => .refl _
  | a :: l => (insI_perm a _).trans ((isort_perm l).cons a)
theorem insI_sorted (a : Int) : ∀ l, l.Pairwise (· ≤ ·) → (insI a l).Pairwise (· ≤ ·)
  | [], _ => by simp [insI]
  | b :: l, h => by
    rw [List.pairwise_cons] at h
    simp only [insI, leI_eq]
    by_cases hab : a ≤ b
    · simp only [hab, decide_true, cond_true]
      refine List.pairwise_cons.2 ⟨?_, List.pairwise_cons.2 h⟩
      intro x hx
      rcases List.mem_cons.1 hx with rfl | hx
      · exact hab
      · exact Int.le_trans hab (h.1 x hx)
    · simp only [hab, decide_false, cond_false]
      refine List.pairwise_cons.2 ⟨?_, insI_sorted a l h.2⟩
      intro x hx
      rcases List.mem_cons.1 ((insI_perm a l).mem_iff.1 hx) with rfl | hx
      · omega
      · exact h.1 x hx
theorem isort_sorted : ∀ l, (isort l).Pairwise (· ≤ ·)
  | [] => .nil
  | a :: l => insI_sorted a _ (isort_sorted l)
theorem perm_sorted_eq {a b : List Int} (h : a.Perm b) (ha : a.Pairwise (· ≤ ·)) (hb : b.Pairwise (· ≤ ·)) : a = b :=
  h.eq_of_pairwise (fun x y _ _ h1 h2 => Int.le_antisymm h1 h2) ha hb
theorem mergeSort_isort {ss ks : List Int} (h : ss.Perm ks) : ss.mergeSort (fun x y => decide (x ≤ y)) = isort ks := by
  refine perm_sorted_eq ((List.mergeSort_perm ss _).trans (h.trans (isort_perm ks).symm)) ?_ (isort_sorted ks)
  have := List.pairwise_mergeSort (le := fun x y : Int => decide (x ≤ y)) (fun a b c h1 h2 => by simp at *; omega) (fun a b => by simp; omega) ss
  exact this.imp (by simp)

theorem inN_iff (n : Nat) : ∀ l, inN n l = true ↔ n ∈ l
  | [] => by simp [inN]
  | m :: l => by
    have ih := inN_iff n l
    simp only [inN, nbeq]
    by_cases h : m = n
    · simp [h]
    · have h' : ¬ n = m := fun e => h e.symm
      simp [h, h', ih]
theorem inI_iff (n : Int) : ∀ l, inI n l = true ↔ n ∈ l
  | [] => by simp [inI]
  | m :: l => by
    have ih := inI_iff n l
    simp only [inI, eqI_eq]
    by_cases h : m = n
    · simp [h]
    · have h' : ¬ n = m := fun e => h e.symm
      simp [h, h', ih]
theorem nodupN_of : ∀ {l}, nodupN l = true → l.Nodup
  | [], _ => .nil
  | m :: l, h => by
    simp only [nodupN] at h
    cases hi : inN m l with
    | true => simp [hi] at h
    | false =>
      simp only [hi, cond_false] at h
      exact List.nodup_cons.2 ⟨(fun hm => by rw [(inN_iff m l).2 hm] at hi; cases hi), nodupN_of h⟩
theorem nodupI_of : ∀ {l}, nodupI l = true → l.Nodup
  | [], _ => .nil
  | m :: l, h => by
    simp only [nodupI] at h
    cases hi : inI m l with
    | true => simp [hi] at h
    | false =>
      simp only [hi, cond_false] at h
      exact List.nodup_cons.2 ⟨(fun hm => by rw [(inI_iff m l).2 hm] at hi; cases hi), nodupI_of h⟩
theorem bornsOf_some {clock : Nat} : ∀ {es : List MEnt} {l : List Nat}, bornsOf clock es = some l → l = es.map (·.born) ∧ ∀ e ∈ es, e.born < clock
  | [], l, h => by simp [bornsOf] at h; subst h; simp
  | e :: es, l, h => by
    simp only [bornsOf, nble] at h
    by_cases hb : e.born + 1 ≤ clock
    · simp only [hb, decide_true, cond_true] at h
      cases hr : bornsOf clock es with
      | none => simp [hr] at h
      | some r =>
        simp [hr] at h
        subst h
        obtain ⟨h1, h2⟩ := bornsOf_some hr
        refine ⟨by simp [h1], ?_⟩
        intro x hx
        rcases List.mem_cons.1 hx with rfl | hx
        · omega
        · exact h2 x hx
    · simp [hb] at h
theorem keysOfI_some : ∀ {es : List MEnt} {l : List Int}, keysOfI es = some l → es.map (·.key) = l.map (AV.int .i64) ∧ ∀ n ∈ l, -9223372036854775808 ≤ n ∧ n ≤ 9223372036854775807
  | [], l, h => by simp [keysOfI] at h; subst h; simp
  | e :: es, l, h => by
    simp only [keysOfI] at h
    split at h
    · rename_i n hk
      simp only [leI_eq] at h
      by_cases hb : -9223372036854775808 ≤ n ∧ n ≤ 9223372036854775807
      · simp only [hb.1, hb.2, decide_true, Bool.and_self, cond_true] at h
        cases hr : keysOfI es with
        | none => simp [hr] at h
        | some r =>
          simp [hr] at h
          subst h
          obtain ⟨h1, h2⟩ := keysOfI_some hr
          refine ⟨by simp [h1, hk], ?_⟩
          intro x hx
          rcases List.mem_cons.1 hx with rfl | hx
          · exact hb
          · exact h2 x hx
      · have : (decide (-9223372036854775808 ≤ n) && decide (n ≤ 9223372036854775807)) = false := by
          rw [Bool.eq_false_iff]; intro hh; exact hb (by simpa using hh)
        simp [this] at h
    · cases h
theorem ints_map : ∀ l, ints l = l.map (AV.int .i64)
  | [] => rfl
  | n :: l => by simp [ints, ints_map l]

/-! ### a map that is read -/
theorem insert_perm {H : Type} (x : Lit × DataW H) : ∀ l, (DataW.insert x l).Perm (x :: l)
  | [] => .refl _
  | y :: r => by
    simp only [DataW.insert]
    split
    · exact .refl _
    · exact ((insert_perm x r).cons y).trans (.swap x y r)
theorem foldr_insert_perm {H : Type} : ∀ l : List (Lit × DataW H), (l.foldr DataW.insert []).Perm l
  | [] => .refl _
  | x :: l => (insert_perm x _).trans ((foldr_insert_perm l).cons x)

def anyR (v : Value) : Option (DataW Unit × List MemPlace) := some (.nil, [])
theorem rd_int {k : TypeId} (hk : P.underlying k = some (.int .i64)) {x : MapEntry} {n : Int} (hx : x.key = .int .i64 n) (hn : -9223372036854775808 ≤ n ∧ n ≤ 9223372036854775807) :
    rd P k anyR x = some (.int .i64 n, .nil) := by
  have hw : (Lit.int .i64 n).wf = true := by simp [Lit.wf, IntKind.min, IntKind.max, IntKind.signed, IntKind.bits]; omega
  simp [rd, keyOf, hk, mapKey, hx, hw, anyR]

theorem owns_int {k : TypeId} (hk : P.underlying k = some (.int .i64)) (hp : HRel P (CRt P) θ s w) {m clock : Nat} {es : List MEnt} (hg : s.get m = some (.map es clock)) {bs : List Nat} {ks : List Int}
    (hb : bornsOf clock es = some bs) (hks : keysOfI es = some ks) (hn1 : nodupN bs = true) (hn2 : nodupI ks = true) (hlen : ks.length ≤ 1000000) :
    ∃ D : DataW Unit, w.ownsMap P k anyR (θ.blk m) ks.length D ∧ (intKeys D).Perm ks ∧ Maps.size D = ks.length := by
  obtain ⟨h1, h2⟩ := hp.obj m _ hg
  obtain ⟨b1, b2⟩ := bornsOf_some hb
  obtain ⟨k1, k2⟩ := keysOfI_some hks
  have hl : es.length = ks.length := by have := congrArg List.length k1; simpa using this
  have hkeys : (es.map (concE θ)).map (·.key) = ks.map (Value.int .i64) := by
    have := congrArg (List.map (conc θ)) k1
    simpa [concE, List.map_map, Function.comp_def, conc] using this
  have hmem : ∀ x ∈ es.map (concE θ), ∃ n ∈ ks, x.key = .int .i64 n := by
    intro x hx
    have : x.key ∈ (es.map (concE θ)).map (·.key) := List.mem_map_of_mem hx
    rw [hkeys] at this
    obtain ⟨n, hn, e⟩ := List.mem_map.1 this
    exact ⟨n, hn, e.symm⟩
  have hrd : ∀ x ∈ es.map (concE θ), ∃ n ∈ ks, rd P k anyR x = some (.int .i64 n, .nil) ∧ x.key = .int .i64 n := by
    intro x hx
    obtain ⟨n, hn, e⟩ := hmem x hx
    exact ⟨n, hn, rd_int hk e (k2 n hn), e⟩
  refine ⟨_, ⟨_, clock, h1, ⟨?_, ⟨?_, ?_, ?_⟩, ?_⟩, by simp [hl], rfl⟩, ?_, ?_⟩
  · simp [maxLen, hl]; omega
  · intro x hx
    obtain ⟨e, he, rfl⟩ := List.mem_map.1 (by simpa using hx)
    exact b2 e he
  · have : ((es.map (concE θ)).toArray.toList.map (·.born)) = bs := by simp [b1, concE, Function.comp_def]
    rw [this]; exact nodupN_of hn1
  · have : ((es.map (concE θ)).toArray.toList.map (·.key)) = ks.map (Value.int .i64) := by simpa using hkeys
    rw [this]
    exact List.Pairwise.map _ (fun a b (hab : a ≠ b) h => hab (by cases h; rfl)) (nodupI_of hn2)
  · intro x hx
    obtain ⟨n, _, h, _⟩ := hrd x (by simpa using hx)
    exact ⟨_, h⟩
  · simp only [intKeys]
    refine ((foldr_insert_perm _).map _).trans ?_
    have : ((es.map (concE θ)).toArray.toList.map (rg P k anyR)).map (fun p => intOf p.1) = ks := by
      have e1 : ((es.map (concE θ)).map (rg P k anyR)).map (fun p => intOf p.1) = ((es.map (concE θ)).map (·.key)).map (fun v => match v with | .int _ n => n | _ => 0) := by
        generalize es.map (concE θ) = zs at hrd
        rw [List.map_map, List.map_map]
        refine List.map_congr_left fun x hx => ?_
        obtain ⟨n, _, h, e⟩ := hrd x hx
        simp [rg, h, e, intOf]
      simp only [List.toList_toArray]
      rw [e1, hkeys]
      simp [List.map_map, Function.comp_def]
    rw [this]
  · simp only [Maps.size]
    rw [(foldr_insert_perm _).length_eq]
    simp [hl]

/-! ### worlds that have grown -/
theorem HRel.below (hp : HRel P (CRt P) θ s w) (hb : Below w.heap.size w w') : HRel P (CRt P) θ s w' ∧ FRel θ s w θ s w' := by
  have hk : ∀ id o, s.get id = some o → w'.heap[θ.blk id]? = w.heap[θ.blk id]? := fun id o h => hb.block _ (hp.obj id o h).lt
  refine ⟨⟨hp.dom, fun id o h => (hp.obj id o h).keep (hp.dom id o h) (.refl θ) (hk id o h), hp.lt, hp.apart⟩, ?_⟩
  exact ⟨.refl θ, Nat.le_refl _, fun _ o h => .inl ⟨o, h⟩, hb.tape, hb.os, hb.output, hb.size, fun b hlt _ => hb.block b hlt, fun id o h => .inr ⟨id, o, h, rfl⟩, fun id cs h => ⟨h, hk id _ h⟩, rfl, fun _ h => .inl h⟩

/-- a block that was made on the way gets a name -/
theorem HRel.found (hp : HRel P (CRt P) θ s w) (hb : Below w.heap.size w w') {g c : Nat} {o : AObj} (hg : w.heap.size ≤ g)
    (ho : ORel P (CRt P) (θ.add s.next g 0 c) w' s.next o) :
    HRel P (CRt P) (θ.add s.next g 0 c) (s.new o) w' ∧ FRel θ s w (θ.add s.next g 0 c) (s.new o) w' := by
  have hid : ¬ θ.dom s.next := fun hd => Nat.lt_irrefl _ (hp.lt _ hd)
  have hle : θ.Le (θ.add s.next g 0 c) := Th.le_add hid
  obtain ⟨hp', hf⟩ := hp.below hb
  have blkn : (θ.add s.next g 0 c).blk s.next = g := by simp [Th.add]
  have key : ∀ k o1, (s.new o).get k = some o1 → (k = s.next ∧ o1 = o) ∨ (k ≠ s.next ∧ s.get k = some o1) := by
    intro k o1 hk
    rw [St.get_new] at hk
    by_cases e : k = s.next
    · simp [e] at hk; exact .inl ⟨e, hk.symm⟩
    · simp [e] at hk; exact .inr ⟨e, hk⟩
  have live_ne : ∀ k o0, s.get k = some o0 → k ≠ s.next := fun k o0 hk e => hid (e ▸ hp.dom k o0 hk)
  refine ⟨⟨?_, ?_, ?_, ?_⟩, ⟨hle, Nat.le_succ _, ?_, hb.tape, hb.os, hb.output, hb.size, fun b hlt _ => hb.block b hlt, ?_, ?_, rfl, ?_⟩⟩
  · intro k o1 hk
    rcases key k o1 hk with ⟨e, _⟩ | ⟨_, h1⟩
    · exact .inr e
    · exact .inl (hp.dom k o1 h1)
  · intro k o1 hk
    rcases key k o1 hk with ⟨e, e1⟩ | ⟨_, h1⟩
    · subst e; subst e1; exact ho
    · exact (hp'.obj k o1 h1).keep (hp.dom k o1 h1) hle rfl
  · intro k hk
    rcases hk with hk | rfl
    · exact Nat.lt_succ_of_lt (hp.lt k hk)
    · exact Nat.lt_succ_self _
  · intro i j oi oj hi hj hij
    rcases key i oi hi with ⟨e, _⟩ | ⟨_, h1⟩
    · rcases key j oj hj with ⟨e', _⟩ | ⟨_, h2⟩
      · exact absurd (e.trans e'.symm) hij
      · subst e
        rw [blkn, hle.blk j (hp.dom j oj h2)]
        have := (hp.obj j oj h2).lt
        omega
    · rcases key j oj hj with ⟨e', _⟩ | ⟨_, h2⟩
      · subst e'
        rw [blkn, hle.blk i (hp.dom i oi h1)]
        have := (hp.obj i oi h1).lt
        omega
      · rw [hle.blk i (hp.dom i oi h1), hle.blk j (hp.dom j oj h2)]
        exact hp.apart i j oi oj h1 h2 hij
  · intro k o1 hk
    rcases key k o1 hk with ⟨e, _⟩ | ⟨_, h1⟩
    · exact .inr (e ▸ hid)
    · exact .inl ⟨o1, h1⟩
  · intro k o1 hk
    rcases key k o1 hk with ⟨e, _⟩ | ⟨_, h1⟩
    · subst e; exact .inl (by rw [blkn]; exact hg)
    · exact .inr ⟨k, o1, h1, (hle.blk k (hp.dom k o1 h1)).symm⟩
  · intro k cs hk
    refine ⟨?_, hb.block _ (hp.obj k _ hk).lt⟩
    rw [St.get_new, if_neg (live_ne k _ hk)]; exact hk
  · intro k hk
    rcases hk with hk | rfl
    · exact .inl hk
    · exact .inr (Nat.le_refl _)

/-- what slices.Sorted(maps.Keys(m)) gives: of a map that is not nil, and of nil -/
def SortsKeys (P : Program) (f g k elem : Nat) : Prop :=
  (∀ (Bm b nn : Nat) (D0 : DataW Unit) (w : World), Bm < w.heap.size → w.cell? ⟨Bm, 0, none⟩ = some (.map (some b)) → w.ownsMap P k anyR b nn D0 → Maps.size D0 ≤ maxLen → Maps.size D0 * 8 ≤ 140737488355328 →
    Calls P f #[.func (.func g) #[] #[.pointer (some ⟨Bm, 0, none⟩)]] w fun e w' => ∃ (v : Value) (ss : List Int), e = .returned v ∧ ss.Perm (intKeys D0) ∧
      w'.ownsRow w.heap.size elem 1 v ss.length ((ss.mergeSort (fun x y => decide (x ≤ y))).map encZ) ∧ (v = .slice none 0 0 ↔ ss = []) ∧ Below w.heap.size w w') ∧
  (∀ (Bm : Nat) (w : World), Bm < w.heap.size → w.cell? ⟨Bm, 0, none⟩ = some (.map none) →
    Calls P f #[.func (.func g) #[] #[.pointer (some ⟨Bm, 0, none⟩)]] w fun e w' => e = .returned (.slice none 0 0) ∧ Below w.heap.size w w')

theorem sorted_ok {f k elem : Nat} {gs es : List Nat} (hk : P.underlying k = some (.int .i64)) (he : ∀ args w, (callFunc f args).run P w = .ok (.enter f args) w) (hs : ∀ g ∈ gs, SortsKeys P f g k elem)
    (hes : ∀ e ∈ es, noSl P e = true) (hel : sizeT P elem = some 1) : IntrOk P f (inSortedI gs es elem) := by
  intro args s v s' θ w hi hp hw hgl
  unfold inSortedI at hi
  split at hi
  · rename_i g id
    cases hgi : inN g gs with
    | false => simp [hgi] at hi
    | true =>
      simp only [hgi, cond_true] at hi
      obtain ⟨hS, hN⟩ := hs g ((inN_iff g gs).1 hgi)
      have harr : (concL θ [AV.func g [] [.ptr id 0]]).toArray = #[.func (.func g) #[] #[.pointer (some ⟨θ.blk id, θ.off id + 0, none⟩)]] := by simp [concL, conc]
      rw [harr]
      have offz : ∀ {e : Nat} {cs : List AV} {frz : Nat}, s.get id = some (.cells e cs frz) → inN e es = true → θ.off id = 0 := by
        intro e cs frz hg hin
        obtain ⟨c, fr, _, _, _, _, _, h6⟩ := hp.obj id _ hg
        exact h6 (noSl_spec (hes e ((inN_iff e es).1 hin)))
      split at hi
      · rename_i e frz hg
        cases hin : inN e es with
        | false => simp [hin] at hi
        | true =>
          simp [hin] at hi
          obtain ⟨rfl, rfl⟩ := hi
          have ho := offz hg hin
          obtain ⟨c, fr, h1, h2, _⟩ := hp.obj id _ hg
          have h3 := h2 0 _ rfl
          rw [ho] at h3
          have hcell : w.cell? ⟨θ.blk id, 0, none⟩ = some (.map none) := by
            simp [World.cell?, h1, conc] at h3 ⊢
            exact h3
          rw [ho]
          refine done_calls (he _ _) ((hN (θ.blk id) w (hp.obj id _ hg).lt hcell).mono ?_)
          rintro e' w' ⟨rfl, hb⟩
          obtain ⟨a, b⟩ := hp.below hb
          exact ⟨θ, by simp [conc], by simp [wf], a, b⟩
      · rename_i e m frz hg
        cases hin : inN e es with
        | false => simp [hin] at hi
        | true =>
          simp only [hin, cond_true] at hi
          have ho := offz hg hin
          obtain ⟨c, fr, h1, h2, _⟩ := hp.obj id _ hg
          have h3 := h2 0 _ rfl
          rw [ho] at h3
          have hcell : w.cell? ⟨θ.blk id, 0, none⟩ = some (.map (some (θ.blk m))) := by
            simp [World.cell?, h1, conc] at h3 ⊢
            exact h3
          split at hi
          · rename_i ents clock hgm
            split at hi
            · rename_i bs ks hbs hks
              cases hc : (nodupN bs && (nodupI ks && Nat.ble (lenL ks) 1000000)) with
              | false => simp [hc] at hi
              | true =>
                simp only [hc, cond_true] at hi
                simp only [Bool.and_eq_true, nble, decide_eq_true_eq, lenL_eq] at hc
                obtain ⟨c1, c2, c3⟩ := hc
                obtain ⟨D, hD, hperm, hsize⟩ := owns_int hk hp hgm hbs hks c1 c2 c3
                rw [ho]
                refine done_calls (he _ _) ((hS (θ.blk id) (θ.blk m) _ D w (hp.obj id _ hg).lt hcell hD (by rw [hsize]; simp [maxLen]; omega) (by rw [hsize]; omega)).mono ?_)
                rintro e' w' ⟨v', ss, rfl, hss, hrow, hnil, hb⟩
                have hpk : ss.Perm ks := hss.trans hperm
                rw [mergeSort_isort hpk] at hrow
                have hlen : ss.length = ks.length := hpk.length_eq
                split at hi
                · simp at hi
                  obtain ⟨rfl, rfl⟩ := hi
                  have : ss = [] := List.eq_nil_of_length_eq_zero hlen
                  obtain ⟨a, b⟩ := hp.below hb
                  exact ⟨θ, by simp [conc, hnil.2 this], by simp [wf], a, b⟩
                · rename_i ks' hne
                  simp only [Option.some.injEq, Prod.mk.injEq] at hi
                  obtain ⟨rfl, rfl⟩ := hi
                  have hnn : ss ≠ [] := by
                    rintro rfl
                    have := List.eq_nil_of_length_eq_zero hlen.symm
                    exact hne this
                  rcases hrow.2 with ⟨hv, _⟩ | ⟨gb, cap, cur, hv, q1, q2, q3, q4, q5, q6⟩
                  · exact absurd (hnil.1 hv) hnn
                  · have hperm' := isort_perm ks
                    have hlen2 : (isort ks).length = ks.length := hperm'.length_eq
                    have blkn : (θ.add s.next gb 0 cap).blk s.next = gb := by simp [Th.add]
                    have offn : (θ.add s.next gb 0 cap).off s.next = 0 := by simp [Th.add]
                    have capn : (θ.add s.next gb 0 cap).cap s.next = cap := by simp [Th.add]
                    have hO : ORel P (CRt P) (θ.add s.next gb 0 cap) w' s.next (.cells elem (ints (isort ks)) 0) := by
                      refine ⟨cur, (0, 0), by rw [blkn]; exact q2, ?_, ?_, by simp, ?_, fun _ => offn⟩
                      · intro i u hu
                        rw [offn, Nat.zero_add]
                        rw [ints_map, List.getElem?_map] at hu
                        have hlt : i < (isort ks).length := by
                          rcases Nat.lt_or_ge i (isort ks).length with h | h
                          · exact h
                          · rw [List.getElem?_eq_none h] at hu; simp at hu
                        have e1 := congrArg (fun l => l[i]?) q6
                        simp only [List.getElem?_map, List.getElem?_eq_getElem hlt, Option.map_some] at e1 hu
                        rw [List.getElem?_take_of_lt (by omega)] at e1
                        cases hu
                        rw [← Array.getElem?_toList, e1]
                        simp [conc, encZ]
                      · rw [wfL_iff, ints_map]
                        intro u hu
                        obtain ⟨n, _, rfl⟩ := List.mem_map.1 hu
                        simp [wf]
                      · intro inf hinf
                        have hsz : inf.size = 1 := by
                          unfold sizeT at hel
                          simp [hinf] at hel
                          exact hel
                        rw [capn, offn, hsz, ints_map]
                        simp only [List.length_map]
                        rw [q5]
                        omega
                    obtain ⟨a, b⟩ := hp.found hb q1 hO
                    refine ⟨_, ?_, ?_, a, b⟩
                    · rw [hv, hlen, lenL_eq]
                      simp [conc, blkn, offn, capn]
                    · simp only [wf, capn, lenL_eq]
                      exact ⟨.inr rfl, by omega⟩
            · cases hi
          · cases hi
      · cases hi
  · cases hi
end Go.Ab
/-! A table of functions. -/
namespace Go.Ab
variable {P : Program}
def entF : Tr AFn → (Nat → Nat) → List (Nat × AFn)
  | .nil, _ => []
  | .node v l r, f => (match v with | some x => [(f 0, x)] | none => []) ++ (entF l (fun k => f (2 * k + 1)) ++ entF r (fun k => f (2 * k + 2)))
theorem entF_get : ∀ (t : Tr AFn) (f : Nat → Nat) (k : Nat) (x : AFn), t.get k = some x → (f k, x) ∈ entF t f
  | .nil, f, k, x, h => by simp [Tr.get] at h
  | .node v l r, f, k, x, h => by
    simp only [Tr.get] at h
    simp only [entF, List.mem_append]
    rcases Nat.eq_zero_or_pos k with rfl | hk
    · have : Nat.beq 0 0 = true := rfl
      simp only [this, cond_true] at h
      subst h
      exact .inl (by simp)
    · have h1 : Nat.beq k 0 = false := beq_f (by omega)
      simp only [h1, cond_false] at h
      by_cases hp : k % 2 = 1
      · have h2 : Nat.beq (k % 2) 1 = true := beq_t hp
        simp only [h2, cond_true] at h
        have := entF_get l (fun k => f (2 * k + 1)) (k / 2) x h
        have e : 2 * (k / 2) + 1 = k := by omega
        simp only [e] at this
        exact .inr (.inl this)
      · have h2 : Nat.beq (k % 2) 1 = false := beq_f hp
        simp only [h2, cond_false] at h
        have := entF_get r (fun k => f (2 * k + 2)) (k / 2 - 1) x h
        have e : 2 * (k / 2 - 1) + 2 = k := by omega
        simp only [e] at this
        exact .inr (.inr this)

def FnOk (P : Program) (p : Nat × AFn) : Prop := ∃ fn, P.funcs[p.1]? = some fn ∧ trFn P fn = some p.2
theorem fnOk {k : Nat} {fn : Func} {a : AFn} (h : P.funcs[k]? = some fn) (ht : trFn P fn = some a) : FnOk P (k, a) := ⟨fn, h, ht⟩

def intrAll : List (Nat × (List AV → St → Option (AV × St))) → Nat → Option (List AV → St → Option (AV × St))
  | [], _ => none
  | (g, h) :: l, f => cond (Nat.beq f g) (some h) (intrAll l f)
theorem intrAll_mem {l : List (Nat × (List AV → St → Option (AV × St)))} {f : Nat} {h : List AV → St → Option (AV × St)} (e : intrAll l f = some h) : (f, h) ∈ l := by
  induction l with
  | nil => simp [intrAll] at e
  | cons x l ih =>
    obtain ⟨g, h'⟩ := x
    simp only [intrAll] at e
    cases hb : Nat.beq f g with
    | true =>
      simp only [hb, cond_true, Option.some.injEq] at e
      subst e
      rw [Nat.eq_of_beq_eq_true hb]; exact List.mem_cons_self ..
    | false => simp only [hb, cond_false] at e; exact List.mem_cons_of_mem _ (ih e)

theorem cok_of {tab : Tr AFn} {il : List (Nat × (List AV → St → Option (AV × St)))} {L : List (Nat × AFn)} (hL : entF tab id = L) (hf : ∀ p ∈ L, FnOk P p) (hi : ∀ p ∈ il, IntrOk P p.1 p.2) : COk P ⟨tab, intrAll il⟩ :=
  ⟨fun f a h => hf (f, a) (hL ▸ entF_get tab id f a h), fun f g h => hi (f, g) (intrAll_mem h)⟩

/-- memory out of a list -/
def mkH : List (Nat × AObj) → Tr AObj
  | [] => .nil
  | (i, o) :: l => (mkH l).put i (some o)
def mkSt (l : List (Nat × AObj)) (n : Nat) : St := ⟨mkH l, n, []⟩

def runsTo (C : Ctx) (n f : Nat) (s : St) (v : AV) : Bool :=
  match acall C n f [] s with
  | some (v', _) => eqAV v' v
  | none => false

/-- **a closed call that was run, in a world of which only what is read is known** -/
theorem closed_calls {C : Ctx} {n f : Nat} {θ : Th} {s : St} {w : World} {v : AV} (hS : Snd P C n) (hi : C.intr f = none) (h : runsTo C n f s v = true)
    (hp : HRel P (CRt P) θ s w) (hg : Glob P θ) (hro : ∀ id o, s.get id = some o → ∃ cs, o = .ro cs) (hv : ∀ θ', conc θ' v = conc θ v) :
    Calls P f #[] w fun e w' => e = .returned (conc θ v) ∧ RowKit.Below w.heap.size w w' := by
  unfold runsTo at h
  cases ha : acall C n f [] s with
  | none => simp [ha] at h
  | some r =>
    obtain ⟨v', s'⟩ := r
    simp only [ha] at h
    have := eqAV_eq _ _ h
    subst this
    have hc := ((hS.call f [] s v' s' θ w ha hp trivial hg).2 hi).2
    refine (callsIn_wide.1 hc).mono fun e w' he => ?_
    cases e with
    | returned x =>
      obtain ⟨θ', hx, _, _, hf⟩ := he
      refine ⟨by rw [hx, hv θ'], hf.os, hf.tape, hf.output, hf.size, fun b hb => ?_⟩
      by_cases hl : ∃ id o, s.get id = some o ∧ θ.blk id = b
      · obtain ⟨id, o, hid, e⟩ := hl
        obtain ⟨cs, rfl⟩ := hro id o hid
        rw [← e]; exact (hf.ro id cs hid).2
      · exact hf.frame b hb fun id o hid e => hl ⟨id, o, hid, e⟩
    | panicked => exact he.elim
    | outgrown => exact he.elim

/-- the world as the globals stand in it: of variable 0 it is known that it holds an int -/
def th0 (n : Nat) (m : Int) : Th := { blk := fun i => i, off := fun _ => 0, cap := fun _ => 0, dom := fun i => i < n, bv := fun _ => false, uv := fun _ => .int .i64 m }
def st0 (n : Nat) : St := mkSt [(0, .ro [.ui .i64 0])] n
theorem st0_get {n k : Nat} {o : AObj} (h : (st0 n).get k = some o) : k = 0 ∧ o = .ro [.ui .i64 0] := by
  simp only [st0, mkSt, mkH, St.get, Tr.get_put] at h
  by_cases e : k = 0
  · rw [if_pos e] at h; exact ⟨e, (Option.some.inj h).symm⟩
  · rw [if_neg e] at h; simp [Tr.get] at h
theorem h0 {w : World} {m : Int} (hn : 0 < P.globals.size) (hc : w.cell? ⟨0, 0, none⟩ = some (.int .i64 m)) : HRel P (CRt P) (th0 P.globals.size m) (st0 P.globals.size) w := by
  refine ⟨?_, ?_, fun id h => h, ?_⟩
  · intro id o h
    obtain ⟨rfl, _⟩ := st0_get h
    exact hn
  · intro id o h
    obtain ⟨rfl, rfl⟩ := st0_get h
    unfold World.cell? at hc
    simp only at hc
    split at hc
    · rename_i c e fr hb
      refine ⟨c, e, fr, hb, ?_, ⟨hn, trivial⟩⟩
      intro i v hv
      cases i with
      | zero => simp at hv; subst hv; simpa [th0, conc, intOfV] using hc
      | succ i => simp at hv
    · cases hc
  · intro i j oi oj hi hj hij
    exact absurd ((st0_get hi).1.trans (st0_get hj).1.symm) hij
theorem glob0 {n : Nat} {m : Int} (h : n = P.globals.size) : Glob P (th0 n m) := by
  intro g hg
  exact ⟨by simp only [th0]; omega, rfl, rfl⟩

/-! ### calls at arguments that are not looked into -/
def runsAt (C : Ctx) (n f : Nat) (args : List AV) (s : St) (v : AV) : Bool :=
  match acall C n f args s with
  | some (v', _) => eqAV v' v
  | none => false
theorem open_calls {C : Ctx} {n f : Nat} {θ : Th} {s : St} {w : World} {v : AV} {args : List AV} (hS : Snd P C n) (hi : C.intr f = none) (h : runsAt C n f args s v = true)
    (hp : HRel P (CRt P) θ s w) (hg : Glob P θ) (hw : wfL θ args) (hro : ∀ id o, s.get id = some o → ∃ cs, o = .ro cs) (hv : ∀ θ', conc θ' v = conc θ v) :
    Calls P f (concL θ args).toArray w fun e w' => e = .returned (conc θ v) ∧ RowKit.Below w.heap.size w w' := by
  unfold runsAt at h
  cases ha : acall C n f args s with
  | none => simp [ha] at h
  | some r =>
    obtain ⟨v', s'⟩ := r
    simp only [ha] at h
    have := eqAV_eq _ _ h
    subst this
    have hc := ((hS.call f args s v' s' θ w ha hp hw hg).2 hi).2
    refine (callsIn_wide.1 hc).mono fun e w' he => ?_
    cases e with
    | returned x =>
      obtain ⟨θ', hx, _, _, hf⟩ := he
      refine ⟨by rw [hx, hv θ'], hf.os, hf.tape, hf.output, hf.size, fun b hb => ?_⟩
      by_cases hl : ∃ id o, s.get id = some o ∧ θ.blk id = b
      · obtain ⟨id, o, hid, e⟩ := hl
        obtain ⟨cs, rfl⟩ := hro id o hid
        rw [← e]; exact (hf.ro id cs hid).2
      · exact hf.frame b hb fun id o hid e => hl ⟨id, o, hid, e⟩
    | panicked => exact he.elim
    | outgrown => exact he.elim

/-- the globals, and values that are not looked into: numbers from the globals' count on -/
def th1 (n : Nat) (m : Int) (f : Nat → Value) : Th := { blk := fun i => i, off := fun _ => 0, cap := fun _ => 0, dom := fun i => i < n, bv := fun _ => false, uv := fun i => if i = 0 then .int .i64 m else f i }
theorem h1 {w : World} {m : Int} {n : Nat} {f : Nat → Value} (hn : 0 < P.globals.size) (hle : P.globals.size ≤ n) (hc : w.cell? ⟨0, 0, none⟩ = some (.int .i64 m)) : HRel P (CRt P) (th1 n m f) (st0 n) w := by
  refine ⟨?_, ?_, fun id h => h, ?_⟩
  · intro id o h
    obtain ⟨rfl, _⟩ := st0_get h
    exact Nat.lt_of_lt_of_le hn hle
  · intro id o h
    obtain ⟨rfl, rfl⟩ := st0_get h
    unfold World.cell? at hc
    simp only at hc
    split at hc
    · rename_i c e fr hb
      refine ⟨c, e, fr, hb, ?_, ⟨Nat.lt_of_lt_of_le hn hle, trivial⟩⟩
      intro i v hv
      cases i with
      | zero => simp at hv; subst hv; simpa [th1, conc, intOfV] using hc
      | succ i => simp at hv
    · cases hc
  · intro i j oi oj hi hj hij
    exact absurd ((st0_get hi).1.trans (st0_get hj).1.symm) hij
theorem glob1 {n : Nat} {m : Int} {f : Nat → Value} (h : P.globals.size ≤ n) : Glob P (th1 n m f) := by
  intro g hg
  exact ⟨Nat.lt_of_lt_of_le hg h, rfl, rfl⟩
end Go.Ab
