/- The row and the tied card of newsstandlaw23.IngestNobody: whatever the arguments (a feed's number, a document, a text), the law returns true, and each argument reads behind the call as it read before.
   Conditions: the row's own: the listed package-level variables hold what the program's text lays (tied by the card). -/
import Derived.Test.YtdkcpdmpdpglbaaGreatDoorLaw
import Derived.Test.YtdkcpdmpdpglbaaGreatDoorTie
import Derived.Test.YtdkcpdmpdpglbaaGreatDoorCards
import Derived.ProofKit
import Derived.OpenShut
import Derived.LaidMore
import Derived.Lay
import Derived.SevenTiedAt
import Derived.Stop.Joined
import Derived.Lib.SmallJoins
import Derived.Deep.Slices
import Derived.Carry
import Derived.Shelf.Vars
set_option autoImplicit false
set_option linter.unusedVariables false
set_option linter.unusedSimpArgs false
namespace Go.Proofs.YtdkcpdmpdpglbaaGreatDoor
open Go.ChangeShapes Go.WideShapes Go.ChangeAt Go.RowKit Go.Deep Go.Joins

section
variable {H : Type} {enc : TypeId × Value → H}

/-- readings that were, behind a call that left all that was there -/
theorem all_stay {P : Program} {W W' : World} {sp : Nat → Bool} (hl : laidOutB P = true) : ∀ {ts : List TypeId} {vs : List Value} {ds : List (DataW H)} {ps : List MemPlace},
    ts.all (fun t => P.readableRec t && decide (t < P.types.size)) = true → DataW.TrodAll enc P W 0 (fun _ => true) true ts vs ds ps → (∀ x ∈ ps, W.sameAt W' x) → (∀ x ∈ ps, sp x.block = true) → DataW.TrodAll enc P W' 0 sp true ts vs ds ps
  | [], [], [], ps, _, h, _, _ => h
  | t :: ts, v :: vs, d :: ds, ps, ht, h, hs, hp => by
    obtain ⟨p, q, h1, h2, rfl⟩ := h
    simp only [List.all_cons, Bool.and_eq_true, decide_eq_true_eq] at ht
    exact ⟨p, q, WideElems.Trod_stays hl ht.1.1 ht.1.2 h1 (fun x hx => hs x (List.mem_append_left _ hx)) (fun x hx => hp x (List.mem_append_left _ hx)),
      all_stay hl ht.2 h2 (fun x hx => hs x (List.mem_append_right _ hx)) (fun x hx => hp x (List.mem_append_right _ hx)), rfl⟩
  | [], _ :: _, _, _, _, h, _, _ => h.elim
  | [], [], _ :: _, _, _, h, _, _ => h.elim
  | _ :: _, [], _, _, _, h, _, _ => h.elim
  | _ :: _, _ :: _, [], _, _, h, _, _ => h.elim

/-- a law that returned true and left all that was there meets its row's word -/
theorem law_post {P : Program} {f : Func} {s : ChangeSpec} {apart : Bool} {W W' : World} {args : Array Value} {ds gs : List (DataW H)} {before : List MemPlace} {t : TypeId}
    (hvars : s.vars = []) (hres : f.resultTypes = #[t]) (ht : P.underlying t = some .bool) (hspec : s.fn H ds = { results := [.lit (.bool true)], args := ds }) (hl : laidOutB P = true)
    (hr : f.params.toList.all (fun t => P.readableRec t && decide (t < P.types.size)) = true) (hW : DataW.Whole enc P f.params.toList s.vars apart W args.toList ds gs before) (hb : Below W.heap.size W W') :
    s.post enc P f apart true false false W args (.bool true) W' := by
  have hW' := hW
  obtain ⟨p, q, hA, hV, rfl, _, _⟩ := hW'
  rw [hvars] at hV
  obtain ⟨rfl, rfl⟩ := trodVars_none hV
  have hlt : ∀ x ∈ p, x.block < W.heap.size := fun x hx => hW.lt x (by simpa using hx)
  refine ⟨ds, [], p ++ [], [], p, [], hW, ?_, ?_, ?_, hb.frame _, fun h => nomatch h⟩
  · rw [hres, List.append_nil, hspec]
    exact trodAll_mk1 (shut_bool ht true)
  · rw [List.append_nil, hspec]
    exact all_stay hl hr hA (fun x hx => hb.same (hlt x hx)) (fun x hx => by simpa using hlt x hx)
  · rw [List.append_nil, hspec, hvars]
    rfl

/-- the builder for a row that lists variables, handing on the world's shape too -/
theorem lifted_laid_shaped {a : Assume} {C : Checked} {os : Os} {f : FuncId} {fn : Func} {s : ChangeSpec} {conds : List PathCond} {apart fresh handsOn again : Bool} {X : World → Array Value → Prop}
    (own : ownKnob C.prog.godebug = none) (started : os.Started) (noInit : C.prog.inits.idxOf? f = none) (hfn : C.prog.funcs[f]? = some fn)
    (witness : ∃ (w : World) (tape : Tape) (i : Input), w.os = os ∧ (w.forCall tape i).Shaped C.prog ∧ i.vars = [] ∧ Input.okWide C.prog (w.forCall tape i) .any w.heap.size f i ∧
      ((s.pre enc C.prog fn conds apart (w.forCall tape i).memory i.args ∧ X (w.forCall tape i).memory i.args) ∧ sizedMet enc C.prog fn (OpenSpec.ofChange s) apart (w.forCall tape i).memory i.args) ∧ a.holds C.prog (lone (Frame.enter C.prog f i.args .normal) [] (w.forCall tape i)))
    (contract : ∀ (W : World) (base : Nat) (args : Array Value) (ds gs : List (DataW H)) (before : List MemPlace),
      (∀ (j : Nat) t v, fn.params[j]? = some t → args[j]? = some v → Value.okWide C.prog W .any base t v) →
      DataW.Whole enc C.prog fn.params.toList s.vars apart W args.toList ds gs before → W.ShapedOpen C.prog →
      Calls C.prog f args W fun e W' => ∃ v, e = .returned v ∧ s.post enc C.prog fn apart fresh handsOn again W args v W') :
    ReturnsInHanded a C os f .any (fun w args => (s.pre enc C.prog fn conds apart w args ∧ X w args) ∧ sizedMet enc C.prog fn (OpenSpec.ofChange s) apart w args) (s.post enc C.prog fn apart fresh handsOn again) := by
  refine returnsInHanded_of_calls own started noInit witness fun w tape i _ hsh _ hok hpre _ => ?_
  obtain ⟨_, _, _, fn', hfn', _, _, _, _, hval⟩ := hok
  obtain rfl : fn' = fn := Option.some.inj (hfn'.symm.trans hfn)
  obtain ⟨⟨⟨ds, gs, before, hw, _⟩, _⟩, _⟩ := hpre
  refine (contract (w.forCall tape i) w.heap.size i.args ds gs before hval (DataW.Whole.of_heap (w' := w.forCall tape i) (by rfl) hw) hsh).mono fun e W' he => ?_
  obtain ⟨v, rfl, hp⟩ := he
  exact ChangeSpec.post_blind hp
end

theorem own : ownKnob Tryz.prog.godebug = none := by kernel_rfl
theorem laidOut : laidOutB Tryz.prog = true := by kernel_rfl

section
variable {H : Type} {enc : TypeId × Value → H} {w : World} {base : Nat} {spare : Nat → Bool} {held : Bool} {fuel : Nat}
theorem cell1 {cs : List Value} {o : Nat} {v : Value} (h : (cs.drop o).take 1 = [v]) : cs[o]? = some v := by
  have := congrArg (fun l => l[0]?) h
  simpa [List.getElem?_take, List.getElem?_drop] using this
theorem addr_none (b o n : Nat) : (⟨b, o, none⟩ : Addr).add n = ⟨b, o + n, none⟩ := by
  unfold Addr.add
  split
  · rename_i h; subst h; rfl
  · rfl
/-- an entry's cells -/
theorem open_entry {cs : List Value} {x : DataW H × List MemPlace} (h : DataW.trod enc Tryz.prog w base spare held fuel 35 cs = some x) :
    ∃ s0 s1 s2 d b, cs[0]? = some (.string s0) ∧ cs[1]? = some (.string s1) ∧ cs[2]? = some (.string s2) ∧ cs[3]? = some (.int .i64 d) ∧ cs[4]? = some (.bool b) ∧ s0.size ≤ maxLen ∧ s1.size ≤ maxLen ∧ s2.size ≤ maxLen := by
  obtain ⟨xs, n, _, _, _, hl, hf⟩ := DataW.trod_struct Tryz.underlying35 h
  have c9 : Tryz.prog.cellsOf 9 = 1 := by kernel_rfl
  have c3 : Tryz.prog.cellsOf 3 = 1 := by kernel_rfl
  have c4 : Tryz.prog.cellsOf 4 = 1 := by kernel_rfl
  have hl' : xs.length = 5 := hl
  have f0 : DataW.trod enc Tryz.prog w base spare held n 9 ((cs.drop 0).take (Tryz.prog.cellsOf 9)) = xs[0]? := hf 0 _ rfl
  have f1 : DataW.trod enc Tryz.prog w base spare held n 9 ((cs.drop 1).take (Tryz.prog.cellsOf 9)) = xs[1]? := hf 1 _ rfl
  have f2 : DataW.trod enc Tryz.prog w base spare held n 9 ((cs.drop 2).take (Tryz.prog.cellsOf 9)) = xs[2]? := hf 2 _ rfl
  have f3 : DataW.trod enc Tryz.prog w base spare held n 3 ((cs.drop 3).take (Tryz.prog.cellsOf 3)) = xs[3]? := hf 3 _ rfl
  have f4 : DataW.trod enc Tryz.prog w base spare held n 4 ((cs.drop 4).take (Tryz.prog.cellsOf 4)) = xs[4]? := hf 4 _ rfl
  rw [c9, List.getElem?_eq_getElem (by omega)] at f0 f1 f2
  rw [c3, List.getElem?_eq_getElem (by omega)] at f3
  rw [c4, List.getElem?_eq_getElem (by omega)] at f4
  obtain ⟨s0, e0, _, m0⟩ := DataW.trod_string Tryz.underlying9 f0
  obtain ⟨s1, e1, _, m1⟩ := DataW.trod_string Tryz.underlying9 f1
  obtain ⟨s2, e2, _, m2⟩ := DataW.trod_string Tryz.underlying9 f2
  obtain ⟨d, e3, _, _⟩ := DataW.trod_int Tryz.underlying3 f3
  obtain ⟨b, e4, _⟩ := DataW.trod_bool Tryz.underlying4 f4
  exact ⟨s0, s1, s2, d, b, cell1 e0, cell1 e1, cell1 e2, cell1 e3, cell1 e4, m0, m1, m2⟩
theorem open_doc {v : Value} {x : DataW H × List MemPlace} (h : DataW.trod enc Tryz.prog w base spare held fuel 22 [v] = some x) : IsDoc w v := by
  rcases open_slice Tryz.underlying22 h with ⟨e, _⟩ | ⟨a, len, cap, m, n, D, Pl, e, _, hlc, hcm, hm, _, hel⟩
  · exact .inl ⟨none, 0, by simpa using e⟩
  · have e : v = .slice (some a) len cap := by simpa using e
    subst e
    have c35 : Tryz.prog.cellsOf 35 = 5 := by kernel_rfl
    have hlm : len ≤ m := by
      rw [hm]; split
      · exact hlc
      · exact Nat.le_refl _
    rcases Nat.eq_zero_or_pos len with rfl | hpos
    · exact .inl ⟨_, cap, rfl⟩
    · obtain ⟨blk, off, spot⟩ := a
      have key : ∀ k, k < len → ∃ s0 s1 s2 d b, (w.cell? (Addr.add ⟨blk, off, spot⟩ (k * 5)) = some (.string s0) ∧ w.cell? ((Addr.add ⟨blk, off, spot⟩ (k * 5)).add 1) = some (.string s1) ∧ w.cell? ((Addr.add ⟨blk, off, spot⟩ (k * 5)).add 2) = some (.string s2) ∧
          w.cell? ((Addr.add ⟨blk, off, spot⟩ (k * 5)).add 3) = some (.int .i64 d) ∧ w.cell? ((Addr.add ⟨blk, off, spot⟩ (k * 5)).add 4) = some (.bool b)) ∧ s0.size ≤ maxLen ∧ s1.size ≤ maxLen ∧ s2.size ≤ maxLen := by
        intro k hk
        obtain ⟨cs', h1, h2⟩ := hel k (by omega)
        rw [c35] at h1
        obtain ⟨_, _, hat⟩ := World.cells?_some h1
        obtain ⟨s0, s1, s2, d, b, g0, g1, g2, g3, g4, ms⟩ := open_entry h2
        exact ⟨s0, s1, s2, d, b, ⟨(hat 0 (by omega)).trans g0, (hat 1 (by omega)).trans g1, (hat 2 (by omega)).trans g2, (hat 3 (by omega)).trans g3, (hat 4 (by omega)).trans g4⟩, ms⟩
      have hspot : spot = none ∧ blk < w.heap.size := by
        obtain ⟨_, _, _, _, _, ⟨g0, _⟩, _⟩ := key 0 hpos
        refine ⟨?_, ?_⟩
        · cases spot with
          | none => rfl
          | some z =>
            exfalso
            simp only [World.cell?, Addr.add] at g0
            split at g0 <;> simp at g0
        · exact World.block_lt_of_cell? _ _ g0
      obtain ⟨rfl, hblk⟩ := hspot
      refine .inr ⟨blk, off, len, cap, rfl, by omega, hblk, fun k hk => ?_⟩
      obtain ⟨s0, s1, s2, d, b, ⟨g0, g1, g2, g3, g4⟩, ms⟩ := key k hk
      simp only [addr_none] at g0 g1 g2 g3 g4
      exact ⟨s0, s1, s2, d, b, ⟨g0, g1, g2, g3, g4⟩, ms⟩
end

theorem int_cell {W : World} (h : W.ShapedOpen Tryz.prog) : IntCell W :=
  cell_of_shapedOpen_int (zero := #[.int .i64 0]) (t := 3) h (of_decide_eq_true (by kernel_rfl)) (by kernel_rfl) rfl (by kernel_rfl) (by kernel_rfl) Tryz.underlying3

set_option maxRecDepth 100000 in
theorem lifted (os : Os) (started : os.Started) (H : Type) (enc : TypeId × Value → H) :
    ReturnsInHanded {} Tryz.checked os 3 .any (fun w args => (Rows.ingestNobodySpec.pre enc Tryz.prog Tryz.f3 Rows.ingestNobodyRow.domain false w args ∧ laidMetH Tryz.prog Rows.ingestNobodyRow.laid w) ∧ sizedMet enc Tryz.prog Tryz.f3 (OpenSpec.ofChange Rows.ingestNobodySpec) false w args)
      (Rows.ingestNobodySpec.post enc Tryz.prog Tryz.f3 false true false false) := by
  refine lifted_laid_shaped (C := Tryz.checked) (X := fun w _ => laidMetH Tryz.prog Rows.ingestNobodyRow.laid w) own started (by kernel_rfl) Tryz.func3
    (ChangeSpec.witness_shaped (enc := enc) (C := Tryz.checked) (os := os) (X := fun w _ => laidMetH Tryz.prog Rows.ingestNobodyRow.laid w) false (World.laidAll Tryz.prog os Rows.ingestNobodyRow.laid) #[.int .i64 0, .agg #[.string ⟨#[]⟩, .string ⟨#[]⟩, .slice none 0 0], .string ⟨#[]⟩] 8 (World.laidAll_os _ _ _)
      (World.shaped_of_ZipB (by kernel_rfl) (by kernel_rfl)) (by kernel_rfl) (by kernel_rfl) (by kernel_rfl)
      (by rw [MakeChecks.laidMetH_plain _ _ _ (by kernel_rfl)]; exact laidMet_laidAll _ (by kernel_rfl) (by kernel_rfl))) ?_
  intro W base args ds gs before hval0 hW hsh
  have hval : ∀ (j : Nat) t v, Tryz.f3.params[j]? = some t → args[j]? = some v → Value.okWide Tryz.prog W .any base t v := hval0
  have hW' := hW
  obtain ⟨p, q, hA0, hV, rfl, _, _⟩ := hW
  have hA : DataW.TrodAll enc Tryz.prog W 0 (fun _ => true) true Tryz.f3.params.toList args.toList ds p := hA0
  rw [Tryz.params3] at hA hval
  obtain ⟨v0, v1, v2, d0, d1, d2, p0, p1, p2, rfl, rfl, rfl, g0, g1, g2⟩ := trodAll_three hA
  obtain ⟨feed, rfl, rfl, rfl, wf⟩ := open_int Tryz.underlying3 (hval 0 3 v0 rfl rfl) g0
  obtain ⟨t, l, v, y0, y1, y2, n, rfl, _, _, t0, t1, t2⟩ := open_agg3 Tryz.underlying24 (by kernel_rfl) (by kernel_rfl) (hval 1 24 v1 rfl rfl) g1
  obtain ⟨st, e0, _, m0⟩ := DataW.trod_string Tryz.underlying9 t0
  obtain ⟨sl, e1, _, m1⟩ := DataW.trod_string Tryz.underlying9 t1
  obtain rfl : t = .string st := by simpa using e0
  obtain rfl : l = .string sl := by simpa using e1
  have hdoc : IsDoc W v := open_doc t2
  obtain ⟨text, rfl, _, _, m2⟩ := Go.ChangeMaps.open_string Tryz.underlying9 (hval 2 9 v2 rfl rfl) g2
  have hi := int_cell hsh
  have h0 : 0 < W.heap.size := by
    obtain ⟨m, hm⟩ := hi
    exact World.block_lt_of_cell? _ _ hm
  refine (Tryz.law_any feed st sl text v W m0 m1 m2 hdoc hi h0).mono fun e W' he => ?_
  obtain ⟨rfl, hb⟩ := he
  exact ⟨_, rfl, law_post rfl rfl Tryz.underlying4 rfl laidOut (by kernel_rfl) hW' hb⟩

theorem ingestNobody_holds : Rows.IngestNobodySaid :=
  OpenClaim.holds_of_wide 3 Tryz.f3 rfl rfl rfl rfl rfl rfl rfl ⟨rfl, rfl, rfl, rfl, rfl⟩ rfl rfl rfl rfl rfl (by kernel_rfl) Tryz.func3 (by kernel_rfl)
    (of_decide_eq_true (by kernel_rfl)) (by unfold Func.isWrapper; first | (rw [if_pos (by decide +kernel)]; kernel_rfl) | (rw [if_neg (by decide +kernel)]; exact ⟨rfl, rfl⟩))
    (fun os started H enc _ => lifted os started H enc)

theorem ingestNobodyCard_holds : Rows.IngestNobodyCardSaid :=
  Claim7.holds_tied_plain_at .later [] [.data, .pinned] true (true, "81944032fea16b919b1f78f679babd5b18a61ac8fe899f7a8f2172113b0559b0") false ingestNobody_holds (fun _ h => by cases h) (by kernel_rfl) (fun _ h => by cases h) ingestNobody_row_tie rfl ⟨rfl, rfl⟩ (by kernel_rfl) rfl
    (fun f fn hf hfn => by
      obtain rfl : f = 3 := Option.some.inj ((show Tryz.prog.funcNamed "newsstand/newsstandlaw23.IngestNobody" = some 3 by kernel_rfl).symm.trans hf) |>.symm
      obtain rfl : fn = Tryz.f3 := (Option.some.inj (Tryz.func3.symm.trans hfn)).symm
      exact ⟨by kernel_rfl, fun j t ht => by
        rw [Tryz.params3] at ht
        have hm : t ∈ [3, 24, 9] := by simpa using Array.mem_of_getElem? ht
        have hall : ([3, 24, 9].all fun u => !Tryz.prog.wantsStandIn u) = true := by kernel_rfl
        exact (show Tryz.prog.wantsStandIn t = false by simpa using List.all_eq_true.1 hall t hm)⟩)
    (by kernel_rfl)
#print axioms ingestNobody_holds
#print axioms ingestNobodyCard_holds
end Go.Proofs.YtdkcpdmpdpglbaaGreatDoor
