/- The functions that newsstandlaw23.IngestNobody calls, of a nil state; newsstandref12.Large; the law itself: it returns true, and all that was there is as it was. -/
import Derived.Test.YtdkcpdmpdpglbaaGreatDoorLives
import Derived.WalkKit
set_option autoImplicit false
set_option maxRecDepth 100000
set_option linter.unusedVariables false
set_option linter.unusedSimpArgs false
namespace Go.Proofs
open Go Go.Ab Go.RowKit
theorem Tryz.snd0 : Snd Tryz.prog (Tryz.C0.memo []) 1000 := sound Tryz.mixed (cok_memo Tryz.cok0 Tryz.noMemo) _
theorem Tryz.of_nil (w : World) (m feed : Int) (t l v : Value) (ht : atomOf t = t) (hl : atomOf l = l) (hv : atomOf v = v) (hc : w.cell? ⟨0, 0, none⟩ = some (.int .i64 m)) :
    Calls Tryz.prog 6 #[.pointer none, .int .i64 feed, .agg #[t, l, v]] w fun e w' => e = .returned (.tuple #[.slice none 0 0, .int .i64 6]) ∧ Below w.heap.size w w' := by
  have hle : Tryz.prog.globals.size ≤ 7 := by rw [Tryz.globals3]; decide
  have := open_calls (θ := th1 7 m fun i => if i = 3 then .int .i64 feed else if i = 4 then t else if i = 5 then l else v) (args := [.nilptr, .ui .i64 3, .agg [.uat 4, .uat 5, .uat 6]]) (v := .tuple [.nilslice, .int .i64 6])
    Tryz.snd0 (f := 6) (by kernel_rfl) (s := st0 7) (by kernel_rfl) (h1 (by rw [Tryz.globals3]; decide) hle hc) (glob1 hle) (by simp [wfL, wf, th1]) (fun id o h => ⟨_, (st0_get h).2⟩) (fun _ => rfl)
  simpa [concL, conc, th1, intOfV, ht, hl, hv] using this
theorem Tryz.plan_nil (w : World) (m feed : Int) (t : ByteArray) (hc : w.cell? ⟨0, 0, none⟩ = some (.int .i64 m)) :
    Calls Tryz.prog 7 #[.pointer none, .int .i64 feed, .string t] w fun e w' => e = .returned (.tuple #[.slice none 0 0, .int .i64 6]) ∧ Below w.heap.size w w' := by
  have hle : Tryz.prog.globals.size ≤ 7 := by rw [Tryz.globals3]; decide
  have := open_calls (θ := th1 7 m fun i => if i = 3 then .int .i64 feed else .string t) (args := [.nilptr, .ui .i64 3, .uat 4]) (v := .tuple [.nilslice, .int .i64 6])
    Tryz.snd0 (f := 7) (by kernel_rfl) (s := st0 7) (by kernel_rfl) (h1 (by rw [Tryz.globals3]; decide) hle hc) (glob1 hle) (by simp [wfL, wf, th1]) (fun id o h => ⟨_, (st0_get h).2⟩) (fun _ => rfl)
  simpa [concL, conc, th1, intOfV, atomOf] using this
theorem Tryz.do_nil (w : World) (m feed : Int) (t : ByteArray) (hc : w.cell? ⟨0, 0, none⟩ = some (.int .i64 m)) :
    Calls Tryz.prog 8 #[.pointer none, .int .i64 feed, .string t] w fun e w' => e = .returned (.tuple #[.slice none 0 0, .int .i64 6]) ∧ Below w.heap.size w w' := by
  have hle : Tryz.prog.globals.size ≤ 7 := by rw [Tryz.globals3]; decide
  have := open_calls (θ := th1 7 m fun i => if i = 3 then .int .i64 feed else .string t) (args := [.nilptr, .ui .i64 3, .uat 4]) (v := .tuple [.nilslice, .int .i64 6])
    Tryz.snd0 (f := 8) (by kernel_rfl) (s := st0 7) (by kernel_rfl) (h1 (by rw [Tryz.globals3]; decide) hle hc) (glob1 hle) (by simp [wfL, wf, th1]) (fun id o h => ⟨_, (st0_get h).2⟩) (fun _ => rfl)
  simpa [concL, conc, th1, intOfV, atomOf] using this
theorem Tryz.room_nil (w : World) (m : Int) (hc : w.cell? ⟨0, 0, none⟩ = some (.int .i64 m)) :
    Calls Tryz.prog 9 #[.pointer none] w fun e w' => e = .returned (.int .i64 0) ∧ Below w.heap.size w w' := by
  have hle : Tryz.prog.globals.size ≤ 7 := by rw [Tryz.globals3]; decide
  have := open_calls (θ := th1 7 m fun i => undef) (args := [.nilptr]) (v := .int .i64 0)
    Tryz.snd0 (f := 9) (by kernel_rfl) (s := st0 7) (by kernel_rfl) (h1 (by rw [Tryz.globals3]; decide) hle hc) (glob1 hle) (by simp [wfL, wf, th1]) (fun id o h => ⟨_, (st0_get h).2⟩) (fun _ => rfl)
  simpa [concL, conc, th1] using this

def SomeBool (w : World) (e : Ending) (w' : World) : Prop := (∃ b, e = .returned (.bool b)) ∧ Below w.heap.size w w'
def EntAt (w : World) (blk off : Nat) (s0 s1 s2 : ByteArray) (d : Int) (b : Bool) : Prop :=
  w.cell? ⟨blk, off, none⟩ = some (.string s0) ∧ w.cell? ⟨blk, off + 1, none⟩ = some (.string s1) ∧ w.cell? ⟨blk, off + 2, none⟩ = some (.string s2) ∧ w.cell? ⟨blk, off + 3, none⟩ = some (.int .i64 d) ∧ w.cell? ⟨blk, off + 4, none⟩ = some (.bool b)
theorem someBool_mk {w w' : World} (b : Bool) (hb : Below w.heap.size w w') : SomeBool w (.returned (.bool b)) w' := ⟨⟨b, rfl⟩, hb⟩
set_option maxHeartbeats 2000000 in
theorem Tryz.large_small (t l : ByteArray) (blk off n cap : Nat) (w : World) (hb : blk < w.heap.size) (hn : n ≤ 300) (ht : t.size ≤ 2000) (hl : l.size ≤ 2000)
    (hc : ∀ k, k < n → ∃ s0 s1 s2 d b, EntAt w blk (off + k * 5) s0 s1 s2 d b ∧ s0.size ≤ maxLen ∧ s1.size ≤ maxLen ∧ s2.size ≤ maxLen) :
    Calls Tryz.prog 4 #[.agg #[.string t, .string l, .slice (some ⟨blk, off, none⟩) n cap]] w (SomeBool w) := by
  go_enter Tryz.func4, Tryz.ntmps4
  go_wp2
  go_loopw [3, 4] (fun s i wr => ∃ (k : Nat) (z : Int), k ≤ n ∧ i = .int .i64 k ∧ s = .int .i64 z ∧ Below w.heap.size w wr ∧ wr.cell? ⟨w.heap.size, 2, none⟩ = some (.slice (some ⟨blk, off, none⟩) n cap) ∧ w.heap.size < wr.heap.size)
    (fun _ i _ => n - (intOf i).toNat)
  case atStart => exact ⟨0, 0, Nat.zero_le _, rfl, rfl, (Below.refl _ _).alloc (Nat.le_refl _) _, by simp, by simp⟩
  case round =>
    obtain ⟨k, z, hk, rfl, rfl, hbel, hx, hsz⟩ := hrel
    by_cases hlt : k < n
    · obtain ⟨s0, s1, s2, d, b, ⟨h0, h1, h2, h3, h4⟩, m0, m1, m2⟩ := hc k hlt
      unfold maxLen at m0 m1 m2
      have g0 := (hbel.cell (p := ⟨blk, off + k * 5, none⟩) hb).trans h0
      have g1 := (hbel.cell (p := ⟨blk, off + k * 5 + 1, none⟩) hb).trans h1
      have g2 := (hbel.cell (p := ⟨blk, off + k * 5 + 2, none⟩) hb).trans h2
      have g3 := (hbel.cell (p := ⟨blk, off + k * 5 + 3, none⟩) hb).trans h3
      have g4 := (hbel.cell (p := ⟨blk, off + k * 5 + 4, none⟩) hb).trans h4
      clear h0 h1 h2 h3 h4 hc
      go_wp2
      all_goals first
        | (go_ret; exact someBool_mk _ (hbel.alloc (by omega) _))
        | (go_roundw
           case rel => exact ⟨k + 1, _, by omega, by go_num, rfl, hbel.alloc (by omega) _, by rw [World.cell?_alloc_old _ _ _ (by simp; omega)]; exact hx, by simp; omega⟩
           case measure => simp [intOf]; omega)
    · go_wp2
      go_ret
      exact someBool_mk _ hbel
set_option maxHeartbeats 2000000 in
theorem Tryz.large_many (t l : ByteArray) (a : Option Addr) (n cap : Nat) (w : World) (hn : 300 < n) (hm : n ≤ maxLen) :
    Calls Tryz.prog 4 #[.agg #[.string t, .string l, .slice a n cap]] w (SomeBool w) := by
  unfold maxLen at hm
  go_enter Tryz.func4, Tryz.ntmps4
  go_wp2
  go_ret
  exact someBool_mk _ ((Below.refl _ _).alloc (Nat.le_refl _) _)
set_option maxHeartbeats 2000000 in
theorem Tryz.large_title (t l : ByteArray) (a : Option Addr) (n cap : Nat) (w : World) (hn : n ≤ 300) (ht : 2000 < t.size) (hm : t.size ≤ maxLen) :
    Calls Tryz.prog 4 #[.agg #[.string t, .string l, .slice a n cap]] w (SomeBool w) := by
  unfold maxLen at hm
  go_enter Tryz.func4, Tryz.ntmps4
  go_wp2
  go_ret
  exact someBool_mk _ ((Below.refl _ _).alloc (Nat.le_refl _) _)
set_option maxHeartbeats 2000000 in
theorem Tryz.large_link (t l : ByteArray) (a : Option Addr) (n cap : Nat) (w : World) (hn : n ≤ 300) (ht : t.size ≤ 2000) (hl : 2000 < l.size) (hm : l.size ≤ maxLen) :
    Calls Tryz.prog 4 #[.agg #[.string t, .string l, .slice a n cap]] w (SomeBool w) := by
  unfold maxLen at hm
  go_enter Tryz.func4, Tryz.ntmps4
  go_wp2
  go_ret
  exact someBool_mk _ ((Below.refl _ _).alloc (Nat.le_refl _) _)
set_option maxHeartbeats 2000000 in
theorem Tryz.large_nil (t l : ByteArray) (a : Option Addr) (cap : Nat) (w : World) (ht : t.size ≤ 2000) (hl : l.size ≤ 2000) :
    Calls Tryz.prog 4 #[.agg #[.string t, .string l, .slice a 0 cap]] w (SomeBool w) := by
  go_enter Tryz.func4, Tryz.ntmps4
  go_wp2
  go_loopw [3, 4] (fun s i wr => i = .int .i64 0 ∧ s = .int .i64 0 ∧ Below w.heap.size w wr ∧ wr.cell? ⟨w.heap.size, 2, none⟩ = some (.slice a 0 cap)) (fun _ _ _ => 0)
  case atStart => exact ⟨rfl, rfl, (Below.refl _ _).alloc (Nat.le_refl _) _, by simp⟩
  case round =>
    obtain ⟨rfl, rfl, hbel, hx⟩ := hrel
    go_wp2
    go_ret
    exact someBool_mk _ hbel
/-- what the law's document is: a slice of entries, or nil -/
def IsDoc (w : World) (v : Value) : Prop := (∃ a cap, v = .slice a 0 cap) ∨ ∃ blk off n cap, v = .slice (some ⟨blk, off, none⟩) n cap ∧ n ≤ maxLen ∧ blk < w.heap.size ∧
  ∀ k, k < n → ∃ s0 s1 s2 d b, EntAt w blk (off + k * 5) s0 s1 s2 d b ∧ s0.size ≤ maxLen ∧ s1.size ≤ maxLen ∧ s2.size ≤ maxLen
theorem IsDoc.atom {w : World} {v : Value} (h : IsDoc w v) : atomOf v = v := by
  rcases h with ⟨_, _, rfl⟩ | ⟨_, _, _, _, rfl, _⟩ <;> rfl
theorem EntAt.below {w w' : World} {blk off : Nat} {s0 s1 s2 : ByteArray} {d : Int} {b : Bool} (h : EntAt w blk off s0 s1 s2 d b) (hb : Below w.heap.size w w') (hl : blk < w.heap.size) : EntAt w' blk off s0 s1 s2 d b := by
  obtain ⟨h0, h1, h2, h3, h4⟩ := h
  exact ⟨(hb.cell (p := ⟨blk, _, none⟩) hl).trans h0, (hb.cell (p := ⟨blk, _, none⟩) hl).trans h1, (hb.cell (p := ⟨blk, _, none⟩) hl).trans h2, (hb.cell (p := ⟨blk, _, none⟩) hl).trans h3, (hb.cell (p := ⟨blk, _, none⟩) hl).trans h4⟩
theorem IsDoc.below {w w' : World} {v : Value} (h : IsDoc w v) (hb : Below w.heap.size w w') : IsDoc w' v := by
  rcases h with ⟨a, cap, rfl⟩ | ⟨blk, off, n, cap, rfl, hn, hl, hc⟩
  · exact .inl ⟨a, cap, rfl⟩
  · refine .inr ⟨blk, off, n, cap, rfl, hn, Nat.lt_of_lt_of_le hl hb.size, fun k hk => ?_⟩
    obtain ⟨s0, s1, s2, d, b, h, hs⟩ := hc k hk
    exact ⟨s0, s1, s2, d, b, h.below hb hl, hs⟩
theorem Tryz.large_any (t l : ByteArray) (v : Value) (w : World) (ht : t.size ≤ maxLen) (hl : l.size ≤ maxLen) (hv : IsDoc w v) : Calls Tryz.prog 4 #[.agg #[.string t, .string l, v]] w (SomeBool w) := by
  rcases hv with ⟨a, cap, rfl⟩ | ⟨blk, off, n, cap, rfl, hn, hb, hc⟩
  · by_cases h1 : t.size ≤ 2000
    · by_cases h2 : l.size ≤ 2000
      · exact Tryz.large_nil t l a cap w h1 h2
      · exact Tryz.large_link t l a 0 cap w (by omega) h1 (by omega) hl
    · exact Tryz.large_title t l a 0 cap w (by omega) (by omega) ht
  · by_cases h0 : n ≤ 300
    · by_cases h1 : t.size ≤ 2000
      · by_cases h2 : l.size ≤ 2000
        · exact Tryz.large_small t l blk off n cap w hb h0 h1 h2 hc
        · exact Tryz.large_link t l _ n cap w h0 h1 (by omega) hl
      · exact Tryz.large_title t l _ n cap w h0 (by omega) ht
    · exact Tryz.large_many t l _ n cap w (by omega) hn
end Go.Proofs
