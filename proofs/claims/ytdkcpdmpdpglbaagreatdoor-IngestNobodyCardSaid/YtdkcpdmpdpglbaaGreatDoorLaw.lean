/- newsstandlaw23.IngestNobody: whatever its arguments, it returns true, and all that was there is as it was. -/
import Derived.Test.YtdkcpdmpdpglbaaGreatDoorWalks
import Derived.Lib.Hide
set_option autoImplicit false
set_option maxRecDepth 100000
set_option linter.unusedVariables false
set_option linter.unusedSimpArgs false
namespace Go.Proofs
open Go Go.Ab Go.RowKit
def RetTrue (w : World) (e : Ending) (w' : World) : Prop := e = .returned (.bool true) ∧ Below w.heap.size w w'
def IntCell (w : World) : Prop := ∃ m, w.cell? ⟨0, 0, none⟩ = some (.int .i64 m)
theorem IntCell.below {w w' : World} (h : IntCell w) (hl : 0 < w.heap.size) (hb : Below w.heap.size w w') : IntCell w' := by
  obtain ⟨m, hm⟩ := h
  exact ⟨m, (hb.cell (p := ⟨0, 0, none⟩) hl).trans hm⟩
theorem Tryz.lives_c (w : World) (h : Hid (IntCell w)) : Calls Tryz.prog 5 #[] w (RetTrue w) := by
  obtain ⟨m, hm⟩ := (show IntCell w from h)
  exact Tryz.lives w m hm
theorem boxed {w w1 : World} {t l : ByteArray} {v : Value} (hb : Below (w.alloc (.cells #[.string t, .string l, v] 24)).heap.size (w.alloc (.cells #[.string t, .string l, v] 24)) w1) :
    w1.cell? ⟨w.heap.size, 0, none⟩ = some (.string t) ∧ w1.cell? ⟨w.heap.size, 1, none⟩ = some (.string l) ∧ w1.cell? ⟨w.heap.size, 2, none⟩ = some v ∧ w.heap.size < w1.heap.size := by
  have hs := hb.size
  simp at hs
  refine ⟨(hb.cell (p := ⟨w.heap.size, 0, none⟩) (by simp)).trans (by simp), (hb.cell (p := ⟨w.heap.size, 1, none⟩) (by simp)).trans (by simp), (hb.cell (p := ⟨w.heap.size, 2, none⟩) (by simp)).trans (by simp), by omega⟩
theorem below_alloc (w : World) (o : Obj) : Below w.heap.size w (w.alloc o) := (Below.refl _ _).alloc (Nat.le_refl _) _
theorem below_then {w w1 w2 : World} (h : Below w.heap.size w w1) (k : Below w1.heap.size w1 w2) : Below w.heap.size w w2 := h.trans (k.mono h.size)
set_option maxHeartbeats 1000000 in
theorem Tryz.law_any (feed : Int) (t l text : ByteArray) (v : Value) (w : World) (ht : t.size ≤ maxLen) (hl : l.size ≤ maxLen) (htx : text.size ≤ maxLen) (hv : Hid (IsDoc w v)) (hi : Hid (IntCell w)) (h0 : 0 < w.heap.size) :
    Calls Tryz.prog 3 #[.int .i64 feed, .agg #[.string t, .string l, v], .string text] w (RetTrue w) := by
  unfold maxLen at htx
  have HT : Hid (t.size ≤ maxLen) := ht
  have HL : Hid (l.size ≤ maxLen) := hl
  clear ht hl
  go_enter Tryz.func3, Tryz.ntmps3
  have hw0 : Hid (Below w.heap.size w (w.alloc (.cells #[.string t, .string l, v] 24))) := below_alloc _ _
  go_wp2_with fail
  refine (Tryz.large_any t l v _ HT HL (IsDoc.below hv hw0)).mono ?_
  rintro e w1 ⟨⟨b, rfl⟩, hb1⟩
  obtain ⟨c0, c1, c2, hs1⟩ := boxed hb1
  have hw1 : Hid (Below w.heap.size w w1) := below_then hw0 hb1
  have hi1 : Hid (IntCell w1) := IntCell.below hi h0 hw1
  clear hb1
  cases b
  · by_cases h6 : text.size ≤ 6000
    · obtain ⟨m1, hm1⟩ := (show IntCell w1 from hi1)
      have HM1 := Lib.hid hm1
      clear hm1
      have hva : Hid (atomOf v = v) := IsDoc.atom hv
      go_wp2_with fail
      refine (Tryz.of_nil w1 m1 feed _ _ v rfl rfl hva HM1.out).mono ?_
      rintro e w2 ⟨rfl, hb2⟩
      have h01 : 0 < w1.heap.size := by omega
      have hw2 : Hid (Below w.heap.size w w2) := below_then hw1 hb2
      have hm2 : w2.cell? ⟨0, 0, none⟩ = some (.int .i64 m1) := (hb2.cell (p := ⟨0, 0, none⟩) h01).trans HM1.out
      have h02 : 0 < w2.heap.size := Nat.lt_of_lt_of_le h01 hb2.size
      have HM2 := Lib.hid hm2
      clear hm2 hb2 c0 c1 c2 hs1
      go_wp2_with fail
      refine (Tryz.plan_nil w2 m1 feed text HM2.out).mono ?_
      rintro e w3 ⟨rfl, hb3⟩
      have hw3 : Hid (Below w.heap.size w w3) := below_then hw2 hb3
      have hm3 : w3.cell? ⟨0, 0, none⟩ = some (.int .i64 m1) := (hb3.cell (p := ⟨0, 0, none⟩) h02).trans HM2.out
      have h03 : 0 < w3.heap.size := Nat.lt_of_lt_of_le h02 hb3.size
      have HM3 := Lib.hid hm3
      clear hm3 hb3
      go_wp2_with fail
      refine (Tryz.do_nil w3 m1 feed text HM3.out).mono ?_
      rintro e w4 ⟨rfl, hb4⟩
      have hw4 : Hid (Below w.heap.size w w4) := below_then hw3 hb4
      have hm4 : w4.cell? ⟨0, 0, none⟩ = some (.int .i64 m1) := (hb4.cell (p := ⟨0, 0, none⟩) h03).trans HM3.out
      have h04 : 0 < w4.heap.size := Nat.lt_of_lt_of_le h03 hb4.size
      have HM4 := Lib.hid hm4
      clear hm4 hb4
      go_wp2_with fail
      refine (Tryz.lives_c w4 ⟨m1, HM4.out⟩).mono ?_
      rintro e w5 ⟨rfl, hb5⟩
      have hw5 : Hid (Below w.heap.size w w5) := below_then hw4 hb5
      have hm5 : w5.cell? ⟨0, 0, none⟩ = some (.int .i64 m1) := (hb5.cell (p := ⟨0, 0, none⟩) h04).trans HM4.out
      have HM5 := Lib.hid hm5
      clear hm5 hb5
      go_wp2_with fail
      refine (Tryz.room_nil w5 m1 HM5.out).mono ?_
      rintro e w6 ⟨rfl, hb6⟩
      go_wp2
      go_ret
      exact ⟨rfl, below_then hw5 hb6⟩
    · go_wp2_with fail
      refine (Tryz.lives_c _ hi1).mono ?_
      rintro e w2 ⟨rfl, hb2⟩
      go_wp2
      go_ret
      exact ⟨rfl, below_then hw1 hb2⟩
  · go_wp2_with fail
    refine (Tryz.lives_c _ hi1).mono ?_
    rintro e w2 ⟨rfl, hb2⟩
    go_wp2
    go_ret
    exact ⟨rfl, below_then hw1 hb2⟩
#print axioms Tryz.law_any
end Go.Proofs
