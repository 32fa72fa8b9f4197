/- newsstandlaw23.lives: whatever the world in which the listed variable holds an int: it returns true, and all that was there is as it was. -/
import Derived.Test.YtdkcpdmpdpglbaaGreatDoorK0
import Derived.Test.YtdkcpdmpdpglbaaGreatDoorK1
import Derived.Test.YtdkcpdmpdpglbaaGreatDoorK3
set_option autoImplicit false
set_option maxRecDepth 1000000
namespace Go.Proofs
open Go Go.Ab Go.RowKit
theorem Tryz.noMemo : ∀ m ∈ ([] : List Memo), MemoOk Tryz.prog m := fun _ h => nomatch h
theorem Tryz.oneMemo {m : Memo} (h : MemoOk Tryz.prog m) : ∀ x ∈ [m], MemoOk Tryz.prog x := fun x hx => by
  rw [List.mem_singleton] at hx
  rw [hx]; exact h
theorem Tryz.mem0 : MemoOk Tryz.prog Go.Ab.T.m0 := memo_ok (sound Tryz.mixed (cok_memo Tryz.cok0 Tryz.noMemo) _) Tryz.run0
theorem Tryz.mem1 : MemoOk Tryz.prog Go.Ab.T.m1 := memo_ok (sound Tryz.mixed (cok_memo Tryz.cok0 Tryz.noMemo) _) Tryz.run1
theorem Tryz.mem2 : MemoOk Tryz.prog Go.Ab.T.m2 := memo_ok (sound Tryz.mixed (cok_memo Tryz.cok0 (Tryz.oneMemo Tryz.mem1)) _) Tryz.run2
theorem Tryz.mem3 : MemoOk Tryz.prog Go.Ab.T.m3 := memo_ok (sound Tryz.mixed (cok_memo Tryz.cok0 Tryz.noMemo) _) Tryz.run3
theorem Tryz.mem4 : MemoOk Tryz.prog Go.Ab.T.m4 := memo_ok (sound Tryz.mixed (cok_memo Tryz.cok0 (Tryz.oneMemo Tryz.mem3)) _) Tryz.run4
theorem Tryz.mem5 : MemoOk Tryz.prog Go.Ab.T.m5 := memo_ok (sound Tryz.mixed (cok_memo Tryz.cok0 Tryz.noMemo) _) Tryz.run5
theorem Tryz.mem6 : MemoOk Tryz.prog Go.Ab.T.m6 := memo_ok (sound Tryz.mixed (cok_memo Tryz.cok0 Tryz.noMemo) _) Tryz.run6
theorem Tryz.mem7 : MemoOk Tryz.prog Go.Ab.T.m7 := memo_ok (sound Tryz.mixed (cok_memo Tryz.cok0 Tryz.noMemo) _) Tryz.run7
theorem Tryz.topOk : ∀ m ∈ Tryz.top, MemoOk Tryz.prog m := by
  intro m hm
  simp only [Tryz.top, List.mem_cons, List.not_mem_nil, or_false] at hm
  rcases hm with rfl | rfl | rfl | rfl | rfl | rfl
  · exact Tryz.mem0
  · exact Tryz.mem2
  · exact Tryz.mem4
  · exact Tryz.mem5
  · exact Tryz.mem6
  · exact Tryz.mem7
theorem Tryz.globals3 : Tryz.prog.globals.size = 3 := by kernel_rfl
theorem Tryz.lives (w : World) (m : Int) (hc : w.cell? ⟨0, 0, none⟩ = some (.int .i64 m)) : Calls Tryz.prog 5 #[] w fun e w' => e = .returned (.bool true) ∧ Below w.heap.size w w' := by
  have hp := Go.Ab.h0 (P := Tryz.prog) (w := w) (m := m) (by rw [Tryz.globals3]; decide) hc
  rw [Tryz.globals3] at hp
  have := closed_calls (v := .bool true) (sound Tryz.mixed (cok_memo Tryz.cok0 Tryz.topOk) 1000000) (by kernel_rfl) Tryz.runTop hp (glob0 Tryz.globals3.symm)
    (fun id o h => ⟨_, (st0_get h).2⟩) (fun _ => rfl)
  exact this
#print axioms Tryz.lives
end Go.Proofs
