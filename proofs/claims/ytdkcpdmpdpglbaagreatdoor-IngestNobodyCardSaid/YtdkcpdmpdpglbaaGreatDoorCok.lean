/- The machine over this program: its table is the program's, and what it takes of functions that it does not run is so. -/
import Derived.Test.YtdkcpdmpdpglbaaGreatDoorTok
import Derived.Test.YtdkcpdmpdpglbaaGreatDoorMemo
import Derived.Test.YtdkcpdmpdpglbaaGreatDoorShelf
set_option autoImplicit false
set_option maxRecDepth 1000000
namespace Go.Proofs
open Go Go.Ab Go.RowKit Go.Maps Go.Sort Go.Shelf

def Tryz.intrs : List (Nat × (List AV → St → Option (AV × St))) := [(223, inIndexByte), (185, inIndex 0), (124, inNoEscape), (54, inSortedI [84, 85, 86, 87] [74, 75, 76, 77] 3)]
def Tryz.C0 : Ctx := ⟨Go.Ab.T.tab, intrAll Tryz.intrs⟩

theorem Tryz.ok_noEscape : IntrOk Tryz.prog 124 inNoEscape := noEscape_ok (fn := Tryz.f124) ⟨Tryz.func124, by kernel_rfl, by kernel_rfl, by kernel_rfl, by kernel_rfl⟩
theorem Tryz.ok_indexByte : IntrOk Tryz.prog 223 inIndexByte := indexByte_ok (fn := Tryz.f223) ⟨Tryz.func223, by kernel_rfl, by kernel_rfl, by kernel_rfl, by kernel_rfl⟩
theorem Tryz.ok_index : IntrOk Tryz.prog 185 (inIndex 0) :=
  index_ok (of_decide_eq_true (by kernel_rfl)) (enters_of Tryz.func185 (by kernel_rfl) rfl) (fun s sub m w hs hm => Any.stringslite_Index Tryz.lays219 s sub m w hs hm)

theorem Tryz.sorts (m : Nat) : AnyZI.SortsIn Tryz.prog Tryz.sortedA_ren Fence.wide m :=
  ⟨fun blk off cap ss W hH hblk hsz => callsIn_wide.2 (AnyM.slices_Sort_int Tryz.sortA blk off cap ss W hH hblk hsz),
   fun p cap W => callsIn_wide.2 (AnyM.slices_Sort_int_none Tryz.sortA p cap W)⟩
theorem Tryz.sortsA : SortsKeys Tryz.prog 54 84 3 3 := by
  refine ⟨fun Bm b nn D0 w hB hc hown hmax hbytes => ?_, fun Bm w hB hc => ?_⟩
  · have hseq : SeqGives Fence.wide 2 Tryz.prog 84 #[.pointer (some ⟨Bm, 0, none⟩)] encZ (fun ss => ss.Perm (intKeys D0)) (Maps.size D0) w :=
      AnyZI.keys_gives (ρ := Tryz.keysA_ren) { Tryz.keysA with } Fence.wide _ trivial rfl (by omega) Bm b nn D0 _ hB hc hown
    have cS := AnyZI.sorted_in Tryz.sortedA Fence.wide 5 trivial trivial trivial trivial rfl (by omega) (Tryz.sorts _) (enters_of Tryz.func83 (by kernel_rfl) rfl) 84 #[.pointer (some ⟨Bm, 0, none⟩)] trivial (enters_of Tryz.func84 (by kernel_rfl) rfl) _ _ hmax hbytes _ hseq
    exact callsIn_wide.1 cS
  · have hseq : SeqGives Fence.wide 2 Tryz.prog 84 #[.pointer (some ⟨Bm, 0, none⟩)] encZ (fun ss : List Int => ss = []) 0 w :=
      AnyZI.keys_gives_nil (ρ := Tryz.keysA_ren) { Tryz.keysA with } Fence.wide _ trivial rfl Bm _ hB hc
    have cS := AnyZI.sorted_in Tryz.sortedA Fence.wide 5 trivial trivial trivial trivial rfl (by omega) (Tryz.sorts _) (enters_of Tryz.func83 (by kernel_rfl) rfl) 84 #[.pointer (some ⟨Bm, 0, none⟩)] trivial (enters_of Tryz.func84 (by kernel_rfl) rfl) _ 0 (Nat.zero_le _) (by omega) _ hseq
    refine (callsIn_wide.1 cS).mono ?_
    rintro e w' ⟨v, ss, rfl, hS, _, hnil, hb⟩
    exact ⟨by rw [hnil.2 hS], hb⟩
theorem Tryz.sortsB : SortsKeys Tryz.prog 54 85 3 3 := by
  refine ⟨fun Bm b nn D0 w hB hc hown hmax hbytes => ?_, fun Bm w hB hc => ?_⟩
  · have hseq : SeqGives Fence.wide 2 Tryz.prog 85 #[.pointer (some ⟨Bm, 0, none⟩)] encZ (fun ss => ss.Perm (intKeys D0)) (Maps.size D0) w :=
      AnyZI.keys_gives (ρ := Tryz.keysB_ren) { Tryz.keysB with } Fence.wide _ trivial rfl (by omega) Bm b nn D0 _ hB hc hown
    have cS := AnyZI.sorted_in Tryz.sortedA Fence.wide 5 trivial trivial trivial trivial rfl (by omega) (Tryz.sorts _) (enters_of Tryz.func83 (by kernel_rfl) rfl) 85 #[.pointer (some ⟨Bm, 0, none⟩)] trivial (enters_of Tryz.func85 (by kernel_rfl) rfl) _ _ hmax hbytes _ hseq
    exact callsIn_wide.1 cS
  · have hseq : SeqGives Fence.wide 2 Tryz.prog 85 #[.pointer (some ⟨Bm, 0, none⟩)] encZ (fun ss : List Int => ss = []) 0 w :=
      AnyZI.keys_gives_nil (ρ := Tryz.keysB_ren) { Tryz.keysB with } Fence.wide _ trivial rfl Bm _ hB hc
    have cS := AnyZI.sorted_in Tryz.sortedA Fence.wide 5 trivial trivial trivial trivial rfl (by omega) (Tryz.sorts _) (enters_of Tryz.func83 (by kernel_rfl) rfl) 85 #[.pointer (some ⟨Bm, 0, none⟩)] trivial (enters_of Tryz.func85 (by kernel_rfl) rfl) _ 0 (Nat.zero_le _) (by omega) _ hseq
    refine (callsIn_wide.1 cS).mono ?_
    rintro e w' ⟨v, ss, rfl, hS, _, hnil, hb⟩
    exact ⟨by rw [hnil.2 hS], hb⟩
theorem Tryz.sortsC : SortsKeys Tryz.prog 54 86 3 3 := by
  refine ⟨fun Bm b nn D0 w hB hc hown hmax hbytes => ?_, fun Bm w hB hc => ?_⟩
  · have hseq : SeqGives Fence.wide 2 Tryz.prog 86 #[.pointer (some ⟨Bm, 0, none⟩)] encZ (fun ss => ss.Perm (intKeys D0)) (Maps.size D0) w :=
      AnyZI.keys_gives (ρ := Tryz.keysC_ren) { Tryz.keysC with } Fence.wide _ trivial rfl (by omega) Bm b nn D0 _ hB hc hown
    have cS := AnyZI.sorted_in Tryz.sortedA Fence.wide 5 trivial trivial trivial trivial rfl (by omega) (Tryz.sorts _) (enters_of Tryz.func83 (by kernel_rfl) rfl) 86 #[.pointer (some ⟨Bm, 0, none⟩)] trivial (enters_of Tryz.func86 (by kernel_rfl) rfl) _ _ hmax hbytes _ hseq
    exact callsIn_wide.1 cS
  · have hseq : SeqGives Fence.wide 2 Tryz.prog 86 #[.pointer (some ⟨Bm, 0, none⟩)] encZ (fun ss : List Int => ss = []) 0 w :=
      AnyZI.keys_gives_nil (ρ := Tryz.keysC_ren) { Tryz.keysC with } Fence.wide _ trivial rfl Bm _ hB hc
    have cS := AnyZI.sorted_in Tryz.sortedA Fence.wide 5 trivial trivial trivial trivial rfl (by omega) (Tryz.sorts _) (enters_of Tryz.func83 (by kernel_rfl) rfl) 86 #[.pointer (some ⟨Bm, 0, none⟩)] trivial (enters_of Tryz.func86 (by kernel_rfl) rfl) _ 0 (Nat.zero_le _) (by omega) _ hseq
    refine (callsIn_wide.1 cS).mono ?_
    rintro e w' ⟨v, ss, rfl, hS, _, hnil, hb⟩
    exact ⟨by rw [hnil.2 hS], hb⟩
theorem Tryz.sortsD : SortsKeys Tryz.prog 54 87 3 3 := by
  refine ⟨fun Bm b nn D0 w hB hc hown hmax hbytes => ?_, fun Bm w hB hc => ?_⟩
  · have hseq : SeqGives Fence.wide 2 Tryz.prog 87 #[.pointer (some ⟨Bm, 0, none⟩)] encZ (fun ss => ss.Perm (intKeys D0)) (Maps.size D0) w :=
      AnyZI.keys_gives (ρ := Tryz.keysD_ren) { Tryz.keysD with } Fence.wide _ trivial rfl (by omega) Bm b nn D0 _ hB hc hown
    have cS := AnyZI.sorted_in Tryz.sortedA Fence.wide 5 trivial trivial trivial trivial rfl (by omega) (Tryz.sorts _) (enters_of Tryz.func83 (by kernel_rfl) rfl) 87 #[.pointer (some ⟨Bm, 0, none⟩)] trivial (enters_of Tryz.func87 (by kernel_rfl) rfl) _ _ hmax hbytes _ hseq
    exact callsIn_wide.1 cS
  · have hseq : SeqGives Fence.wide 2 Tryz.prog 87 #[.pointer (some ⟨Bm, 0, none⟩)] encZ (fun ss : List Int => ss = []) 0 w :=
      AnyZI.keys_gives_nil (ρ := Tryz.keysD_ren) { Tryz.keysD with } Fence.wide _ trivial rfl Bm _ hB hc
    have cS := AnyZI.sorted_in Tryz.sortedA Fence.wide 5 trivial trivial trivial trivial rfl (by omega) (Tryz.sorts _) (enters_of Tryz.func83 (by kernel_rfl) rfl) 87 #[.pointer (some ⟨Bm, 0, none⟩)] trivial (enters_of Tryz.func87 (by kernel_rfl) rfl) _ 0 (Nat.zero_le _) (by omega) _ hseq
    refine (callsIn_wide.1 cS).mono ?_
    rintro e w' ⟨v, ss, rfl, hS, _, hnil, hb⟩
    exact ⟨by rw [hnil.2 hS], hb⟩
theorem Tryz.ok_sorted : IntrOk Tryz.prog 54 (inSortedI [84, 85, 86, 87] [74, 75, 76, 77] 3) := by
  refine sorted_ok (k := 3) Tryz.underlying3 (enters_of Tryz.func54 (by kernel_rfl) rfl) ?_ ?_ (by kernel_rfl)
  · intro g hg
    simp only [List.mem_cons, List.not_mem_nil, or_false] at hg
    rcases hg with rfl | rfl | rfl | rfl
    · exact Tryz.sortsA
    · exact Tryz.sortsB
    · exact Tryz.sortsC
    · exact Tryz.sortsD
  · have h : [74, 75, 76, 77].all (noSl Tryz.prog) = true := by kernel_rfl
    exact List.all_eq_true.1 h
theorem Tryz.mixed : Tryz.prog.follows .mixedOrders = true := by kernel_rfl
theorem Tryz.cok0 : COk Tryz.prog Tryz.C0 := by
  refine cok_of Tryz.tabE Tryz.allOk ?_
  intro p hp
  simp only [Tryz.intrs, List.mem_cons, List.not_mem_nil, or_false] at hp
  rcases hp with rfl | rfl | rfl | rfl
  · exact Tryz.ok_indexByte
  · exact Tryz.ok_index
  · exact Tryz.ok_noEscape
  · exact Tryz.ok_sorted
end Go.Proofs
