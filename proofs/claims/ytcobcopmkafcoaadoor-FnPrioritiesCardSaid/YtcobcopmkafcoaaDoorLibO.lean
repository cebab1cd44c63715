/- Library calls: cutting at commas, trimming spaces. -/
import Derived.Test.YtcobcopmkafcoaaDoorMerge
import Derived.Test.YtcobcopmkafcoaaDoorShelfO
import Derived.Test.YtcobcopmkafcoaaDoorSln
namespace Go.Proofs.YtcobcopmkafcoaaDoor
open SL Go.RowKit
def MaxOk (w : World) : Prop := ∃ m, w.cell? ⟨0, 0, none⟩ = some (.int .i64 m)
theorem MaxOk.of {w : World} (h : w.ShapedOpen Tryd.prog) : MaxOk w := Tryd.laysM146.s1_3 w h
theorem MaxOk.sat {w0 w : World} {H : List Ck} (h : MaxOk w0) (hs : Sat w0 [] w H) : MaxOk w := by
  obtain ⟨m, hm⟩ := h
  exact ⟨m, (hs.below.cell (block_lt_of_cell hm)).trans hm⟩
theorem mk_map (L : List ByteArray) : L = (L.map (·.data.toList)).map mkS := by
  rw [List.map_map]
  exact (List.map_id' L).symm
theorem lib_Split {w : World} (hm : MaxOk w) (l : List UInt8) (hl : l.length ≤ 1048576) : CN Tryd.prog 26 [.string ⟨l.toArray⟩, .string ⟨#[44]⟩] w (fun v ch => OwS 9 1 (PlO strC) v ((pieces l).map mkS) ch) := by
  obtain ⟨m, hm⟩ := hm
  refine (Any.strings_Split { Tryd.laysM146 with } Tryd.laysM146.i9 ⟨l.toArray⟩ ⟨#[44]⟩ m w (by simp [ByteArray.size]; omega) hm (by decide)).mono fun e w' ⟨he, hw⟩ => ?_
  have h1 : Lib.splitB ⟨#[44]⟩ 0 (Lib.countB ⟨l.toArray⟩ ⟨#[44]⟩) ⟨l.toArray⟩ = (pieces l).map mkS := by
    rw [mk_map (Lib.splitB _ _ _ _), Lib.splitB_data, pieces_split]
  have h2 := Lib.splitB_all ⟨#[44]⟩ (by decide) 0 _ ⟨l.toArray⟩ rfl
  rw [h1] at h2 hw
  rw [← h2] at he
  have h3 := pieces_len l
  have h4 : ((pieces l).map mkS).length = (pieces l).length := List.length_map ..
  have hf : ((pieces l).map mkS).map Value.string = ((pieces l).map mkS).flatMap strC := by
    induction (pieces l).map mkS with
    | nil => rfl
    | cons a l ih => rw [List.map_cons, ih]; rfl
  rw [hf] at hw
  refine ⟨_, [⟨w.heap.size, 9, ((pieces l).map mkS).flatMap strC⟩], he, ⟨[], .inr ⟨w.heap.size, _, ((pieces l).map mkS).flatMap strC, [], [], rfl, Ows.plain _, by simp, Nat.le_refl _, by rw [h4]; simp only [maxLen]; omega, ?_⟩⟩, ?_⟩
  · rw [← hf]; simp
  · subst hw
    exact (Sat.init w).alloc 9 _
theorem lib_Trim (t : List UInt8) (ht : t.length ≤ 134217728) (w : World) : CV Tryd.prog 27 [.string ⟨t.toArray⟩, .string ⟨#[32]⟩] w (.string ⟨(trim t).toArray⟩) := by
  refine (Tryd.strings_Trim_one ⟨t.toArray⟩ 32 (by decide) w (by simp [ByteArray.size]; omega)).mono fun e w' ⟨he, hw⟩ => ⟨?_, ?_⟩
  · rw [he, trim_lib]
  · rcases hw with rfl | rfl
    · exact Below.refl _ _
    · exact (Below.refl _ _).drew
end Go.Proofs.YtcobcopmkafcoaaDoor
