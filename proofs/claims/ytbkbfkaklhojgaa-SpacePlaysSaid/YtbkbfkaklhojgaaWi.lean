/- Copy. -/
import Derived.Test.YtbkbfkaklhojgaaWh
namespace Go.Proofs.Ytbkbfkaklhojgaa
open Go.RowKit Go.Shelf
attribute [local go_sem] zC_run
theorem SL.one {L : List Value} {N last : Int} {f : Nat → Nat} {c : Nat → Int} (h : SL L N last f c) : L.toArray.all (·.oneCell') = true := by
  rw [Array.all_eq_true_iff_forall_mem]
  intro v hv
  have hv' : v ∈ L := by simpa using hv
  obtain ⟨i, hi, he⟩ := List.mem_iff_getElem.1 hv'
  have h1 : L[i]? = some v := by rw [List.getElem?_eq_getElem hi, he]
  have hl := h.len
  by_cases h0 : i = 0
  · subst h0; rw [h.n] at h1; cases h1; rfl
  · by_cases h2 : i = 1
    · subst h2; rw [h.l] at h1; cases h1; rfl
    · by_cases h3 : i < 8194
      · have := h.is (i - 2) (by omega)
        rw [show 2 + (i - 2) = i from by omega, h1] at this
        cases this; rfl
      · have := h.ct (i - 8194) (by omega)
        rw [show 8194 + (i - 8194) = i from by omega, h1] at this
        cases this; rfl
theorem info52 : (Try.prog.info? 52).map (·.size) = some 8198 := by kernel_rfl
theorem RowAt.setRow {w : World} {b : Nat} {t : TypeId} {l l' : List Value} (h : RowAt w b t l) : RowAt (w.setRow b l'.toArray) b t l' := by
  have := setRow_heap w b l.toArray l'.toArray t (0, 0) h
  exact this
theorem below_setRow {w : World} {B g : Nat} {cs : Array Value} (hg : B ≤ g) : Below B w (w.setRow g cs) :=
  ⟨rfl, rfl, rfl, by simp, fun k hk => setRow_other w g k cs (by omega)⟩
theorem RowAt.range {w : World} {b : Nat} {t : TypeId} {l : List Value} (h : RowAt w b t l) : w.rangeAt b 0 l := fun j v hv => by
  rw [Nat.zero_add, h.cell j]; exact hv
set_option maxHeartbeats 1000000 in
theorem copy_any (w : World) (b N : Nat) (last : Int) (f : Nat → Nat) (h : SI w b N last f) :
    Calls Try.prog 17 #[.pointer (some ⟨b, 0, none⟩)] w fun e w' => e = .returned (.pointer (some ⟨w.heap.size, 0, none⟩)) ∧ SI w' w.heap.size N last f ∧ Below w.heap.size w w' := by
  obtain ⟨c, ⟨L, hr, hs⟩, hcn⟩ := h
  have HRG := Lib.hid hr.range
  have HLN : Hid ((Try.prog.info? 52).map (·.size) = some L.length) := Lib.hid (by rw [info52, hs.len])
  have HONE := Lib.hid hs.one
  have HD : Hid (RowAt (w.alloc (.cells zC 52)) w.heap.size 52 zC.toList) := Lib.hid (by
    have := RowAt.new w 52 zC.toList
    rwa [Array.toArray_toList] at this)
  have HLE : Hid (zC.size = L.toArray.size) := Lib.hid (by
    have := zC_sl.len
    rw [Array.length_toList] at this
    rw [this, List.size_toArray, hs.len])
  have HB := Lib.hid ((Below.refl w.heap.size w).alloc (Nat.le_refl _) (.cells zC 52))
  have HS := Lib.hid hs
  have HC := Lib.hid hcn
  clear hr hs hcn
  go_enter Try.func17, Try.ntmps17
  go_wp2_with (first | (refine wpList_load_mid rfl 52 (.tmp 7) rfl b 0 rfl L _ HRG.out Try.underlying52 rfl HLN.out ?_) | (refine wpList_store_row rfl 52 (.tmp 3) (.tmp 8) rfl w.heap.size L.toArray rfl rfl 52 zC.toList.toArray HD.out (by rw [HLN.out]; simp) (by rw [Array.toArray_toList]; exact HLE.out) HONE.out ?_))
  refine bodyPost_ret (by simp [results, Try.results17, go_sem]; rfl) rfl ?_
  exact ⟨rfl, ⟨_, ⟨_, HD.out.setRow, HS.out⟩, HC.out⟩, HB.out.trans (below_setRow (Nat.le_refl _))⟩
end Go.Proofs.Ytbkbfkaklhojgaa
