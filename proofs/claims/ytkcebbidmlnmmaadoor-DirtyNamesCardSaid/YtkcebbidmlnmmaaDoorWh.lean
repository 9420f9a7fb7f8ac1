/- Cut: plain. -/
import Derived.Test.YtkcebbidmlnmmaaDoorWg
namespace Go.Proofs.YtkcebbidmlnmmaaDoor
open Go.RowKit
/-- What Cut leaves of a write. -/
def cut1 (n : Int) (p : Pt) : List Pt := if n ≤ (p.1 : Int) then [] else if ((p.1 + p.2.size : Nat) : Int) ≤ n then [p] else [(p.1, p.2.extract 0 (n - p.1).toNat)]
def cutP (n : Int) (P : List Pt) : List Pt := P.flatMap (cut1 n)
def cutL (k n : Int) (L : List Wr) : List Wr := L.flatMap fun q => if q.1 = k then (cut1 n q.2).map fun p => (k, p) else [q]
theorem cutP_append (n : Int) (P Q : List Pt) : cutP n (P ++ Q) = cutP n P ++ cutP n Q := by simp [cutP]
theorem cutP_one (n : Int) (p : Pt) : cutP n [p] = cut1 n p := by simp [cutP]
theorem cutL_cons (k n : Int) (q : Wr) (L : List Wr) : cutL k n (q :: L) = (if q.1 = k then (cut1 n q.2).map fun p => (k, p) else [q]) ++ cutL k n L := rfl
theorem sub_keyed (j k : Int) : ∀ P : List Pt, sub j (P.map fun p => (k, p)) = if j = k then P else []
  | [] => by simp [sub]
  | p :: P => by
    rw [List.map_cons, sub_cons, sub_keyed j k P]
    by_cases e : j = k
    · rw [if_pos e, if_pos e.symm, if_pos e]
    · rw [if_neg e, if_neg (fun x => e x.symm), if_neg e]
theorem sub_cut (j k n : Int) : ∀ L : List Wr, sub j (cutL k n L) = if j = k then cutP n (sub k L) else sub j L
  | [] => by simp [sub, cutL, cutP]
  | q :: L => by
    rw [cutL_cons, sub_append, sub_cut j k n L]
    by_cases e : q.1 = k
    · rw [if_pos e, sub_keyed]
      by_cases e2 : j = k
      · rw [if_pos e2, if_pos e2, if_pos e2, sub_cons, if_pos e]
        show _ = cutP n ([q.2] ++ sub k L)
        rw [cutP_append, cutP_one]
      · rw [if_neg e2, if_neg e2, if_neg e2, List.nil_append, sub_cons, if_neg (fun x => e2 (by rw [← x, e]))]
    · rw [if_neg e, sub_cons k, if_neg e]
      by_cases e2 : j = k
      · rw [if_pos e2, if_pos e2, e2]
        have : sub k [q] = [] := by rw [sub_cons, if_neg e]; rfl
        rw [this, List.nil_append]
      · rw [if_neg e2, if_neg e2]
        show _ = sub j ([q] ++ L)
        rw [sub_append]
theorem extract_size (t : ByteArray) (m : Nat) (h : m ≤ t.size) : (t.extract 0 m).size = m := by rw [ByteArray.size_extract]; omega
theorem cut1_le (n : Int) (p : Pt) : totP (cut1 n p) ≤ p.2.size := by
  unfold cut1
  split
  · simp [totP]
  · split
    · simp [totP]
    · rename_i h1 h2
      simp only [totP, List.map_cons, List.map_nil, List.sum_cons, List.sum_nil]
      rw [ByteArray.size_extract]
      omega
theorem totP_keyed (k : Int) (P : List Pt) : tot (P.map fun p => (k, p)) = totP P := by
  unfold tot totP
  rw [List.map_map]
  rfl
theorem tot_cut (k n : Int) : ∀ L : List Wr, tot (cutL k n L) + totP (sub k L) = tot L + totP (cutP n (sub k L))
  | [] => by simp [cutL, tot, cutP, sub, totP]
  | q :: L => by
    have ih := tot_cut k n L
    rw [cutL_cons, tot_append, sub_cons, tot_cons]
    by_cases e : q.1 = k
    · rw [if_pos e, if_pos e, totP_keyed, totP_cons]
      have : cutP n (q.2 :: sub k L) = cut1 n q.2 ++ cutP n (sub k L) := rfl
      rw [this, totP_append]
      omega
    · rw [if_neg e, if_neg e]
      have : tot [q] = q.2.2.size := by simp [tot]
      omega
theorem totP_cut_le (n : Int) : ∀ P : List Pt, totP (cutP n P) ≤ totP P
  | [] => Nat.le_refl _
  | p :: P => by
    have : cutP n (p :: P) = cut1 n p ++ cutP n P := rfl
    have h1 := cut1_le n p
    have h2 := totP_cut_le n P
    rw [this, totP_append, totP_cons]
    omega
theorem cutP_len (n : Int) : ∀ P : List Pt, (cutP n P).length ≤ P.length
  | [] => Nat.le_refl _
  | p :: P => by
    have : cutP n (p :: P) = cut1 n p ++ cutP n P := rfl
    have h2 := cutP_len n P
    have h1 : (cut1 n p).length ≤ 1 := by
      unfold cut1
      split
      · simp
      · split <;> simp
    rw [this, List.length_append, List.length_cons]
    omega
theorem cut1_ok {n : Int} {p : Pt} (h : PtOk p) : ∀ q ∈ cut1 n p, PtOk q := by
  intro q hq
  unfold cut1 at hq
  obtain ⟨h1, h2⟩ := h
  split at hq
  · simp at hq
  · split at hq
    · rw [List.mem_singleton.1 hq]; exact ⟨h1, h2⟩
    · rw [List.mem_singleton.1 hq]
      unfold PtOk
      simp only
      rw [extract_size _ _ (by omega)]
      exact ⟨by omega, by omega⟩
theorem cut_ok {L : List Wr} (h : Ok L) (k n : Int) : Ok (cutL k n L) := by
  refine ⟨fun p hp => ?_, ?_⟩
  · unfold cutL at hp
    obtain ⟨q, h1, h2⟩ := List.mem_flatMap.1 hp
    have hq := h.pt q h1
    split at h2
    · obtain ⟨r, h3, h4⟩ := List.mem_map.1 h2
      rw [← h4]
      exact cut1_ok hq r h3
    · rw [List.mem_singleton.1 h2]; exact hq
  · have h1 := tot_cut k n L
    have h2 := totP_cut_le n (sub k L)
    have := h.top
    omega
theorem cut_none {L : List Wr} {k : Int} (n : Int) (h : sub k L = []) : cutL k n L = L := by
  induction L with
  | nil => rfl
  | cons q L ih =>
    rw [sub_cons] at h
    by_cases e : q.1 = k
    · rw [if_pos e] at h; cases h
    · rw [if_neg e] at h
      rw [cutL_cons, if_neg e, ih h]
      rfl
theorem cut_bad (w : World) (p : Nat) (k n : Int) (hn : n < 0) : Calls Tryd.prog 21 #[.pointer (some ⟨p, 0, none⟩), .int .i64 k, .int .i64 n] w fun e w' => e = .returned (.int .i64 1) ∧ w' = w := by
  have g : decide (n < 0) = true := by simpa using hn
  go_enter Tryd.func21, Tryd.ntmps21
  go_wp2
  go_ret
  exact ⟨rfl, rfl⟩
theorem cut_nil (w : World) (k n : Int) : Calls Tryd.prog 21 #[.pointer none, .int .i64 k, .int .i64 n] w fun e w' => e = .returned (.int .i64 2) ∧ w' = w := by
  go_enter Tryd.func21, Tryd.ntmps21
  go_wp2
  go_ret
  exact ⟨rfl, rfl⟩
end Go.Proofs.YtkcebbidmlnmmaaDoor
