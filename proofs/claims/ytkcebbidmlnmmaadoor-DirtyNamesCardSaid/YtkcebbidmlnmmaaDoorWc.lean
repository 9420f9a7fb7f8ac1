/- A buffer as the list of its writes; New, Held, end, Size. -/
import Derived.Test.YtkcebbidmlnmmaaDoorWb
namespace Go.Proofs.YtkcebbidmlnmmaaDoor
open Go.RowKit
def sub (k : Int) (L : List Wr) : List Pt := (L.filter fun p => p.1 == k).map (·.2)
def tot (L : List Wr) : Nat := (L.map fun p => p.2.2.size).sum
/-- Each write has bytes, and ends within the greatest file. -/
def PtOk (p : Pt) : Prop := p.2.size ≠ 0 ∧ p.1 + p.2.size ≤ 32768
structure Ok (L : List Wr) : Prop where
  pt : ∀ p ∈ L, PtOk p.2
  top : tot L ≤ 65536
theorem tot_cons (p : Wr) (L : List Wr) : tot (p :: L) = p.2.2.size + tot L := by simp [tot]
theorem tot_append (L L' : List Wr) : tot (L ++ L') = tot L + tot L' := by simp [tot]
theorem sub_append (k : Int) (L L' : List Wr) : sub k (L ++ L') = sub k L ++ sub k L' := by simp [sub]
theorem sub_mem {k : Int} {L : List Wr} {p : Pt} (h : p ∈ sub k L) : (k, p) ∈ L := by
  unfold sub at h
  obtain ⟨⟨k', q⟩, h1, h2⟩ := List.mem_map.1 h
  obtain ⟨h3, h4⟩ := List.mem_filter.1 h1
  have e : k' = k := by simpa using h4
  subst e
  simp only at h2
  subst h2
  exact h3
theorem Ok.sub {L : List Wr} (h : Ok L) {k : Int} : ∀ p ∈ sub k L, PtOk p := fun _ hp => h.pt _ (sub_mem hp)
theorem len_tot : ∀ {L : List Wr}, (∀ p ∈ L, PtOk p.2) → L.length ≤ tot L
  | [], _ => Nat.zero_le _
  | p :: L, h => by
    have := len_tot (L := L) fun q hq => h q (List.mem_cons_of_mem _ hq)
    have h1 := (h p (List.mem_cons_self ..)).1
    rw [tot_cons, List.length_cons]
    omega
theorem Ok.len {L : List Wr} (h : Ok L) : L.length ≤ 65536 := Nat.le_trans (len_tot h.pt) h.top
theorem sub_len (k : Int) (L : List Wr) : (sub k L).length ≤ L.length := by
  unfold sub
  rw [List.length_map]
  exact List.length_filter_le ..
theorem Ok.sublen {L : List Wr} (h : Ok L) (k : Int) : (YtkcebbidmlnmmaaDoor.sub k L).length ≤ 65536 := Nat.le_trans (sub_len k L) h.len
theorem ok_nil : Ok [] := ⟨fun _ h => (by simp at h), by simp [tot]⟩
/-- A buffer in memory: its block p, its map b, its rows' blocks G, all in S. -/
structure Bm (W : World) (p b : Nat) (L : List Wr) (G : Int → Nat) (S : Nat → Prop) : Prop where
  row : RowAt W p 61 [.map (some b), .int .i64 (tot L : Int)]
  mr : Mr W b (fun k => sub k L) G S
  ok : Ok L
  sp : S p
section
variable {W W' : World} {p b : Nat} {L : List Wr} {G : Int → Nat} {S S' M : Nat → Prop}
theorem Bm.mono (h : Bm W p b L G S) (hs : ∀ i, i < W.heap.size → S i → S' i) : Bm W p b L G S' := ⟨h.row, h.mr.mono hs, h.ok, hs p h.row.lt h.sp⟩
theorem Bm.fr (h : Bm W p b L G S) (hf : Fr M W W') (hm : ∀ i, i < W.heap.size → M i → ¬ S i) : Bm W' p b L G S :=
  ⟨h.row.fr hf (fun x => hm p h.row.lt x h.sp), h.mr.fr hf hm, h.ok, h.sp⟩
theorem Bm.next (h : Bm W p b L G S) (hb : Below W.heap.size W W') : Bm W' p b L G S := h.fr (M := fun _ => False) (Fr.of_below hb) (fun _ _ x => x.elim)
theorem Bm.c0 (h : Bm W p b L G S) : W.cell? ⟨p, 0, none⟩ = some (.map (some b)) := h.row.cell 0
theorem Bm.c1 (h : Bm W p b L G S) : W.cell? ⟨p, 1, none⟩ = some (.int .i64 (tot L : Int)) := h.row.cell 1
theorem Bm.blt (h : Bm W p b L G S) : b < W.heap.size := by
  obtain ⟨F, hF, _⟩ := h.mr.map
  exact hF.lt
theorem Bm.ne (h : Bm W p b L G S) : p ≠ b := by
  intro e
  subst e
  obtain ⟨F, ⟨es, c, h1, _⟩, _⟩ := h.mr.map
  have := h.row
  unfold RowAt at this
  rw [h1] at this
  cases this
end
theorem make59 (w : World) : (Instr.makeMap 59 none).run Tryd.prog w = .ok (.map (some w.heap.size)) (w.alloc (.map #[] 0)) := by
  first | rfl | (simp [Instr.makeMap, go_sem])
theorem new_any (w : World) : Calls Tryd.prog 12 #[] w fun e w' => e = .returned (.pointer (some ⟨w.heap.size + 1, 0, none⟩)) ∧ Bm w' (w.heap.size + 1) w.heap.size [] (fun _ => 0) (fun i => w.heap.size ≤ i) ∧ Below w.heap.size w w' := by
  have hmk := make59
  go_enter Tryd.func12, Tryd.ntmps12
  go_wp2
  refine bodyPost_ret (by simp [results, Tryd.results12, go_sem]; rfl) rfl ?_
  have hz : (w.alloc (.map #[] 0)).heap.size = w.heap.size + 1 := by simp
  refine ⟨rfl, ⟨?_, (Mr.made w _ (Nat.le_refl _)).next (bA (Below.refl _ _) _), ok_nil, by omega⟩, bA (bA (Below.refl _ _) _) _⟩
  have := RowAt.new (w.alloc (.map #[] 0)) 61 [.map (some w.heap.size), .int .i64 0]
  rw [hz] at this
  exact this
theorem held_any (w : World) (p b : Nat) (L : List Wr) (G : Int → Nat) (S : Nat → Prop) (h : Bm w p b L G S) : Calls Tryd.prog 16 #[.pointer (some ⟨p, 0, none⟩)] w fun e w' => e = .returned (.int .i64 (tot L : Int)) ∧ w' = w := by
  have c1 := h.c1
  clear h
  generalize (tot L : Int) = n at *
  go_enter Tryd.func16, Tryd.ntmps16
  go_wp2
  go_ret
  exact ⟨rfl, rfl⟩
theorem held_nil (w : World) : Calls Tryd.prog 16 #[.pointer none] w fun e w' => e = .returned (.int .i64 0) ∧ w' = w := by
  go_enter Tryd.func16, Tryd.ntmps16
  go_wp2
  go_ret
  exact ⟨rfl, rfl⟩
theorem end_any (w : World) (a : Nat) (s : ByteArray) (ha : a + s.size ≤ 32768) : Calls Tryd.prog 29 #[.agg #[.int .i64 (a : Int), .string s]] w fun e w' => e = .returned (.int .i64 ((a + s.size : Nat) : Int)) ∧ Below w.heap.size w w' := by
  have e1 : IntKind.i64.wrap ((a : Int) + (s.size : Int)) = ((a + s.size : Nat) : Int) := by rw [IntWalk.i64_in _ (by omega)]; omega
  go_enter Tryd.func29, Tryd.ntmps29
  go_wp2
  go_ret
  exact ⟨by first | rfl | (rw [e1]) | (congr 2; omega), bA (Below.refl _ _) _⟩
theorem max_if (x : Int) (a s : Nat) : (if x < (a : Int) + (s : Int) then (a : Int) + (s : Int) else x) = max x ((a + s : Nat) : Int) := by
  rw [Int.max_def]
  split <;> split <;> omega
/-- How long a file is behind writes. -/
def sizeL (P : List Pt) (n : Int) : Int := P.foldl (fun n p => max n ((p.1 + p.2.size : Nat) : Int)) n
theorem sizeL_snoc (P : List Pt) (p : Pt) (n : Int) : sizeL (P ++ [p]) n = max (sizeL P n) ((p.1 + p.2.size : Nat) : Int) := by simp [sizeL]
theorem size_nil (w : World) (k n : Int) : Calls Tryd.prog 15 #[.pointer none, .int .i64 k, .int .i64 n] w fun e w' => e = .returned (.int .i64 n) ∧ w' = w := by
  go_enter Tryd.func15, Tryd.ntmps15
  go_wp2
  go_ret
  exact ⟨rfl, rfl⟩
set_option maxHeartbeats 1000000 in
theorem size_any (w : World) (p b : Nat) (L : List Wr) (G : Int → Nat) (S : Nat → Prop) (h : Bm w p b L G S) (k n : Int) :
    Calls Tryd.prog 15 #[.pointer (some ⟨p, 0, none⟩), .int .i64 k, .int .i64 n] w fun e w' => e = .returned (.int .i64 (sizeL (sub k L) n)) ∧ Below w.heap.size w w' := by
  have c0 := h.c0
  obtain ⟨v, hlk, hv⟩ := h.mr.look k
  have hl := (hlk w (Below.refl _ _)).1
  clear hlk
  obtain ⟨A, c, rfl, hat⟩ := hv.shape
  have hok := h.ok.sub (k := k)
  have hlen := h.ok.sublen k
  have HAT := Lib.hid hat
  have HOK := Lib.hid hok
  clear hat hok hv h
  generalize hP : sub k L = P at *
  have hP2 := Lib.hid hP
  clear hP
  have HL := Lib.hid hl
  clear hl
  go_enter Tryd.func15, Tryd.ntmps15
  go_wp2_with (at_lookup; refine wpList_look rfl rfl rfl rfl HL.out ?_)
  go_loopw [2, 19] (fun s i wr => ∃ j : Nat, j ≤ P.length ∧ i = .int .i64 j ∧ s = .int .i64 (sizeL (P.take j) n) ∧ Below w.heap.size w wr) (fun _ i _ => P.length - (intOf i).toNat)
  case atStart => exact ⟨0, by omega, rfl, rfl, Below.refl _ _⟩
  case round =>
    obtain ⟨j, hj, rfl, rfl, hb⟩ := hrel
    by_cases hlt : j < P.length
    · obtain ⟨⟨a, t⟩, hp⟩ : ∃ p, P[j]? = some p := ⟨P[j], List.getElem?_eq_getElem _⟩
      obtain ⟨rfl, hgl, hcap, d1, d2⟩ := HAT.out j _ hp
      have ht := HOK.out _ (List.mem_of_getElem? hp)
      obtain ⟨_, ht2⟩ := ht
      simp only at ht2 d1 d2
      have d1' := (hb.cell (p := ⟨G k, j * 2, none⟩) hgl).trans d1
      have d2' := (hb.cell (p := ⟨G k, j * 2 + 1, none⟩) hgl).trans d2
      have HT := Lib.hid (show P.take (j + 1) = P.take j ++ [(a, t)] by rw [List.take_add_one, hp]; rfl)
      clear hp d1 d2
      go_wp2_with fail
      refine (end_any _ a t ht2).mono ?_
      rintro e w1 ⟨rfl, hb1⟩
      go_wp2_with fail
      go_roundw
      case rel => exact ⟨j + 1, by omega, by go_num, by rw [HT.out, sizeL_snoc]; exact congrArg (Value.int IntKind.i64) (max_if _ a t.size), btA hb hb1⟩
      case measure => simp [intOf]; omega
    · go_wp2_with fail
      go_ret
      exact ⟨by rw [List.take_of_length_le (by omega)]; rfl, hb⟩
end Go.Proofs.YtkcebbidmlnmmaaDoor
