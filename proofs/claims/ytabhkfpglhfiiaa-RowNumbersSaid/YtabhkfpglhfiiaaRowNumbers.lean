/-
  The walk of RowNumbers.
-/
import Derived.Test.YtabhkfpglhfiiaaRefCols
import Derived.Test.YtabhkfpglhfiiaaRowGet
import Derived.Test.YtabhkfpglhfiiaaKnown5
import Derived.Test.YtabhkfpglhfiiaaRowLaws
import Derived.Test.YtabhkfpglhfiiaaRowNums0
import Derived.Deep.DeepCutAuto
namespace Go.Proofs.Ytabhkfpglhfiiaa
open Go.RowKit
theorem col_info : (Try.prog.info? 43).map (fun i => (i.zero, i.size, i.bytes)) = some (some (.agg #[.string ByteArray.empty, .int .i64 0]), 2, 24) := by kernel_rfl
@[go_sem] theorem mk_cols (w : World) : (Instr.makeSlice 37 (.int .i64 7) (.int .i64 7)).run Try.prog w = .ok (.slice (some ⟨w.heap.size, 0, none⟩) 7 7) (w.alloc (.cells #[.string ⟨#[]⟩, .int .i64 0, .string ⟨#[]⟩, .int .i64 0, .string ⟨#[]⟩, .int .i64 0, .string ⟨#[]⟩, .int .i64 0, .string ⟨#[]⟩, .int .i64 0, .string ⟨#[]⟩, .int .i64 0, .string ⟨#[]⟩, .int .i64 0] 43)) := by
  obtain ⟨i0, hi, hz0, hz1, hz2⟩ := info_parts col_info
  have h := run_make (P := Try.prog) w 37 43 i0 _ Try.underlying37 hi hz0 .i64 .i64 7 7 (by decide) (by decide) (by rw [hz2]; decide) (by decide)
  have e : madeCells (Value.agg #[.string ByteArray.empty, .int .i64 0]).cells (Int.toNat 7 * 2) = #[.string ⟨#[]⟩, .int .i64 0, .string ⟨#[]⟩, .int .i64 0, .string ⟨#[]⟩, .int .i64 0, .string ⟨#[]⟩, .int .i64 0, .string ⟨#[]⟩, .int .i64 0, .string ⟨#[]⟩, .int .i64 0, .string ⟨#[]⟩, .int .i64 0] := by kernel_rfl
  rw [hz1, e] at h
  exact h
@[go_sem] theorem mk_row (w : World) : (Instr.makeSlice 39 (.int .i64 7) (.int .i64 7)).run Try.prog w = .ok (.slice (some ⟨w.heap.size, 0, none⟩) 7 7) (w.alloc (.cells #[.int .i64 0, .int .i64 0, .string ⟨#[]⟩, .int .i64 0, .int .i64 0, .string ⟨#[]⟩, .int .i64 0, .int .i64 0, .string ⟨#[]⟩, .int .i64 0, .int .i64 0, .string ⟨#[]⟩, .int .i64 0, .int .i64 0, .string ⟨#[]⟩, .int .i64 0, .int .i64 0, .string ⟨#[]⟩, .int .i64 0, .int .i64 0, .string ⟨#[]⟩] 49)) := by
  obtain ⟨i0, hi, hz0, hz1, hz2⟩ := info_parts value_info
  have h := run_make (P := Try.prog) w 39 49 i0 _ Try.underlying39 hi hz0 .i64 .i64 7 7 (by decide) (by decide) (by rw [hz2]; decide) (by decide)
  have e : madeCells (Value.agg #[.int .i64 0, .int .i64 0, .string ByteArray.empty]).cells (Int.toNat 7 * 3) = #[.int .i64 0, .int .i64 0, .string ⟨#[]⟩, .int .i64 0, .int .i64 0, .string ⟨#[]⟩, .int .i64 0, .int .i64 0, .string ⟨#[]⟩, .int .i64 0, .int .i64 0, .string ⟨#[]⟩, .int .i64 0, .int .i64 0, .string ⟨#[]⟩, .int .i64 0, .int .i64 0, .string ⟨#[]⟩, .int .i64 0, .int .i64 0, .string ⟨#[]⟩] := by kernel_rfl
  rw [hz1, e] at h
  exact h
def cflat (l : List C) : List Value := l.flatMap fun c => [.string c.nm, .int .i64 c.k]
theorem cflat_get : ∀ (l : List C) (i : Nat) (c : C), l[i]? = some c → (cflat l)[i * 2]? = some (.string c.nm) ∧ (cflat l)[i * 2 + 1]? = some (.int .i64 c.k)
  | [], i, c, h => by simp at h
  | x :: l, 0, c, h => by
    obtain rfl : x = c := by simpa using h
    exact ⟨rfl, rfl⟩
  | x :: l, i + 1, c, h => by
    have := cflat_get l i c (by simpa using h)
    rw [show (i + 1) * 2 = i * 2 + 1 + 1 from by omega]
    simpa [cflat] using this
theorem cat_of {w : World} {b : Nat} {l : List C} {t : TypeId} (h : w.heap[b]? = some (.cells (cflat l).toArray t (0, 0))) : CAt w b 0 l := by
  intro i c hc
  obtain ⟨h1, h2⟩ := cflat_get l i c hc
  simp only [World.cell?, h, Nat.zero_add, List.getElem?_toArray]
  exact ⟨h1, h2⟩
/-- the columns that are judged -/
def colsN : List (List C) := [[], [⟨⟨#[97]⟩, 0⟩], [⟨⟨#[65]⟩, 1⟩], [⟨⟨#[97]⟩, 1⟩, ⟨⟨#[97]⟩, 2⟩], [⟨⟨#[115, 117, 109]⟩, 1⟩], [⟨⟨#[]⟩, 0⟩, ⟨⟨#[]⟩, 0⟩, ⟨⟨#[]⟩, 0⟩, ⟨⟨#[]⟩, 0⟩, ⟨⟨#[]⟩, 0⟩, ⟨⟨#[]⟩, 0⟩, ⟨⟨#[]⟩, 0⟩], [⟨⟨#[97]⟩, 3⟩], [⟨⟨#[97]⟩, 2⟩, ⟨⟨#[98]⟩, 1⟩]]
/-- the world in which they stand -/
def colsW (w : World) : World :=
  (((((((w.alloc (.cells (cflat [⟨⟨#[97]⟩, 0⟩]).toArray 43)).alloc (.cells (cflat [⟨⟨#[65]⟩, 1⟩]).toArray 43)).alloc (.cells (cflat [⟨⟨#[97]⟩, 1⟩, ⟨⟨#[97]⟩, 2⟩]).toArray 43)).alloc (.cells (cflat [⟨⟨#[115, 117, 109]⟩, 1⟩]).toArray 43)).alloc
    (.cells (cflat [⟨⟨#[]⟩, 0⟩, ⟨⟨#[]⟩, 0⟩, ⟨⟨#[]⟩, 0⟩, ⟨⟨#[]⟩, 0⟩, ⟨⟨#[]⟩, 0⟩, ⟨⟨#[]⟩, 0⟩, ⟨⟨#[]⟩, 0⟩]).toArray 43)).alloc (.cells (cflat [⟨⟨#[97]⟩, 3⟩]).toArray 43)).alloc (.cells (cflat [⟨⟨#[97]⟩, 2⟩, ⟨⟨#[98]⟩, 1⟩]).toArray 43)).alloc
    (.cells #[.slice none 0 0, .slice (some ⟨w.heap.size, 0, none⟩) 1 1, .slice (some ⟨w.heap.size + 1, 0, none⟩) 1 1, .slice (some ⟨w.heap.size + 1 + 1, 0, none⟩) 2 2, .slice (some ⟨w.heap.size + 1 + 1 + 1, 0, none⟩) 1 1, .slice (some ⟨w.heap.size + 1 + 1 + 1 + 1, 0, none⟩) 7 7, .slice (some ⟨w.heap.size + 1 + 1 + 1 + 1 + 1, 0, none⟩) 1 1, .slice (some ⟨w.heap.size + 1 + 1 + 1 + 1 + 1 + 1, 0, none⟩) 2 2] 37)
theorem colsW_below (w : World) : Below w.heap.size w (colsW w) := by
  unfold colsW
  repeat (refine Below.alloc ?_ (by simp; try omega) _)
  exact Below.refl _ _
theorem blk (w : World) : (colsW w).heap[w.heap.size]? = some (.cells (cflat [⟨⟨#[97]⟩, 0⟩]).toArray 43) ∧ (colsW w).heap[w.heap.size + 1]? = some (.cells (cflat [⟨⟨#[65]⟩, 1⟩]).toArray 43) ∧
    (colsW w).heap[w.heap.size + 1 + 1]? = some (.cells (cflat [⟨⟨#[97]⟩, 1⟩, ⟨⟨#[97]⟩, 2⟩]).toArray 43) ∧ (colsW w).heap[w.heap.size + 1 + 1 + 1]? = some (.cells (cflat [⟨⟨#[115, 117, 109]⟩, 1⟩]).toArray 43) ∧
    (colsW w).heap[w.heap.size + 1 + 1 + 1 + 1]? = some (.cells (cflat [⟨⟨#[]⟩, 0⟩, ⟨⟨#[]⟩, 0⟩, ⟨⟨#[]⟩, 0⟩, ⟨⟨#[]⟩, 0⟩, ⟨⟨#[]⟩, 0⟩, ⟨⟨#[]⟩, 0⟩, ⟨⟨#[]⟩, 0⟩]).toArray 43) ∧
    (colsW w).heap[w.heap.size + 1 + 1 + 1 + 1 + 1]? = some (.cells (cflat [⟨⟨#[97]⟩, 3⟩]).toArray 43) ∧ (colsW w).heap[w.heap.size + 1 + 1 + 1 + 1 + 1 + 1]? = some (.cells (cflat [⟨⟨#[97]⟩, 2⟩, ⟨⟨#[98]⟩, 1⟩]).toArray 43) ∧
    (colsW w).heap[w.heap.size + 7]? = some (.cells #[.slice none 0 0, .slice (some ⟨w.heap.size, 0, none⟩) 1 1, .slice (some ⟨w.heap.size + 1, 0, none⟩) 1 1, .slice (some ⟨w.heap.size + 1 + 1, 0, none⟩) 2 2, .slice (some ⟨w.heap.size + 1 + 1 + 1, 0, none⟩) 1 1, .slice (some ⟨w.heap.size + 1 + 1 + 1 + 1, 0, none⟩) 7 7, .slice (some ⟨w.heap.size + 1 + 1 + 1 + 1 + 1, 0, none⟩) 1 1, .slice (some ⟨w.heap.size + 1 + 1 + 1 + 1 + 1 + 1, 0, none⟩) 2 2] 37) := by
  refine ⟨?_, ?_, ?_, ?_, ?_, ?_, ?_, ?_⟩ <;>
  · show ((((((((w.heap.push _).push _).push _).push _).push _).push _).push _).push _)[_]? = _
    simp only [Array.getElem?_push, Array.size_push]
    repeat (first | rw [if_pos trivial] | rw [if_pos (by omega)] | rw [if_neg (by omega)])
theorem colsW_at (w : World) (k : Nat) (hk : k < 8) : ∃ A l, colsN[k]? = some l ∧ (colsW w).cell? ⟨w.heap.size + 7, k, none⟩ = some (.slice A l.length l.length) ∧ CRow (colsW w) (colsW w).heap.size A l := by
  obtain ⟨b0, b1, b2, b3, b4, b5, b6, b7⟩ := blk w
  match k, hk with
  | 0, _ => exact ⟨_, _, rfl, by simp only [World.cell?, b7]; rfl, .inl rfl⟩
  | 1, _ => exact ⟨_, _, rfl, by simp only [World.cell?, b7]; rfl, .inr ⟨_, _, rfl, lt_of_block b0, cat_of b0⟩⟩
  | 2, _ => exact ⟨_, _, rfl, by simp only [World.cell?, b7]; rfl, .inr ⟨_, _, rfl, lt_of_block b1, cat_of b1⟩⟩
  | 3, _ => exact ⟨_, _, rfl, by simp only [World.cell?, b7]; rfl, .inr ⟨_, _, rfl, lt_of_block b2, cat_of b2⟩⟩
  | 4, _ => exact ⟨_, _, rfl, by simp only [World.cell?, b7]; rfl, .inr ⟨_, _, rfl, lt_of_block b3, cat_of b3⟩⟩
  | 5, _ => exact ⟨_, _, rfl, by simp only [World.cell?, b7]; rfl, .inr ⟨_, _, rfl, lt_of_block b4, cat_of b4⟩⟩
  | 6, _ => exact ⟨_, _, rfl, by simp only [World.cell?, b7]; rfl, .inr ⟨_, _, rfl, lt_of_block b5, cat_of b5⟩⟩
  | 7, _ => exact ⟨_, _, rfl, by simp only [World.cell?, b7]; rfl, .inr ⟨_, _, rfl, lt_of_block b6, cat_of b6⟩⟩
theorem colsN_all : (colsN.all fun l => decide (l.length ≤ 7) && l.all fun x => decide (x.nm.size ≤ 20)) = true := by decide +kernel
theorem colsN_small (k : Nat) (l : List C) (h : colsN[k]? = some l) : l.length ≤ 7 ∧ ∀ x ∈ l, x.nm.size ≤ 9223372036854775807 := by
  have h1 := List.all_eq_true.1 colsN_all l (List.mem_of_getElem? h)
  simp only [Bool.and_eq_true, decide_eq_true_eq, List.all_eq_true] at h1
  exact ⟨h1.1, fun x hx => by have := h1.2 x hx; omega⟩
/-- the names that are judged -/
def namesN : List (List UInt8) := [[], [97], [97, 98, 99, 100, 101, 102, 103, 104, 105, 106, 107, 108], [97, 98, 99, 100, 101, 102, 103, 104, 105, 106, 107, 108, 109], [97, 66], [105, 102], [105, 102, 102], [110, 101, 103], [100, 105, 115, 116, 105, 110, 99, 116], [97, 32, 98], [97, 49]]
def namesV : List Value := namesN.map fun l => .string ⟨l.toArray⟩
theorem namesN_all : (namesN.all fun l => decide (l.length ≤ 20)) = true := by decide +kernel
theorem names_at (k : Nat) (h : k < 11) : ∃ x : ByteArray, namesV[k]? = some (.string x) ∧ x.size ≤ 9223372036854775807 := by
  have hl : namesN.length = 11 := rfl
  have e : namesN[k]? = some (namesN[k]'(by omega)) := List.getElem?_eq_getElem (by omega)
  refine ⟨⟨(namesN[k]'(by omega)).toArray⟩, ?_, ?_⟩
  · rw [namesV, List.getElem?_map, e]; rfl
  · have h1 := List.all_eq_true.1 namesN_all _ (List.mem_of_getElem? e)
    rw [decide_eq_true_eq] at h1
    show ((namesN[k]'(by omega)).toArray).size ≤ _
    rw [List.size_toArray]
    omega
theorem seven : (RS.mk [7] 0 0 0).rowRaw.2.endE = 3 ∧ (RS.mk [7] 0 0 0).rowRaw.2.endA = 0 := by decide +kernel
theorem find1 : findN [⟨⟨#[97]⟩, 1⟩, ⟨⟨#[98]⟩, 1⟩, ⟨⟨#[98]⟩, 2⟩] ⟨#[98]⟩ = 1 ∧ findB [⟨⟨#[97]⟩, 1⟩, ⟨⟨#[98]⟩, 1⟩, ⟨⟨#[98]⟩, 2⟩] ⟨#[98]⟩ = true := by decide +kernel
theorem find2 : findN [⟨⟨#[97]⟩, 1⟩, ⟨⟨#[98]⟩, 1⟩, ⟨⟨#[115]⟩, 2⟩] ⟨#[115]⟩ = 2 ∧ findB [⟨⟨#[97]⟩, 1⟩, ⟨⟨#[98]⟩, 1⟩, ⟨⟨#[115]⟩, 2⟩] ⟨#[115]⟩ = true := by decide +kernel
theorem find3 : findN [⟨⟨#[97]⟩, 1⟩, ⟨⟨#[98]⟩, 1⟩, ⟨⟨#[115]⟩, 2⟩] ⟨#[120]⟩ = 0 ∧ findB [⟨⟨#[97]⟩, 1⟩, ⟨⟨#[98]⟩, 1⟩, ⟨⟨#[115]⟩, 2⟩] ⟨#[120]⟩ = false := by decide +kernel
theorem vat_of {w : World} {b : Nat} {l : List V} {t : TypeId} (h : w.heap[b]? = some (.cells (flat l).toArray t (0, 0))) : VAt w b 0 l := by
  intro i c hc
  obtain ⟨h1, h2, h3⟩ := flat_get l i c hc
  simp only [World.cell?, h, Nat.zero_add, List.getElem?_toArray]
  exact ⟨h1, h2, h3⟩
theorem six : rowOk ([1, 2, 3, 4, 5, 6].map numV) = true := by decide +kernel
theorem same1 : rowSame [numV 1] [numV 1] = true := by decide +kernel
set_option maxRecDepth 100000 in
set_option maxHeartbeats 4000000 in
theorem rowNumbers_any (w : World) :
    Calls Try.prog 7 #[] w fun e w' => e = .returned (.bool true) ∧ Below w.heap.size w w' := by
  go_enter Try.func7, Try.ntmps7
  obtain ⟨W1, hW1⟩ : ∃ W1, W1 = colsW w := ⟨_, rfl⟩
  have HW : Hid (W1 = colsW w) := Lib.hid hW1
  have HB : Hid (Below w.heap.size w W1) := Lib.hid (by rw [hW1]; exact colsW_below w)
  have hcols : Hid (∀ k, k < 8 → ∃ A l, colsN[k]? = some l ∧ W1.cell? ⟨w.heap.size + 7, k, none⟩ = some (.slice A l.length l.length) ∧ CRow W1 W1.heap.size A l) := Lib.hid (by rw [hW1]; exact colsW_at w)
  clear hW1
  go_wp2_with fail
  go_loopw [31] (fun i wr => ∃ k : Nat, k ≤ 8 ∧ i = .int .i64 k ∧ Below W1.heap.size W1 wr) (fun i _ => 8 - (intOf i).toNat)
  case atStart => exact ⟨0, Nat.zero_le _, rfl, by rw [HW.out]; exact Below.refl _ _⟩
  case round =>
    obtain ⟨k, hk, rfl, hbl⟩ := hrel
    have HR := Lib.hid hbl
    clear hbl
    by_cases hlt : k < 8
    · obtain ⟨A, l, hl, hc, hA⟩ := hcols.out k hlt
      obtain ⟨hl1, hl2⟩ := colsN_small k l hl
      have hc := (HR.out.cell (p := ⟨w.heap.size + 7, k, none⟩) (by show w.heap.size + 7 < W1.heap.size; rw [HW.out]; exact lt_of_block (blk w).2.2.2.2.2.2.2)).trans hc
      have hown : Hid (∀ w1, Below W1.heap.size W1 w1 → Calls Try.prog 22 #[.slice A l.length l.length] w1 fun e w' => e = .returned (.int .i64 (colsE l)) ∧ Below w1.heap.size w1 w') := Lib.hid fun w1 h1 =>
        columns_any A l.length l (by omega) (Nat.le_refl _) w1 ((hA.below h1).more h1.size)
      have href : Hid (∀ w1, Below W1.heap.size W1 w1 → Calls Try.prog 26 #[.slice A l.length l.length] w1 fun e w' => e = .returned (.int .i64 (colsE l)) ∧ Below w1.heap.size w1 w') := Lib.hid fun w1 h1 =>
        refColumns_any A l.length l (by omega) (Nat.le_refl _) hl2 w1 ((hA.below h1).more h1.size)
      have hi0 : (0 : Int) ≤ (k : Int) := by omega
      have hi1 : (k : Int) < 8 := by omega
      clear hl hA hl1 hl2
      generalize colsE l = ce at *
      generalize l.length = n at *
      go_wp2_with fail
      refine (hown.out wr HR.out).mono ?_
      rintro e w2 ⟨rfl, b2⟩
      have B2 := Lib.hid (HR.out.trans (b2.mono HR.out.size))
      clear b2
      go_wp2_with fail
      refine (href.out w2 B2.out).mono ?_
      rintro e w3 ⟨rfl, b3⟩
      have B3 := Lib.hid (B2.out.trans (b3.mono B2.out.size))
      clear b3
      go_wp2_with fail
      go_roundw
      case rel => exact ⟨k + 1, by omega, by go_num, B3.out⟩
      case measure => simp [intOf]; omega
    · have B0 : Hid (Below w.heap.size w wr) := Lib.hid (HB.out.trans (HR.out.mono HB.out.size))
      obtain ⟨wq, rfl⟩ : ∃ wq : World, wq = wr := ⟨_, rfl⟩
      obtain ⟨W2, hW2⟩ : ∃ W2, W2 = wq.alloc (.cells namesV.toArray 9) := ⟨_, rfl⟩
      have HW2 : Hid (W2 = wq.alloc (.cells namesV.toArray 9)) := Lib.hid hW2
      have HB2 : Hid (Below w.heap.size w W2) := Lib.hid (by rw [hW2]; exact B0.out.alloc B0.out.size _)
      have hcell : Hid (∀ k x, namesV[k]? = some x → W2.cell? ⟨wq.heap.size, k, none⟩ = some x) := Lib.hid fun k x hx => by
        have hh : W2.heap[wq.heap.size]? = some (.cells namesV.toArray 9) := by rw [hW2]; exact heap_alloc_new wq _
        simp only [World.cell?, hh]
        simpa using hx
      have hsz : Hid (wq.heap.size < W2.heap.size) := Lib.hid (by rw [hW2]; simp)
      clear hcols HR HB HW hW2 B0
      go_wp2_with fail
      go_loopw [43] (fun i wr => ∃ k : Nat, k ≤ 11 ∧ i = .int .i64 k ∧ Below W2.heap.size W2 wr) (fun i _ => 11 - (intOf i).toNat)
      case atStart => exact ⟨0, Nat.zero_le _, rfl, by rw [HW2.out]; exact Below.refl _ _⟩
      case round =>
        obtain ⟨j, hj, rfl, hbl⟩ := hrel
        have HR := Lib.hid hbl
        clear hbl hlt hk
        by_cases hlt : j < 11
        · obtain ⟨x, hx, hxs⟩ := names_at j hlt
          have hc := (HR.out.cell (p := ⟨wq.heap.size, j, none⟩) hsz.out).trans (hcell.out j _ hx)
          have hn1 := Lib.hid (name_any x)
          have hn2 := Lib.hid (refName_any x hxs)
          have hi0 : (0 : Int) ≤ (j : Int) := by omega
          have hi1 : (j : Int) < 11 := by omega
          clear hx hcell
          generalize nameB x = nb at *
          go_wp2_with fail
          refine (hn1.out wr).mono ?_
          rintro e w3 ⟨rfl, rfl⟩
          go_wp2_with fail
          refine (hn2.out wr).mono ?_
          rintro e w4 ⟨rfl, b4⟩
          have B4 := Lib.hid (HR.out.trans (b4.mono HR.out.size))
          clear b4
          go_wp2_with fail
          go_roundw
          case rel => exact ⟨j + 1, by omega, by go_num, B4.out⟩
          case measure => simp [intOf]; omega
        · have B0 : Hid (Below w.heap.size w wr) := Lib.hid (HB2.out.trans (HR.out.mono HB2.out.size))
          clear hcell HR HB2 HW2 hsz
          go_wp2_with fail
          have hb7 : Bts (wr.alloc (.cells #[.int .u8 7] 5)) (.slice (some ⟨wr.heap.size, 0, none⟩) 1 1) [7] := .inr ⟨_, 0, 1, rfl, Nat.le_refl _, by simp, fun i c hc => by
            have h0 : i = 0 := by have := (List.getElem?_eq_some_iff.1 hc).1; simp at this; exact this
            subst h0
            obtain rfl : (7 : UInt8) = c := by simpa using hc
            have hh : (wr.alloc (.cells #[.int .u8 7] 5)).heap[wr.heap.size]? = some (.cells #[.int .u8 7] 5) := heap_alloc_new wr _
            simp only [World.cell?, hh]
            rfl⟩
          refine (newReader _ [7] (by decide) _ hb7).mono ?_
          rintro e w5 ⟨g, rfl, hg1, hg2, hr5, b5⟩
          have ha : Below w.heap.size w (wr.alloc (.cells #[.int .u8 7] 5)) := B0.out.alloc B0.out.size _
          have hgw : w.heap.size ≤ g := by have := ha.size; omega
          have B5 := Lib.hid (ha.trans (b5.mono ha.size))
          have hs5 := B5.out.size
          have R5 := Lib.hid hr5
          clear b5 hr5 ha hb7 B0 hlt hj
          go_wp2_with fail
          refine (row_get (fun k => k = g ∨ w5.heap.size ≤ k) g ⟨[7], 0, 0, 0⟩ w5 (fun k hk => .inr hk) R5.out).mono ?_
          rintro e w6 ⟨⟨v6, rfl, _⟩, hr6, o6⟩
          have B6 := Lib.hid (B5.out.trans (o6.below hs5 hgw))
          have R6 := Lib.hid hr6
          clear hr6 o6 R5 B5
          go_wp2_with fail
          refine (rEnd _ g _ w6 R6.out).mono ?_
          rw [seven.1, seven.2]
          rintro e w7 ⟨rfl, b7⟩
          have B7 := Lib.hid (B6.out.trans (b7.mono B6.out.size))
          clear b7 B6 R6
          go_wp2_with fail
          have hf1 := find_any (some ⟨w7.heap.size, 0, none⟩) 3 [⟨⟨#[97]⟩, 1⟩, ⟨⟨#[98]⟩, 1⟩, ⟨⟨#[98]⟩, 2⟩] (by decide) ⟨#[98]⟩ (w7.alloc (.cells #[.string ⟨#[97]⟩, .int .i64 1, .string ⟨#[98]⟩, .int .i64 1, .string ⟨#[98]⟩, .int .i64 2] 43)) (.inr ⟨_, 0, rfl, by simp, cat_of (heap_alloc_new w7 _)⟩)
          refine hf1.mono ?_
          rw [find1.1, find1.2]
          rintro e w8 ⟨rfl, b8⟩
          have B8 := Lib.hid ((B7.out.alloc B7.out.size _).trans (b8.mono (Nat.le_trans B7.out.size (by simp))))
          clear b8 B7 hf1
          go_wp2_with fail
          refine (nums_lit [1, 2, 3, 4, 5, 6, 7] 7 rfl (by decide) w8 2).mono ?_
          rintro e w9 ⟨A9, c9, rfl, hr9, b9⟩
          have B9 := Lib.hid (B8.out.trans (b9.mono B8.out.size))
          have hq9 : Hid (Calls Try.prog 25 #[.slice A9 7 c9] w9 fun e w' => e = .returned (.bool false) ∧ Below w9.heap.size w9 w') := Lib.hid (rowRight_any A9 c9 ([1, 2, 3, 4, 5, 6, 7].map numV) (by decide) w9 hr9)
          clear b9 B8 hr9
          go_wp2_with fail
          refine hq9.out.mono ?_
          rintro e w10 ⟨rfl, b10⟩
          have B10 := Lib.hid (B9.out.trans (b10.mono B9.out.size))
          clear b10 B9 hq9
          go_wp2_with fail
          refine (keepT w10).mono ?_
          rintro e w11 ⟨rfl, hw11⟩
          subst hw11
          have hf12 := find_any (some ⟨w10.heap.size, 0, none⟩) 3 [⟨⟨#[97]⟩, 1⟩, ⟨⟨#[98]⟩, 1⟩, ⟨⟨#[115]⟩, 2⟩] (by decide) ⟨#[115]⟩ (w10.alloc (.cells #[.string ⟨#[97]⟩, .int .i64 1, .string ⟨#[98]⟩, .int .i64 1, .string ⟨#[115]⟩, .int .i64 2] 43)) (.inr ⟨_, 0, rfl, by simp, cat_of (heap_alloc_new w10 _)⟩)
          go_wp2_with fail
          refine hf12.mono ?_
          rw [find2.1, find2.2]
          rintro e w12 ⟨rfl, b12⟩
          have B12 := Lib.hid ((B10.out.alloc B10.out.size _).trans (b12.mono (Nat.le_trans B10.out.size (by simp))))
          clear b12 B10 hf12
          go_wp2_with fail
          refine (keepT w12).mono ?_
          rintro e w13 ⟨rfl, hw13⟩
          subst hw13
          have hf14 := find_any (some ⟨w12.heap.size, 0, none⟩) 3 [⟨⟨#[97]⟩, 1⟩, ⟨⟨#[98]⟩, 1⟩, ⟨⟨#[115]⟩, 2⟩] (by decide) ⟨#[120]⟩ (w12.alloc (.cells #[.string ⟨#[97]⟩, .int .i64 1, .string ⟨#[98]⟩, .int .i64 1, .string ⟨#[115]⟩, .int .i64 2] 43)) (.inr ⟨_, 0, rfl, by simp, cat_of (heap_alloc_new w12 _)⟩)
          go_wp2_with fail
          refine hf14.mono ?_
          rw [find3.1, find3.2]
          rintro e w14 ⟨rfl, b14⟩
          have B14 := Lib.hid ((B12.out.alloc B12.out.size _).trans (b14.mono (Nat.le_trans B12.out.size (by simp))))
          clear b14 B12 hf14
          go_wp2_with fail
          have hq14 : Hid (Calls Try.prog 25 #[.slice none 0 0] w14 fun e w' => e = .returned (.bool false) ∧ Below w14.heap.size w14 w') := Lib.hid (rowRight_any none 0 [] (by decide) w14 (.inl rfl))
          refine (hq14.out).mono ?_
          rintro e w15 ⟨rfl, b15⟩
          have B15 := Lib.hid (B14.out.trans (b15.mono B14.out.size))
          clear b15 B14
          clear hq14
          have hq15 : Hid (Calls Try.prog 25 #[.slice (some ⟨w15.heap.size, 0, none⟩) 7 7] (w15.alloc (.cells #[.int .i64 0, .int .i64 0, .string ⟨#[]⟩, .int .i64 0, .int .i64 0, .string ⟨#[]⟩, .int .i64 0, .int .i64 0, .string ⟨#[]⟩, .int .i64 0, .int .i64 0, .string ⟨#[]⟩, .int .i64 0, .int .i64 0, .string ⟨#[]⟩, .int .i64 0, .int .i64 0, .string ⟨#[]⟩, .int .i64 0, .int .i64 0, .string ⟨#[]⟩] 49)) fun e w' => e = .returned (.bool false) ∧ Below (w15.alloc (.cells #[.int .i64 0, .int .i64 0, .string ⟨#[]⟩, .int .i64 0, .int .i64 0, .string ⟨#[]⟩, .int .i64 0, .int .i64 0, .string ⟨#[]⟩, .int .i64 0, .int .i64 0, .string ⟨#[]⟩, .int .i64 0, .int .i64 0, .string ⟨#[]⟩, .int .i64 0, .int .i64 0, .string ⟨#[]⟩, .int .i64 0, .int .i64 0, .string ⟨#[]⟩] 49)).heap.size (w15.alloc (.cells #[.int .i64 0, .int .i64 0, .string ⟨#[]⟩, .int .i64 0, .int .i64 0, .string ⟨#[]⟩, .int .i64 0, .int .i64 0, .string ⟨#[]⟩, .int .i64 0, .int .i64 0, .string ⟨#[]⟩, .int .i64 0, .int .i64 0, .string ⟨#[]⟩, .int .i64 0, .int .i64 0, .string ⟨#[]⟩, .int .i64 0, .int .i64 0, .string ⟨#[]⟩] 49)) w') := Lib.hid (rowRight_any _ 7 [⟨0, 0, ⟨#[]⟩⟩, ⟨0, 0, ⟨#[]⟩⟩, ⟨0, 0, ⟨#[]⟩⟩, ⟨0, 0, ⟨#[]⟩⟩, ⟨0, 0, ⟨#[]⟩⟩, ⟨0, 0, ⟨#[]⟩⟩, ⟨0, 0, ⟨#[]⟩⟩] (by decide) _ (.inr ⟨_, 0, rfl, by simp, vat_of (heap_alloc_new w15 _)⟩))
          go_wp2_with fail
          refine hq15.out.mono ?_
          rintro e w16 ⟨rfl, b16⟩
          have B16 := Lib.hid ((B15.out.alloc B15.out.size _).trans (b16.mono (Nat.le_trans B15.out.size (by simp))))
          clear b16 B15 hq15
          go_wp2_with fail
          refine (nums_lit [1, 2, 3, 4, 5, 6] 6 rfl (by decide) w16 2).mono ?_
          rintro e w17 ⟨A17, c17, rfl, hr17, b17⟩
          have B17 := Lib.hid (B16.out.trans (b17.mono B16.out.size))
          have hq17 : Hid (Calls Try.prog 25 #[.slice A17 6 c17] w17 fun e w' => e = .returned (.bool true) ∧ Below w17.heap.size w17 w') := Lib.hid (by have h := rowRight_any A17 c17 ([1, 2, 3, 4, 5, 6].map numV) (by decide) w17 hr17; rw [six] at h; exact h)
          clear b17 B16 hr17
          go_wp2_with fail
          refine (hq17.out).mono ?_
          rintro e w18 ⟨rfl, b18⟩
          have B18 := Lib.hid (B17.out.trans (b18.mono B17.out.size))
          clear b18 B17
          clear hq17
          have hq18 : Hid (Calls Try.prog 23 #[.slice none 0 0, .slice none 0 0] w18 fun e w' => e = .returned (.bool true) ∧ Below w18.heap.size w18 w') := Lib.hid (fits_any none none 0 0 [] [] (by decide) (by decide) w18 (.inl rfl) (.inl rfl))
          go_wp2_with fail
          refine hq18.out.mono ?_
          rintro e w19 ⟨rfl, b19⟩
          have B19 := Lib.hid (B18.out.trans (b19.mono B18.out.size))
          clear b19 B18 hq18
          go_wp2_with fail
          refine (nums_one 1 w19 _).mono ?_
          rintro e w20 ⟨A20, c20, rfl, hr20, b20⟩
          have B20 := Lib.hid (B19.out.trans (b20.mono B19.out.size))
          have R20 := Lib.hid hr20
          clear b20 B19 hr20
          go_wp2_with fail
          refine (nums_one 1 w20 _).mono ?_
          rintro e w21 ⟨A21, c21, rfl, hr21, b21⟩
          have B21 := Lib.hid (B20.out.trans (b21.mono B20.out.size))
          have hq21 : Hid (Calls Try.prog 34 #[.slice A20 1 c20, .slice A21 1 c21] w21 fun e w' => e = .returned (.bool true) ∧ Below w21.heap.size w21 w') := Lib.hid (by have h := rowSame_any A20 A21 c20 c21 [numV 1] [numV 1] (by decide) (by decide) w21 ((R20.out.below b21).more b21.size) hr21; rw [same1] at h; exact h)
          clear b21 B20 hr21 R20
          go_wp2_with fail
          refine hq21.out.mono ?_
          rintro e w22 ⟨rfl, b22⟩
          have B22 := Lib.hid (B21.out.trans (b22.mono B21.out.size))
          have hq22 : Hid (Calls Try.prog 34 #[.slice none 0 0, .slice none 0 0] w22 fun e w' => e = .returned (.bool false) ∧ Below w22.heap.size w22 w') := Lib.hid (rowSame_any none none 0 0 [] [] (by decide) (by decide) w22 (.inl rfl) (.inl rfl))
          clear b22 B21 hq21
          go_wp2_with fail
          refine hq22.out.mono ?_
          rintro e w23 ⟨rfl, b23⟩
          have B23 := Lib.hid (B22.out.trans (b23.mono B22.out.size))
          clear b23 B22 hq22
          go_wp2_with fail
          refine (known5 w23).mono ?_
          rintro e w24 ⟨rfl, b24⟩
          have B24 := Lib.hid (B23.out.trans (b24.mono B23.out.size))
          clear b24 B23
          go_wp2_with fail
          go_ret
          exact ⟨rfl, B24.out⟩
end Go.Proofs.Ytabhkfpglhfiiaa
