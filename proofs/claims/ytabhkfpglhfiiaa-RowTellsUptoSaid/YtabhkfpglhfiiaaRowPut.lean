/-
  Rows, written.
-/
import Derived.Test.YtabhkfpglhfiiaaPut
namespace Go.Proofs.Ytabhkfpglhfiiaa
open Go.RowKit
/-- a row that is read while something of S is written -/
def Src (w : World) (S : Nat → Prop) (A : Option Addr) (l : List V) : Prop := l = [] ∨ ∃ b off, A = some ⟨b, off, none⟩ ∧ b < w.heap.size ∧ ¬ S b ∧ VAt w b off l
theorem VAt.out {w w' : World} {S : Nat → Prop} {b off : Nat} {l : List V} (h : VAt w b off l) (hb : Out S w w') (hB : ¬ S b) : VAt w' b off l := fun i v hv => by
  obtain ⟨h1, h2, h3⟩ := h i v hv
  exact ⟨(hb.cell hB).trans h1, (hb.cell hB).trans h2, (hb.cell hB).trans h3⟩
theorem fm_len (l : List V) (k : Nat) (v : V) (h : l[k]? = some v) : (l.drop k).flatMap vB = vB v ++ (l.drop (k + 1)).flatMap vB := by
  have hlt : k < l.length := (List.getElem?_eq_some_iff.1 h).1
  rw [List.drop_eq_getElem_cons hlt, List.flatMap_cons]
  rw [List.getElem?_eq_getElem hlt] at h
  injection h with h
  rw [h]

set_option maxRecDepth 100000 in
theorem rowPut_full (S : Nat → Prop) (g : Nat) (bs : List UInt8) (b off c n : Nat) (l : List V) (hl : l.length = n) (hn : n ≤ 9223372036854775807) (hlen : (bs ++ rowB l).length ≤ 274877906944) (hs : ∀ v ∈ l, v.s.size ≤ 274877906944) (w : World) (hW : Wr w S g bs) (hS : ∀ k, w.heap.size ≤ k → S k) (hb : ¬ S b) (hA : VAt w b off l) :
    Calls Try.prog 36 #[.pointer (some ⟨g, 0, none⟩), .slice (some ⟨b, off, none⟩) n c] w fun e w' => e = .returned (.tuple #[]) ∧ Wr w' S g (bs ++ rowB l) ∧ Out S w w' := by
  have h0 : bs.length ≤ 274877906944 := by rw [List.length_append] at hlen; omega
  have HL := Lib.hid hl
  have HA := Lib.hid hA
  have Hs := Lib.hid hs
  have HS := Lib.hid hS
  have Hlen := Lib.hid hlen
  have hp := Lib.hid (wByte S g bs n (by omega) w hW hS)
  clear hl hA hs hlen hW h0 hS
  go_enter Try.func36, Try.ntmps36
  go_wp2_with fail
  refine hp.out.mono ?_
  rintro e w1 ⟨rfl, h1, h2⟩
  have H1 := Lib.hid h1
  have H2 := Lib.hid h2
  clear h1 h2 hp
  go_wp2_with fail
  go_loopw [14] (fun i wr => ∃ (k : Nat) (cs : List UInt8), k ≤ n ∧ i = .int .i64 k ∧ Out S w wr ∧ Wr wr S g cs ∧ Hid (cs ++ (l.drop k).flatMap vB = bs ++ rowB l)) (fun i _ => n - (intOf i).toNat)
  case atStart => exact ⟨0, _, Nat.zero_le _, rfl, H2.out, H1.out, by rw [List.drop_zero, List.append_assoc, rowB, HL.out]; exact rfl⟩
  case round =>
    obtain ⟨k, cs, hk, rfl, ho, hw, hz⟩ := hrel
    have HO := Lib.hid ho
    clear H1 H2
    by_cases hlt : k < n
    · obtain ⟨x, hx⟩ : ∃ x, l[k]? = some x := ⟨_, List.getElem?_eq_getElem (by rw [HL.out]; exact hlt)⟩
      have hcs : cs.length ≤ 274877906944 := by
        have := congrArg List.length hz.out
        rw [List.length_append] at this
        have := Hlen.out
        omega
      have hxs : x.s.size ≤ 274877906944 := Hs.out x (List.mem_of_getElem? hx)
      have hz2 : Hid (cs ++ vB x ++ (l.drop (k + 1)).flatMap vB = bs ++ rowB l) := Lib.hid (by rw [List.append_assoc, ← fm_len l k x hx]; exact hz.out)
      obtain ⟨v1, v2, v3⟩ := (HA.out.out HO.out hb) k x hx
      clear hz hx
      obtain ⟨xk, xn, xs⟩ := x
      have v1 : wr.cell? ⟨b, off + k * 3, none⟩ = some (.int .i64 xk) := v1
      have v2 : wr.cell? ⟨b, off + k * 3 + 1, none⟩ = some (.int .i64 xn) := v2
      have v3 : wr.cell? ⟨b, off + k * 3 + 2, none⟩ = some (.string xs) := v3
      have ha : Below wr.heap.size wr (wr.alloc (.cells #[.int .i64 xk, .int .i64 xn, .string xs] 49)) := (Below.refl _ _).alloc (Nat.le_refl _) _
      have hSr : ∀ j, wr.heap.size ≤ j → S j := fun j hj => HS.out j (by have := HO.out.size; omega)
      have hq := Lib.hid (value_put S g cs ⟨xk, xn, xs⟩ hcs hxs (wr.alloc (.cells #[.int .i64 xk, .int .i64 xn, .string xs] 49)) ((hw.kept ha).mono fun _ h => h.1) (fun j hj => hSr j (by simp at hj; omega)))
      have HO2 := Lib.hid (HO.out.trans (out_of_below ha hSr))
      clear ha hSr ho hw
      go_wp2_with fail
      refine hq.out.mono ?_
      rintro e w2 ⟨rfl, h3, h4⟩
      have H3 := Lib.hid h3
      have H4 := Lib.hid (HO2.out.trans h4)
      clear h3 h4 hq v1 v2 v3
      go_wp2_with fail
      go_roundw
      case rel => exact ⟨k + 1, _, by omega, by go_num, H4.out, H3.out, hz2⟩
      case measure => simp [intOf]; omega
    · have hz2 : Hid (cs = bs ++ rowB l) := Lib.hid (by have := hz.out; rwa [List.drop_of_length_le (by rw [HL.out]; omega), List.flatMap_nil, List.append_nil] at this)
      have HW := Lib.hid hw
      clear hz hw ho
      go_wp2_with fail
      refine bodyPost_end (results_none rfl _ _ _) rfl ?_
      exact ⟨rfl, by rw [← hz2.out]; exact HW.out, HO.out⟩
theorem row_put (S : Nat → Prop) (g : Nat) (bs : List UInt8) (A : Option Addr) (c : Nat) (l : List V) (hn : l.length ≤ 9223372036854775807) (hlen : (bs ++ rowB l).length ≤ 274877906944) (hs : ∀ v ∈ l, v.s.size ≤ 274877906944) (w : World) (hW : Wr w S g bs) (hS : ∀ k, w.heap.size ≤ k → S k) (hA : Src w S A l) :
    Calls Try.prog 36 #[.pointer (some ⟨g, 0, none⟩), .slice A l.length c] w fun e w' => e = .returned (.tuple #[]) ∧ Wr w' S g (bs ++ rowB l) ∧ Out S w w' := by
  rcases hA with rfl | ⟨b, off, rfl, _, hS2, hA⟩
  · have h0 : bs.length ≤ 274877906944 := by rw [List.length_append] at hlen; omega
    have hp := Lib.hid (wByte S g bs 0 (by omega) w hW hS)
    have hv : Hid (bs ++ leI 0 1 = bs ++ rowB []) := Lib.hid (by simp [rowB])
    clear h0 hlen hs hW hS hn
    show Calls _ _ #[.pointer (some ⟨g, 0, none⟩), .slice A 0 c] _ _
    go_enter Try.func36, Try.ntmps36
    go_wp2_with fail
    refine hp.out.mono ?_
    rintro e w1 ⟨rfl, h1, h2⟩
    rw [hv.out] at h1
    have H1 := Lib.hid h1
    have H2 := Lib.hid h2
    clear h1 h2 hp
    go_wp2_with fail
    go_loopw [14] (fun i wr => i = .int .i64 0 ∧ wr = w1) (fun i _ => 0)
    case atStart => exact ⟨rfl, rfl⟩
    case round =>
      obtain ⟨rfl, rfl⟩ := hrel
      go_wp2_with fail
      refine bodyPost_end (results_none rfl _ _ _) rfl ?_
      exact ⟨rfl, H1.out, H2.out⟩
  · exact rowPut_full S g bs b off c l.length l rfl hn hlen hs w hW hS hS2 hA
end Go.Proofs.Ytabhkfpglhfiiaa
