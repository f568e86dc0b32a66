/-
  Package confluenceref5's Find.
-/
import Derived.Test.YtabhkfpglhfiiaaFind
namespace Go.Proofs.Ytabhkfpglhfiiaa
open Go.RowKit
theorem refFind_full (b o : Nat) (n c : Nat) (l : List C) (hl : l.length = n) (hn : n ≤ 9223372036854775807) (nm : ByteArray) (w : World) (hL : CAt w b o l) :
    Calls Try.prog 43 #[.slice (some ⟨b, o, none⟩) n c, .string nm] w fun e w' => e = .returned (.tuple #[.int .i64 (findN l nm), .bool (findB l nm)]) ∧ w' = w := by
  have HL := Lib.hid hL
  have Hl := Lib.hid hl
  clear hL hl
  unfold findN findB
  generalize hr : idx (C.isB nm) l 0 = r
  have Hr : Hid (r = idx (C.isB nm) l 0) := Lib.hid hr.symm
  clear hr
  generalize hfn : (if 0 ≤ r then r else 0) = fn
  generalize hfb : decide (0 ≤ r) = fb
  have Hfn := Lib.hid hfn
  have Hfb := Lib.hid hfb
  clear hfn hfb
  go_enter Try.func43, Try.ntmps43
  go_wp2_with fail
  go_loop [6] (fun i => ∃ k : Nat, k ≤ n ∧ i = .int .i64 k ∧ Hid (r = idx (C.isB nm) (l.drop k) k)) (fun i => n - (intOf i).toNat)
  case atStart => exact ⟨0, Nat.zero_le _, rfl, Hr⟩
  case round =>
    obtain ⟨k, hk, rfl, hz⟩ := hrel
    by_cases hlt : k < n
    · obtain ⟨cc, hc⟩ : ∃ c, l[k]? = some c := ⟨_, List.getElem?_eq_getElem (by rw [Hl.out]; exact hlt)⟩
      have hst := Lib.hid (hz.out.trans (idx_step (p := C.isB nm) hc))
      obtain ⟨c1, c2⟩ := HL.out k cc hc
      clear hc hz
      obtain ⟨cn, ck⟩ := cc
      have hi0 : (0 : Int) ≤ (k : Int) := by omega
      have hi1 : (k : Int) < (n : Int) := by omega
      have c1 : w.cell? ⟨b, o + k * 2, none⟩ = some (.string cn) := c1
      by_cases he : C.isB nm ⟨cn, ck⟩ = true
      · have he' : (cn.toList == nm.toList) = true := he
        rw [if_pos he] at hst
        have hr2 := hst.out
        subst hr2
        have h1 := Hfn.out
        have h2 := Hfb.out
        rw [if_pos (by omega)] at h1
        rw [decide_eq_true (by omega)] at h2
        subst h1 h2
        clear he hst Hr Hfn Hfb
        go_wp2_with fail
        go_ret2
        exact ⟨rfl, rfl⟩
      · have he' : (cn.toList == nm.toList) = false := by simpa [C.isB] using he
        rw [if_neg he] at hst
        clear he
        go_wp2_with fail
        go_round
        case rel => exact ⟨k + 1, by omega, by go_num, hst⟩
        case measure => simp [intOf]; omega
    · have hr2 : r = -1 := by rw [hz.out, List.drop_of_length_le (by rw [Hl.out]; omega)]; rfl
      subst hr2
      have h1 := Hfn.out
      have h2 := Hfb.out
      rw [if_neg (by omega)] at h1
      rw [decide_eq_false (by omega)] at h2
      subst h1 h2
      clear hz Hr Hfn Hfb
      go_wp2_with fail
      go_ret2
      exact ⟨rfl, rfl⟩
theorem refFind_any (A : Option Addr) (c : Nat) (l : List C) (hn : l.length ≤ 9223372036854775807) (nm : ByteArray) (w : World) (hA : CRow w w.heap.size A l) :
    Calls Try.prog 43 #[.slice A l.length c, .string nm] w fun e w' => e = .returned (.tuple #[.int .i64 (findN l nm), .bool (findB l nm)]) ∧ w' = w := by
  rcases hA with rfl | ⟨b, o, rfl, hb, hL⟩
  · show Calls _ _ #[.slice A 0 c, .string nm] w fun e w' => e = .returned (.tuple #[.int .i64 0, .bool false]) ∧ w' = w
    go_enter Try.func43, Try.ntmps43
    go_wp2_with fail
    go_loop [6] (fun i => i = .int .i64 0) (fun i => 0)
    case atStart => rfl
    case round =>
      obtain rfl := hrel
      go_wp2_with fail
      go_ret2
      exact ⟨rfl, rfl⟩
  · exact refFind_full b o l.length c l rfl hn nm w hL
end Go.Proofs.Ytabhkfpglhfiiaa
