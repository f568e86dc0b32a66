/-
  Package sexp's reader: numbers; digits of escapes.
-/
import Derived.Test.YtldleckgkgeclaaDoorSxA
set_option linter.unusedVariables false
set_option linter.unusedSimpArgs false
namespace Go.Proofs.YtldleckgkgeclaaDoor
open Go.RowKit
/-- the two variables that strconv's errors hold -/
def Errs (w : World) : Prop := (2 < w.heap.size ∧ ∃ ev, w.cell? ⟨2, 0, none⟩ = some ev ∧ (ev = .nilIface ∨ ∃ te pe, ev = .iface te pe)) ∧
  (3 < w.heap.size ∧ ∃ ev, w.cell? ⟨3, 0, none⟩ = some ev ∧ (ev = .nilIface ∨ ∃ te pe, ev = .iface te pe))
theorem Errs.kept {B : Nat} {w w' : World} (h : Errs w) (hB : 2 < B ∧ 3 < B) (hb : Below B w w') : Errs w' := by
  obtain ⟨⟨h1, e1, c1, d1⟩, ⟨h2, e2, c2, d2⟩⟩ := h
  have hs := hb.size
  exact ⟨⟨by omega, e1, (hb.cell (p := ⟨_, 0, none⟩) hB.1).trans c1, d1⟩, ⟨by omega, e2, (hb.cell (p := ⟨_, 0, none⟩) hB.2).trans c2, d2⟩⟩
theorem Errs.lt {w : World} (h : Errs w) : 2 < w.heap.size ∧ 3 < w.heap.size := ⟨h.1.1, h.2.1⟩
theorem Errs.below {w w' : World} (h : Errs w) (hb : Below w.heap.size w w') : Errs w' := h.kept h.lt hb
/-- strconv.ParseInt at base ten and 64 bits -/
def ParseHere : Prop := ∀ (x : ByteArray) (w : World), x.size ≤ 600 → Errs w → Calls Tryd.prog 61 #[.string x, .int .i64 10, .int .i64 64] w fun e w' =>
  ((∃ v, Lib.parseIntB 64 x.data.toList = .ok v ∧ e = .returned (.tuple #[.int .i64 v, .nilIface])) ∨ ((∀ v, Lib.parseIntB 64 x.data.toList ≠ .ok v) ∧ ∃ n te pe, e = .returned (.tuple #[.int .i64 n, .iface te pe]))) ∧ Below w.heap.size w w'
def NumIs (o : Option (Int × Nat)) (e : Ending) : Prop := e = .returned (match o with | some (n, k) => .tuple #[.int .i64 n, .int .i64 (k : Int)] | none => .tuple #[.int .i64 0, .int .i64 (-1)])
set_option maxRecDepth 100000 in
set_option maxHeartbeats 2000000 in
theorem number_any (hP : ParseHere) (s : ByteArray) (p : Nat) (hp : p < s.size) (hs : s.size ≤ 600) (w : World) (hE : Errs w) : Calls Tryd.prog 43 #[.string s, .int .i64 (p : Int)] w fun e w' => NumIs (numberE s p) e ∧ Below w.heap.size w w' := by
  have HB := Lib.hid (bt_eq hp)
  cases h45 : ((s[p].toNat : Int) == 45)
  ·
    have hnf : numFrom s p = p := by unfold numFrom; rw [HB.out, if_neg (by simpa using h45)]
    have hr := run_digits s (p) (by omega) hs w
    rw [show ((p : Nat) : Int) = (p : Int) by omega] at hr
    have hge := runE_ge (p := digP) (s := s) _ (p) rfl
    have hN : Hid (numberE s p = if runE digP s (p) = p then none else match Lib.parseIntB 64 (s.extract p (runE digP s (p))).data.toList with | .ok v => some (v, runE digP s (p)) | _ => none) := Lib.hid (by rw [numberE, hnf]; rfl)
    obtain ⟨k, hk⟩ : ∃ k, runE digP s (p) = k := ⟨_, rfl⟩
    rw [hk] at hr hge hN
    have HR := Lib.hid hr
    have hk1 : p ≤ k := by omega
    have hk2 : k ≤ s.size := hge.2 (by omega)
    clear hr hge hk hnf
    have hPx := Lib.hid (hP (s.extract p k) w (by rw [ByteArray.size_extract]; omega) hE)
    cases hkf : ((k : Int) == (p : Int))
    · have hkn : ¬ k = p := by have := hkf; simp at this; omega
      have hN2 := hN.out
      rw [if_neg hkn] at hN2
      have HN := Lib.hid hN2
      clear hN2 hN hkn hE
      go_enter Tryd.func43, Tryd.ntmps43
      go_wp2_with fail
      refine (HR.out).mono ?_
      rintro e w' ⟨rfl, rfl⟩
      go_wp2_with fail
      refine (hPx.out).mono ?_
      rintro e w1 ⟨hcase, hb⟩
      have HB1 := Lib.hid hb
      rcases hcase with ⟨v, hv, rfl⟩ | ⟨hv, n, te, pe, rfl⟩
      · have HN2 := HN.out
        rw [hv] at HN2
        have HN := Lib.hid HN2
        clear HN2 hv hb
        go_wp2_with fail
        go_ret2
        exact ⟨by rw [HN.out]; exact rfl, HB1.out⟩
      · have HN2 : numberE s p = none := by
          rw [HN.out]
          cases h : Lib.parseIntB 64 (s.extract p k).data.toList with
          | ok v => exact absurd h (hv v)
          | «syntax» => rfl
          | range => rfl
        have HN := Lib.hid HN2
        clear HN2 hv hb
        go_wp2_with fail
        go_ret2
        exact ⟨by rw [HN.out]; exact rfl, HB1.out⟩
    · have hkn : k = p := by have := hkf; simp at this; omega
      have hN2 := hN.out
      rw [if_pos hkn] at hN2
      have HN := Lib.hid hN2
      clear hN2 hN hkn hE
      go_enter Tryd.func43, Tryd.ntmps43
      go_wp2_with fail
      refine (HR.out).mono ?_
      rintro e w' ⟨rfl, rfl⟩
      go_wp2_with fail
      refine (hPx.out).mono ?_
      rintro e w1 ⟨hcase, hb⟩
      have HB1 := Lib.hid hb
      clear hb
      rcases hcase with ⟨v, _, rfl⟩ | ⟨_, n, te, pe, rfl⟩
      all_goals
        go_wp2_with fail
        go_ret2
        exact ⟨by rw [HN.out]; exact rfl, HB1.out⟩
  ·
    have hnf : numFrom s p = p + 1 := by unfold numFrom; rw [HB.out, if_pos (by simpa using h45)]
    have hr := run_digits s (p + 1) (by omega) hs w
    rw [show ((p + 1 : Nat) : Int) = (p : Int) + 1 by omega] at hr
    have hge := runE_ge (p := digP) (s := s) _ (p + 1) rfl
    have hN : Hid (numberE s p = if runE digP s (p + 1) = p + 1 then none else match Lib.parseIntB 64 (s.extract p (runE digP s (p + 1))).data.toList with | .ok v => some (v, runE digP s (p + 1)) | _ => none) := Lib.hid (by rw [numberE, hnf]; rfl)
    obtain ⟨k, hk⟩ : ∃ k, runE digP s (p + 1) = k := ⟨_, rfl⟩
    rw [hk] at hr hge hN
    have HR := Lib.hid hr
    have hk1 : p ≤ k := by omega
    have hk2 : k ≤ s.size := hge.2 (by omega)
    clear hr hge hk hnf
    have hPx := Lib.hid (hP (s.extract p k) w (by rw [ByteArray.size_extract]; omega) hE)
    cases hkf : ((k : Int) == (p : Int) + 1)
    · have hkn : ¬ k = p + 1 := by have := hkf; simp at this; omega
      have hN2 := hN.out
      rw [if_neg hkn] at hN2
      have HN := Lib.hid hN2
      clear hN2 hN hkn hE
      go_enter Tryd.func43, Tryd.ntmps43
      go_wp2_with fail
      refine (HR.out).mono ?_
      rintro e w' ⟨rfl, rfl⟩
      go_wp2_with fail
      refine (hPx.out).mono ?_
      rintro e w1 ⟨hcase, hb⟩
      have HB1 := Lib.hid hb
      rcases hcase with ⟨v, hv, rfl⟩ | ⟨hv, n, te, pe, rfl⟩
      · have HN2 := HN.out
        rw [hv] at HN2
        have HN := Lib.hid HN2
        clear HN2 hv hb
        go_wp2_with fail
        go_ret2
        exact ⟨by rw [HN.out]; exact rfl, HB1.out⟩
      · have HN2 : numberE s p = none := by
          rw [HN.out]
          cases h : Lib.parseIntB 64 (s.extract p k).data.toList with
          | ok v => exact absurd h (hv v)
          | «syntax» => rfl
          | range => rfl
        have HN := Lib.hid HN2
        clear HN2 hv hb
        go_wp2_with fail
        go_ret2
        exact ⟨by rw [HN.out]; exact rfl, HB1.out⟩
    · have hkn : k = p + 1 := by have := hkf; simp at this; omega
      have hN2 := hN.out
      rw [if_pos hkn] at hN2
      have HN := Lib.hid hN2
      clear hN2 hN hkn hE
      go_enter Tryd.func43, Tryd.ntmps43
      go_wp2_with fail
      refine (HR.out).mono ?_
      rintro e w' ⟨rfl, rfl⟩
      go_wp2_with fail
      refine (hPx.out).mono ?_
      rintro e w1 ⟨hcase, hb⟩
      have HB1 := Lib.hid hb
      clear hb
      rcases hcase with ⟨v, _, rfl⟩ | ⟨_, n, te, pe, rfl⟩
      all_goals
        go_wp2_with fail
        go_ret2
        exact ⟨by rw [HN.out]; exact rfl, HB1.out⟩
/-- a digit of an escape -/
def HexHere : Prop := ∀ (c : Int) (w : World), Calls Tryd.prog 81 #[.string hexDigits, .int .u8 c] w fun e w' => e = .returned (.int .i64 (Lib.indexByte hexDigits.data.toList c.toNat.toUInt8)) ∧ w' = w
theorem hex_any (hH : HexHere) (c : UInt8) (w : World) : Calls Tryd.prog 62 #[.int .u8 (c.toNat : Int)] w fun e w' => e = .returned (.int .i64 (hexE c)) ∧ w = w' := by
  have hx := hH (c.toNat : Int) w
  rw [show ((c.toNat : Int).toNat.toUInt8) = c by simp] at hx
  have hx : Calls Tryd.prog 81 #[.string ⟨#[48, 49, 50, 51, 52, 53, 54, 55, 56, 57, 97, 98, 99, 100, 101, 102]⟩, .int .u8 (c.toNat : Int)] w fun e w' => e = .returned (.int .i64 (hexE c)) ∧ w' = w := hx
  have HX := Lib.hid hx
  clear hx
  generalize hexE c = h at *
  go_enter Tryd.func62, Tryd.ntmps62
  go_wp2_with fail
  refine (HX.out).mono ?_
  rintro e w' ⟨rfl, rfl⟩
  go_wp2_with fail
  go_ret
  exact ⟨rfl, rfl⟩
end Go.Proofs.YtldleckgkgeclaaDoor
