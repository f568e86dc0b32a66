/-
  The walk of ValueTells.
-/
import Derived.Test.YtabhkfpglhfiiaaDoorEach
import Derived.Test.YtabhkfpglhfiiaaDoorKnown4
import Derived.Test.YtabhkfpglhfiiaaDoorRefGet
import Derived.Test.YtabhkfpglhfiiaaDoorRef4
import Derived.Test.YtabhkfpglhfiiaaDoorQuote
import Derived.Test.YtabhkfpglhfiiaaDoorGet
import Derived.Test.YtabhkfpglhfiiaaDoorStructEq
import Derived.Deep.DeepCutAuto
set_option linter.unusedVariables false
namespace Go.Proofs.YtabhkfpglhfiiaaDoor
open Go.RowKit EachKit
theorem RRd.other {w w' : World} {S : Nat → Prop} {g g2 : Nat} {R : RS} (h : RRd w S g R) (ho : Only g2 w w') (hS : S g2) (hne : g ≠ g2) : RRd w' S g R := by
  obtain ⟨h1, h2, h3, v, hg, hv⟩ := h
  exact ⟨h1, h2, h3, v, (ho.block g (lt_of_block hg) hne).trans hg, hv.only hS ho⟩
theorem Rd.other {w w' : World} {S : Nat → Prop} {g g2 : Nat} {R : RS} (h : Rd w S g R) (ho : Only g2 w w') (hS : S g2) (hne : g ≠ g2) : Rd w' S g R := by
  obtain ⟨h1, h2, h3, v, hg, hv⟩ := h
  exact ⟨h1, h2, h3, v, (ho.block g (lt_of_block hg) hne).trans hg, hv.only hS ho⟩
/-- a value in a box of its own -/
def BoxV (w : World) (p : Nat) (k n : Int) (s : ByteArray) : Prop := w.cell? ⟨p, 0, none⟩ = some (.int .i64 k) ∧ w.cell? ⟨p, 1, none⟩ = some (.int .i64 n) ∧ w.cell? ⟨p, 2, none⟩ = some (.string s)
theorem BoxV.on {w w1 : World} {p B : Nat} {k n : Int} {s : ByteArray} (h : BoxV w p k n s) (hp : p < B) (hb : Below B w w1) : BoxV w1 p k n s :=
  ⟨(hb.cell hp).trans h.1, (hb.cell hp).trans h.2.1, (hb.cell hp).trans h.2.2⟩
theorem BoxV.only {w w1 : World} {p g : Nat} {k n : Int} {s : ByteArray} (h : BoxV w p k n s) (ho : Only g w w1) (hlt : p < w.heap.size) (hne : p ≠ g) : BoxV w1 p k n s := by
  have e : ∀ i, w1.cell? ⟨p, i, none⟩ = w.cell? ⟨p, i, none⟩ := fun i => World.cell?_of_block (ho.block p hlt hne)
  exact ⟨(e 0).trans h.1, (e 1).trans h.2.1, (e 2).trans h.2.2⟩
def vtDs : List (Option Tmp) := [some 60, some 61, some 62, some 63, some 64, some 65, some 66, some 67, some 68, some 69, some 70, some 71, some 72, some 73, some 74, some 75, some 76, some 77, some 78, some 79, some 80, some 81, some 82, some 83, some 84, some 85, some 86, some 87, some 88, some 89, some 90, some 91, some 92, some 93, some 94, some 95, some 96, some 97, some 98, some 99, some 100, some 101, some 102, some 103, some 104, some 105, some 106, some 107, some 108, some 109, some 110, some 111, some 112, some 113, some 114, some 115, some 116, some 117, some 118, some 119, some 120, some 121, some 10]
def vtMs : List Nat := [0, 1, 0, 7, 15, 31, 63, 63, 255, 63, 63, 2047, 4095, 8191, 16383, 32767, 65535, 32767, 262143, 524287, 1048575, 2097151, 4194303, 8388607, 16777215, 4194303, 50331647, 117440511, 268435455, 536870911, 1073741823, 2147483647, 2147483647, 8589934591, 17179869183, 34359738367, 68719476735, 68719476735, 274877906943, 549755813887, 1099511627775, 2199023255551, 2199023255551, 8796093022207, 17592186044415, 35184372088831, 70368744177663, 140737488355327, 70368744177663, 351843720888319, 1125899906842623, 2251799813685247, 4503599627370495, 9007199254740991, 18014398509481983, 9007199254740991, 45035996273704959, 144115188075855871, 288230376151711743, 576460752303423487, 1152921504606846975, 2305843009213693951, 4611686018427387903]
def vtV (ak an bk bn uk un n eE eA : Int) (sa sb us s vS : ByteArray) (vR vL : Bool) (p g pu pv : Nat) : List Value := [.agg #[.int .i64 ak, .int .i64 an, .string sa], .bool vR, .agg #[.int .i64 ak, .int .i64 an, .string sa], .bool vR, .bool true, .bool true, .agg #[.int .i64 ak, .int .i64 an, .string sa], .agg #[.int .i64 bk, .int .i64 bn, .string sb], .bool vL, .agg #[.int .i64 ak, .int .i64 an, .string sa], .agg #[.int .i64 bk, .int .i64 bn, .string sb], .bool vL, .bool true, .bool true, .bool true, .agg #[.int .i64 ak, .int .i64 an, .string sa], .string vS, .agg #[.int .i64 ak, .int .i64 an, .string sa], .string vS, .bool true, .bool true, .bool true, .pointer (some ⟨g, 0, none⟩), undef, .string ⟨(vB ⟨ak, an, sa⟩).toArray⟩, .agg #[.int .i64 ak, .int .i64 an, .string sa], undef, .string ⟨(vB ⟨ak, an, sa⟩).toArray⟩, .bool true, .bool true, .bool true, .agg #[.int .i64 uk, .int .i64 un, .string us], .agg #[.int .i64 uk, .int .i64 un, .string us], .bool true, .bool true, .bool true, .int .i64 eE, .int .i64 eE, .bool true, .bool true, .bool true, .int .i64 eA, .int .i64 eA, .bool true, .bool true, .bool true, .int .i64 n, .agg #[.int .i64 1, .int .i64 n, .string ⟨#[]⟩], .int .i64 n, .agg #[.int .i64 1, .int .i64 n, .string ⟨#[]⟩], .bool true, .bool true, .bool true, .string s, .agg #[.int .i64 2, .int .i64 0, .string s], .string s, .agg #[.int .i64 2, .int .i64 0, .string s], .bool true, .bool true, .bool true, .bool true, .bool true, .bool true]
def vtR (ak an bk bn uk un n eE eA : Int) (sa sb us s vS : ByteArray) (vR vL : Bool) (p g pu pv : Nat) (i : Nat) (v : Value) (w : World) : Prop := match i with
  | 23 => ∃ B, OwnB B w v (vB ⟨ak, an, sa⟩)
  | 26 => ∃ B, OwnB B w v ([] ++ vB ⟨ak, an, sa⟩)
  | i => v = (vtV ak an bk bn uk un n eE eA sa sb us s vS vR vL p g pu pv).getD i undef
theorem vtR_mono (ak an bk bn uk un n eE eA : Int) (sa sb us s vS : ByteArray) (vR vL : Bool) (p g pu pv : Nat) : ∀ i v w w', Below w.heap.size w w' → vtR ak an bk bn uk un n eE eA sa sb us s vS vR vL p g pu pv i v w → vtR ak an bk bn uk un n eE eA sa sb us s vS vR vL p g pu pv i v w' := by
  intro i v w w' hb h
  unfold vtR at h ⊢
  split at h
  · obtain ⟨B, h⟩ := h; exact ⟨B, own_kept h hb⟩
  · obtain ⟨B, h⟩ := h; exact ⟨B, own_kept h hb⟩
  · exact h
set_option maxRecDepth 100000 in
set_option maxHeartbeats 20000000 in
theorem valueTells_main (ak an bk bn : Int) (sa0 sb : ByteArray) (G : Option Addr) (cc : Nat) (l2 : List UInt8) (n : Int) (s : ByteArray)
    (wa : -9223372036854775808 ≤ an ∧ an ≤ 9223372036854775807) (k2 : l2.length ≤ 1048576) (hsa : sa0.size ≤ 1048576) (w : World) (hG : BR w G l2) (hSS : Hid (∀ w1, Below w.heap.size w w1 → ShowsAt w1)) :
    Calls Tryd.prog 5 #[.agg #[.int .i64 ak, .int .i64 an, .string sa0], .agg #[.int .i64 bk, .int .i64 bn, .string sb], .slice G l2.length cc, .int .i64 n, .string s] w fun e w' => e = .returned (.bool true) ∧ Below w.heap.size w w' := by
  obtain ⟨i0, hi0, hz0, hz1, hz2⟩ := info_parts u8_info
  have hsa' : (sa0.size : Int) ≤ 1048576 := by omega
  have hGk := Lib.hid (fun w1 (h1 : Below w.heap.size w w1) => hG.kept h1)
  have Wa := Lib.hid wa
  obtain ⟨p, hp⟩ : ∃ p, Hid (p = w.heap.size) := ⟨_, Lib.hid rfl⟩
  have K2 := Lib.hid k2
  clear hG wa k2
  go_enter Tryd.func5, Tryd.ntmps5
  go_upto_if 24 with (fail)
  go_cut [5, 6, 10] (fun s5 s6 s10 wx => s5 = .pointer (some ⟨p, 0, none⟩) ∧ s6 = .pointer (some ⟨p + 1, 0, none⟩) ∧ s10 = .bool false ∧ ∃ sa : ByteArray, sa.size ≤ 100 ∧ Below w.heap.size w wx ∧ p + 1 < wx.heap.size ∧ BoxV wx p ak an sa ∧ BoxV wx (p + 1) bk bn sb)
  case first =>
    by_cases h8 : (100 : Int) < sa0.size
    · go_wp2_with fail
      go_meet
      refine ⟨by rw [hp.out], by rw [hp.out], rfl, sa0.extract 0 100, ?_, ?_, ?_, ?_, ?_⟩
      · simp; omega
      · exact ((Below.refl _ _).alloc (Nat.le_refl _) _).alloc (by simp) _
      · rw [hp.out]; simp
      · rw [hp.out]; unfold BoxV; simp
      · rw [hp.out]; unfold BoxV; simp
    · go_wp2_with fail
      go_meet
      refine ⟨by rw [hp.out], by rw [hp.out], rfl, sa0, by omega, ?_, ?_, ?_, ?_⟩
      · exact ((Below.refl _ _).alloc (Nat.le_refl _) _).alloc (by simp) _
      · rw [hp.out]; simp
      · rw [hp.out]; unfold BoxV; simp
      · rw [hp.out]; unfold BoxV; simp
  case rest =>
  obtain ⟨rfl, rfl, rfl, sa, hsz, b0, hp1, hbA, hbB⟩ := hcut
  have HZ := Lib.hid hsz
  have B0 := Lib.hid b0
  have hbx : Hid (∀ w1, Below wc.heap.size wc w1 → BoxV w1 p ak an sa ∧ BoxV w1 (p + 1) bk bn sb) := Lib.hid fun w1 h1 => ⟨hbA.on (by omega) h1, hbB.on hp1 h1⟩
  have HP := Lib.hid hp1
  have hvb : Hid ((vB ⟨ak, an, sa⟩).length ≤ 1000) := Lib.hid (by have := vB_len ⟨ak, an, sa⟩; have h : sa.size ≤ 100 := hsz; show _ ≤ _; simp only at this; omega)
  clear hsa hsa' hsz b0 hbA hbB hp1 hp
  go_wp2_with fail
  refine (newWriter (fun k => wc.heap.size ≤ k) wc (Nat.le_refl _)).mono ?_
  rintro e w4 ⟨rfl, hw4, b4⟩
  obtain ⟨g, hg⟩ : ∃ g, g = wc.heap.size := ⟨_, rfl⟩
  have W4 : Hid (Wr w4 (fun k => wc.heap.size ≤ k) g []) := Lib.hid (by rw [hg]; exact hw4)
  have C4 := Lib.hid b4
  rw [← hg]
  clear hw4 b4 hg
  obtain ⟨⟨a1, a2, a3⟩, ⟨b1, b2, b3⟩⟩ := hbx.out w4 C4.out
  go_wp2_with fail
  refine (value_put (fun k => wc.heap.size ≤ k) g [] ⟨ak, an, sa⟩ (by simp) (by have := HZ.out; show sa.size ≤ _; omega) w4 W4.out (fun k hk => by have := C4.out.size; omega)).mono ?_
  rintro e w5 ⟨rfl, hw5, o5⟩
  rw [List.nil_append] at hw5
  have W5 := Lib.hid hw5
  have C5 := Lib.hid (C4.out.trans (o5.below fun k h => h))
  clear hw5 o5 W4 C4
  clear a1 a2 a3 b1 b2 b3
  obtain ⟨⟨a1, a2, a3⟩, ⟨b1, b2, b3⟩⟩ := hbx.out w5 C5.out
  go_wp2_with fail
  refine (ref4_Put none 0 [] ⟨ak, an, sa⟩ (by simp) (by have := HZ.out; show sa.size ≤ _; omega) w5 (BR.nil_ _ _)).mono ?_
  rintro e w6 ⟨v6, rfl, hown6, b6⟩
  rw [List.nil_append] at hown6
  have O6 := Lib.hid hown6
  have C6 := Lib.hid b6
  clear hown6 b6 a1 a2 a3 b1 b2 b3
  have LIFT : Hid (∀ w1, Below w5.heap.size w5 w1 → Below w.heap.size w w1) := Lib.hid fun w1 h => B0.out.trans ((C5.out.trans (h.mono C5.out.size)).mono B0.out.size)
  have LIFC : Hid (∀ w1, Below w5.heap.size w5 w1 → Below wc.heap.size wc w1) := Lib.hid fun w1 h => C5.out.trans (h.mono C5.out.size)
  go_wp2_with (at_builtin; refine wpList_append_any _ rfl _ _ 29 rfl w5.heap.size 5 i0 _ 1 1 Tryd.underlying29 hi0 hz0 hz1 hz2 rfl (by decide) _ _ _ rfl O6.out w6.heap.size G l2.length cc (u8s l2) rfl (hGk.out w6 (LIFT.out w6 C6.out)) (u8s_ones _) ?c1 ?c2 ?c3 ?_)
  case c1 => have := hvb.out; have := K2.out; unfold maxLen; omega
  case c2 => have := hvb.out; have := K2.out; omega
  case c3 => exact C6.out.size
  intro v7 w7 hown7 hg7 hat7
  have hx7 : OwnB w5.heap.size w7 v7 (vB ⟨ak, an, sa⟩ ++ l2) := ownB_of hown7 (by rw [u8s_append])
  have C7 := Lib.hid (C6.out.grown hg7 C6.out.size (fun k hk => (O6.out.lt k hk).1))
  have O7 := Lib.hid hx7
  clear hown7 hg7 hat7 hx7 O6 C6 hGk
  have HX : Hid ((vB ⟨ak, an, sa⟩ ++ l2).length ≤ 33554432) := Lib.hid (by rw [List.length_append]; have := hvb.out; have := K2.out; omega)
  obtain ⟨x, ex⟩ : ∃ x, x = vB ⟨ak, an, sa⟩ ++ l2 := ⟨_, rfl⟩
  rw [← ex] at O7 HX
  clear ex
  obtain ⟨A7, n7, c7, rfl⟩ := OwnB.form O7.out
  go_wp2_with fail
  refine (newReader _ x (by have := HX.out; omega) w7 (own_bts O7.out)).mono ?_
  rintro e w8 ⟨g2, rfl, hg1, hg2, hr8, b8⟩
  have R8 := Lib.hid hr8
  have hs7 := C7.out.size
  have C8 := Lib.hid (C7.out.trans (b8.mono hs7))
  have BR8 : Hid (ByR w8 (fun k => w7.heap.size ≤ k) (.slice A7 n7 c7) x) := Lib.hid (by
    rcases own_bts O7.out with h | ⟨b, o, c, e, h0, h1, h2⟩
    · exact .inl h
    · exact .inr ⟨b, o, c, e, h0, by have := b8.size; omega, by omega, h2.below b8 h1⟩)
  have hs8 := b8.size
  have hA8 : Below w8.heap.size w8 (w8.alloc (.cells #[.slice A7 n7 c7, .int .i64 0, .bool false, .int .i64 0, .int .i64 0] 44)) := (Below.refl _ _).alloc (Nat.le_refl _) _
  have HQ : Hid (RRd (w8.alloc (.cells #[.slice A7 n7 c7, .int .i64 0, .bool false, .int .i64 0, .int .i64 0] 44)) (fun k => w7.heap.size ≤ k) w8.heap.size ⟨x, 0, 0, 0⟩) := Lib.hid
    ⟨hs8, Nat.zero_le _, by have := HX.out; show x.length ≤ _; omega, _, heap_alloc_new w8 _, BR8.out.only hs8 (only_of_below hA8)⟩
  have R8a := Lib.hid (R8.out.kept hA8)
  have C8a := Lib.hid (C8.out.trans (hA8.mono C8.out.size))
  have hsa : (w8.alloc (.cells #[.slice A7 n7 c7, .int .i64 0, .bool false, .int .i64 0, .int .i64 0] 44)).heap.size = w8.heap.size + 1 := by simp
  have HSA := Lib.hid hsa
  clear hr8 b8 O7 BR8 hA8 R8 C8 C7 hsa
  go_wp2_with fail
  refine (value_get (fun k => k = g2 ∨ w8.heap.size ≤ k) g2 ⟨x, 0, 0, 0⟩ _ (fun k hk => .inr (by have := HSA.out; omega)) R8a.out).mono ?_
  rintro e w9 ⟨rfl, hr9, o9⟩
  have HQ9 := Lib.hid (HQ.out.other o9 hg1 (by omega))
  have C9 := Lib.hid (C8a.out.trans (o9.below C8a.out.size (by omega)))
  have hs9' : w8.heap.size + 1 ≤ w9.heap.size := by have := o9.size; have := HSA.out; omega
  obtain ⟨uk, un, us, hU⟩ : ∃ uk un us, (RS.mk x 0 0 0).getV = ⟨uk, un, us⟩ := ⟨_, _, _, rfl⟩
  have EU : V.val (RS.mk x 0 0 0).getV = .agg #[.int .i64 uk, .int .i64 un, .string us] := by rw [hU]; rfl
  rw [EU]
  have R9 := Lib.hid hr9
  clear hr9 o9 HQ R8a C8a
  have hz9 := Lib.hid hs9'
  clear hs9'
  go_wp2_with fail
  obtain ⟨w9a, hw9a⟩ : ∃ W, W = w9.alloc (.cells #[.int .i64 uk, .int .i64 un, .string us] 24) := ⟨_, rfl⟩
  have hA9 : Below w9.heap.size w9 w9a := by rw [hw9a]; exact (Below.refl _ _).alloc (Nat.le_refl _) _
  have hU9 : BoxV w9a w9.heap.size uk un us := by rw [hw9a]; unfold BoxV; simp
  have hs9a : w9a.heap.size = w9.heap.size + 1 := by rw [hw9a]; simp
  rw [← hw9a]
  clear hw9a
  have R9a := Lib.hid (R9.out.kept hA9)
  have Q9a := Lib.hid (HQ9.out.kept hA9)
  have C9a := Lib.hid (C9.out.trans (hA9.mono C9.out.size))
  have hpz := hz9.out
  obtain ⟨pu, hpu⟩ : ∃ q, q = w9.heap.size := ⟨_, rfl⟩
  rw [← hpu] at hU9 hs9a ⊢
  refine (ref4_get (fun k => w7.heap.size ≤ k) w8.heap.size ⟨x, 0, 0, 0⟩ w9a (fun k hk => by omega) Q9a.out).mono ?_
  rintro e w10 ⟨rfl, hq10, o10⟩
  rw [EU]
  have hU10 : BoxV w10 pu uk un us := hU9.only o10 (by omega) (by omega)
  have hs10 := o10.size
  have R10 := R9a.out.other o10 (.inr (Nat.le_refl _)) (by omega)
  have c10 := C9a.out.trans (o10.below C9a.out.size (by omega))
  obtain ⟨w10a, hw10a⟩ : ∃ W, W = w10.alloc (.cells #[.int .i64 uk, .int .i64 un, .string us] 24) := ⟨_, rfl⟩
  have hA10 : Below w10.heap.size w10 w10a := by rw [hw10a]; exact (Below.refl _ _).alloc (Nat.le_refl _) _
  have hV10 : BoxV w10a w10.heap.size uk un us := by rw [hw10a]; unfold BoxV; simp
  have hs10a : w10a.heap.size = w10.heap.size + 1 := by rw [hw10a]; simp
  obtain ⟨pv, hpv⟩ : ∃ q, q = w10.heap.size := ⟨_, rfl⟩
  have hU10a : BoxV w10a pu uk un us := hU10.on (by omega) hA10
  rw [← hpv] at hV10
  have hpva : pu < w10a.heap.size ∧ pv < w10a.heap.size := ⟨by omega, by omega⟩
  have RA := Lib.hid (R10.kept hA10)
  have QA := Lib.hid (hq10.kept hA10)
  have CA := Lib.hid (c10.trans (hA10.mono c10.size))
  have HUV : Hid (∀ w1, Below w10a.heap.size w10a w1 → BoxV w1 pu uk un us ∧ BoxV w1 pv uk un us) := Lib.hid fun w1 h1 => ⟨hU10a.on hpva.1 h1, hV10.on hpva.2 h1⟩
  have HV10 := Lib.hid hw10a
  have HPV := Lib.hid hpv
  clear hU9 hs9a hA9 R9 HQ9 C9 hpz hpu hq10 o10 hU10 hs10 R10 c10 hA10 hV10 hs10a hU10a hpva R9a Q9a C9a hU EU hw10a hpv
  go_wp2_with fail
  rw [← HV10.out, ← HPV.out]
  clear HV10 HPV
  refine (rEnd _ g2 _ w10a RA.out).mono ?_
  rintro e w11 ⟨rfl, b11⟩
  have T11 := Lib.hid b11
  clear b11 RA
  go_wp2_with fail
  refine (rr_End _ w8.heap.size _ w11 (QA.out.kept T11.out)).mono ?_
  rintro e w12 ⟨rfl, b12⟩
  have T12 := Lib.hid (T11.out.trans (b12.mono T11.out.size))
  clear b12 T11 QA
  generalize (RS.mk x 0 0 0).getR.endE = eE at *
  generalize (RS.mk x 0 0 0).getR.endA = eA at *
  have L5 : Hid (∀ w1, Below w12.heap.size w12 w1 → Below w5.heap.size w5 w1) := Lib.hid fun w1 h => CA.out.trans ((T12.out.trans (h.mono T12.out.size)).mono CA.out.size)
  have LW : Hid (∀ w1, Below w12.heap.size w12 w1 → Below w.heap.size w w1) := Lib.hid fun w1 h => LIFT.out w1 (L5.out w1 h)
  have hall : Hid (∀ w1, Below w12.heap.size w12 w1 → BoxV w1 p ak an sa ∧ BoxV w1 (p + 1) bk bn sb ∧ BoxV w1 pu uk un us ∧ BoxV w1 pv uk un us) := Lib.hid fun w1 h => by
    obtain ⟨h1, h2⟩ := hbx.out w1 (LIFC.out w1 (L5.out w1 h))
    obtain ⟨h3, h4⟩ := HUV.out w1 (T12.out.trans (h.mono T12.out.size))
    exact ⟨h1, h2, h3, h4⟩
  obtain ⟨vR, evR⟩ : ∃ b, b = V.okB ⟨ak, an, sa⟩ := ⟨_, rfl⟩
  obtain ⟨vL, evL⟩ : ∃ b, b = V.lt ⟨ak, an, sa⟩ ⟨bk, bn, sb⟩ := ⟨_, rfl⟩
  obtain ⟨vS, evS⟩ : ∃ b, b = ByteArray.mk (showL ⟨ak, an, sa⟩).toArray := ⟨_, rfl⟩
  have grow : ∀ (w1 w2 : World) (c : Obj), w1.alloc c = w2 → Below w1.heap.size w1 w2 := fun w1 w2 c h => by rw [← h]; exact (Below.refl _ _).alloc (Nat.le_refl _) _
  have hRa : Hid (∀ w1, Below w12.heap.size w12 w1 → Calls Tryd.prog 15 #[.agg #[.int .i64 ak, .int .i64 an, .string sa]] w1 fun e w' => e = .returned (.bool vR) ∧ Below w1.heap.size w1 w') := Lib.hid fun w1 _ => (value_right ak an sa w1).mono fun e w' h => ⟨by rw [evR]; exact h.1, grow _ _ _ h.2⟩
  have hRa2 : Hid (∀ w1, Below w12.heap.size w12 w1 → Calls Tryd.prog 21 #[.agg #[.int .i64 ak, .int .i64 an, .string sa]] w1 fun e w' => e = .returned (.bool vR) ∧ Below w1.heap.size w1 w') := Lib.hid fun w1 _ => (ref4_right ak an sa w1).mono fun e w' h => ⟨by rw [evR]; exact h.1, grow _ _ _ h.2⟩
  have hL : Hid (∀ w1, Below w12.heap.size w12 w1 → Calls Tryd.prog 16 #[.agg #[.int .i64 ak, .int .i64 an, .string sa], .agg #[.int .i64 bk, .int .i64 bn, .string sb]] w1 fun e w' => e = .returned (.bool vL) ∧ Below w1.heap.size w1 w') := Lib.hid fun w1 _ => by rw [evL]; exact value_less ak an sa bk bn sb w1
  have hL2 : Hid (∀ w1, Below w12.heap.size w12 w1 → Calls Tryd.prog 22 #[.agg #[.int .i64 ak, .int .i64 an, .string sa], .agg #[.int .i64 bk, .int .i64 bn, .string sb]] w1 fun e w' => e = .returned (.bool vL) ∧ Below w1.heap.size w1 w') := Lib.hid fun w1 _ => by rw [evL]; exact ref4_less ak an sa bk bn sb w1
  have hSh : Hid (∀ w1, Below w12.heap.size w12 w1 → Calls Tryd.prog 7 #[.agg #[.int .i64 ak, .int .i64 an, .string sa]] w1 fun e w' => e = .returned (.string vS) ∧ Below w1.heap.size w1 w') := Lib.hid fun w1 h1 => by rw [evS]; exact hSS.out w1 (LW.out w1 h1) w1 ak an sa (Below.refl _ _) Wa.out.1 Wa.out.2
  have hSh2 : Hid (∀ w1, Below w12.heap.size w12 w1 → Calls Tryd.prog 23 #[.agg #[.int .i64 ak, .int .i64 an, .string sa]] w1 fun e w' => e = .returned (.string vS) ∧ Below w1.heap.size w1 w') := Lib.hid fun w1 _ => by rw [evS]; exact ref4_show ak an sa Wa.out.1 Wa.out.2 w1
  have hDone : Hid (∀ w1, Below w12.heap.size w12 w1 → Calls Tryd.prog 24 #[.pointer (some ⟨g, 0, none⟩)] w1 fun e w' => ∃ v', e = .returned v' ∧ w'.ownsRow w1.heap.size 5 1 v' (vB ⟨ak, an, sa⟩).length (u8s (vB ⟨ak, an, sa⟩)) ∧ Below w1.heap.size w1 w') := Lib.hid fun w1 h1 => wDone _ g _ (by have := hvb.out; omega) w1 (W5.out.kept (L5.out w1 h1))
  have hPut2 : Hid (∀ w1, Below w12.heap.size w12 w1 → Calls Tryd.prog 18 #[.slice none 0 0, .agg #[.int .i64 ak, .int .i64 an, .string sa]] w1 fun e w' => ∃ v, e = .returned v ∧ OwnB w1.heap.size w' v ([] ++ vB ⟨ak, an, sa⟩) ∧ Below w1.heap.size w1 w') := Lib.hid fun w1 _ => ref4_Put none 0 [] ⟨ak, an, sa⟩ (by simp) (by have := HZ.out; show sa.size ≤ _; omega) w1 (BR.nil_ _ _)
  have hNum : Hid (∀ w1, Below w12.heap.size w12 w1 → Calls Tryd.prog 9 #[.int .i64 n] w1 fun e w' => e = .returned (.agg #[.int .i64 1, .int .i64 n, .string ⟨#[]⟩]) ∧ Below w1.heap.size w1 w') := Lib.hid fun w1 _ => (v_num n w1).mono fun e w' h => ⟨h.1, grow _ _ _ h.2⟩
  have hStr : Hid (∀ w1, Below w12.heap.size w12 w1 → Calls Tryd.prog 8 #[.string s] w1 fun e w' => e = .returned (.agg #[.int .i64 2, .int .i64 0, .string s]) ∧ Below w1.heap.size w1 w') := Lib.hid fun w1 _ => (v_str s w1).mono fun e w' h => ⟨h.1, grow _ _ _ h.2⟩
  have hKn : Hid (∀ w1, Below w12.heap.size w12 w1 → Calls Tryd.prog 10 #[] w1 fun e w' => e = .returned (.bool true) ∧ Below w1.heap.size w1 w') := Lib.hid fun w1 h1 => known4 w1 w1 (Lib.hid (hSS.out w1 (LW.out w1 h1))) (Lib.hid (Below.refl _ _))
  clear evR evL evS grow hi0 hz0 hz1 hz2 hbx HUV HZ HP hvb K2 W5 C5 LIFT LIFC L5 B0 HX hs7 hs8 hg1 hg2 HSA hz9 CA T12 hSS Wa
  go_wp2_with fail
  refine region_each (R := vtR ak an bk bn uk un n eE eA sa sb us s vS vR vL p g pu pv) (ds := vtDs) (MS := vtMs) (by kernel_rfl) (by kernel_rfl) (by kernel_rfl) (by kernel_rfl) (by kernel_rfl) (vtR_mono _ _ _ _ _ _ _ _ _ _ _ _ _ _ _ _ _ _ _ _)
    (fun a0 => a0.tmps.getD 3 undef = .int .i64 n ∧ a0.tmps.getD 4 undef = .string s ∧ a0.tmps.getD 5 undef = .pointer (some ⟨p, 0, none⟩) ∧ a0.tmps.getD 6 undef = .pointer (some ⟨(p + 1), 0, none⟩) ∧ a0.tmps.getD 11 undef = .pointer (some ⟨g, 0, none⟩) ∧ a0.tmps.getD 15 undef = .pointer (some ⟨pu, 0, none⟩) ∧ a0.tmps.getD 16 undef = .pointer (some ⟨pv, 0, none⟩) ∧ a0.tmps.getD 17 undef = .int .i64 eE ∧ a0.tmps.getD 18 undef = .int .i64 eA ∧ a0.tmps.getD 19 undef = .int .i64 eE ∧ a0.tmps.getD 20 undef = .int .i64 eA) ⟨rfl, rfl, rfl, rfl, rfl, rfl, rfl, rfl, rfl, rfl, rfl⟩ ?_ ?_
  · intro hds Q' a0 ⟨g3, g4, g5, g6, g11, g15, g16, g17, g18, g19, g20⟩
    refine Each.cons (OpGoal.free rfl (fun a1 w1 hB hL1 hk K hK => ?_)) ?_
    · have s5 : a1.tmps.getD 5 undef = .pointer (some ⟨p, 0, none⟩) := hL1.old rfl g5
      obtain ⟨⟨a1', a2', a3'⟩, ⟨b1', b2', b3'⟩, ⟨u1', u2', u3'⟩, ⟨v1', v2', v3'⟩⟩ := hall.out w1 hB
      clear hk hL1
      go_simp
      exact hK _ _ (Below.refl _ _) rfl
    refine Each.cons (OpGoal.free rfl (fun a1 w1 hB hL1 hk K hK => ?_)) ?_
    · have s60 : a1.tmps.getD 60 undef = .agg #[.int .i64 ak, .int .i64 an, .string sa] := (hk 0 rfl).is rfl (fun _ h => h)
      clear hk hL1
      go_simp
      refine (hRa.out _ hB).mono ?_
      rintro e w2 ⟨rfl, b⟩
      exact hK _ _ b rfl
    refine Each.cons (OpGoal.free rfl (fun a1 w1 hB hL1 hk K hK => ?_)) ?_
    · have s5 : a1.tmps.getD 5 undef = .pointer (some ⟨p, 0, none⟩) := hL1.old rfl g5
      obtain ⟨⟨a1', a2', a3'⟩, ⟨b1', b2', b3'⟩, ⟨u1', u2', u3'⟩, ⟨v1', v2', v3'⟩⟩ := hall.out w1 hB
      clear hk hL1
      go_simp
      exact hK _ _ (Below.refl _ _) rfl
    refine Each.cons (OpGoal.free rfl (fun a1 w1 hB hL1 hk K hK => ?_)) ?_
    · have s62 : a1.tmps.getD 62 undef = .agg #[.int .i64 ak, .int .i64 an, .string sa] := (hk 2 rfl).is rfl (fun _ h => h)
      clear hk hL1
      go_simp
      refine (hRa2.out _ hB).mono ?_
      rintro e w2 ⟨rfl, b⟩
      exact hK _ _ b rfl
    refine Each.cons (OpGoal.free rfl (fun a1 w1 hB hL1 hk K hK => ?_)) ?_
    · have s61 : a1.tmps.getD 61 undef = .bool vR := (hk 1 rfl).is rfl (fun _ h => h)
      have s63 : a1.tmps.getD 63 undef = .bool vR := (hk 3 rfl).is rfl (fun _ h => h)
      clear hk hL1
      go_simp
      exact hK _ _ (Below.refl _ _) rfl
    refine Each.cons (OpGoal.free rfl (fun a1 w1 hB hL1 hk K hK => ?_)) ?_
    · have s64 : a1.tmps.getD 64 undef = .bool true := (hk 4 rfl).is rfl (fun _ h => h)
      clear hk hL1
      go_simp
      exact hK _ _ (Below.refl _ _) rfl
    refine Each.cons (OpGoal.guarded (j := 5) (d := 65) hds rfl rfl rfl (fun v _ h => h) (fun a1 w1 hB hL1 hk K hK => ?_)) ?_
    · have s5 : a1.tmps.getD 5 undef = .pointer (some ⟨p, 0, none⟩) := hL1.old rfl g5
      obtain ⟨⟨a1', a2', a3'⟩, ⟨b1', b2', b3'⟩, ⟨u1', u2', u3'⟩, ⟨v1', v2', v3'⟩⟩ := hall.out w1 hB
      clear hk hL1
      go_simp
      exact hK _ _ (Below.refl _ _) rfl
    refine Each.cons (OpGoal.guarded (j := 5) (d := 65) hds rfl rfl rfl (fun v _ h => h) (fun a1 w1 hB hL1 hk K hK => ?_)) ?_
    · have s6 : a1.tmps.getD 6 undef = .pointer (some ⟨(p + 1), 0, none⟩) := hL1.old rfl g6
      obtain ⟨⟨a1', a2', a3'⟩, ⟨b1', b2', b3'⟩, ⟨u1', u2', u3'⟩, ⟨v1', v2', v3'⟩⟩ := hall.out w1 hB
      clear hk hL1
      go_simp
      exact hK _ _ (Below.refl _ _) rfl
    refine Each.cons (OpGoal.guarded (j := 5) (d := 65) hds rfl rfl rfl (fun v _ h => h) (fun a1 w1 hB hL1 hk K hK => ?_)) ?_
    · have s66 : a1.tmps.getD 66 undef = .agg #[.int .i64 ak, .int .i64 an, .string sa] := (hk 6 rfl).is rfl (fun _ h => h)
      have s67 : a1.tmps.getD 67 undef = .agg #[.int .i64 bk, .int .i64 bn, .string sb] := (hk 7 rfl).is rfl (fun _ h => h)
      clear hk hL1
      go_simp
      refine (hL.out _ hB).mono ?_
      rintro e w2 ⟨rfl, b⟩
      exact hK _ _ b rfl
    refine Each.cons (OpGoal.guarded (j := 5) (d := 65) hds rfl rfl rfl (fun v _ h => h) (fun a1 w1 hB hL1 hk K hK => ?_)) ?_
    · have s5 : a1.tmps.getD 5 undef = .pointer (some ⟨p, 0, none⟩) := hL1.old rfl g5
      obtain ⟨⟨a1', a2', a3'⟩, ⟨b1', b2', b3'⟩, ⟨u1', u2', u3'⟩, ⟨v1', v2', v3'⟩⟩ := hall.out w1 hB
      clear hk hL1
      go_simp
      exact hK _ _ (Below.refl _ _) rfl
    refine Each.cons (OpGoal.guarded (j := 5) (d := 65) hds rfl rfl rfl (fun v _ h => h) (fun a1 w1 hB hL1 hk K hK => ?_)) ?_
    · have s6 : a1.tmps.getD 6 undef = .pointer (some ⟨(p + 1), 0, none⟩) := hL1.old rfl g6
      obtain ⟨⟨a1', a2', a3'⟩, ⟨b1', b2', b3'⟩, ⟨u1', u2', u3'⟩, ⟨v1', v2', v3'⟩⟩ := hall.out w1 hB
      clear hk hL1
      go_simp
      exact hK _ _ (Below.refl _ _) rfl
    refine Each.cons (OpGoal.guarded (j := 5) (d := 65) hds rfl rfl rfl (fun v _ h => h) (fun a1 w1 hB hL1 hk K hK => ?_)) ?_
    · have s69 : a1.tmps.getD 69 undef = .agg #[.int .i64 ak, .int .i64 an, .string sa] := (hk 9 rfl).is rfl (fun _ h => h)
      have s70 : a1.tmps.getD 70 undef = .agg #[.int .i64 bk, .int .i64 bn, .string sb] := (hk 10 rfl).is rfl (fun _ h => h)
      clear hk hL1
      go_simp
      refine (hL2.out _ hB).mono ?_
      rintro e w2 ⟨rfl, b⟩
      exact hK _ _ b rfl
    refine Each.cons (OpGoal.guarded (j := 5) (d := 65) hds rfl rfl rfl (fun v _ h => h) (fun a1 w1 hB hL1 hk K hK => ?_)) ?_
    · have s68 : a1.tmps.getD 68 undef = .bool vL := (hk 8 rfl).is rfl (fun _ h => h)
      have s71 : a1.tmps.getD 71 undef = .bool vL := (hk 11 rfl).is rfl (fun _ h => h)
      clear hk hL1
      go_simp
      exact hK _ _ (Below.refl _ _) rfl
    refine Each.cons (OpGoal.free rfl (fun a1 w1 hB hL1 hk K hK => ?_)) ?_
    · have s65 : a1.tmps.getD 65 undef = .bool true := (hk 5 rfl).is rfl (fun _ h => h)
      have s72 : a1.tmps.getD 72 undef = .bool true := (hk 12 rfl).is rfl (fun _ h => h)
      clear hk hL1
      go_simp
      exact hK _ _ (Below.refl _ _) rfl
    refine Each.cons (OpGoal.free rfl (fun a1 w1 hB hL1 hk K hK => ?_)) ?_
    · have s73 : a1.tmps.getD 73 undef = .bool true := (hk 13 rfl).is rfl (fun _ h => h)
      clear hk hL1
      go_simp
      exact hK _ _ (Below.refl _ _) rfl
    refine Each.cons (OpGoal.guarded (j := 14) (d := 74) hds rfl rfl rfl (fun v _ h => h) (fun a1 w1 hB hL1 hk K hK => ?_)) ?_
    · have s5 : a1.tmps.getD 5 undef = .pointer (some ⟨p, 0, none⟩) := hL1.old rfl g5
      obtain ⟨⟨a1', a2', a3'⟩, ⟨b1', b2', b3'⟩, ⟨u1', u2', u3'⟩, ⟨v1', v2', v3'⟩⟩ := hall.out w1 hB
      clear hk hL1
      go_simp
      exact hK _ _ (Below.refl _ _) rfl
    refine Each.cons (OpGoal.guarded (j := 14) (d := 74) hds rfl rfl rfl (fun v _ h => h) (fun a1 w1 hB hL1 hk K hK => ?_)) ?_
    · have s75 : a1.tmps.getD 75 undef = .agg #[.int .i64 ak, .int .i64 an, .string sa] := (hk 15 rfl).is rfl (fun _ h => h)
      clear hk hL1
      go_simp
      refine (hSh.out _ hB).mono ?_
      rintro e w2 ⟨rfl, b⟩
      exact hK _ _ b rfl
    refine Each.cons (OpGoal.guarded (j := 14) (d := 74) hds rfl rfl rfl (fun v _ h => h) (fun a1 w1 hB hL1 hk K hK => ?_)) ?_
    · have s5 : a1.tmps.getD 5 undef = .pointer (some ⟨p, 0, none⟩) := hL1.old rfl g5
      obtain ⟨⟨a1', a2', a3'⟩, ⟨b1', b2', b3'⟩, ⟨u1', u2', u3'⟩, ⟨v1', v2', v3'⟩⟩ := hall.out w1 hB
      clear hk hL1
      go_simp
      exact hK _ _ (Below.refl _ _) rfl
    refine Each.cons (OpGoal.guarded (j := 14) (d := 74) hds rfl rfl rfl (fun v _ h => h) (fun a1 w1 hB hL1 hk K hK => ?_)) ?_
    · have s77 : a1.tmps.getD 77 undef = .agg #[.int .i64 ak, .int .i64 an, .string sa] := (hk 17 rfl).is rfl (fun _ h => h)
      clear hk hL1
      go_simp
      refine (hSh2.out _ hB).mono ?_
      rintro e w2 ⟨rfl, b⟩
      exact hK _ _ b rfl
    refine Each.cons (OpGoal.guarded (j := 14) (d := 74) hds rfl rfl rfl (fun v _ h => h) (fun a1 w1 hB hL1 hk K hK => ?_)) ?_
    · have s76 : a1.tmps.getD 76 undef = .string vS := (hk 16 rfl).is rfl (fun _ h => h)
      have s78 : a1.tmps.getD 78 undef = .string vS := (hk 18 rfl).is rfl (fun _ h => h)
      clear hk hL1
      go_simp
      exact hK _ _ (Below.refl _ _) rfl
    refine Each.cons (OpGoal.free rfl (fun a1 w1 hB hL1 hk K hK => ?_)) ?_
    · have s74 : a1.tmps.getD 74 undef = .bool true := (hk 14 rfl).is rfl (fun _ h => h)
      have s79 : a1.tmps.getD 79 undef = .bool true := (hk 19 rfl).is rfl (fun _ h => h)
      clear hk hL1
      go_simp
      exact hK _ _ (Below.refl _ _) rfl
    refine Each.cons (OpGoal.free rfl (fun a1 w1 hB hL1 hk K hK => ?_)) ?_
    · have s80 : a1.tmps.getD 80 undef = .bool true := (hk 20 rfl).is rfl (fun _ h => h)
      clear hk hL1
      go_simp
      exact hK _ _ (Below.refl _ _) rfl
    refine Each.cons (OpGoal.guarded (j := 21) (d := 81) hds rfl rfl rfl (fun v _ h => h) (fun a1 w1 hB hL1 hk K hK => ?_)) ?_
    · have s11 : a1.tmps.getD 11 undef = .pointer (some ⟨g, 0, none⟩) := hL1.old rfl g11
      clear hk hL1
      go_simp
      exact hK _ _ (Below.refl _ _) rfl
    refine Each.cons (OpGoal.guarded (j := 21) (d := 81) hds rfl rfl rfl (fun v _ h => h) (fun a1 w1 hB hL1 hk K hK => ?_)) ?_
    · have s82 : a1.tmps.getD 82 undef = .pointer (some ⟨g, 0, none⟩) := (hk 22 rfl).is rfl (fun _ h => h)
      clear hk hL1
      go_simp
      refine (hDone.out _ hB).mono ?_
      rintro e w2 ⟨vD, rfl, ownD, bD⟩
      exact hK _ _ bD ⟨_, ownB_of ownD rfl⟩
    refine Each.cons (OpGoal.guarded (j := 21) (d := 81) hds rfl rfl rfl (fun v _ h => h) (fun a1 w1 hB hL1 hk K hK => ?_)) ?_
    · obtain ⟨vD, s83, B, hO⟩ := (hk 23 rfl).slot rfl
      have hc := own_conv hO
      clear hk hL1
      go_simp
      exact hK _ _ (Below.refl _ _) rfl
    refine Each.cons (OpGoal.guarded (j := 21) (d := 81) hds rfl rfl rfl (fun v _ h => h) (fun a1 w1 hB hL1 hk K hK => ?_)) ?_
    · have s5 : a1.tmps.getD 5 undef = .pointer (some ⟨p, 0, none⟩) := hL1.old rfl g5
      obtain ⟨⟨a1', a2', a3'⟩, ⟨b1', b2', b3'⟩, ⟨u1', u2', u3'⟩, ⟨v1', v2', v3'⟩⟩ := hall.out w1 hB
      clear hk hL1
      go_simp
      exact hK _ _ (Below.refl _ _) rfl
    refine Each.cons (OpGoal.guarded (j := 21) (d := 81) hds rfl rfl rfl (fun v _ h => h) (fun a1 w1 hB hL1 hk K hK => ?_)) ?_
    · have s85 : a1.tmps.getD 85 undef = .agg #[.int .i64 ak, .int .i64 an, .string sa] := (hk 25 rfl).is rfl (fun _ h => h)
      clear hk hL1
      go_simp
      refine (hPut2.out _ hB).mono ?_
      rintro e w2 ⟨vP, rfl, ownP, bP⟩
      exact hK _ _ bP ⟨_, ownP⟩
    refine Each.cons (OpGoal.guarded (j := 21) (d := 81) hds rfl rfl rfl (fun v _ h => h) (fun a1 w1 hB hL1 hk K hK => ?_)) ?_
    · obtain ⟨vP, s86, B, hO⟩ := (hk 26 rfl).slot rfl
      have hc := own_conv hO
      clear hk hL1
      go_simp
      exact hK _ _ (Below.refl _ _) rfl
    refine Each.cons (OpGoal.guarded (j := 21) (d := 81) hds rfl rfl rfl (fun v _ h => h) (fun a1 w1 hB hL1 hk K hK => ?_)) ?_
    · have s84 : a1.tmps.getD 84 undef = .string ⟨(vB ⟨ak, an, sa⟩).toArray⟩ := (hk 24 rfl).is rfl (fun _ h => h)
      have s87 : a1.tmps.getD 87 undef = .string ⟨(vB ⟨ak, an, sa⟩).toArray⟩ := (hk 27 rfl).is rfl (fun _ h => h)
      clear hk hL1
      go_simp
      exact hK _ _ (Below.refl _ _) rfl
    refine Each.cons (OpGoal.free rfl (fun a1 w1 hB hL1 hk K hK => ?_)) ?_
    · have s81 : a1.tmps.getD 81 undef = .bool true := (hk 21 rfl).is rfl (fun _ h => h)
      have s88 : a1.tmps.getD 88 undef = .bool true := (hk 28 rfl).is rfl (fun _ h => h)
      clear hk hL1
      go_simp
      exact hK _ _ (Below.refl _ _) rfl
    refine Each.cons (OpGoal.free rfl (fun a1 w1 hB hL1 hk K hK => ?_)) ?_
    · have s89 : a1.tmps.getD 89 undef = .bool true := (hk 29 rfl).is rfl (fun _ h => h)
      clear hk hL1
      go_simp
      exact hK _ _ (Below.refl _ _) rfl
    refine Each.cons (OpGoal.guarded (j := 30) (d := 90) hds rfl rfl rfl (fun v _ h => h) (fun a1 w1 hB hL1 hk K hK => ?_)) ?_
    · have s15 : a1.tmps.getD 15 undef = .pointer (some ⟨pu, 0, none⟩) := hL1.old rfl g15
      obtain ⟨⟨a1', a2', a3'⟩, ⟨b1', b2', b3'⟩, ⟨u1', u2', u3'⟩, ⟨v1', v2', v3'⟩⟩ := hall.out w1 hB
      clear hk hL1
      go_simp
      exact hK _ _ (Below.refl _ _) rfl
    refine Each.cons (OpGoal.guarded (j := 30) (d := 90) hds rfl rfl rfl (fun v _ h => h) (fun a1 w1 hB hL1 hk K hK => ?_)) ?_
    · have s16 : a1.tmps.getD 16 undef = .pointer (some ⟨pv, 0, none⟩) := hL1.old rfl g16
      obtain ⟨⟨a1', a2', a3'⟩, ⟨b1', b2', b3'⟩, ⟨u1', u2', u3'⟩, ⟨v1', v2', v3'⟩⟩ := hall.out w1 hB
      clear hk hL1
      go_simp
      exact hK _ _ (Below.refl _ _) rfl
    refine Each.cons (OpGoal.guarded (j := 30) (d := 90) hds rfl rfl rfl (fun v _ h => h) (fun a1 w1 hB hL1 hk K hK => ?_)) ?_
    · have s91 : a1.tmps.getD 91 undef = .agg #[.int .i64 uk, .int .i64 un, .string us] := (hk 31 rfl).is rfl (fun _ h => h)
      have s92 : a1.tmps.getD 92 undef = .agg #[.int .i64 uk, .int .i64 un, .string us] := (hk 32 rfl).is rfl (fun _ h => h)
      clear hk hL1
      go_simp
      exact hK _ _ (Below.refl _ _) rfl
    refine Each.cons (OpGoal.free rfl (fun a1 w1 hB hL1 hk K hK => ?_)) ?_
    · have s90 : a1.tmps.getD 90 undef = .bool true := (hk 30 rfl).is rfl (fun _ h => h)
      have s93 : a1.tmps.getD 93 undef = .bool true := (hk 33 rfl).is rfl (fun _ h => h)
      clear hk hL1
      go_simp
      exact hK _ _ (Below.refl _ _) rfl
    refine Each.cons (OpGoal.free rfl (fun a1 w1 hB hL1 hk K hK => ?_)) ?_
    · have s94 : a1.tmps.getD 94 undef = .bool true := (hk 34 rfl).is rfl (fun _ h => h)
      clear hk hL1
      go_simp
      exact hK _ _ (Below.refl _ _) rfl
    refine Each.cons (OpGoal.guarded (j := 35) (d := 95) hds rfl rfl rfl (fun v _ h => h) (fun a1 w1 hB hL1 hk K hK => ?_)) ?_
    · have s17 : a1.tmps.getD 17 undef = .int .i64 eE := hL1.old rfl g17
      clear hk hL1
      go_simp
      exact hK _ _ (Below.refl _ _) rfl
    refine Each.cons (OpGoal.guarded (j := 35) (d := 95) hds rfl rfl rfl (fun v _ h => h) (fun a1 w1 hB hL1 hk K hK => ?_)) ?_
    · have s19 : a1.tmps.getD 19 undef = .int .i64 eE := hL1.old rfl g19
      clear hk hL1
      go_simp
      exact hK _ _ (Below.refl _ _) rfl
    refine Each.cons (OpGoal.guarded (j := 35) (d := 95) hds rfl rfl rfl (fun v _ h => h) (fun a1 w1 hB hL1 hk K hK => ?_)) ?_
    · have s96 : a1.tmps.getD 96 undef = .int .i64 eE := (hk 36 rfl).is rfl (fun _ h => h)
      have s97 : a1.tmps.getD 97 undef = .int .i64 eE := (hk 37 rfl).is rfl (fun _ h => h)
      clear hk hL1
      go_simp
      exact hK _ _ (Below.refl _ _) rfl
    refine Each.cons (OpGoal.free rfl (fun a1 w1 hB hL1 hk K hK => ?_)) ?_
    · have s95 : a1.tmps.getD 95 undef = .bool true := (hk 35 rfl).is rfl (fun _ h => h)
      have s98 : a1.tmps.getD 98 undef = .bool true := (hk 38 rfl).is rfl (fun _ h => h)
      clear hk hL1
      go_simp
      exact hK _ _ (Below.refl _ _) rfl
    refine Each.cons (OpGoal.free rfl (fun a1 w1 hB hL1 hk K hK => ?_)) ?_
    · have s99 : a1.tmps.getD 99 undef = .bool true := (hk 39 rfl).is rfl (fun _ h => h)
      clear hk hL1
      go_simp
      exact hK _ _ (Below.refl _ _) rfl
    refine Each.cons (OpGoal.guarded (j := 40) (d := 100) hds rfl rfl rfl (fun v _ h => h) (fun a1 w1 hB hL1 hk K hK => ?_)) ?_
    · have s18 : a1.tmps.getD 18 undef = .int .i64 eA := hL1.old rfl g18
      clear hk hL1
      go_simp
      exact hK _ _ (Below.refl _ _) rfl
    refine Each.cons (OpGoal.guarded (j := 40) (d := 100) hds rfl rfl rfl (fun v _ h => h) (fun a1 w1 hB hL1 hk K hK => ?_)) ?_
    · have s20 : a1.tmps.getD 20 undef = .int .i64 eA := hL1.old rfl g20
      clear hk hL1
      go_simp
      exact hK _ _ (Below.refl _ _) rfl
    refine Each.cons (OpGoal.guarded (j := 40) (d := 100) hds rfl rfl rfl (fun v _ h => h) (fun a1 w1 hB hL1 hk K hK => ?_)) ?_
    · have s101 : a1.tmps.getD 101 undef = .int .i64 eA := (hk 41 rfl).is rfl (fun _ h => h)
      have s102 : a1.tmps.getD 102 undef = .int .i64 eA := (hk 42 rfl).is rfl (fun _ h => h)
      clear hk hL1
      go_simp
      exact hK _ _ (Below.refl _ _) rfl
    refine Each.cons (OpGoal.free rfl (fun a1 w1 hB hL1 hk K hK => ?_)) ?_
    · have s100 : a1.tmps.getD 100 undef = .bool true := (hk 40 rfl).is rfl (fun _ h => h)
      have s103 : a1.tmps.getD 103 undef = .bool true := (hk 43 rfl).is rfl (fun _ h => h)
      clear hk hL1
      go_simp
      exact hK _ _ (Below.refl _ _) rfl
    refine Each.cons (OpGoal.free rfl (fun a1 w1 hB hL1 hk K hK => ?_)) ?_
    · have s104 : a1.tmps.getD 104 undef = .bool true := (hk 44 rfl).is rfl (fun _ h => h)
      clear hk hL1
      go_simp
      exact hK _ _ (Below.refl _ _) rfl
    refine Each.cons (OpGoal.guarded (j := 45) (d := 105) hds rfl rfl rfl (fun v _ h => h) (fun a1 w1 hB hL1 hk K hK => ?_)) ?_
    · have s3 : a1.tmps.getD 3 undef = .int .i64 n := hL1.old rfl g3
      clear hk hL1
      go_simp
      exact hK _ _ (Below.refl _ _) rfl
    refine Each.cons (OpGoal.guarded (j := 45) (d := 105) hds rfl rfl rfl (fun v _ h => h) (fun a1 w1 hB hL1 hk K hK => ?_)) ?_
    · have s106 : a1.tmps.getD 106 undef = .int .i64 n := (hk 46 rfl).is rfl (fun _ h => h)
      clear hk hL1
      go_simp
      refine (hNum.out _ hB).mono ?_
      rintro e w2 ⟨rfl, b⟩
      exact hK _ _ b rfl
    refine Each.cons (OpGoal.guarded (j := 45) (d := 105) hds rfl rfl rfl (fun v _ h => h) (fun a1 w1 hB hL1 hk K hK => ?_)) ?_
    · have s3 : a1.tmps.getD 3 undef = .int .i64 n := hL1.old rfl g3
      clear hk hL1
      go_simp
      exact hK _ _ (Below.refl _ _) rfl
    refine Each.cons (OpGoal.guarded (j := 45) (d := 105) hds rfl rfl rfl (fun v _ h => h) (fun a1 w1 hB hL1 hk K hK => ?_)) ?_
    · have s108 : a1.tmps.getD 108 undef = .int .i64 n := (hk 48 rfl).is rfl (fun _ h => h)
      have s108' := s108
      rw [Array.getD_eq_getD_getElem?] at s108'
      clear hk hL1
      go_simp
      exact hK _ _ (Below.refl _ _) rfl
    refine Each.cons (OpGoal.guarded (j := 45) (d := 105) hds rfl rfl rfl (fun v _ h => h) (fun a1 w1 hB hL1 hk K hK => ?_)) ?_
    · have s107 : a1.tmps.getD 107 undef = .agg #[.int .i64 1, .int .i64 n, .string ⟨#[]⟩] := (hk 47 rfl).is rfl (fun _ h => h)
      have s109 : a1.tmps.getD 109 undef = .agg #[.int .i64 1, .int .i64 n, .string ⟨#[]⟩] := (hk 49 rfl).is rfl (fun _ h => h)
      clear hk hL1
      go_simp
      exact hK _ _ (Below.refl _ _) rfl
    refine Each.cons (OpGoal.free rfl (fun a1 w1 hB hL1 hk K hK => ?_)) ?_
    · have s105 : a1.tmps.getD 105 undef = .bool true := (hk 45 rfl).is rfl (fun _ h => h)
      have s110 : a1.tmps.getD 110 undef = .bool true := (hk 50 rfl).is rfl (fun _ h => h)
      clear hk hL1
      go_simp
      exact hK _ _ (Below.refl _ _) rfl
    refine Each.cons (OpGoal.free rfl (fun a1 w1 hB hL1 hk K hK => ?_)) ?_
    · have s111 : a1.tmps.getD 111 undef = .bool true := (hk 51 rfl).is rfl (fun _ h => h)
      clear hk hL1
      go_simp
      exact hK _ _ (Below.refl _ _) rfl
    refine Each.cons (OpGoal.guarded (j := 52) (d := 112) hds rfl rfl rfl (fun v _ h => h) (fun a1 w1 hB hL1 hk K hK => ?_)) ?_
    · have s4 : a1.tmps.getD 4 undef = .string s := hL1.old rfl g4
      clear hk hL1
      go_simp
      exact hK _ _ (Below.refl _ _) rfl
    refine Each.cons (OpGoal.guarded (j := 52) (d := 112) hds rfl rfl rfl (fun v _ h => h) (fun a1 w1 hB hL1 hk K hK => ?_)) ?_
    · have s113 : a1.tmps.getD 113 undef = .string s := (hk 53 rfl).is rfl (fun _ h => h)
      clear hk hL1
      go_simp
      refine (hStr.out _ hB).mono ?_
      rintro e w2 ⟨rfl, b⟩
      exact hK _ _ b rfl
    refine Each.cons (OpGoal.guarded (j := 52) (d := 112) hds rfl rfl rfl (fun v _ h => h) (fun a1 w1 hB hL1 hk K hK => ?_)) ?_
    · have s4 : a1.tmps.getD 4 undef = .string s := hL1.old rfl g4
      clear hk hL1
      go_simp
      exact hK _ _ (Below.refl _ _) rfl
    refine Each.cons (OpGoal.guarded (j := 52) (d := 112) hds rfl rfl rfl (fun v _ h => h) (fun a1 w1 hB hL1 hk K hK => ?_)) ?_
    · have s115 : a1.tmps.getD 115 undef = .string s := (hk 55 rfl).is rfl (fun _ h => h)
      have s115' := s115
      rw [Array.getD_eq_getD_getElem?] at s115'
      clear hk hL1
      go_simp
      exact hK _ _ (Below.refl _ _) rfl
    refine Each.cons (OpGoal.guarded (j := 52) (d := 112) hds rfl rfl rfl (fun v _ h => h) (fun a1 w1 hB hL1 hk K hK => ?_)) ?_
    · have s114 : a1.tmps.getD 114 undef = .agg #[.int .i64 2, .int .i64 0, .string s] := (hk 54 rfl).is rfl (fun _ h => h)
      have s116 : a1.tmps.getD 116 undef = .agg #[.int .i64 2, .int .i64 0, .string s] := (hk 56 rfl).is rfl (fun _ h => h)
      clear hk hL1
      go_simp
      exact hK _ _ (Below.refl _ _) rfl
    refine Each.cons (OpGoal.free rfl (fun a1 w1 hB hL1 hk K hK => ?_)) ?_
    · have s112 : a1.tmps.getD 112 undef = .bool true := (hk 52 rfl).is rfl (fun _ h => h)
      have s117 : a1.tmps.getD 117 undef = .bool true := (hk 57 rfl).is rfl (fun _ h => h)
      clear hk hL1
      go_simp
      exact hK _ _ (Below.refl _ _) rfl
    refine Each.cons (OpGoal.free rfl (fun a1 w1 hB hL1 hk K hK => ?_)) ?_
    · have s118 : a1.tmps.getD 118 undef = .bool true := (hk 58 rfl).is rfl (fun _ h => h)
      clear hk hL1
      go_simp
      exact hK _ _ (Below.refl _ _) rfl
    refine Each.cons (OpGoal.guarded (j := 59) (d := 119) hds rfl rfl rfl (fun v _ h => h) (fun a1 w1 hB hL1 hk K hK => ?_)) ?_
    · clear hk hL1
      go_simp
      refine (hKn.out _ hB).mono ?_
      rintro e w2 ⟨rfl, b⟩
      exact hK _ _ b rfl
    refine Each.cons (OpGoal.free rfl (fun a1 w1 hB hL1 hk K hK => ?_)) ?_
    · have s119 : a1.tmps.getD 119 undef = .bool true := (hk 59 rfl).is rfl (fun _ h => h)
      have s120 : a1.tmps.getD 120 undef = .bool true := (hk 60 rfl).is rfl (fun _ h => h)
      clear hk hL1
      go_simp
      exact hK _ _ (Below.refl _ _) rfl
    refine Each.cons (OpGoal.free rfl (fun a1 w1 hB hL1 hk K hK => ?_)) ?_
    · have s121 : a1.tmps.getD 121 undef = .bool true := (hk 61 rfl).is rfl (fun _ h => h)
      clear hk hL1
      go_simp
      exact hK _ _ (Below.refl _ _) rfl
    exact trivial
  · rintro ⟨tm, df⟩ w1 hB hL1 hk
    obtain rfl : df = [] := hL1.defers
    have s10 : tm.getD 10 undef = .bool true := (hk 62 (by decide)).is rfl (fun _ h => h)
    clear hk hL1
    go_wp2_with fail
    go_ret
    exact ⟨congrArg Ending.returned s10, LW.out _ hB⟩
end Go.Proofs.YtabhkfpglhfiiaaDoor
