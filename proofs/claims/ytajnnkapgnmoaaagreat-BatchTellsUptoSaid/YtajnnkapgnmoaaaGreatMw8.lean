/-
  The reference's Right at a right set.
-/
import Derived.Test.YtajnnkapgnmoaaaGreatMw3
import Derived.Test.YtajnnkapgnmoaaaGreatMw6
import Derived.Lib.QuietBelow
import Derived.Test.YtajnnkapgnmoaaaGreatMw0
import Derived.Test.YtajnnkapgnmoaaaGreatMw4
import Derived.Test.YtajnnkapgnmoaaaGreatMw5
import Derived.Test.YtajnnkapgnmoaaaGreatMw7
import Derived.BigQuiet
set_option linter.unusedVariables false
set_option linter.unusedSimpArgs false
namespace Go.Proofs.YtajnnkapgnmoaaaGreat
open Go.RowKit Go.Sort

set_option maxHeartbeats 2000000 in
set_option maxRecDepth 100000 in
theorem rright_any (A : Option Addr) (c : Nat) (l : List IM) (w : World) {S : Nat → Prop} (hA : SRow w S A l) (hS : ∀ k, S k → k < w.heap.size) (hl : l.length ≤ 1073741824) (hk : SOk l) :
    Calls Tryz.prog 93 #[.slice A l.length c] w fun e w' => e = .returned (.bool true) ∧ Below w.heap.size w w' := by
  obtain ⟨n, hn⟩ : ∃ n, l.length = n := ⟨_, rfl⟩
  have HN := Lib.hid hn
  have HA := Lib.hid hA
  have HS := Lib.hid hS
  have HK := Lib.hid hk
  have mixed : Tryz.prog.follows .mixedOrders = true := by kernel_rfl
  rw [hn] at hl ⊢
  clear hA hS hk hn
  go_enter Tryz.func93, Tryz.ntmps93
  go_wp2_with fail
  go_loopw [3] (fun i wr => ∃ k : Nat, k ≤ n ∧ i = .int .i64 k ∧ Below w.heap.size w wr) (fun i _ => n - (intOf i).toNat)
  case atStart => exact ⟨0, Nat.zero_le _, rfl, Below.refl _ _⟩
  case round =>
    obtain ⟨k, hk, rfl, hb⟩ := hrel
    have HB := Lib.hid hb
    have hs := hb.size
    clear hb
    by_cases hlt : k < n
    · obtain ⟨x, hx⟩ : ∃ x, l[k]? = some x := ⟨_, List.getElem?_eq_getElem (by rw [HN.out]; exact hlt)⟩
      obtain ⟨b, off, rfl, hSb, hc1, hc2⟩ := (HA.out.below HB.out HS.out).get hx
      have hm := List.mem_of_getElem? hx
      have HX := Lib.hid hx
      have hok := HK.out.row hm
      have hkN := HK.out.okN hm
      have hk0 := HK.out.net hm
      have HXR := Lib.hid ((HA.out.rows x hm).to HS.out)
      have hq := Lib.hid (fun w1 (hb : Below w.heap.size w w1) => ref5_right x.A x.c x.r (by have := (rowOk_len hok).2; omega) w1 ((HXR.out.below hb).more hb.size))
      rw [show rowOk x.r = true from hok] at hq
      have ht := Lib.hid (fun w1 => rf_parts hkN w1)
      obtain ⟨bp, hp1, hp2⟩ : ∃ bp : Bool, (pos x.k == 0) = bp ∧ (pos (-x.k) == 0) = !bp := by
        have h1 := pos_bd x.k
        have h2 := pos_bd (-x.k)
        by_cases h : 0 < x.k
        · exact ⟨false, by rw [beq_eq_false_iff_ne]; omega, by rw [Bool.not_false, beq_iff_eq]; omega⟩
        · exact ⟨true, by rw [beq_iff_eq]; omega, by rw [Bool.not_true, beq_eq_false_iff_ne]; omega⟩
      have hp4 : (bp == !bp) = false := by cases bp <;> rfl
      have HLS : Hid (∀ kp, k = kp + 1 → ∃ y, l[kp]? = some y ∧ VRow w w.heap.size y.A y.r ∧ rowLess y.r x.r = true ∧ y.r.length ≤ 6) := Lib.hid (fun kp e => by
        obtain ⟨y, hy⟩ : ∃ y, l[kp]? = some y := ⟨_, List.getElem?_eq_getElem (by rw [HN.out]; omega)⟩
        have hmy := List.mem_of_getElem? hy
        exact ⟨y, hy, (HA.out.rows y hmy).to HS.out, HK.out.less hy (by rw [← e]; exact HX.out), (rowOk_len (HK.out.row hmy)).2⟩)
      have hxl : x.r.length ≤ 6 := (rowOk_len hok).2
      obtain ⟨xA, xc, xr, xk⟩ := x
      dsimp only at hc1 hc2 hq ht hp1 hp2 HLS HXR hxl
      have hst2 := fun a m w1 => run_store_tal Tryz.prog a xk m w1
      have hgz2 := fun op t x y v => eqGuard_at_tal op t x y xk v
      generalize tal xk = T at hc2 ht hst2 hgz2
      generalize pos xk = p1 at ht hp1
      generalize pos (-xk) = p2 at ht hp2
      obtain ⟨xn, hxn⟩ : ∃ xn, xr.length = xn := ⟨_, rfl⟩
      rw [hxn] at hc1 hq hxl
      have HXN := Lib.hid hxn
      clear hx hm hok hkN hk0 hSb hxn
      go_upto_region 5 with (first | (go_at_call 56; refine (ht.out _).mono ?_; rintro e w' ⟨rfl, rfl⟩))
      have e0 := fun d os => cell_regrown hc1 d os
      have HBA : Hid (∀ d os, Below w.heap.size w (grow (redrawn wr d) os)) := Lib.hid (fun d os => HB.out.trans ((below_regrown _ d os).mono hs))
      by_cases hk0 : k = 0
      · have hkz : decide (0 < (k : Int)) = false := decide_eq_false (by omega)
        have hn0 : 0 < n := by omega
        have hc1' := hc1
        rw [hk0, Nat.zero_mul, Nat.add_zero] at hc1'
        have e0' := fun d os => cell_regrown hc1' d os
        have C1 := Lib.hid (fun d os => Calls.regrown_of (hq.out _ (HBA.out d os)))
        clear hq HLS
        refine wp_region_quiet_below (by assumption) (by kernel_rfl) ?_
        iterate 22 (quiet_step (first | (go_at_call 57; exact C1.out _ _)))
        iterate 13 (with_reducible (refine wpQuiet_skip ?_ ?_); kernel_rfl; simp only [Act.put, List.setIfInBounds_toArray, List.set_cons_zero, List.set_cons_succ])
        iterate 2 (quiet_step (first | (go_at_call 57; exact C1.out _ _)))
        refine wpQuiet_nil ?_
        intro _ hw'
        obtain ⟨⟨nq, osq⟩, hw''⟩ := hw'
        subst hw''
        have HB2 := Lib.hid (HBA.out nq osq)
        clear e0 HBA C1
        generalize grow (redrawn wr nq) osq = wb at HB2 ⊢
        go_wp2_with fail
        go_roundw
        case rel => exact ⟨k + 1, by omega, by go_num, HB2.out⟩
        case measure => simp [intOf]; omega
      · obtain ⟨kp, ekp⟩ : ∃ kp, k = kp + 1 := ⟨k - 1, by omega⟩
        have hkn : 0 < k := by omega
        have hkz : (0 : Int) < (k : Int) := by omega
        have ek : (k : Int) - 1 = (kp : Int) := by omega
        have pk : kp < n := by omega
        have rk : IntKind.i64.wrap (kp : Int) = (kp : Int) := by rw [IntKind.wrap_i64]; omega
        have rk2 : IntKind.i64.wrap ((k : Int) - 1) = (kp : Int) := by rw [ek]; exact rk
        obtain ⟨y, hy, hyv, hyl, hy6⟩ := HLS.out kp ekp
        obtain ⟨b2, off2, hb2, _, hd1, hd2⟩ := (HA.out.below HB.out HS.out).get hy
        obtain ⟨rfl, rfl⟩ : b = b2 ∧ off = off2 := by simpa using hb2
        have hqy := Lib.hid (fun w1 (hb : Below w.heap.size w w1) => ref5_less_in y.A xA y.c xc y.r xr (by omega) (by rw [HXN.out]; omega) w1 ((hyv.below hb).more hb.size) ((HXR.out.below hb).more hb.size))
        rw [hyl, HXN.out] at hqy
        obtain ⟨yA, yc, yr, yk⟩ := y
        dsimp only at hd1 hqy
        generalize yr.length = yn at hd1 hqy
        have e2 := fun d os => cell_regrown hd1 d os
        clear hd1 hd2 hb2 hyv hyl hy6 hy
        have hkp : k = kp + 1 := ekp
        clear ekp HLS
        have C1 := Lib.hid (fun d os => Calls.regrown_of (hq.out _ (HBA.out d os)))
        have C4 := Lib.hid (fun d os => Calls.regrown_of (hqy.out _ (HBA.out d os)))
        clear hq hqy hkp hk0
        refine wp_region_quiet_below (by assumption) (by kernel_rfl) ?_
        repeat (quiet_step (first | (go_at_call 57; exact C1.out _ _) | (go_at_call 58; exact C4.out _ _)))
        refine wpQuiet_nil ?_
        intro _ hw'
        obtain ⟨⟨nq, osq⟩, hw''⟩ := hw'
        subst hw''
        have HB2 := Lib.hid (HBA.out nq osq)
        clear e0 e2 HBA C1 C4
        generalize grow (redrawn wr nq) osq = wb at HB2 ⊢
        go_wp2_with fail
        go_roundw
        case rel => exact ⟨k + 1, by omega, by go_num, HB2.out⟩
        case measure => simp [intOf]; omega
    · go_wp2_with fail
      go_ret
      exact ⟨rfl, HB.out⟩
end Go.Proofs.YtajnnkapgnmoaaaGreat
/-
  The reference's Flip of a right set.
-/
set_option linter.unusedVariables false
set_option linter.unusedSimpArgs false
namespace Go.Proofs.YtajnnkapgnmoaaaGreat
open Go.RowKit Go.Sort

set_option maxHeartbeats 2000000 in
set_option maxRecDepth 100000 in
theorem rflip_any (A : Option Addr) (c : Nat) (l : List IM) (w : World) {S : Nat → Prop} (hA : SRow w S A l) (hS : ∀ k, S k → k < w.heap.size) (hl : l.length ≤ 1073741824) (hk : SOk l) :
    Calls Tryz.prog 55 #[.slice A l.length c] w fun e w' => (∃ A' c' s, e = .returned (.slice A' s.length c') ∧ ListRet w (flipS (its l)) w' A' c' s) ∧ Below w.heap.size w w' := by
  obtain ⟨i0, hi, hz0, hz1, hz2⟩ := info_parts item_info
  obtain ⟨i1, hi', hz0', hz1', hz2'⟩ := info_parts value_info
  have mixed : Tryz.prog.follows .mixedOrders = true := by kernel_rfl
  have hrt := Lib.hid (rright_any A c l w hA hS hl hk)
  obtain ⟨n, hn⟩ : ∃ n, l.length = n := ⟨_, rfl⟩
  have HN := Lib.hid hn
  have HA := Lib.hid hA
  have HS := Lib.hid hS
  have HK := Lib.hid hk
  rw [hn] at hl hrt ⊢
  clear hA hS hk hn
  go_enter Tryz.func55, Tryz.ntmps55
  go_wp2_with fail
  refine hrt.out.mono ?_
  rintro e w1 ⟨rfl, hb1⟩
  have HB1 := Lib.hid hb1
  clear hb1 hrt
  go_wp2_with fail
  go_loopw [3, 4] (fun v i wr => ∃ (k : Nat) (ol : List IM), k ≤ n ∧ i = .int .i64 k ∧ wr.ownsRow w.heap.size 47 2 v ol.length (flatM ol) ∧ Below w.heap.size w wr ∧ ol.length = k ∧ Hid (∀ x ∈ ol, VRowS wr (fun g => NewS w wr g ∧ v.ownBlock ≠ some g) x.A x.r) ∧ Hid (its ol = flipS (its (l.take k)))) (fun _ i _ => n - (intOf i).toNat)
  case atStart => exact ⟨0, [], Nat.zero_le _, rfl, World.ownsRow_nil _ _ _ _, HB1.out, rfl, Lib.hid (fun x hx => by simp at hx), Lib.hid rfl⟩
  case round =>
    rename World => wo
    obtain ⟨k, ol, hk, rfl, hown, hb, hlen, HOR, HIT⟩ := hrel
    have HO := Lib.hid hown
    have HB := Lib.hid hb
    have hs := hb.size
    clear hown hb
    by_cases hlt : k < n
    · obtain ⟨x, hx⟩ : ∃ x, l[k]? = some x := ⟨_, List.getElem?_eq_getElem (by rw [HN.out]; exact hlt)⟩
      obtain ⟨b, off, rfl, hSb, hc1, hc2⟩ := (HA.out.below HB.out HS.out).get hx
      have hm := List.mem_of_getElem? hx
      have HIT2 := Lib.hid (its_take hx)
      have hkN := HK.out.okN hm
      have hx6 := (rowOk_len (HK.out.row hm)).2
      have HXR := Lib.hid ((((HA.out.rows x hm).to HS.out).below HB.out).more hs)
      have hfl := Lib.hid (fun w3 => rf_flip hkN w3)
      obtain ⟨xA, xc, xr, xk⟩ := x
      dsimp only at hc1 hc2 HXR HIT2 hx6 hfl
      obtain ⟨xn, hxn⟩ : ∃ xn, xr.length = xn := ⟨_, rfl⟩
      have HXN := Lib.hid hxn
      rw [hxn] at hc1 hx6
      have HRX : Hid (∀ w1, RowKit.Below wo.heap.size wo w1 → Reads w1 w1.heap.size 3 xA xn (flat xr)) := Lib.hid (fun w1 h => by
        have := ((HXR.out.below h).more h.size).reads
        rw [HXN.out] at this
        exact this)
      have hbo : b < wo.heap.size := block_lt_of_cell hc1
      have HCX : Hid (∀ w1, RowKit.Below wo.heap.size wo w1 → w1.cell? ⟨b, off + k * 2, none⟩ = some (.slice xA xn xc)) := Lib.hid (fun w1 h => (h.cell hbo).trans hc1)
      have HCT0 : Hid (∀ w1, RowKit.Below wo.heap.size wo w1 → w1.cell? ⟨b, off + k * 2 + 1, none⟩ = some (tal xk)) := Lib.hid (fun w1 h => (h.cell hbo).trans hc2)
      obtain ⟨T, hT⟩ : ∃ T, tal xk = T := ⟨_, rfl⟩
      obtain ⟨X2, Y2, hT2⟩ : ∃ X2 Y2, tal (-xk) = .complex .f64 X2 Y2 := ⟨_, _, rfl⟩
      have HT2 : Hid (Value.complex .f64 X2 Y2 = tal (-xk)) := Lib.hid hT2.symm
      rw [hT, hT2] at hfl
      have HCT : Hid (∀ w1, RowKit.Below wo.heap.size wo w1 → w1.cell? ⟨b, off + k * 2 + 1, none⟩ = some T) := by rw [hT] at HCT0; exact HCT0
      clear hx hm hSb hxn hkN hc1 hc2 hT hT2 HXR HCT0
      go_upto_region 7 with (fail)
      refine EachKit.region_firstK (L := 16) (F := 2) (LL := #[true, true, true, true, true, true, true, true, true, true, true, true, true, true, true, true, false, false]) (R := EachKit.holdsL [.is (u3), .emp (wo.heap.size) 49, .is (.slice (some ⟨b, off, none⟩) n c), .is (.int .i64 (k : Nat)), .is (.pointer (some ⟨b, off + k * 2, none⟩)), .is (.pointer (some ⟨b, off + k * 2, none⟩)), .is (.slice xA xn xc), .own (wo.heap.size) 49 3 (xn) (flat xr), .is (.slice (some ⟨b, off, none⟩) n c), .is (.int .i64 (k : Nat)), .is (.pointer (some ⟨b, off + k * 2, none⟩)), .is (.pointer (some ⟨b, off + k * 2 + 1, none⟩)), .is (T), .is (.complex .f64 X2 Y2), .item wo.heap.size 49 3 xn (flat xr) (.complex .f64 X2 Y2), .box wo.heap.size 49 47 3 xn (flat xr) (.complex .f64 X2 Y2)]) (ds := [some 14, some 15, some 16, some 17, some 18, some 19, some 20, some 21, some 22, some 23, some 24, some 25, some 26, some 27, some 28, some 29, some 30, some 3]) (dl := [some 14, some 15, some 16, some 17, some 18, some 19, some 20, some 21, some 22, some 23, some 24, some 25, some 26, some 27, some 28, some 29]) (MS := [0, 0, 0, 0, 12, 28, 60, 126, 0, 0, 768, 1792, 3840, 8190, 16382, 32766, 65535, 131071]) mixed (by kernel_rfl) (by kernel_rfl) (by kernel_rfl) (by kernel_rfl) rfl (by kernel_rfl) (by kernel_rfl) rfl (by kernel_rfl) (by kernel_rfl) (EachKit.holdsL_mono _)
        (fun a0 => a0.tmps.getD 0 undef = .slice (some ⟨b, off, none⟩) n c ∧ a0.tmps.getD 3 undef = u3 ∧ a0.tmps.getD 4 undef = .int .i64 (k : Nat)) ⟨rfl, rfl, rfl⟩ ?_ ?_
      · intro hds Q' a0 ⟨og0, og3, og4⟩
        refine EachKit.Each.cons (fun _ => EachKit.OpGoal.free rfl (fun a1 w1 hB hL1 hk K hK => ?_)) ?_
        · have s3 : a1.tmps.getD 3 undef = u3 := hL1.old rfl og3
          clear hk hL1
          go_simp
          exact hK _ _ (Below.refl _ _) rfl
        refine EachKit.Each.cons (fun _ => EachKit.OpGoal.free rfl (fun a1 w1 hB hL1 hk K hK => ?_)) ?_
        · clear hk hL1
          go_simp
          exact hK _ _ ((Below.refl _ _).alloc (Nat.le_refl _) _) ⟨w1.heap.size, rfl, hB.size, heap_alloc_new w1 _⟩
        refine EachKit.Each.cons (fun _ => EachKit.OpGoal.free rfl (fun a1 w1 hB hL1 hk K hK => ?_)) ?_
        · have s0 : a1.tmps.getD 0 undef = .slice (some ⟨b, off, none⟩) n c := hL1.old rfl og0
          clear hk hL1
          go_simp
          exact hK _ _ (Below.refl _ _) rfl
        refine EachKit.Each.cons (fun _ => EachKit.OpGoal.free rfl (fun a1 w1 hB hL1 hk K hK => ?_)) ?_
        · have s4 : a1.tmps.getD 4 undef = .int .i64 (k : Nat) := hL1.old rfl og4
          clear hk hL1
          go_simp
          exact hK _ _ (Below.refl _ _) rfl
        refine EachKit.Each.cons (fun _ => EachKit.OpGoal.free rfl (fun a1 w1 hB hL1 hk K hK => ?_)) ?_
        · have s16 : a1.tmps.getD 16 undef = .slice (some ⟨b, off, none⟩) n c := (hk 2 rfl).is rfl (fun _ h => h)
          have s17 : a1.tmps.getD 17 undef = .int .i64 (k : Nat) := (hk 3 rfl).is rfl (fun _ h => h)
          clear hk hL1
          go_simp
          exact hK _ _ (Below.refl _ _) rfl
        refine EachKit.Each.cons (fun _ => EachKit.OpGoal.free rfl (fun a1 w1 hB hL1 hk K hK => ?_)) ?_
        · have s18 : a1.tmps.getD 18 undef = .pointer (some ⟨b, off + k * 2, none⟩) := (hk 4 rfl).is rfl (fun _ h => h)
          clear hk hL1
          go_simp
          exact hK _ _ (Below.refl _ _) rfl
        refine EachKit.Each.cons (fun _ => EachKit.OpGoal.free rfl (fun a1 w1 hB hL1 hk K hK => ?_)) ?_
        · have s19 : a1.tmps.getD 19 undef = .pointer (some ⟨b, off + k * 2, none⟩) := (hk 5 rfl).is rfl (fun _ h => h)
          have cx1 := HCX.out w1 hB
          clear hk hL1
          go_simp
          exact hK _ _ (Below.refl _ _) rfl
        refine EachKit.Each.cons (fun _ => EachKit.OpGoal.free rfl (fun a1 w1 hB hL1 hk K hK => ?_)) ?_
        · obtain ⟨v15, s15, hE⟩ := (hk 1 rfl).slot rfl
          have s20 : a1.tmps.getD 20 undef = .slice xA xn xc := (hk 6 rfl).is rfl (fun _ h => h)
          exact wp_append_empty w1 (.tmp 15) (.tmp 20) 26 rfl wo.heap.size 49 i1 _ 3 32 Tryz.underlying26 hi' hz0' hz1' hz2' rfl (by decide) v15 s15 hE _ _ _ _ _ s20 (HRX.out w1 hB) (flat_ones _) (by unfold maxLen; omega) (by omega) hB.size (fun v' w' h2 h3 => hK _ _ h3 h2)
        refine EachKit.Each.cons (fun _ => EachKit.OpGoal.free rfl (fun a1 w1 hB hL1 hk K hK => ?_)) ?_
        · have s0 : a1.tmps.getD 0 undef = .slice (some ⟨b, off, none⟩) n c := hL1.old rfl og0
          clear hk hL1
          go_simp
          exact hK _ _ (Below.refl _ _) rfl
        refine EachKit.Each.cons (fun _ => EachKit.OpGoal.free rfl (fun a1 w1 hB hL1 hk K hK => ?_)) ?_
        · have s4 : a1.tmps.getD 4 undef = .int .i64 (k : Nat) := hL1.old rfl og4
          clear hk hL1
          go_simp
          exact hK _ _ (Below.refl _ _) rfl
        refine EachKit.Each.cons (fun _ => EachKit.OpGoal.free rfl (fun a1 w1 hB hL1 hk K hK => ?_)) ?_
        · have s22 : a1.tmps.getD 22 undef = .slice (some ⟨b, off, none⟩) n c := (hk 8 rfl).is rfl (fun _ h => h)
          have s23 : a1.tmps.getD 23 undef = .int .i64 (k : Nat) := (hk 9 rfl).is rfl (fun _ h => h)
          clear hk hL1
          go_simp
          exact hK _ _ (Below.refl _ _) rfl
        refine EachKit.Each.cons (fun _ => EachKit.OpGoal.free rfl (fun a1 w1 hB hL1 hk K hK => ?_)) ?_
        · have s24 : a1.tmps.getD 24 undef = .pointer (some ⟨b, off + k * 2, none⟩) := (hk 10 rfl).is rfl (fun _ h => h)
          clear hk hL1
          go_simp
          exact hK _ _ (Below.refl _ _) rfl
        refine EachKit.Each.cons (fun _ => EachKit.OpGoal.free rfl (fun a1 w1 hB hL1 hk K hK => ?_)) ?_
        · have s25 : a1.tmps.getD 25 undef = .pointer (some ⟨b, off + k * 2 + 1, none⟩) := (hk 11 rfl).is rfl (fun _ h => h)
          have cx2 := HCT.out w1 hB
          clear hk hL1
          go_simp
          exact hK _ _ (Below.refl _ _) rfl
        refine EachKit.Each.cons (fun _ => EachKit.OpGoal.free rfl (fun a1 w1 hB hL1 hk K hK => ?_)) ?_
        · have s26 : a1.tmps.getD 26 undef = T := (hk 12 rfl).is rfl (fun _ h => h)
          clear hk hL1
          go_simp
          refine (hfl.out _).mono ?_
          rintro e w2 ⟨rfl, rfl⟩
          exact hK _ _ (Below.refl _ _) rfl
        refine EachKit.Each.cons (fun _ => EachKit.OpGoal.free rfl (fun a1 w1 hB hL1 hk K hK => ?_)) ?_
        · obtain ⟨v21, s21, hO0⟩ := (hk 7 rfl).slot rfl
          obtain ⟨A5, c5, rfl, hO5⟩ := EachKit.own_slice' hO0
          have s27 : a1.tmps.getD 27 undef = .complex .f64 X2 Y2 := (hk 13 rfl).is rfl (fun _ h => h)
          have s21' := s21
          rw [Array.getD_eq_getD_getElem?] at s21'
          have s27' := s27
          rw [Array.getD_eq_getD_getElem?] at s27'
          clear hk hL1 hO0
          go_simp
          exact hK _ _ (Below.refl _ _) ⟨A5, c5, rfl, hO5⟩
        refine EachKit.Each.cons (fun _ => EachKit.OpGoal.free rfl (fun a1 w1 hB hL1 hk K hK => ?_)) ?_
        · obtain ⟨v28, s28, A5, c5, rfl, hO5⟩ := (hk 14 rfl).slot rfl
          have s28' := s28
          rw [Array.getD_eq_getD_getElem?] at s28'
          clear hk hL1
          go_simp
          exact hK _ _ ((Below.refl _ _).alloc (Nat.le_refl _) _) ⟨w1.heap.size, A5, c5, rfl, hB.size, heap_alloc_new w1 _, ownM_below hO5 ((Below.refl _ _).alloc (Nat.le_refl _) _)⟩
        refine EachKit.Each.cons (fun h => absurd h (by decide)) ?_
        refine EachKit.Each.cons (fun h => absurd h (by decide)) ?_
        exact trivial
      · rintro a' w1 hB hL1 hk
        have s14 : a'.tmps.getD 14 undef = u3 := (hk 0 (by decide)).is rfl (fun _ h => h)
        obtain ⟨v29, s29, g5, A5, c5, rfl, hg5, hb5, hO5⟩ := (hk 15 (by decide)).slot rfl
        have hsz : a'.tmps.size = 32 := hL1.size.trans rfl
        have HO4 := Lib.hid (ownM_below HO.out hB)
        have HO5 : Hid (w1.ownsRow wo.heap.size 49 3 (.slice A5 xn c5) xn (flat xr)) := Lib.hid hO5
        have HBW := Lib.hid hB
        have hwW := hB.size
        obtain ⟨u, hu⟩ := hL1.form
        clear hk hO5 hL1
        refine wpAny_one (i := 16) (by kernel_rfl) rfl (fun K hK => ?_)
        refine step_append_any w1 rfl (.tmp 14) (.tmp 29) 42 rfl w.heap.size 47 i0 _ 2 40 Tryz.underlying42 hi hz0 hz1 hz2 rfl (by decide) u3 _ _ s14 HO4.out (w1.heap.size) _ _ _ [.slice A5 xn c5, .complex .f64 X2 Y2] s29 ⟨rfl, fun _ => ⟨_, rfl, (Array.getElem?_eq_some_iff.1 hb5).1, World.news_of_block hb5⟩⟩ ?e1 ?e2 ?e3 (by omega) (fun v' w2 hown2 hgrow2 hat2 => ?_)
        case e1 => intro u hu; simp only [List.mem_cons, List.not_mem_nil, or_false] at hu; rcases hu with rfl | rfl <;> rfl
        case e2 => unfold maxLen; omega
        case e3 => omega
        refine hK _ _ ?_
        clear hK K s14 s29
        refine wpAny_one (i := 17) (by kernel_rfl) rfl (fun K hK => ?_)
        rw [if_pos (by rfl)]
        refine EachKit.assign_last 30 32 v' hsz (by decide) rfl (hK _ _ ?_)
        clear hK K hsz
        refine wpAny_done (by kernel_rfl) ?_ _
        subst hu
        simp only [EachKit.setU, Act.put, List.getElem_toArray, List.getElem_cons_succ, List.getElem_cons_zero, List.setIfInBounds_toArray, List.set_cons_zero, List.set_cons_succ]
        obtain ⟨hk1, hk2, hb2⟩ := snoc_blocks0 (fun g hg => HO.out.lt g hg) hs HB.out HBW.out hgrow2 hat2
        have HRW : Hid (VRowS w2 (fun g => NewS w w2 g ∧ v'.ownBlock ≠ some g) A5 xr) := Lib.hid (by
          obtain ⟨A6, c6, hv6, _, hr6⟩ := own_vals (r := xr) (S := NewS wo w1) (by rw [HXN.out]; exact HO5.out) (fun g h1 h2 h3 => ⟨h1, h2, h3⟩)
          obtain ⟨rfl, rfl⟩ : A5 = A6 ∧ c5 = c6 := by rw [HXN.out] at hv6; simpa using hv6
          exact (hr6.kept fun g hg => (hk2 g hg).1).mono fun g hg => (hk2 g hg).2)
        obtain ⟨x', ex'⟩ : ∃ x' : IM, x' = ⟨A5, c5, xr, -xk⟩ := ⟨_, rfl⟩
        have HO6 : Hid (w2.ownsRow w.heap.size 47 2 v' (ol ++ [x']).length (flatM (ol ++ [x']))) := Lib.hid (by rw [flatM_append, flatM_one, List.length_append, ex']; simp only [IM.cs, HXN.out, HT2.out] at hown2 ⊢; exact hown2)
        have HR6 : Hid (∀ x ∈ ol ++ [x'], VRowS w2 (fun g => NewS w w2 g ∧ v'.ownBlock ≠ some g) x.A x.r) := Lib.hid (fun x hx => by
          rcases List.mem_append.1 hx with hx | hx
          · exact ((HOR.out x hx).kept fun g hg => (hk1 g hg).1).mono fun g hg => (hk1 g hg).2
          · rw [List.mem_singleton.1 hx, ex']; exact HRW.out)
        have HI6 : Hid (its (ol ++ [x']) = flipS (its (l.take (k + 1)))) := Lib.hid (by
          rw [its_append, HIT.out, HIT2.out, ex']
          unfold flipS
          rw [List.map_append]
          rfl)
        have hol6 : (ol ++ [x']).length = k + 1 := by rw [List.length_append, hlen]; rfl
        have HB6 := Lib.hid hb2
        generalize ol ++ [x'] = ol6 at HO6 HR6 HI6 hol6
        clear hown2 hgrow2 hat2 hk1 hk2 hb2 HRW HO HOR HIT HIT2 HO4 HO5 HBW HB hfl HCX HCT HRX hb5 hg5 ex'
        go_wp2_with fail
        go_roundw
        case rel => exact ⟨k + 1, ol6, by omega, by go_num, HO6.out, HB6.out, hol6, HR6, HI6⟩
        case measure => simp [intOf]; omega
    · obtain rfl : k = n := by omega
      obtain ⟨A3, c3, rfl, hc3, hS3⟩ := own_items (S := NewS w wo) HO.out (fun g h1 h2 h3 => ⟨h1, h2, h3⟩) (fun x hx => (HOR.out x hx).mono fun g hg => hg.1)
      have HS3 := Lib.hid hS3
      clear hS3
      go_wp2_with fail
      go_ret
      refine ⟨⟨A3, c3, ol, rfl, hc3, HS3.out, ?_⟩, HB.out⟩
      rw [HIT.out, List.take_of_length_le (by rw [HN.out]; exact Nat.le_refl _)]
end Go.Proofs.YtajnnkapgnmoaaaGreat
/-
  The reference's tables: law16.in; confluenceref11.Defs.
-/
set_option linter.unusedVariables false
set_option linter.unusedSimpArgs false
namespace Go.Proofs.YtajnnkapgnmoaaaGreat
open Go.RowKit

def TM.dcs (t : TM) : List Value := [.string t.nm, .slice t.cA t.cols.length t.cc]
def flatE (l : List TM) : List Value := l.flatMap TM.dcs
theorem flatE_append (a b : List TM) : flatE (a ++ b) = flatE a ++ flatE b := by simp [flatE]

theorem rdef_info : (Tryz.prog.info? 160).map (fun i => (i.zero, i.size, i.bytes)) = some (some (.agg #[.string ByteArray.empty, .slice none 0 0]), 2, 40) := by kernel_rfl
set_option maxHeartbeats 2000000 in
set_option maxRecDepth 100000 in
/-- tables without rows -/
theorem rdefs_any (A : Option Addr) (c : Nat) (l : List TM) (w : World) {S : Nat → Prop} (hA : TRow w S A l) (hS : ∀ k, S k → k < w.heap.size) (hl : l.length ≤ 1000000) :
    Calls Tryz.prog 90 #[.slice A l.length c] w fun e w' => (∃ A' c', e = .returned (.slice A' l.length c') ∧ l.length ≤ c' ∧ w'.ownsRow w.heap.size 160 2 (.slice A' l.length c') l.length (flatE l)) ∧ Below w.heap.size w w' := by
  obtain ⟨i0, hi, hz0, hz1, hz2⟩ := info_parts rdef_info
  have mixed : Tryz.prog.follows .mixedOrders = true := by kernel_rfl
  obtain ⟨n, hn⟩ : ∃ n, l.length = n := ⟨_, rfl⟩
  have HN := Lib.hid hn
  have HA := Lib.hid hA
  have HS := Lib.hid hS
  rw [hn] at hl ⊢
  clear hA hS hn
  go_enter Tryz.func90, Tryz.ntmps90
  go_wp2_with fail
  go_loopw [3, 4] (fun v i wr => ∃ (k : Nat), k ≤ n ∧ i = .int .i64 k ∧ wr.ownsRow w.heap.size 160 2 v k (flatE (l.take k)) ∧ Below w.heap.size w wr) (fun _ i _ => n - (intOf i).toNat)
  case atStart => exact ⟨0, Nat.zero_le _, rfl, World.ownsRow_nil _ _ _ _, Below.refl _ _⟩
  case round =>
    rename World => wo
    obtain ⟨k, hk, rfl, hown, hb⟩ := hrel
    have HO := Lib.hid hown
    have HB := Lib.hid hb
    have hs := hb.size
    clear hown hb
    by_cases hlt : k < n
    · obtain ⟨x, hx⟩ : ∃ x, l[k]? = some x := ⟨_, List.getElem?_eq_getElem (by rw [HN.out]; exact hlt)⟩
      obtain ⟨b, off, rfl, hSb, hc1, hc2, hc3⟩ := (HA.out.below HB.out HS.out).get hx
      have HFL : Hid (flatE (l.take (k + 1)) = flatE (l.take k) ++ TM.dcs x) := Lib.hid (by
        obtain ⟨h1, e1⟩ := List.getElem?_eq_some_iff.1 hx
        rw [List.take_succ_eq_append_getElem h1, e1, flatE_append]
        simp [flatE])
      have hbo : b < wo.heap.size := block_lt_of_cell hc1
      have HC0 := Lib.hid (fun w1 (h : RowKit.Below wo.heap.size wo w1) => (h.cell hbo).trans hc1)
      have HC1 := Lib.hid (fun w1 (h : RowKit.Below wo.heap.size wo w1) => (h.cell hbo).trans hc2)
      have HC2 := Lib.hid (fun w1 (h : RowKit.Below wo.heap.size wo w1) => (h.cell hbo).trans hc3)
      obtain ⟨xnm, xcA, xcc, xcl, xrA, xrc, xrl⟩ := x
      dsimp only [TM.cs, TM.dcs] at HC0 HC1 HC2 HFL
      obtain ⟨xn, hxn⟩ : ∃ xn, xcl.length = xn := ⟨_, rfl⟩
      obtain ⟨xm, hxm⟩ : ∃ xm, xrl.length = xm := ⟨_, rfl⟩
      rw [hxn] at HC1 HFL
      rw [hxm] at HC2
      clear hx hSb hxn hxm hc1 hc2 hc3
      go_upto_region 5 with (fail)
      refine EachKit.region_firstK (L := 13) (F := 2) (LL := #[true, true, true, true, true, true, true, true, true, true, true, true, true, false, false]) (R := EachKit.holdsL [.is (u3), .is (.slice (some ⟨b, off, none⟩) n c), .is (.int .i64 (k : Nat)), .is (.pointer (some ⟨b, off + k * 3, none⟩)), .is (.pointer (some ⟨b, off + k * 3, none⟩)), .is (.string xnm), .is (.slice (some ⟨b, off, none⟩) n c), .is (.int .i64 (k : Nat)), .is (.pointer (some ⟨b, off + k * 3, none⟩)), .is (.pointer (some ⟨b, off + k * 3 + 1, none⟩)), .is (.slice xcA xn xcc), .is (.agg #[.string xnm, .slice xcA xn xcc]), .blk wo.heap.size 160 1 #[.string xnm, .slice xcA xn xcc]]) (ds := [some 11, some 12, some 13, some 14, some 15, some 16, some 17, some 18, some 19, some 20, some 21, some 22, some 23, some 24, some 3]) (dl := [some 11, some 12, some 13, some 14, some 15, some 16, some 17, some 18, some 19, some 20, some 21, some 22, some 23]) (MS := [0, 0, 0, 6, 14, 30, 0, 0, 192, 448, 960, 2046, 4094, 8191, 16383]) mixed (by kernel_rfl) (by kernel_rfl) (by kernel_rfl) (by kernel_rfl) rfl (by kernel_rfl) (by kernel_rfl) rfl (by kernel_rfl) (by kernel_rfl) (EachKit.holdsL_mono _)
        (fun a0 => a0.tmps.getD 0 undef = .slice (some ⟨b, off, none⟩) n c ∧ a0.tmps.getD 3 undef = u3 ∧ a0.tmps.getD 4 undef = .int .i64 (k : Nat)) ⟨rfl, rfl, rfl⟩ ?_ ?_
      · intro hds Q' a0 ⟨og0, og3, og4⟩
        refine EachKit.Each.cons (fun _ => EachKit.OpGoal.free rfl (fun a1 w1 hB hL1 hk K hK => ?_)) ?_
        · have s3 : a1.tmps.getD 3 undef = u3 := hL1.old rfl og3
          clear hk hL1
          go_simp
          exact hK _ _ (Below.refl _ _) rfl
        refine EachKit.Each.cons (fun _ => EachKit.OpGoal.free rfl (fun a1 w1 hB hL1 hk K hK => ?_)) ?_
        · have s0 : a1.tmps.getD 0 undef = .slice (some ⟨b, off, none⟩) n c := hL1.old rfl og0
          clear hk hL1
          go_simp
          exact hK _ _ (Below.refl _ _) rfl
        refine EachKit.Each.cons (fun _ => EachKit.OpGoal.free rfl (fun a1 w1 hB hL1 hk K hK => ?_)) ?_
        · have s4 : a1.tmps.getD 4 undef = .int .i64 (k : Nat) := hL1.old rfl og4
          clear hk hL1
          go_simp
          exact hK _ _ (Below.refl _ _) rfl
        refine EachKit.Each.cons (fun _ => EachKit.OpGoal.free rfl (fun a1 w1 hB hL1 hk K hK => ?_)) ?_
        · have s12 : a1.tmps.getD 12 undef = .slice (some ⟨b, off, none⟩) n c := (hk 1 rfl).is rfl (fun _ h => h)
          have s13 : a1.tmps.getD 13 undef = .int .i64 (k : Nat) := (hk 2 rfl).is rfl (fun _ h => h)
          clear hk hL1
          go_simp
          exact hK _ _ (Below.refl _ _) rfl
        refine EachKit.Each.cons (fun _ => EachKit.OpGoal.free rfl (fun a1 w1 hB hL1 hk K hK => ?_)) ?_
        · have s14 : a1.tmps.getD 14 undef = .pointer (some ⟨b, off + k * 3, none⟩) := (hk 3 rfl).is rfl (fun _ h => h)
          clear hk hL1
          go_simp
          exact hK _ _ (Below.refl _ _) rfl
        refine EachKit.Each.cons (fun _ => EachKit.OpGoal.free rfl (fun a1 w1 hB hL1 hk K hK => ?_)) ?_
        · have s15 : a1.tmps.getD 15 undef = .pointer (some ⟨b, off + k * 3, none⟩) := (hk 4 rfl).is rfl (fun _ h => h)
          have cx1 := HC0.out w1 hB
          clear hk hL1
          go_simp
          exact hK _ _ (Below.refl _ _) rfl
        refine EachKit.Each.cons (fun _ => EachKit.OpGoal.free rfl (fun a1 w1 hB hL1 hk K hK => ?_)) ?_
        · have s0 : a1.tmps.getD 0 undef = .slice (some ⟨b, off, none⟩) n c := hL1.old rfl og0
          clear hk hL1
          go_simp
          exact hK _ _ (Below.refl _ _) rfl
        refine EachKit.Each.cons (fun _ => EachKit.OpGoal.free rfl (fun a1 w1 hB hL1 hk K hK => ?_)) ?_
        · have s4 : a1.tmps.getD 4 undef = .int .i64 (k : Nat) := hL1.old rfl og4
          clear hk hL1
          go_simp
          exact hK _ _ (Below.refl _ _) rfl
        refine EachKit.Each.cons (fun _ => EachKit.OpGoal.free rfl (fun a1 w1 hB hL1 hk K hK => ?_)) ?_
        · have s17 : a1.tmps.getD 17 undef = .slice (some ⟨b, off, none⟩) n c := (hk 6 rfl).is rfl (fun _ h => h)
          have s18 : a1.tmps.getD 18 undef = .int .i64 (k : Nat) := (hk 7 rfl).is rfl (fun _ h => h)
          clear hk hL1
          go_simp
          exact hK _ _ (Below.refl _ _) rfl
        refine EachKit.Each.cons (fun _ => EachKit.OpGoal.free rfl (fun a1 w1 hB hL1 hk K hK => ?_)) ?_
        · have s19 : a1.tmps.getD 19 undef = .pointer (some ⟨b, off + k * 3, none⟩) := (hk 8 rfl).is rfl (fun _ h => h)
          clear hk hL1
          go_simp
          exact hK _ _ (Below.refl _ _) rfl
        refine EachKit.Each.cons (fun _ => EachKit.OpGoal.free rfl (fun a1 w1 hB hL1 hk K hK => ?_)) ?_
        · have s20 : a1.tmps.getD 20 undef = .pointer (some ⟨b, off + k * 3 + 1, none⟩) := (hk 9 rfl).is rfl (fun _ h => h)
          have cx1 := HC1.out w1 hB
          clear hk hL1
          go_simp
          exact hK _ _ (Below.refl _ _) rfl
        refine EachKit.Each.cons (fun _ => EachKit.OpGoal.free rfl (fun a1 w1 hB hL1 hk K hK => ?_)) ?_
        · have s16 : a1.tmps.getD 16 undef = .string xnm := (hk 5 rfl).is rfl (fun _ h => h)
          have s21 : a1.tmps.getD 21 undef = .slice xcA xn xcc := (hk 10 rfl).is rfl (fun _ h => h)
          have s16' := s16
          rw [Array.getD_eq_getD_getElem?] at s16'
          have s21' := s21
          rw [Array.getD_eq_getD_getElem?] at s21'
          clear hk hL1
          go_simp
          exact hK _ _ (Below.refl _ _) rfl
        refine EachKit.Each.cons (fun _ => EachKit.OpGoal.free rfl (fun a1 w1 hB hL1 hk K hK => ?_)) ?_
        · have s22 : a1.tmps.getD 22 undef = .agg #[.string xnm, .slice xcA xn xcc] := (hk 11 rfl).is rfl (fun _ h => h)
          have s22' := s22
          rw [Array.getD_eq_getD_getElem?] at s22'
          clear hk hL1
          go_simp
          exact hK _ _ ((Below.refl _ _).alloc (Nat.le_refl _) _) ⟨w1.heap.size, rfl, hB.size, heap_alloc_new w1 _⟩
        refine EachKit.Each.cons (fun h => absurd h (by decide)) ?_
        refine EachKit.Each.cons (fun h => absurd h (by decide)) ?_
        exact trivial
      · rintro a' w1 hB hL1 hk
        have s11 : a'.tmps.getD 11 undef = u3 := (hk 0 (by decide)).is rfl (fun _ h => h)
        obtain ⟨v23, s23, g5, rfl, hg5, hb5⟩ := (hk 12 (by decide)).slot rfl
        have hsz : a'.tmps.size = 26 := hL1.size.trans rfl
        have HO4 := Lib.hid (ownM_below HO.out hB)
        have HBW := Lib.hid hB
        have hwW := hB.size
        obtain ⟨u, hu⟩ := hL1.form
        clear hk hL1
        refine wpAny_one (i := 13) (by kernel_rfl) rfl (fun K hK => ?_)
        refine step_append_any w1 rfl (.tmp 11) (.tmp 23) 128 rfl w.heap.size 160 i0 _ 2 40 Tryz.underlying128 hi hz0 hz1 hz2 rfl (by decide) u3 _ _ s11 HO4.out (w1.heap.size) _ _ _ [.string xnm, .slice xcA xn xcc] s23 ⟨rfl, fun _ => ⟨_, rfl, (Array.getElem?_eq_some_iff.1 hb5).1, World.news_of_block hb5⟩⟩ ?e1 ?e2 ?e3 (by omega) (fun v' w2 hown2 hgrow2 hat2 => ?_)
        case e1 => intro u hu; simp only [List.mem_cons, List.not_mem_nil, or_false] at hu; rcases hu with rfl | rfl <;> rfl
        case e2 => unfold maxLen; omega
        case e3 => omega
        refine hK _ _ ?_
        clear hK K s11 s23
        refine wpAny_one (i := 14) (by kernel_rfl) rfl (fun K hK => ?_)
        rw [if_pos (by rfl)]
        refine EachKit.assign_last 24 26 v' hsz (by decide) rfl (hK _ _ ?_)
        clear hK K hsz
        refine wpAny_done (by kernel_rfl) ?_ _
        subst hu
        simp only [EachKit.setU, Act.put, List.getElem_toArray, List.getElem_cons_succ, List.getElem_cons_zero, List.setIfInBounds_toArray, List.set_cons_zero, List.set_cons_succ]
        obtain ⟨hk1, hk2, hb2⟩ := snoc_blocks0 (fun g hg => HO.out.lt g hg) hs HB.out HBW.out hgrow2 hat2
        have HO6 : Hid (w2.ownsRow w.heap.size 160 2 v' (k + 1) (flatE (l.take (k + 1)))) := Lib.hid (by rw [HFL.out]; exact hown2)
        have HB6 := Lib.hid hb2
        clear hown2 hgrow2 hat2 hk1 hk2 hb2 HO HO4 HBW HB HC0 HC1 hb5 hg5 HFL
        go_wp2_with fail
        go_roundw
        case rel => exact ⟨k + 1, by omega, by go_num, HO6.out, HB6.out⟩
        case measure => simp [intOf]; omega
    · obtain rfl : k = n := by omega
      have HT : Hid (l.take k = l) := Lib.hid (List.take_of_length_le (by rw [HN.out]; exact Nat.le_refl _))
      rw [HT.out] at HO
      obtain ⟨A3, c3, rfl, hc3⟩ := own_slice HO.out
      go_wp2_with fail
      go_ret
      exact ⟨⟨A3, c3, rfl, hc3, HO.out⟩, HB.out⟩

theorem rtable_info : (Tryz.prog.info? 66).map (fun i => (i.zero, i.size, i.bytes)) = some (some (.agg #[.string ByteArray.empty, .slice none 0 0, .slice none 0 0]), 3, 64) := by kernel_rfl
set_option maxHeartbeats 2000000 in
set_option maxRecDepth 100000 in
/-- the same tables, as the reference has them -/
theorem in16_any (A : Option Addr) (c : Nat) (l : List TM) (w : World) {S : Nat → Prop} (hA : TRow w S A l) (hS : ∀ k, S k → k < w.heap.size) (hl : l.length ≤ 1000000) :
    Calls Tryz.prog 22 #[.slice A l.length c] w fun e w' => (∃ A' c', e = .returned (.slice A' l.length c') ∧ l.length ≤ c' ∧ w'.ownsRow w.heap.size 66 3 (.slice A' l.length c') l.length (flatB l)) ∧ Below w.heap.size w w' := by
  obtain ⟨i0, hi, hz0, hz1, hz2⟩ := info_parts rtable_info
  have mixed : Tryz.prog.follows .mixedOrders = true := by kernel_rfl
  obtain ⟨n, hn⟩ : ∃ n, l.length = n := ⟨_, rfl⟩
  have HN := Lib.hid hn
  have HA := Lib.hid hA
  have HS := Lib.hid hS
  rw [hn] at hl ⊢
  clear hA hS hn
  go_enter Tryz.func22, Tryz.ntmps22
  go_wp2_with fail
  go_loopw [3, 4] (fun v i wr => ∃ (k : Nat), k ≤ n ∧ i = .int .i64 k ∧ wr.ownsRow w.heap.size 66 3 v k (flatB (l.take k)) ∧ Below w.heap.size w wr) (fun _ i _ => n - (intOf i).toNat)
  case atStart => exact ⟨0, Nat.zero_le _, rfl, World.ownsRow_nil _ _ _ _, Below.refl _ _⟩
  case round =>
    rename World => wo
    obtain ⟨k, hk, rfl, hown, hb⟩ := hrel
    have HO := Lib.hid hown
    have HB := Lib.hid hb
    have hs := hb.size
    clear hown hb
    by_cases hlt : k < n
    · obtain ⟨x, hx⟩ : ∃ x, l[k]? = some x := ⟨_, List.getElem?_eq_getElem (by rw [HN.out]; exact hlt)⟩
      obtain ⟨b, off, rfl, hSb, hc1, hc2, hc3⟩ := (HA.out.below HB.out HS.out).get hx
      have HFL : Hid (flatB (l.take (k + 1)) = flatB (l.take k) ++ TM.cs x) := Lib.hid (by
        obtain ⟨h1, e1⟩ := List.getElem?_eq_some_iff.1 hx
        rw [List.take_succ_eq_append_getElem h1, e1, flatB_append]
        simp [flatB])
      have hbo : b < wo.heap.size := block_lt_of_cell hc1
      have HC0 := Lib.hid (fun w1 (h : RowKit.Below wo.heap.size wo w1) => (h.cell hbo).trans hc1)
      have HC1 := Lib.hid (fun w1 (h : RowKit.Below wo.heap.size wo w1) => (h.cell hbo).trans hc2)
      have HC2 := Lib.hid (fun w1 (h : RowKit.Below wo.heap.size wo w1) => (h.cell hbo).trans hc3)
      obtain ⟨xnm, xcA, xcc, xcl, xrA, xrc, xrl⟩ := x
      dsimp only [TM.cs, TM.dcs] at HC0 HC1 HC2 HFL
      obtain ⟨xn, hxn⟩ : ∃ xn, xcl.length = xn := ⟨_, rfl⟩
      obtain ⟨xm, hxm⟩ : ∃ xm, xrl.length = xm := ⟨_, rfl⟩
      rw [hxn] at HC1 HFL
      rw [hxm] at HC2 HFL
      clear hx hSb hxn hxm hc1 hc2 hc3
      go_upto_region 5 with (fail)
      refine EachKit.region_firstK (L := 18) (F := 2) (LL := #[true, true, true, true, true, true, true, true, true, true, true, true, true, true, true, true, true, true, false, false]) (R := EachKit.holdsL [.is (u3), .is (.slice (some ⟨b, off, none⟩) n c), .is (.int .i64 (k : Nat)), .is (.pointer (some ⟨b, off + k * 3, none⟩)), .is (.pointer (some ⟨b, off + k * 3, none⟩)), .is (.string xnm), .is (.slice (some ⟨b, off, none⟩) n c), .is (.int .i64 (k : Nat)), .is (.pointer (some ⟨b, off + k * 3, none⟩)), .is (.pointer (some ⟨b, off + k * 3 + 1, none⟩)), .is (.slice xcA xn xcc), .is (.slice (some ⟨b, off, none⟩) n c), .is (.int .i64 (k : Nat)), .is (.pointer (some ⟨b, off + k * 3, none⟩)), .is (.pointer (some ⟨b, off + k * 3 + 2, none⟩)), .is (.slice xrA xm xrc), .is (.agg #[.string xnm, .slice xcA xn xcc, .slice xrA xm xrc]), .blk wo.heap.size 66 1 #[.string xnm, .slice xcA xn xcc, .slice xrA xm xrc]]) (ds := [some 11, some 12, some 13, some 14, some 15, some 16, some 17, some 18, some 19, some 20, some 21, some 22, some 23, some 24, some 25, some 26, some 27, some 28, some 29, some 3]) (dl := [some 11, some 12, some 13, some 14, some 15, some 16, some 17, some 18, some 19, some 20, some 21, some 22, some 23, some 24, some 25, some 26, some 27, some 28]) (MS := [0, 0, 0, 6, 14, 30, 0, 0, 192, 448, 960, 0, 0, 6144, 14336, 30720, 65534, 131070, 262143, 524287]) mixed (by kernel_rfl) (by kernel_rfl) (by kernel_rfl) (by kernel_rfl) rfl (by kernel_rfl) (by kernel_rfl) rfl (by kernel_rfl) (by kernel_rfl) (EachKit.holdsL_mono _)
        (fun a0 => a0.tmps.getD 0 undef = .slice (some ⟨b, off, none⟩) n c ∧ a0.tmps.getD 3 undef = u3 ∧ a0.tmps.getD 4 undef = .int .i64 (k : Nat)) ⟨rfl, rfl, rfl⟩ ?_ ?_
      · intro hds Q' a0 ⟨og0, og3, og4⟩
        refine EachKit.Each.cons (fun _ => EachKit.OpGoal.free rfl (fun a1 w1 hB hL1 hk K hK => ?_)) ?_
        · have s3 : a1.tmps.getD 3 undef = u3 := hL1.old rfl og3
          clear hk hL1
          go_simp
          exact hK _ _ (Below.refl _ _) rfl
        refine EachKit.Each.cons (fun _ => EachKit.OpGoal.free rfl (fun a1 w1 hB hL1 hk K hK => ?_)) ?_
        · have s0 : a1.tmps.getD 0 undef = .slice (some ⟨b, off, none⟩) n c := hL1.old rfl og0
          clear hk hL1
          go_simp
          exact hK _ _ (Below.refl _ _) rfl
        refine EachKit.Each.cons (fun _ => EachKit.OpGoal.free rfl (fun a1 w1 hB hL1 hk K hK => ?_)) ?_
        · have s4 : a1.tmps.getD 4 undef = .int .i64 (k : Nat) := hL1.old rfl og4
          clear hk hL1
          go_simp
          exact hK _ _ (Below.refl _ _) rfl
        refine EachKit.Each.cons (fun _ => EachKit.OpGoal.free rfl (fun a1 w1 hB hL1 hk K hK => ?_)) ?_
        · have s12 : a1.tmps.getD 12 undef = .slice (some ⟨b, off, none⟩) n c := (hk 1 rfl).is rfl (fun _ h => h)
          have s13 : a1.tmps.getD 13 undef = .int .i64 (k : Nat) := (hk 2 rfl).is rfl (fun _ h => h)
          clear hk hL1
          go_simp
          exact hK _ _ (Below.refl _ _) rfl
        refine EachKit.Each.cons (fun _ => EachKit.OpGoal.free rfl (fun a1 w1 hB hL1 hk K hK => ?_)) ?_
        · have s14 : a1.tmps.getD 14 undef = .pointer (some ⟨b, off + k * 3, none⟩) := (hk 3 rfl).is rfl (fun _ h => h)
          clear hk hL1
          go_simp
          exact hK _ _ (Below.refl _ _) rfl
        refine EachKit.Each.cons (fun _ => EachKit.OpGoal.free rfl (fun a1 w1 hB hL1 hk K hK => ?_)) ?_
        · have s15 : a1.tmps.getD 15 undef = .pointer (some ⟨b, off + k * 3, none⟩) := (hk 4 rfl).is rfl (fun _ h => h)
          have cx1 := HC0.out w1 hB
          clear hk hL1
          go_simp
          exact hK _ _ (Below.refl _ _) rfl
        refine EachKit.Each.cons (fun _ => EachKit.OpGoal.free rfl (fun a1 w1 hB hL1 hk K hK => ?_)) ?_
        · have s0 : a1.tmps.getD 0 undef = .slice (some ⟨b, off, none⟩) n c := hL1.old rfl og0
          clear hk hL1
          go_simp
          exact hK _ _ (Below.refl _ _) rfl
        refine EachKit.Each.cons (fun _ => EachKit.OpGoal.free rfl (fun a1 w1 hB hL1 hk K hK => ?_)) ?_
        · have s4 : a1.tmps.getD 4 undef = .int .i64 (k : Nat) := hL1.old rfl og4
          clear hk hL1
          go_simp
          exact hK _ _ (Below.refl _ _) rfl
        refine EachKit.Each.cons (fun _ => EachKit.OpGoal.free rfl (fun a1 w1 hB hL1 hk K hK => ?_)) ?_
        · have s17 : a1.tmps.getD 17 undef = .slice (some ⟨b, off, none⟩) n c := (hk 6 rfl).is rfl (fun _ h => h)
          have s18 : a1.tmps.getD 18 undef = .int .i64 (k : Nat) := (hk 7 rfl).is rfl (fun _ h => h)
          clear hk hL1
          go_simp
          exact hK _ _ (Below.refl _ _) rfl
        refine EachKit.Each.cons (fun _ => EachKit.OpGoal.free rfl (fun a1 w1 hB hL1 hk K hK => ?_)) ?_
        · have s19 : a1.tmps.getD 19 undef = .pointer (some ⟨b, off + k * 3, none⟩) := (hk 8 rfl).is rfl (fun _ h => h)
          clear hk hL1
          go_simp
          exact hK _ _ (Below.refl _ _) rfl
        refine EachKit.Each.cons (fun _ => EachKit.OpGoal.free rfl (fun a1 w1 hB hL1 hk K hK => ?_)) ?_
        · have s20 : a1.tmps.getD 20 undef = .pointer (some ⟨b, off + k * 3 + 1, none⟩) := (hk 9 rfl).is rfl (fun _ h => h)
          have cx1 := HC1.out w1 hB
          clear hk hL1
          go_simp
          exact hK _ _ (Below.refl _ _) rfl
        refine EachKit.Each.cons (fun _ => EachKit.OpGoal.free rfl (fun a1 w1 hB hL1 hk K hK => ?_)) ?_
        · have s0 : a1.tmps.getD 0 undef = .slice (some ⟨b, off, none⟩) n c := hL1.old rfl og0
          clear hk hL1
          go_simp
          exact hK _ _ (Below.refl _ _) rfl
        refine EachKit.Each.cons (fun _ => EachKit.OpGoal.free rfl (fun a1 w1 hB hL1 hk K hK => ?_)) ?_
        · have s4 : a1.tmps.getD 4 undef = .int .i64 (k : Nat) := hL1.old rfl og4
          clear hk hL1
          go_simp
          exact hK _ _ (Below.refl _ _) rfl
        refine EachKit.Each.cons (fun _ => EachKit.OpGoal.free rfl (fun a1 w1 hB hL1 hk K hK => ?_)) ?_
        · have s22 : a1.tmps.getD 22 undef = .slice (some ⟨b, off, none⟩) n c := (hk 11 rfl).is rfl (fun _ h => h)
          have s23 : a1.tmps.getD 23 undef = .int .i64 (k : Nat) := (hk 12 rfl).is rfl (fun _ h => h)
          clear hk hL1
          go_simp
          exact hK _ _ (Below.refl _ _) rfl
        refine EachKit.Each.cons (fun _ => EachKit.OpGoal.free rfl (fun a1 w1 hB hL1 hk K hK => ?_)) ?_
        · have s24 : a1.tmps.getD 24 undef = .pointer (some ⟨b, off + k * 3, none⟩) := (hk 13 rfl).is rfl (fun _ h => h)
          clear hk hL1
          go_simp
          exact hK _ _ (Below.refl _ _) rfl
        refine EachKit.Each.cons (fun _ => EachKit.OpGoal.free rfl (fun a1 w1 hB hL1 hk K hK => ?_)) ?_
        · have s25 : a1.tmps.getD 25 undef = .pointer (some ⟨b, off + k * 3 + 2, none⟩) := (hk 14 rfl).is rfl (fun _ h => h)
          have cx1 := HC2.out w1 hB
          clear hk hL1
          go_simp
          exact hK _ _ (Below.refl _ _) rfl
        refine EachKit.Each.cons (fun _ => EachKit.OpGoal.free rfl (fun a1 w1 hB hL1 hk K hK => ?_)) ?_
        · have s16 : a1.tmps.getD 16 undef = .string xnm := (hk 5 rfl).is rfl (fun _ h => h)
          have s21 : a1.tmps.getD 21 undef = .slice xcA xn xcc := (hk 10 rfl).is rfl (fun _ h => h)
          have s26 : a1.tmps.getD 26 undef = .slice xrA xm xrc := (hk 15 rfl).is rfl (fun _ h => h)
          have s16' := s16
          rw [Array.getD_eq_getD_getElem?] at s16'
          have s21' := s21
          rw [Array.getD_eq_getD_getElem?] at s21'
          have s26' := s26
          rw [Array.getD_eq_getD_getElem?] at s26'
          clear hk hL1
          go_simp
          exact hK _ _ (Below.refl _ _) rfl
        refine EachKit.Each.cons (fun _ => EachKit.OpGoal.free rfl (fun a1 w1 hB hL1 hk K hK => ?_)) ?_
        · have s27 : a1.tmps.getD 27 undef = .agg #[.string xnm, .slice xcA xn xcc, .slice xrA xm xrc] := (hk 16 rfl).is rfl (fun _ h => h)
          have s27' := s27
          rw [Array.getD_eq_getD_getElem?] at s27'
          clear hk hL1
          go_simp
          exact hK _ _ ((Below.refl _ _).alloc (Nat.le_refl _) _) ⟨w1.heap.size, rfl, hB.size, heap_alloc_new w1 _⟩
        refine EachKit.Each.cons (fun h => absurd h (by decide)) ?_
        refine EachKit.Each.cons (fun h => absurd h (by decide)) ?_
        exact trivial
      · rintro a' w1 hB hL1 hk
        have s11 : a'.tmps.getD 11 undef = u3 := (hk 0 (by decide)).is rfl (fun _ h => h)
        obtain ⟨v28, s28, g5, rfl, hg5, hb5⟩ := (hk 17 (by decide)).slot rfl
        have hsz : a'.tmps.size = 31 := hL1.size.trans rfl
        have HO4 := Lib.hid (ownM_below HO.out hB)
        have HBW := Lib.hid hB
        have hwW := hB.size
        obtain ⟨u, hu⟩ := hL1.form
        clear hk hL1
        refine wpAny_one (i := 18) (by kernel_rfl) rfl (fun K hK => ?_)
        refine step_append_any w1 rfl (.tmp 11) (.tmp 28) 61 rfl w.heap.size 66 i0 _ 3 64 Tryz.underlying61 hi hz0 hz1 hz2 rfl (by decide) u3 _ _ s11 HO4.out (w1.heap.size) _ _ _ [.string xnm, .slice xcA xn xcc, .slice xrA xm xrc] s28 ⟨rfl, fun _ => ⟨_, rfl, (Array.getElem?_eq_some_iff.1 hb5).1, World.news_of_block hb5⟩⟩ ?e1 ?e2 ?e3 (by omega) (fun v' w2 hown2 hgrow2 hat2 => ?_)
        case e1 => intro u hu; simp only [List.mem_cons, List.not_mem_nil, or_false] at hu; rcases hu with rfl | rfl | rfl <;> rfl
        case e2 => unfold maxLen; omega
        case e3 => omega
        refine hK _ _ ?_
        clear hK K s11 s28
        refine wpAny_one (i := 19) (by kernel_rfl) rfl (fun K hK => ?_)
        rw [if_pos (by rfl)]
        refine EachKit.assign_last 29 31 v' hsz (by decide) rfl (hK _ _ ?_)
        clear hK K hsz
        refine wpAny_done (by kernel_rfl) ?_ _
        subst hu
        simp only [EachKit.setU, Act.put, List.getElem_toArray, List.getElem_cons_succ, List.getElem_cons_zero, List.setIfInBounds_toArray, List.set_cons_zero, List.set_cons_succ]
        obtain ⟨hk1, hk2, hb2⟩ := snoc_blocks0 (fun g hg => HO.out.lt g hg) hs HB.out HBW.out hgrow2 hat2
        have HO6 : Hid (w2.ownsRow w.heap.size 66 3 v' (k + 1) (flatB (l.take (k + 1)))) := Lib.hid (by rw [HFL.out]; exact hown2)
        have HB6 := Lib.hid hb2
        clear hown2 hgrow2 hat2 hk1 hk2 hb2 HO HO4 HBW HB HC0 HC1 HC2 hb5 hg5 HFL
        go_wp2_with fail
        go_roundw
        case rel => exact ⟨k + 1, by omega, by go_num, HO6.out, HB6.out⟩
        case measure => simp [intOf]; omega
    · obtain rfl : k = n := by omega
      have HT : Hid (l.take k = l) := Lib.hid (List.take_of_length_le (by rw [HN.out]; exact Nat.le_refl _))
      rw [HT.out] at HO
      obtain ⟨A3, c3, rfl, hc3⟩ := own_slice HO.out
      go_wp2_with fail
      go_ret
      exact ⟨⟨A3, c3, rfl, hc3, HO.out⟩, HB.out⟩
end Go.Proofs.YtajnnkapgnmoaaaGreat
/-
  The reference's tables of the call's own, as they stand under changes; facts on sets that calls give.
-/
set_option linter.unusedVariables false
namespace Go.Proofs.YtajnnkapgnmoaaaGreat
open Go.RowKit

/-- rows that a call has made, or that stand apart -/
structure RNow (o : Option Nat) (W0 : Nat) (w : World) (v : Value) (s : List TM) : Prop where
  own : w.ownsRow W0 66 3 v s.length (flatB s)
  cols : ∀ t ∈ s, CRowS w (fun g => g < w.heap.size ∧ v.ownBlock ≠ some g ∧ o ≠ some g) t.cA t.cols
  rows : ∀ t ∈ s, SRow w (fun g => g < w.heap.size ∧ v.ownBlock ≠ some g ∧ o ≠ some g) t.rA t.rows
theorem RNow.fresh {o o' : Option Nat} {W0 : Nat} {w w' : World} {v : Value} {s : List TM} (h : RNow o W0 w v s) (hb : Below w.heap.size w w') (ho : o' = o ∨ ∀ k, o' = some k → w.heap.size ≤ k) : RNow o' W0 w' v s := by
  have hs := hb.size
  have hS : ∀ g, g < w.heap.size ∧ v.ownBlock ≠ some g ∧ o ≠ some g → g < w'.heap.size ∧ v.ownBlock ≠ some g ∧ o' ≠ some g := fun g hg => ⟨by omega, hg.2.1, by
    rcases ho with rfl | ho
    · exact hg.2.2
    · intro e; have := ho g e; omega⟩
  exact ⟨ownM_below h.own hb, fun t ht => ((h.cols t ht).kept fun g hg => hb.block g hg.1).mono hS, fun t ht => ((h.rows t ht).kept fun g hg => hb.block g hg.1).mono hS⟩
theorem RNow.row {o : Option Nat} {W0 : Nat} {w : World} {g cap : Nat} {s : List TM} (h : RNow o W0 w (.slice (some ⟨g, 0, none⟩) s.length cap) s) (hg : g < w.heap.size) : TRow w (fun k => k < w.heap.size) (some ⟨g, 0, none⟩) s := by
  refine ⟨.inr ⟨g, 0, rfl, hg, ?_⟩, fun t ht => (h.cols t ht).mono fun k hk => hk.1, fun t ht => (h.rows t ht).mono fun k hk => hk.1⟩
  intro i x hx
  obtain ⟨f1, f2, f3⟩ := flatB_get s i x hx
  have hi : i < s.length := (List.getElem?_eq_some_iff.1 hx).1
  have ho := h.own
  rw [Nat.zero_add, ho.cellAt _ (by omega), ho.cellAt _ (by omega), ho.cellAt _ (by omega)]
  exact ⟨f1, f2, f3⟩
/-- a store into the rows of one of them -/
theorem RNow.set {o : Option Nat} {W0 : Nat} {w w1 : World} {g cap : Nat} {s : List TM} (h : RNow o W0 w (.slice (some ⟨g, 0, none⟩) s.length cap) s) (hg : g < w.heap.size) (hoo : ∀ k, o = some k → k < w.heap.size) (hb : Below w.heap.size w w1) {i : Nat} {t : TM} (ht : s[i]? = some t)
    {A' : Option Addr} {c' : Nat} {s' : List IM} (hS : SRow w1 (fun k => w.heap.size ≤ k ∧ k < w1.heap.size) A' s') :
    RNow o W0 (w1.setCell ⟨g, i * 3 + 2, none⟩ (.slice A' s'.length c')) (.slice (some ⟨g, 0, none⟩) s.length cap) (s.set i ⟨t.nm, t.cA, t.cc, t.cols, A', c', s'⟩) := by
  have hsz := setCell_size w1 ⟨g, i * 3 + 2, none⟩ (.slice A' s'.length c')
  have h1 := h.fresh hb (.inl rfl)
  have hkp : ∀ k, k ≠ g → (w1.setCell ⟨g, i * 3 + 2, none⟩ (.slice A' s'.length c')).heap[k]? = w1.heap[k]? := fun k hk => Below.heap_setCell w1 ⟨g, i * 3 + 2, none⟩ _ k hk
  have hne : ∀ k, (Value.slice (some ⟨g, 0, none⟩) s.length cap).ownBlock ≠ some k → k ≠ g := fun k h e => h (by rw [e]; rfl)
  have hset : ∀ x ∈ s.set i ⟨t.nm, t.cA, t.cc, t.cols, A', c', s'⟩, x ∈ s ∨ x = ⟨t.nm, t.cA, t.cc, t.cols, A', c', s'⟩ := fun x hx => List.mem_or_eq_of_mem_set hx
  have hm := List.mem_of_getElem? ht
  refine ⟨?_, ?_, ?_⟩
  · have := own_set_rows h1.own ht A' c' s'
    rw [List.length_set]
    exact this
  · have hc : ∀ x ∈ s, CRowS (w1.setCell ⟨g, i * 3 + 2, none⟩ (.slice A' s'.length c')) (fun k => k < (w1.setCell ⟨g, i * 3 + 2, none⟩ (.slice A' s'.length c')).heap.size ∧ (Value.slice (some ⟨g, 0, none⟩) s.length cap).ownBlock ≠ some k ∧ o ≠ some k) x.cA x.cols := fun x hx =>
      ((h1.cols x hx).kept fun k hk => hkp k (hne k hk.2.1)).mono fun k hk => ⟨by rw [hsz]; exact hk.1, hk.2⟩
    intro x hx
    rcases hset x hx with h | rfl
    · exact hc x h
    · exact hc t hm
  · intro x hx
    rcases hset x hx with h | rfl
    · exact ((h1.rows x h).kept fun k hk => hkp k (hne k hk.2.1)).mono fun k hk => ⟨by rw [hsz]; exact hk.1, hk.2⟩
    · have hg4 : ∀ k, w.heap.size ≤ k ∧ k < w1.heap.size → k ≠ g := fun k hk e => by have := hk.1; omega
      exact (hS.kept fun k hk => hkp k (hg4 k hk)).mono fun k hk => ⟨by rw [hsz]; exact hk.2, fun e => hg4 k hk (by simpa [Value.ownBlock] using e.symm), fun e => by have := hoo k e; have := hk.1; omega⟩
namespace EachKit
theorem srow_up {base : Nat} {A : Option Addr} {s : List IM} {w w' : World} (hb : Below w.heap.size w w') (h : SRow w (fun k => base ≤ k ∧ k < w.heap.size) A s) : SRow w' (fun k => base ≤ k ∧ k < w'.heap.size) A s :=
  (h.kept fun k hk => hb.block k hk.2).mono fun k hk => ⟨hk.1, Nat.lt_of_lt_of_le hk.2 hb.size⟩
/-- what Add gives -/
def Fact.sumT (base : Nat) (l : List It) : Fact := .such (fun v w => ∃ A c s, v = .tuple #[.slice A s.length c, .int .i64 0] ∧ SRow w (fun k => base ≤ k ∧ k < w.heap.size) A s ∧ SetOk (its s) ∧ ∀ q, look (its s) q = look l q) (fun _ _ _ hb h => by
  obtain ⟨A, c, s, h1, h2, h3⟩ := h
  exact ⟨A, c, s, h1, srow_up hb h2, h3⟩)
def Fact.sumS (base : Nat) (l : List It) : Fact := .such (fun v w => ∃ A c s, v = .slice A s.length c ∧ SRow w (fun k => base ≤ k ∧ k < w.heap.size) A s ∧ SetOk (its s) ∧ ∀ q, look (its s) q = look l q) (fun _ _ _ hb h => by
  obtain ⟨A, c, s, h1, h2, h3⟩ := h
  exact ⟨A, c, s, h1, srow_up hb h2, h3⟩)
/-- what Flip gives -/
def Fact.list (base : Nat) (l : List It) : Fact := .such (fun v w => ∃ A c s, v = .slice A s.length c ∧ SRow w (fun k => base ≤ k ∧ k < w.heap.size) A s ∧ its s = l) (fun _ _ _ hb h => by
  obtain ⟨A, c, s, h1, h2, h3⟩ := h
  exact ⟨A, c, s, h1, srow_up hb h2, h3⟩)
end EachKit

theorem flatB_split (l : List TM) (j : Nat) (u : Value) (h : (flatB l)[j]? = some u) : ∃ v : TM, l[j / 3]? = some v ∧ (flatB l)[j / 3 * 3 + j % 3]? = some u := by
  have hj : j < (flatB l).length := (List.getElem?_eq_some_iff.1 h).1
  rw [flatB_len] at hj
  exact ⟨l[j / 3]'(by omega), List.getElem?_eq_getElem (by omega), by rw [show j / 3 * 3 + j % 3 = j from by omega]; exact h⟩
theorem TAt.news {w : World} {b off : Nat} {l : List TM} (h : TAt w b off l) (j : Nat) (u : Value) (hu : (flatB l)[j]? = some u) : w.cell? ((⟨b, off, none⟩ : Addr).add j) = some u := by
  obtain ⟨v, hv, hf⟩ := flatB_split l j u hu
  obtain ⟨f1, f2, f3⟩ := flatB_get l _ v hv
  obtain ⟨c1, c2, c3⟩ := h _ v hv
  have e : (⟨b, off, none⟩ : Addr).add j = ⟨b, off + (j / 3 * 3 + j % 3), none⟩ := by
    unfold Addr.add
    split
    · subst_vars; rfl
    · rw [show j / 3 * 3 + j % 3 = j from by omega]
  rw [e]
  have : j % 3 = 0 ∨ j % 3 = 1 ∨ j % 3 = 2 := by omega
  rcases this with h3 | h3 | h3 <;> rw [h3] at hf ⊢
  · rw [Nat.add_zero] at hf ⊢; rw [f1] at hf; rw [c1]; exact hf
  · rw [f2] at hf; rw [← Nat.add_assoc, c2]; exact hf
  · rw [f3] at hf; rw [← Nat.add_assoc, c3]; exact hf
theorem TRow.reads {w : World} {S : Nat → Prop} {A : Option Addr} {l : List TM} {B : Nat} (h : TRow w S A l) (hS : ∀ k, S k → k < B) : Reads w B 3 A l.length (flatB l) := by
  refine ⟨flatB_len l, fun hn => ?_⟩
  rcases h.at_ with rfl | ⟨b, off, hA, hb, h⟩
  · simp at hn
  · exact ⟨_, hA, hS b hb, h.news⟩
theorem st_set {a b : List It} {q : Nat} (hq : q < 2) {t : Key} (ht : (st a b)[q]? = some t) (x : List It) : ∃ a' b', (st a b).set q (t.1, t.2.1, x) = st a' b' := by
  have hq2 : q = 0 ∨ q = 1 := by omega
  rcases hq2 with rfl | rfl
  · obtain rfl : (nmU, uC, a) = t := Option.some.inj ht
    exact ⟨x, b, rfl⟩
  · obtain rfl : (nmT, tC, b) = t := Option.some.inj ht
    exact ⟨a, x, rfl⟩
theorem tal_p1 : tal 1 = .complex .f64 (Fl.F 1) (Fl.F 0) := rfl
theorem tal_m1 : tal (-1) = .complex .f64 (Fl.F 0) (Fl.F 1) := rfl
/-- what the reference's Apply gives where nothing is refused -/
structure RApplyRet (w' : World) (ks : List Key) (ds : List (ByteArray × List It)) (v d : Value) : Prop where
  tabs : ∃ (A : Option Addr) (c : Nat) (s : List TM), v = .slice A s.length c ∧ TRow w' (fun k => k < w'.heap.size) A s ∧ s.map TM.key = ks
  tells : ∃ (A : Option Addr) (c : Nat) (x : List XM), d = .slice A x.length c ∧ XRow w' (fun k => k < w'.heap.size) A x ∧ x.map XM.key = ds
/-- where a name stands among u and t, as far as one has looked -/
def fnd (nm : ByteArray) : Nat → Int
  | 0 => -1
  | 1 => if (nmU.toList == nm.toList) = true then 0 else -1
  | _ => findK nm (st [] [])
def nmAt : Nat → ByteArray
  | 0 => nmU
  | _ => nmT
theorem findK_st (nm : ByteArray) (a b : List It) : findK nm (st a b) = findK nm (st [] []) := rfl
theorem fnd_step (nm : ByteArray) (j : Nat) (hj : j < 2) : fnd nm (j + 1) = if ((nmAt j).toList == nm.toList) = true then (j : Int) else fnd nm j := by
  match j, hj with
  | 0, _ => rfl
  | 1, _ =>
    show findK nm (st [] []) = if (nmT.toList == nm.toList) = true then 1 else if (nmU.toList == nm.toList) = true then 0 else -1
    have e : findK nm (st [] []) = if (nmU.toList == nm.toList) = true then 0 else if (nmT.toList == nm.toList) = true then 1 else -1 := rfl
    rw [e]
    by_cases h1 : (nmU.toList == nm.toList) = true
    · by_cases h2 : (nmT.toList == nm.toList) = true
      · exfalso
        rw [beq_iff_eq] at h1 h2
        have := nmTU'.1
        rw [h2, ← h1, beq_self_eq_true] at this
        cases this
      · rw [if_pos h1, if_neg h2, if_pos h1]
    · rw [if_neg h1, if_neg h1]
theorem fnd_two (nm : ByteArray) (a b : List It) : fnd nm 2 = findK nm (st a b) := rfl
theorem find_cases (nm : ByteArray) (a b : List It) : findK nm (st a b) = -1 ∨ ∃ q : Nat, q < 2 ∧ findK nm (st a b) = (q : Int) ∧ nm = nmAt q := by
  have e : findK nm (st a b) = if (nmU.toList == nm.toList) = true then 0 else if (nmT.toList == nm.toList) = true then 1 else -1 := rfl
  rw [e]
  by_cases h1 : (nmU.toList == nm.toList) = true
  · refine .inr ⟨0, by omega, by rw [if_pos h1]; rfl, ?_⟩
    rw [beq_iff_eq] at h1
    show nm = nmU
    rw [← ba_toList nm, ← ba_toList nmU, h1]
  · by_cases h2 : (nmT.toList == nm.toList) = true
    · refine .inr ⟨1, by omega, by rw [if_neg h1, if_pos h2]; rfl, ?_⟩
      rw [beq_iff_eq] at h2
      show nm = nmT
      rw [← ba_toList nm, ← ba_toList nmT, h2]
    · exact .inl (by rw [if_neg h1, if_neg h2])
theorem put_nms (t u : Bool) (q : Nat) : putL (nmsOf t u) (nmAt q) = nmsOf (t || ((nmAt q).toList == nmT.toList)) (u || ((nmAt q).toList == nmU.toList)) := by
  match q with
  | 0 => cases t <;> cases u <;> decide +kernel
  | q + 1 =>
    show putL (nmsOf t u) nmT = nmsOf (t || (nmT.toList == nmT.toList)) (u || (nmT.toList == nmU.toList))
    cases t <;> cases u <;> decide +kernel
theorem nmsOf_mem (t u : Bool) : ∀ x ∈ nmsOf t u, ∃ q, q < 2 ∧ x = nmAt q := fun x hx => by
  unfold nmsOf at hx
  rcases List.mem_append.1 hx with h | h
  · cases t
    · simp at h
    · exact ⟨1, by omega, (by simpa using h : x = nmT)⟩
  · cases u
    · simp at h
    · exact ⟨0, by omega, (by simpa using h : x = nmU)⟩
theorem findK_at (q : Nat) (hq : q < 2) (a b : List It) : findK (nmAt q) (st a b) = (q : Int) := by
  match q, hq with
  | 0, _ => exact findK_U a b
  | 1, _ => exact findK_T a b
theorem nmAt_ne (q j : Nat) (hq : q < 2) (hj : j < 2) : ((nmAt j).toList == (nmAt q).toList) = decide (j = q) := by
  match q, j, hq, hj with
  | 0, 0, _, _ => decide +kernel
  | 0, 1, _, _ => decide +kernel
  | 1, 0, _, _ => decide +kernel
  | 1, 1, _, _ => decide +kernel
theorem st_at {s : List TM} {a b : List It} (h : s.map TM.key = st a b) {q : Nat} (hq : q < 2) : ∃ t, s[q]? = some t ∧ t.nm = nmAt q ∧ (st a b)[q]? = some t.key := by
  have hl : s.length = 2 := by have := congrArg List.length h; simpa [st] using this
  have ht : s[q]? = some (s[q]'(by omega)) := List.getElem?_eq_getElem (by omega)
  have hk : (st a b)[q]? = some (s[q]'(by omega)).key := by rw [← h, List.getElem?_map, ht]; rfl
  refine ⟨_, ht, ?_, hk⟩
  have hq2 : q = 0 ∨ q = 1 := by omega
  rcases hq2 with rfl | rfl
  · exact (congrArg Prod.fst (Option.some.inj (show some (nmU, uC, a) = some _ from hk))).symm
  · exact (congrArg Prod.fst (Option.some.inj (show some (nmT, tC, b) = some _ from hk))).symm
/-- the names that the first k changes tell -/
def nsK (cs : List CM) (k : Nat) : List ByteArray := nmsOf (hasN nmT ((cs.take k).map CM.nm)) (hasN nmU ((cs.take k).map CM.nm))
theorem nsK_len (cs : List CM) (k : Nat) : (nsK cs k).length ≤ 2 := by
  unfold nsK nmsOf
  split <;> split <;> simp
theorem nsK_step {cs : List CM} {k : Nat} {x : CM} (hx : cs[k]? = some x) {q : Nat} (hq : q < 2) (hn : x.nm = nmAt q) : putL (nsK cs k) x.nm = nsK cs (k + 1) := by
  obtain ⟨h1, e1⟩ := List.getElem?_eq_some_iff.1 hx
  unfold nsK
  rw [List.take_succ_eq_append_getElem h1, e1, List.map_append, hn, put_nms]
  show _ = nmsOf (hasN nmT ((cs.take k).map CM.nm ++ [x.nm])) (hasN nmU ((cs.take k).map CM.nm ++ [x.nm]))
  rw [hn, nms_snoc (by
    have hq2 : q = 0 ∨ q = 1 := by omega
    rcases hq2 with rfl | rfl
    · exact .inr rfl
    · exact .inl rfl)]
end Go.Proofs.YtajnnkapgnmoaaaGreat
/-
  Package confluenceref5's Name.
-/
namespace Go.Proofs.YtajnnkapgnmoaaaGreat
open Go.RowKit
def wordsV : List Value := reservedL.map fun l => .string ⟨l.toArray⟩
theorem toList_mk (l : List UInt8) : (ByteArray.mk l.toArray).toList = l := by rw [ByteArray.toList_eq]
theorem words_at (k : Nat) (h : k < 23) : ∃ x : ByteArray, wordsV[k]? = some (.string x) ∧ reservedL[k]? = some x.toList := by
  have hl : reservedL.length = 23 := rfl
  have e : reservedL[k]? = some (reservedL[k]'(by omega)) := List.getElem?_eq_getElem (by omega)
  refine ⟨⟨(reservedL[k]'(by omega)).toArray⟩, ?_, ?_⟩
  · rw [wordsV, List.getElem?_map, e]; rfl
  · rw [toList_mk]; exact e
def resR (s : ByteArray) (l : List (List UInt8)) : Bool := l.any fun x => s.toList == x
theorem resR_step (s : ByteArray) (k : Nat) (x : List UInt8) (h : reservedL[k]? = some x) : resR s (reservedL.drop k) = ((s.toList == x) || resR s (reservedL.drop (k + 1))) := by
  have hlt := (List.getElem?_eq_some_iff.1 h).1
  have hx := (List.getElem?_eq_some_iff.1 h).2
  rw [List.drop_eq_getElem_cons hlt, hx]
  rfl
def refNameB (s : ByteArray) : Bool := if resB s then false else if lowL s.data.toList then (decide (1 ≤ (s.size : Int)) && decide ((s.size : Int) ≤ 12)) else false
theorem refNameB_eq (s : ByteArray) : refNameB s = nameB s := by
  have h1 : s.toList.isEmpty = !decide (1 ≤ (s.size : Int)) := by
    have : s.toList.length = s.size := by rw [ByteArray.toList_eq]; rfl
    cases h : s.toList with
    | nil => rw [h] at this; simp at this; simp [← this]
    | cons a l => rw [h] at this; simp at this; simp; omega
  unfold refNameB nameB
  rw [h1]
  cases resB s <;> cases lowL s.data.toList <;> simp
  by_cases h2 : s.size ≤ 12
  · have : (s.size : Int) ≤ 12 := by omega
    simp [h2, this]
  · have : ¬ (s.size : Int) ≤ 12 := by omega
    simp [h2, this]

set_option maxRecDepth 100000 in
set_option maxHeartbeats 4000000 in
theorem refName_any (s : ByteArray) (hs : s.size ≤ 9223372036854775807) (w : World) : Calls Tryz.prog 124 #[.string s] w fun e w' => e = .returned (.bool (nameB s)) ∧ Below w.heap.size w w' := by
  rw [← refNameB_eq]
  obtain ⟨W1, hW1⟩ : ∃ W1, W1 = w.alloc (.cells wordsV.toArray 9) := ⟨_, rfl⟩
  have HW : Hid (W1 = w.alloc (.cells wordsV.toArray 9)) := Lib.hid hW1
  have HB : Hid (Below w.heap.size w W1) := Lib.hid (by rw [hW1]; exact (Below.refl _ _).alloc (Nat.le_refl _) _)
  have hcell : Hid (∀ k x, wordsV[k]? = some x → W1.cell? ⟨w.heap.size, k, none⟩ = some x) := Lib.hid fun k x hx => by
    have hh : W1.heap[w.heap.size]? = some (.cells wordsV.toArray 9) := by rw [hW1]; exact heap_alloc_new w _
    simp only [World.cell?, hh]
    simpa using hx
  clear hW1
  go_enter Tryz.func124, Tryz.ntmps124
  go_wp2_with fail
  go_loopw [4] (fun i wr => ∃ k : Nat, k ≤ 23 ∧ i = .int .i64 k ∧ wr = W1 ∧ Hid (resB s = resR s (reservedL.drop k))) (fun i _ => 23 - (intOf i).toNat)
  case atStart => exact ⟨0, Nat.zero_le _, rfl, by rw [HW.out]; rfl, rfl⟩
  case round =>
    obtain ⟨k, hk, rfl, rfl, hz⟩ := hrel
    by_cases hlt : k < 23
    · obtain ⟨x, hx1, hx2⟩ := words_at k hlt
      have hc := hcell.out k _ hx1
      have hi0 : (0 : Int) ≤ (k : Int) := by omega
      have hi1 : (k : Int) < 23 := by omega
      have hst : Hid (resB s = ((s.toList == x.toList) || resR s (reservedL.drop (k + 1)))) := Lib.hid (by rw [hz.out, resR_step s k _ hx2])
      clear hz hx1 hx2
      by_cases he : (x.toList == s.toList) = true
      · have he2 : (s.toList == x.toList) = true := by
          have : x.toList = s.toList := by simpa using he
          simp [this]
        have hf : Hid (refNameB s = false) := Lib.hid (by unfold refNameB; rw [hst.out, he2]; rfl)
        clear hst he2
        go_wp2_with fail
        go_ret
        exact ⟨by rw [hf.out]; rfl, HB.out⟩
      · have he' : (x.toList == s.toList) = false := by simpa using he
        have he2 : (s.toList == x.toList) = false := by
          cases h : (s.toList == x.toList)
          · rfl
          · have : s.toList = x.toList := by simpa using h
            rw [this] at he'
            simp at he'
        have hst2 : Hid (resB s = resR s (reservedL.drop (k + 1))) := Lib.hid (by rw [hst.out, he2, Bool.false_or])
        clear hst he2 he
        go_wp2_with fail
        go_roundw
        case rel => exact ⟨k + 1, by omega, by go_num, trivial, hst2⟩
        case measure => simp [intOf]; omega
    · have hr : Hid (resB s = false) := Lib.hid (by rw [hz.out, List.drop_of_length_le (by show 23 ≤ k; omega)]; rfl)
      clear hz
      go_wp2_with fail
      go_loop [5] (fun i => ∃ k : Nat, k ≤ s.size ∧ i = .int .i64 k ∧ Hid (lowL s.data.toList = lowL (s.data.toList.drop k))) (fun i => s.size - (intOf i).toNat)
      case atStart => exact ⟨0, Nat.zero_le _, rfl, rfl⟩
      case round =>
        obtain ⟨k, hk, rfl, hz⟩ := hrel
        by_cases hlt : k < s.size
        · have hst := Lib.hid (hz.out.trans (lowL_step s k hlt))
          clear hz
          by_cases a1 : 97 ≤ (s[k].toNat : Int)
          · by_cases a2 : (s[k].toNat : Int) ≤ 122
            · rw [decide_eq_true a1, decide_eq_true a2] at hst
              have hst' : Hid (lowL s.data.toList = lowL (s.data.toList.drop (k + 1))) := by
                have := hst.out; rwa [Bool.and_self, Bool.true_and] at this
              clear hst
              go_wp2_with fail
              go_round
              case rel => exact ⟨k + 1, by omega, by go_num, hst'⟩
              case measure => simp [intOf]; omega
            · have hst' : Hid (refNameB s = false) := by
                have := hst.out
                rw [decide_eq_false a2, Bool.and_false, Bool.false_and] at this
                exact Lib.hid (by unfold refNameB; rw [hr.out, this]; rfl)
              clear hst
              go_wp2_with fail
              go_ret
              exact ⟨by rw [hst'.out]; rfl, HB.out⟩
          · have hst' : Hid (refNameB s = false) := by
              have := hst.out
              rw [decide_eq_false a1, Bool.false_and, Bool.false_and] at this
              exact Lib.hid (by unfold refNameB; rw [hr.out, this]; rfl)
            clear hst
            go_wp2_with fail
            go_ret
            exact ⟨by rw [hst'.out]; rfl, HB.out⟩
        · have e : k = s.size := by omega
          subst e
          have hf : Hid (refNameB s = (decide (1 ≤ (s.size : Int)) && decide ((s.size : Int) ≤ 12))) := Lib.hid (by
            have := hz.out
            rw [List.drop_of_length_le (by simp)] at this
            unfold refNameB
            rw [hr.out, this]
            rfl)
          clear hz
          by_cases h1 : 1 ≤ (s.size : Int)
          · have d1 : decide (1 ≤ (s.size : Int)) = true := decide_eq_true h1
            rw [d1, Bool.true_and] at hf
            go_wp2_with fail
            go_ret
            exact ⟨by rw [hf.out]; rfl, HB.out⟩
          · have d1 : decide (1 ≤ (s.size : Int)) = false := decide_eq_false h1
            rw [d1, Bool.false_and] at hf
            go_wp2_with fail
            go_ret
            exact ⟨by rw [hf.out]; rfl, HB.out⟩
end Go.Proofs.YtajnnkapgnmoaaaGreat
/-
  Package confluenceref5's Find.
-/
namespace Go.Proofs.YtajnnkapgnmoaaaGreat
open Go.RowKit
theorem refFind_full (b o : Nat) (n c : Nat) (l : List C) (hl : l.length = n) (hn : n ≤ 9223372036854775807) (nm : ByteArray) (w : World) (hL : CAt w b o l) :
    Calls Tryz.prog 139 #[.slice (some ⟨b, o, none⟩) n c, .string nm] w fun e w' => e = .returned (.tuple #[.int .i64 (findN l nm), .bool (findB l nm)]) ∧ w' = w := by
  have HL := Lib.hid hL
  have Hl := Lib.hid hl
  clear hL hl
  unfold findN findB
  generalize hr : idx (C.isB nm) l 0 = r
  have Hr : Hid (r = idx (C.isB nm) l 0) := Lib.hid hr.symm
  clear hr
  generalize hfn : (if 0 ≤ r then r else 0) = fn
  generalize hfb : decide (0 ≤ r) = fb
  have Hfn := Lib.hid hfn
  have Hfb := Lib.hid hfb
  clear hfn hfb
  go_enter Tryz.func139, Tryz.ntmps139
  go_wp2_with fail
  go_loop [6] (fun i => ∃ k : Nat, k ≤ n ∧ i = .int .i64 k ∧ Hid (r = idx (C.isB nm) (l.drop k) k)) (fun i => n - (intOf i).toNat)
  case atStart => exact ⟨0, Nat.zero_le _, rfl, Hr⟩
  case round =>
    obtain ⟨k, hk, rfl, hz⟩ := hrel
    by_cases hlt : k < n
    · obtain ⟨cc, hc⟩ : ∃ c, l[k]? = some c := ⟨_, List.getElem?_eq_getElem (by rw [Hl.out]; exact hlt)⟩
      have hst := Lib.hid (hz.out.trans (idx_step (p := C.isB nm) hc))
      obtain ⟨c1, c2⟩ := HL.out k cc hc
      clear hc hz
      obtain ⟨cn, ck⟩ := cc
      have hi0 : (0 : Int) ≤ (k : Int) := by omega
      have hi1 : (k : Int) < (n : Int) := by omega
      have c1 : w.cell? ⟨b, o + k * 2, none⟩ = some (.string cn) := c1
      by_cases he : C.isB nm ⟨cn, ck⟩ = true
      · have he' : (cn.toList == nm.toList) = true := he
        rw [if_pos he] at hst
        have hr2 := hst.out
        subst hr2
        have h1 := Hfn.out
        have h2 := Hfb.out
        rw [if_pos (by omega)] at h1
        rw [decide_eq_true (by omega)] at h2
        subst h1 h2
        clear he hst Hr Hfn Hfb
        go_wp2_with fail
        go_ret2
        exact ⟨rfl, rfl⟩
      · have he' : (cn.toList == nm.toList) = false := by simpa [C.isB] using he
        rw [if_neg he] at hst
        clear he
        go_wp2_with fail
        go_round
        case rel => exact ⟨k + 1, by omega, by go_num, hst⟩
        case measure => simp [intOf]; omega
    · have hr2 : r = -1 := by rw [hz.out, List.drop_of_length_le (by rw [Hl.out]; omega)]; rfl
      subst hr2
      have h1 := Hfn.out
      have h2 := Hfb.out
      rw [if_neg (by omega)] at h1
      rw [decide_eq_false (by omega)] at h2
      subst h1 h2
      clear hz Hr Hfn Hfb
      go_wp2_with fail
      go_ret2
      exact ⟨rfl, rfl⟩
theorem refFind_any (A : Option Addr) (c : Nat) (l : List C) (hn : l.length ≤ 9223372036854775807) (nm : ByteArray) (w : World) (hA : CRow w w.heap.size A l) :
    Calls Tryz.prog 139 #[.slice A l.length c, .string nm] w fun e w' => e = .returned (.tuple #[.int .i64 (findN l nm), .bool (findB l nm)]) ∧ w' = w := by
  rcases hA with rfl | ⟨b, o, rfl, hb, hL⟩
  · show Calls _ _ #[.slice A 0 c, .string nm] w fun e w' => e = .returned (.tuple #[.int .i64 0, .bool false]) ∧ w' = w
    go_enter Tryz.func139, Tryz.ntmps139
    go_wp2_with fail
    go_loop [6] (fun i => i = .int .i64 0) (fun i => 0)
    case atStart => rfl
    case round =>
      obtain rfl := hrel
      go_wp2_with fail
      go_ret2
      exact ⟨rfl, rfl⟩
  · exact refFind_full b o l.length c l rfl hn nm w hL
end Go.Proofs.YtajnnkapgnmoaaaGreat
/-
  Package confluenceref5's Find and Columns.
-/
namespace Go.Proofs.YtajnnkapgnmoaaaGreat
open Go.RowKit
set_option maxRecDepth 100000 in
set_option maxHeartbeats 1000000 in
theorem refColumns_full (b o n c : Nat) (l : List C) (hl : l.length = n) (hn : n ≤ 6) (hnc : n ≤ c) (hp : 0 < n) (hsz : ∀ x ∈ l, x.nm.size ≤ 9223372036854775807) (w : World) (hb : b < w.heap.size) (hL : CAt w b o l) :
    Calls Tryz.prog 125 #[.slice (some ⟨b, o, none⟩) n c] w fun e w' => e = .returned (.int .i64 (colsR [] l)) ∧ Below w.heap.size w w' := by
  have HL := Lib.hid hL
  have Hl := Lib.hid hl
  have Hsz := Lib.hid hsz
  clear hL hl hsz
  have hg : ((n : Int) == 0) = false := by simp; omega
  have hd : decide (6 < (n : Int)) = false := by simp; omega
  go_enter Tryz.func125, Tryz.ntmps125
  go_wp2_with fail
  go_loopw [3] (fun i wr => ∃ k : Nat, k ≤ n ∧ i = .int .i64 k ∧ Below w.heap.size w wr ∧ Hid (colsR [] l = colsR (l.take k) (l.drop k))) (fun i _ => n - (intOf i).toNat)
  case atStart => exact ⟨0, Nat.zero_le _, rfl, Below.refl _ _, rfl⟩
  case round =>
    obtain ⟨k, hk, rfl, hbl, hz⟩ := hrel
    by_cases hlt : k < n
    · obtain ⟨cc, hc⟩ : ∃ c, l[k]? = some c := ⟨_, List.getElem?_eq_getElem (by rw [Hl.out]; exact hlt)⟩
      have hst := Lib.hid (hz.out.trans (colsR_step hc))
      have hnsz : cc.nm.size ≤ 9223372036854775807 := Hsz.out cc (List.mem_of_getElem? hc)
      have HB := Lib.hid hbl
      have hcell : Hid (∀ w1, Below w.heap.size w w1 → w1.cell? ⟨b, o + k * 2, none⟩ = some (.string cc.nm) ∧ w1.cell? ⟨b, o + k * 2 + 1, none⟩ = some (.int .i64 cc.k)) := Lib.hid fun w1 h1 => HL.out.below h1 hb k cc hc
      clear hc hz hbl
      obtain ⟨cn, ck⟩ := cc
      have hname := Lib.hid (refName_any cn hnsz wr)
      have hfind : Hid (∀ w1, Below w.heap.size w w1 → Calls Tryz.prog 139 #[.slice (some ⟨b, o, none⟩) k c, .string cn] w1 fun e w' => e = .returned (.tuple #[.int .i64 (findN (l.take k) cn), .bool (findB (l.take k) cn)]) ∧ w' = w1) := Lib.hid fun w1 hw1 => by
        have := refFind_any (some ⟨b, o, none⟩) c (l.take k) (by simp; omega) cn w1 (.inr ⟨b, o, rfl, by have := hw1.size; omega, (HL.out.below hw1 hb).take k⟩)
        rwa [List.length_take_of_le (by rw [Hl.out]; omega)] at this
      have hi0 : (0 : Int) ≤ (k : Int) := by omega
      have hi1 : (k : Int) < (n : Int) := by omega
      have hi2 : (k : Int) ≤ (c : Int) := by omega
      obtain ⟨x1, x2⟩ := hcell.out wr HB.out
      have x1 : wr.cell? ⟨b, o + k * 2, none⟩ = some (.string cn) := x1
      generalize findN (l.take k) cn = fn at *
      by_cases hnm : nameB cn = true
      · by_cases hkd : kindB ck = true
        · have hcases : ck = 1 ∨ ck = 2 := by
            unfold kindB at hkd
            simpa using hkd
          have hst' : Hid (colsR [] l = if findB (l.take k) cn then 21 else colsR (l.take (k + 1)) (l.drop (k + 1))) := Lib.hid (by rw [hst.out, if_neg (by simp [hnm, hkd])])
          rw [hnm] at hname
          clear hst hnm hkd x2
          generalize findB (l.take k) cn = fb at *
          rcases hcases with rfl | rfl
          all_goals
            go_wp2_with fail
            refine hname.out.mono ?_
            rintro e w2 ⟨rfl, b2⟩
            have B2 := Lib.hid (HB.out.trans (b2.mono HB.out.size))
            obtain ⟨y1, y2⟩ := hcell.out w2 B2.out
            have y1 : w2.cell? ⟨b, o + k * 2, none⟩ = some (.string cn) := y1
            have hf2 : ∀ q, Calls Tryz.prog 139 #[.slice (some ⟨b, o, none⟩) k c, .string cn] (w2.drewN q) fun e w' => e = .returned (.tuple #[.int .i64 fn, .bool fb]) ∧ w' = w2.drewN q := fun q => hfind.out _ ⟨B2.out.os, B2.out.tape, B2.out.output, B2.out.size, B2.out.block⟩
            have HF2 := Lib.hid hf2
            clear b2 hname hf2
            cases fb
            · have hst2 : Hid (colsR [] l = colsR (l.take (k + 1)) (l.drop (k + 1))) := hst'
              clear hst'
              go_wp2_with fail
              go_quiet ((go_at_call 139; exact Calls.quiet_of_same (HF2.out _)))
              go_wp2_with fail
              go_roundw
              case rel => exact ⟨k + 1, by omega, by go_num, ⟨B2.out.os, B2.out.tape, B2.out.output, B2.out.size, B2.out.block⟩, hst2⟩
              case measure => simp [intOf]; omega
            · have hst2 : Hid (colsR [] l = 21) := hst'
              clear hst'
              go_wp2_with fail
              go_quiet ((go_at_call 139; exact Calls.quiet_of_same (HF2.out _)))
              go_wp2_with fail
              go_ret
              exact ⟨by rw [hst2.out]; rfl, B2.out.os, B2.out.tape, B2.out.output, B2.out.size, B2.out.block⟩
        · rw [hnm] at hname
          have hst' : Hid (colsR [] l = 20) := Lib.hid (by rw [hst.out, if_pos (by simp [hkd])])
          have h1 : (ck != 1) = true := by unfold kindB at hkd; simp at hkd ⊢; omega
          have h2 : (ck != 2) = true := by unfold kindB at hkd; simp at hkd ⊢; omega
          clear hst hkd hnm hfind x2
          go_wp2_with fail
          refine hname.out.mono ?_
          rintro e w2 ⟨rfl, b2⟩
          have B2 := Lib.hid (HB.out.trans (b2.mono HB.out.size))
          obtain ⟨y1, y2⟩ := hcell.out w2 B2.out
          have y2 : w2.cell? ⟨b, o + k * 2 + 1, none⟩ = some (.int .i64 ck) := y2
          clear b2 hname
          go_wp2_with fail
          go_ret
          exact ⟨by rw [hst'.out]; rfl, B2.out⟩
      · have hnm' : nameB cn = false := by simpa using hnm
        rw [hnm'] at hname
        have hst' : Hid (colsR [] l = 20) := Lib.hid (by rw [hst.out, if_pos (by simp [hnm'])])
        clear hst hnm hnm' hfind x2
        go_wp2_with fail
        refine hname.out.mono ?_
        rintro e w2 ⟨rfl, b2⟩
        have B2 := Lib.hid (HB.out.trans (b2.mono HB.out.size))
        clear b2 hname
        go_wp2_with fail
        go_ret
        exact ⟨by rw [hst'.out]; rfl, B2.out⟩
    · have hst : Hid (colsR [] l = 0) := Lib.hid (by rw [hz.out, List.drop_of_length_le (by rw [Hl.out]; omega)]; rfl)
      clear hz
      go_wp2_with fail
      go_ret
      exact ⟨by rw [hst.out]; rfl, hbl⟩
theorem refColumns_any (A : Option Addr) (c : Nat) (l : List C) (hl : l.length ≤ 9223372036854775807) (hc : l.length ≤ c) (hsz : ∀ x ∈ l, x.nm.size ≤ 9223372036854775807) (w : World) (hA : CRow w w.heap.size A l) :
    Calls Tryz.prog 125 #[.slice A l.length c] w fun e w' => e = .returned (.int .i64 (colsE l)) ∧ Below w.heap.size w w' := by
  by_cases h0 : l.length = 0
  · have e0 : colsE l = 23 := by simp [colsE, h0]
    rw [e0, h0]
    clear hA h0 e0
    go_enter Tryz.func125, Tryz.ntmps125
    go_wp2
    go_ret
    exact ⟨rfl, Below.refl _ _⟩
  · by_cases h6 : 6 < l.length
    · have e0 : colsE l = 23 := by simp [colsE, h6]
      have hg : ((l.length : Int) == 0) = false := by simp; intro h; subst h; simp at h0
      have hd : decide (6 < (l.length : Int)) = true := by simp; omega
      rw [e0]
      clear hA h0 e0 h6
      go_enter Tryz.func125, Tryz.ntmps125
      go_wp2
      go_ret
      exact ⟨rfl, Below.refl _ _⟩
    · have e0 : colsE l = colsR [] l := by simp [colsE, h0, h6]
      rw [e0]
      rcases hA with h | ⟨b, o, rfl, hb, hL⟩
      · subst h; simp at h0
      · exact refColumns_full b o l.length c l rfl (by omega) hc (by omega) hsz w hb hL
end Go.Proofs.YtajnnkapgnmoaaaGreat
/-
  Package confluenceref5's Fits.
-/
namespace Go.Proofs.YtajnnkapgnmoaaaGreat
open Go.RowKit
set_option maxRecDepth 100000 in
set_option maxHeartbeats 1000000 in
theorem ref5_fits_full (bl ol br or_ : Nat) (n c d : Nat) (l : List C) (r : List V) (hl : l.length = n) (hr : r.length = n) (hn : n ≤ 9223372036854775807) (w : World)
    (hbl : bl < w.heap.size) (hbr : br < w.heap.size) (hL : CAt w bl ol l) (hR : VAt w br or_ r) :
    Calls Tryz.prog 49 #[.slice (some ⟨bl, ol, none⟩) n d, .slice (some ⟨br, or_, none⟩) n c] w fun e w' => e = .returned (.bool (zipB l r)) ∧ Below w.heap.size w w' := by
  have HL := Lib.hid hL
  have HR := Lib.hid hR
  have Hl := Lib.hid hl
  have Hr := Lib.hid hr
  clear hL hR hl hr
  go_enter Tryz.func49, Tryz.ntmps49
  go_wp2_with fail
  go_loopw [5] (fun i wr => ∃ k : Nat, k ≤ n ∧ i = .int .i64 k ∧ Below w.heap.size w wr ∧ Hid (zipB l r = zipB (l.drop k) (r.drop k))) (fun i _ => n - (intOf i).toNat)
  case atStart => exact ⟨0, Nat.zero_le _, rfl, Below.refl _ _, rfl⟩
  case round =>
    obtain ⟨k, hk, rfl, hb, hz⟩ := hrel
    by_cases hlt : k < n
    · obtain ⟨v, hv⟩ : ∃ v, r[k]? = some v := ⟨_, List.getElem?_eq_getElem (by rw [Hr.out]; exact hlt)⟩
      obtain ⟨cc, hc⟩ : ∃ c, l[k]? = some c := ⟨_, List.getElem?_eq_getElem (by rw [Hl.out]; exact hlt)⟩
      have hst := Lib.hid (zipB_step hc hv)
      obtain ⟨v1, v2, v3⟩ := HR.out.below hb hbr k v hv
      obtain ⟨_, c2⟩ := HL.out.below hb hbl k cc hc
      clear hv hc
      obtain ⟨vk, vn, vs⟩ := v
      obtain ⟨cn, ck⟩ := cc
      have hi0 : (0 : Int) ≤ (k : Int) := by omega
      have hi1 : (k : Int) < (n : Int) := by omega
      have v1 : wr.cell? ⟨br, or_ + k * 3, none⟩ = some (.int .i64 vk) := v1
      have v2 : wr.cell? ⟨br, or_ + k * 3 + 1, none⟩ = some (.int .i64 vn) := v2
      have v3 : wr.cell? ⟨br, or_ + k * 3 + 2, none⟩ = some (.string vs) := v3
      have c2 : wr.cell? ⟨bl, ol + k * 2 + 1, none⟩ = some (.int .i64 ck) := c2
      have hs := hb.size
      have hbr2 : br < wr.heap.size := by omega
      have hbl2 : bl < wr.heap.size := by omega
      have hv := Lib.hid (ref4_right vk vn vs)
      have hBk : Below w.heap.size w (wr.alloc (.cells #[.int .i64 vk, .int .i64 vn, .string vs] 49)).drew := (hb.alloc hs _).drew
      have HBk := Lib.hid hBk
      have HB := Lib.hid hb
      clear hBk hb
      by_cases hok : V.okB ⟨vk, vn, vs⟩ = true
      · rw [hok] at hv hst
        by_cases hkk : (vk == ck) = true
        · have hz' : Hid (zipB l r = zipB (l.drop (k + 1)) (r.drop (k + 1))) := by
            have := hz.out.trans hst.out
            rwa [hkk, Bool.true_and, Bool.true_and] at this
          have hne : (vk != ck) = false := by simpa using hkk
          clear hst hz
          go_wp2_with fail
          go_region_held3 (fun w' => w'.cell? ⟨br, or_ + k * 3, none⟩ = some (.int .i64 vk) ∧ w'.cell? ⟨br, or_ + k * 3 + 1, none⟩ = some (.int .i64 vn) ∧ w'.cell? ⟨br, or_ + k * 3 + 2, none⟩ = some (.string vs) ∧ w'.cell? ⟨bl, ol + k * 2 + 1, none⟩ = some (.int .i64 ck)) (go_keep)
            (first | (go_at_call 92; refine (hv.out _).mono ?_; rintro e w' ⟨rfl, rfl⟩))
          go_wp2_with fail
          go_roundw
          case rel => exact ⟨k + 1, by omega, by go_num, HBk.out, hz'⟩
          case measure => simp [intOf]; omega
        · have hkk' : (vk == ck) = false := by simpa using hkk
          have hz' : Hid (zipB l r = false) := by
            have := hz.out.trans hst.out
            rwa [hkk', Bool.and_false, Bool.false_and] at this
          have hne : (vk != ck) = true := by simpa using hkk
          clear hst hz hkk
          go_wp2_with fail
          go_region_held3 (fun w' => w'.cell? ⟨br, or_ + k * 3, none⟩ = some (.int .i64 vk) ∧ w'.cell? ⟨br, or_ + k * 3 + 1, none⟩ = some (.int .i64 vn) ∧ w'.cell? ⟨br, or_ + k * 3 + 2, none⟩ = some (.string vs) ∧ w'.cell? ⟨bl, ol + k * 2 + 1, none⟩ = some (.int .i64 ck)) (go_keep)
            (first | (go_at_call 92; refine (hv.out _).mono ?_; rintro e w' ⟨rfl, rfl⟩))
          go_wp2_with fail
          go_ret
          exact ⟨by rw [hz'.out]; rfl, HBk.out⟩
      · have hok' : V.okB ⟨vk, vn, vs⟩ = false := by simpa using hok
        rw [hok'] at hv hst
        have hz' : Hid (zipB l r = false) := hz.out.trans hst.out
        clear hst hz hok hok'
        go_wp2_with fail
        refine wp_region_any (by kernel_rfl) ?_
        change wpAny _ _ _ _ _ _ _ (World.drew _)
        refine wpAny_take (i := 0) (v := .slice (some ⟨br, or_, none⟩) n c) rfl (by kernel_rfl) (by kernel_rfl) (by kernel_rfl) (fun _ _ _ h => h) (Or.inl ⟨by rfl, fun w => by go_simp⟩) ?_
        refine wpAny_take (i := 1) (v := .int .i64 k) rfl (by kernel_rfl) (by kernel_rfl) (by kernel_rfl) (fun _ _ _ h => h) (Or.inl ⟨by rfl, fun w => by go_simp⟩) ?_
        refine wpAny_one (i := 2) (by kernel_rfl) rfl (fun K hK => ?_)
        go_simp
        refine hK _ _ ?_
        clear hK K
        refine wpAny_one (i := 3) (by kernel_rfl) rfl (fun K hK => ?_)
        go_simp
        refine hK _ _ ?_
        clear hK K
        refine wpAny_one (i := 4) (by kernel_rfl) rfl (fun K hK => ?_)
        go_simp
        go_wp2_with (go_at_call 92; refine (hv.out _).mono ?_; rintro e w' ⟨rfl, rfl⟩)
        refine wpAny_one (i := 5) (by kernel_rfl) rfl (fun K hK => ?_)
        go_simp
        refine hK _ _ ?_
        clear hK K
        refine wpAny_one (i := 6) (by kernel_rfl) rfl (fun K hK => ?_)
        go_simp
        refine hK _ _ ?_
        clear hK K
        refine wpAny_skip (i := 7) rfl (by kernel_rfl) (by kernel_rfl) (by kernel_rfl) (fun _ _ _ h => h) (by kernel_rfl) ?_
        refine wpAny_skip (i := 8) rfl (by kernel_rfl) (by kernel_rfl) (by kernel_rfl) (fun _ _ _ h => h) (by kernel_rfl) ?_
        refine wpAny_skip (i := 9) rfl (by kernel_rfl) (by kernel_rfl) (by kernel_rfl) (fun _ _ _ h => h) (by kernel_rfl) ?_
        refine wpAny_skip (i := 10) rfl (by kernel_rfl) (by kernel_rfl) (by kernel_rfl) (fun _ _ _ h => h) (by kernel_rfl) ?_
        refine wpAny_skip (i := 11) rfl (by kernel_rfl) (by kernel_rfl) (by kernel_rfl) (fun _ _ _ h => h) (by kernel_rfl) ?_
        refine wpAny_skip (i := 12) rfl (by kernel_rfl) (by kernel_rfl) (by kernel_rfl) (fun _ _ _ h => h) (by kernel_rfl) ?_
        refine wpAny_skip (i := 13) rfl (by kernel_rfl) (by kernel_rfl) (by kernel_rfl) (fun _ _ _ h => h) (by kernel_rfl) ?_
        refine wpAny_skip (i := 14) rfl (by kernel_rfl) (by kernel_rfl) (by kernel_rfl) (fun _ _ _ h => h) (by kernel_rfl) ?_
        refine wpAny_skip (i := 15) rfl (by kernel_rfl) (by kernel_rfl) (by kernel_rfl) (fun _ _ _ h => h) (by kernel_rfl) ?_
        refine wpAny_skip (i := 16) rfl (by kernel_rfl) (by kernel_rfl) (by kernel_rfl) (fun _ _ _ h => h) (by kernel_rfl) ?_
        refine wpAny_skip (i := 17) rfl (by kernel_rfl) (by kernel_rfl) (by kernel_rfl) (fun _ _ _ h => h) (by kernel_rfl) ?_
        refine wpAny_one (i := 18) (by kernel_rfl) rfl (fun K hK => ?_)
        go_simp
        refine hK _ _ ?_
        clear hK K
        refine wpAny_done (by kernel_rfl) ?_ _
        go_wp2_with fail
        go_ret
        exact ⟨by rw [hz'.out]; rfl, HBk.out⟩
    · go_wp2_with fail
      go_ret
      have e : k = n := by omega
      subst e
      exact ⟨by rw [hz.out, List.drop_of_length_le (by rw [Hl.out]; omega)]; rfl, hb⟩
theorem ref5_fits (A D : Option Addr) (c d : Nat) (l : List C) (r : List V) (hl : l.length ≤ 9223372036854775807) (hr : r.length ≤ 9223372036854775807) (w : World)
    (hA : CRow w w.heap.size A l) (hD : VRow w w.heap.size D r) :
    Calls Tryz.prog 49 #[.slice A l.length c, .slice D r.length d] w fun e w' => e = .returned (.bool (fitsB l r)) ∧ Below w.heap.size w w' := by
  by_cases hlen : l.length = r.length
  · have e0 : fitsB l r = zipB l r := by unfold fitsB; rw [decide_eq_true hlen]; rfl
    rw [e0]
    rcases hA with rfl | ⟨bl, ol, rfl, hbl, hL⟩
    · have : r = [] := List.eq_nil_of_length_eq_zero (by simpa using hlen.symm)
      subst this
      clear hD hlen e0 hl hr
      show Calls _ _ #[.slice A 0 c, .slice D 0 d] _ fun e w' => e = .returned (.bool true) ∧ _
      go_enter Tryz.func49, Tryz.ntmps49
      go_wp2_with fail
      go_loop [5] (fun i => i = .int .i64 0) (fun i => 0)
      case atStart => rfl
      case round =>
        obtain rfl := hrel
        go_wp2_with fail
        go_ret
        exact ⟨rfl, Below.refl _ _⟩
    · rcases hD with rfl | ⟨br, or_, rfl, hbr, hR⟩
      · have : l = [] := List.eq_nil_of_length_eq_zero (by simpa using hlen)
        subst this
        clear hlen e0 hl hr
        show Calls _ _ #[.slice _ 0 c, .slice D 0 d] _ fun e w' => e = .returned (.bool true) ∧ _
        go_enter Tryz.func49, Tryz.ntmps49
        go_wp2_with fail
        go_loop [5] (fun i => i = .int .i64 0) (fun i => 0)
        case atStart => rfl
        case round =>
          obtain rfl := hrel
          go_wp2_with fail
          go_ret
          exact ⟨rfl, Below.refl _ _⟩
      · have h := ref5_fits_full bl ol br or_ l.length d c l r rfl hlen.symm hl w hbl hbr hL hR
        rw [← hlen]
        exact h
  · have e0 : fitsB l r = false := by unfold fitsB; rw [decide_eq_false hlen]; rfl
    have hne : ((l.length : Int) != (r.length : Int)) = true := by rw [bne_iff_ne]; omega
    rw [e0]
    generalize l.length = n at *
    generalize r.length = m at *
    clear hlen e0 hA hD
    go_enter Tryz.func49, Tryz.ntmps49
    go_wp2_with fail
    go_ret
    exact ⟨rfl, Below.refl _ _⟩
end Go.Proofs.YtajnnkapgnmoaaaGreat
/-
  The reference's Plain at a right set of nets not below 0.
-/
namespace Go.Proofs.YtajnnkapgnmoaaaGreat
open Go.RowKit Go.Sort

set_option maxHeartbeats 1000000 in
set_option maxRecDepth 100000 in
theorem rplain_any (A : Option Addr) (c : Nat) (l : List IM) (w : World) {S : Nat → Prop} (hA : SRow w S A l) (hS : ∀ k, S k → k < w.heap.size) (hl : l.length ≤ 1073741824) (hk : SOk l) (hp : ∀ x ∈ l, 0 ≤ x.k) :
    Calls Tryz.prog 91 #[.slice A l.length c] w fun e w' => e = .returned (.bool true) ∧ Below w.heap.size w w' := by
  have HRI := Lib.hid (fun w1 (hb : Below w.heap.size w w1) => rright_any A c l w1 (S := fun k => k < w1.heap.size) ((hA.below hb hS).mono fun k hk => Nat.lt_of_lt_of_le (hS k hk) hb.size) (fun k hk => hk) hl hk)
  obtain ⟨n, hn⟩ : ∃ n, l.length = n := ⟨_, rfl⟩
  have HN := Lib.hid hn
  have HA := Lib.hid hA
  have HS := Lib.hid hS
  have HK := Lib.hid hk
  have HP := Lib.hid hp
  rw [hn] at hl HRI ⊢
  clear hA hS hk hn hp
  go_enter Tryz.func91, Tryz.ntmps91
  go_wp2_with fail
  go_loopw [3] (fun i wr => ∃ k : Nat, k ≤ n ∧ i = .int .i64 k ∧ Below w.heap.size w wr) (fun i _ => n - (intOf i).toNat)
  case atStart => exact ⟨0, Nat.zero_le _, rfl, Below.refl _ _⟩
  case round =>
    obtain ⟨k, hk, rfl, hb⟩ := hrel
    have HB := Lib.hid hb
    have hs := hb.size
    clear hb
    by_cases hlt : k < n
    · obtain ⟨x, hx⟩ : ∃ x, l[k]? = some x := ⟨_, List.getElem?_eq_getElem (by rw [HN.out]; exact hlt)⟩
      obtain ⟨b, off, rfl, hSb, hc1, hc2⟩ := (HA.out.below HB.out HS.out).get hx
      have hm := List.mem_of_getElem? hx
      have hnet := Lib.hid (fun w1 => rf_net (HK.out.okN hm) w1)
      have hge : decide (x.k < 0) = false := decide_eq_false (by have := HP.out x hm; omega)
      generalize tal x.k = T at hc2 hnet
      generalize x.k = K at hnet hge
      clear hx hm hSb hc1
      go_wp2_with (go_at_call 94; refine (hnet.out _).mono ?_; rintro e w' ⟨rfl, rfl⟩)
      go_roundw
      case rel => exact ⟨k + 1, by omega, by go_num, HB.out⟩
      case measure => simp [intOf]; omega
    · have hri := Lib.hid (HRI.out wr HB.out)
      go_wp2_with (go_at_call 93; refine hri.out.mono ?_; rintro e w' ⟨rfl, hb2⟩)
      go_ret
      exact ⟨rfl, HB.out.trans (hb2.mono hs)⟩
end Go.Proofs.YtajnnkapgnmoaaaGreat
/-
  confluenceref10.Defs and confluenceref11.Right at tables that may be.
-/
set_option linter.unusedVariables false
set_option linter.unusedSimpArgs false
namespace Go.Proofs.YtajnnkapgnmoaaaGreat
open Go.RowKit Go.Sort

theorem nameB_len {s : ByteArray} (h : nameB s = true) : s.size ≤ 12 := by
  unfold nameB at h
  simp only [Bool.and_eq_true, decide_eq_true_eq] at h
  exact h.1.1.2
theorem colsR_names : ∀ (l pre : List C), colsR pre l = 0 → ∀ c ∈ l, nameB c.nm = true
  | [], pre, _, c, hc => by simp at hc
  | x :: l, pre, h, c, hc => by
    unfold colsR at h
    split at h
    · omega
    · rename_i h1
      split at h
      · omega
      · rcases List.mem_cons.1 hc with rfl | hc
        · cases hn : nameB c.nm with
          | true => rfl
          | false => rw [hn] at h1; simp at h1
        · exact colsR_names l _ h c hc
theorem colsE_names {l : List C} (h : colsE l = 0) : ∀ c ∈ l, c.nm.size ≤ 12 := fun c hc => by
  unfold colsE at h
  split at h
  · omega
  · exact nameB_len (colsR_names l [] h c hc)
theorem defsR_good : ∀ (l pre : List (ByteArray × List C)), defsR pre l = 0 → ∀ (i : Nat) d, l[i]? = some d → nameB d.1 = true ∧ colsE d.2 = 0 ∧ (∀ e ∈ pre, (e.1.toList == d.1.toList) = false) ∧ ∀ (j : Nat) e, j < i → l[j]? = some e → (e.1.toList == d.1.toList) = false
  | [], pre, _, i, d, hd => by simp at hd
  | x :: l, pre, h, i, d, hd => by
    unfold defsR at h
    split at h
    · omega
    · rename_i h1
      split at h
      · omega
      · rename_i h2
        split at h
        · rename_i h3
          cases i with
          | zero =>
            obtain rfl : x = d := by simpa using hd
            refine ⟨by cases hn : nameB x.1 with
              | true => rfl
              | false => exact absurd hn h1, h3, fun e he => ?_, fun j e hj => by omega⟩
            cases hb : (e.1.toList == x.1.toList) with
            | false => rfl
            | true => exact absurd (List.any_eq_true.2 ⟨e, he, hb⟩) h2
          | succ i =>
            obtain ⟨q1, q2, q3, q4⟩ := defsR_good l _ h i d (by simpa using hd)
            refine ⟨q1, q2, fun e he => q3 e (by simp [he]), fun j e hj he => ?_⟩
            cases j with
            | zero =>
              obtain rfl : x = e := by simpa using he
              exact q3 x (by simp)
            | succ j => exact q4 j e (by omega) (by simpa using he)
        · rename_i h3
          exact absurd h h3

set_option maxHeartbeats 2000000 in
set_option maxRecDepth 100000 in
theorem r10defs_any (A : Option Addr) (c : Nat) (l : List DM) (w : World) {S : Nat → Prop} (hA : DRow w S A l) (hS : ∀ k, S k → k < w.heap.size) (hl : l.length ≤ 1000000) (h0 : defsE (l.map DM.key) = 0) :
    Calls Tryz.prog 89 #[.slice A l.length c] w fun e w' => e = .returned (.int .i64 0) ∧ Below w.heap.size w w' := by
  obtain ⟨n, hn⟩ : ∃ n, l.length = n := ⟨_, rfl⟩
  have HN := Lib.hid hn
  have HA := Lib.hid hA
  have HS := Lib.hid hS
  have HG : Hid (∀ (i : Nat) t, l[i]? = some t → nameB t.nm = true ∧ colsE t.cols = 0 ∧ ∀ (j : Nat) u, j < i → l[j]? = some u → (u.nm.toList == t.nm.toList) = false) := Lib.hid (fun i t ht => by
    obtain ⟨q1, q2, _, q4⟩ := defsR_good _ _ h0 i t.key (by rw [List.getElem?_map, ht]; rfl)
    exact ⟨q1, q2, fun j u hj hu => q4 j u.key hj (by rw [List.getElem?_map, hu]; rfl)⟩)
  rw [hn] at hl ⊢
  clear hA hS hn h0
  go_enter Tryz.func89, Tryz.ntmps89
  go_wp2_with fail
  go_loopw [3] (fun i wr => ∃ k : Nat, k ≤ n ∧ i = .int .i64 k ∧ Below w.heap.size w wr) (fun i _ => n - (intOf i).toNat)
  case atStart => exact ⟨0, Nat.zero_le _, rfl, Below.refl _ _⟩
  case round =>
    rename World => wo
    obtain ⟨k, hk, rfl, hb⟩ := hrel
    have HB := Lib.hid hb
    have hs := hb.size
    clear hb
    by_cases hlt : k < n
    · obtain ⟨x, hx⟩ : ∃ x, l[k]? = some x := ⟨_, List.getElem?_eq_getElem (by rw [HN.out]; exact hlt)⟩
      obtain ⟨b, off, rfl, hSb, hc1, hc2⟩ := (HA.out.below HB.out HS.out).get hx
      have hm := List.mem_of_getElem? hx
      obtain ⟨g1, g2, g3⟩ := HG.out k x hx
      have hnm := Lib.hid (refName_any x.nm (by have := nameB_len g1; omega) wo)
      rw [g1] at hnm
      have hcl := cols_len g2
      have hco := Lib.hid (fun w1 (hb : Below w.heap.size w w1) => refColumns_any x.cA x.cc x.cols (by omega) (HA.out.cap x hm) (fun y hy => by have := colsE_names g2 y hy; omega) w1 (((HA.out.cols x hm).kept fun k hk => hb.block k (HS.out k hk)).to fun k hk => Nat.lt_of_lt_of_le (HS.out k hk) hb.size))
      rw [g2] at hco
      have HO : Hid (∀ (j : Nat), j < k → ∃ u : DM, (u.nm.toList == x.nm.toList) = false ∧ ∀ w1, Below w.heap.size w w1 → w1.cell? ⟨b, off + j * 2, none⟩ = some (.string u.nm)) := Lib.hid (fun j hj => by
        obtain ⟨u, hu⟩ : ∃ u, l[j]? = some u := ⟨_, List.getElem?_eq_getElem (by rw [HN.out]; omega)⟩
        refine ⟨u, g3 j u hj hu, fun w1 h => ?_⟩
        obtain ⟨b', off', e, _, d1, _⟩ := (HA.out.below h HS.out).get hu
        obtain ⟨rfl, rfl⟩ : b = b' ∧ off = off' := by simpa using e
        exact d1)
      have HX : Hid (∀ w1, Below w.heap.size w w1 → w1.cell? ⟨b, off + k * 2, none⟩ = some (.string x.nm) ∧ w1.cell? ⟨b, off + k * 2 + 1, none⟩ = some (.slice x.cA x.cols.length x.cc)) := Lib.hid (fun w1 h => by
        obtain ⟨b', off', e, _, d1, d2⟩ := (HA.out.below h HS.out).get hx
        obtain ⟨rfl, rfl⟩ : b = b' ∧ off = off' := by simpa using e
        exact ⟨d1, d2⟩)
      obtain ⟨xnm, xcA, xcc, xcl⟩ := x
      dsimp only at hc1 hc2 hnm hco HO HX
      generalize xcl.length = xn at hc2 hco HX
      clear hx hm hSb g1 g2 g3 hcl hc2
      go_wp2_with fail
      refine hnm.out.mono ?_
      rintro e w1 ⟨rfl, hb1⟩
      have HB1 := Lib.hid (HB.out.trans (hb1.mono hs))
      clear hb1 hnm hc1
      go_wp2_with fail
      go_loopw [4] (fun i wr => ∃ j : Nat, j ≤ k ∧ i = .int .i64 j ∧ Below w.heap.size w wr) (fun i _ => k - (intOf i).toNat)
      case atStart => exact ⟨0, Nat.zero_le _, rfl, HB1.out⟩
      case round =>
        rename World => wi
        obtain ⟨j, hj, rfl, hb⟩ := hrel
        have HBi := Lib.hid hb
        clear hb
        by_cases hjk : j < k
        · obtain ⟨u, hne, hu⟩ := HO.out j hjk
          have d1 := hu wi HBi.out
          have d2 := (HX.out wi HBi.out).1
          obtain ⟨unm, _, _, _⟩ := u
          dsimp only at hne d1
          have hj0 : (0 : Int) ≤ (j : Int) := by omega
          have hjn : (j : Int) < (n : Int) := by omega
          clear hu
          go_wp2_with fail
          go_quiet (fail)
          go_wp2_with fail
          go_roundw
          case rel => exact ⟨j + 1, by omega, by go_num, ⟨HBi.out.os, HBi.out.tape, HBi.out.output, HBi.out.size, HBi.out.block⟩⟩
          case measure => simp [intOf]; omega
        · obtain rfl : j = k := by omega
          have d2 := (HX.out wi HBi.out).2
          go_wp2_with fail
          refine (hco.out _ HBi.out).mono ?_
          rintro e w2 ⟨rfl, hb2⟩
          have HB2 := Lib.hid (HBi.out.trans (hb2.mono HBi.out.size))
          clear hb2 hco d2
          go_wp2_with fail
          go_roundw
          case rel => exact ⟨j + 1, by omega, by go_num, HB2.out⟩
          case measure => simp [intOf]; omega
    · obtain rfl : k = n := by omega
      go_wp2_with fail
      go_ret
      exact ⟨rfl, HB.out⟩

def TM.dm (t : TM) : DM := ⟨t.nm, t.cA, t.cc, t.cols⟩
theorem flatE_dm (l : List TM) : flatE l = flatD (l.map TM.dm) := by
  induction l with
  | nil => rfl
  | cons x l ih =>
    have e1 : flatE (x :: l) = TM.dcs x ++ flatE l := rfl
    have e2 : flatD ((x :: l).map TM.dm) = DM.cs x.dm ++ flatD (l.map TM.dm) := rfl
    rw [e1, e2, ih]
    rfl

set_option maxHeartbeats 2000000 in
set_option maxRecDepth 100000 in
theorem r11right_any (A : Option Addr) (c : Nat) (l : List TM) (w : World) {S : Nat → Prop} (hA : TRow w S A l) (hS : ∀ k, S k → k < w.heap.size) (hk : TabsOk l) (hcap : ∀ t ∈ l, t.cols.length ≤ t.cc) :
    Calls Tryz.prog 48 #[.slice A l.length c] w fun e w' => e = .returned (.bool true) ∧ Below w.heap.size w w' := by
  have mixed : Tryz.prog.follows .mixedOrders = true := by kernel_rfl
  have hdf := Lib.hid (rdefs_any A c l w hA hS hk.len)
  have hcd := Lib.hid (fun A' c' w1 (hb : Below w.heap.size w w1) (h2 : w1.ownsRow w.heap.size 160 2 (.slice A' l.length c') l.length (flatE l)) => by
    have e1 : (l.map TM.dm).length = l.length := List.length_map ..
    rw [flatE_dm, ← e1] at h2
    obtain ⟨A3, c3, hv, _, hD⟩ := own_defs (S := fun k => k < w1.heap.size) h2 (fun g _ h _ => h) (fun t ht => by
      obtain ⟨x, hx, rfl⟩ := List.mem_map.1 ht
      exact ((hA.cols x hx).kept fun k hk => hb.block k (hS k hk)).mono fun k hk => Nat.lt_of_lt_of_le (hS k hk) hb.size) (fun t ht => by
      obtain ⟨x, hx, rfl⟩ := List.mem_map.1 ht
      exact hcap x hx)
    obtain ⟨rfl, rfl⟩ : A' = A3 ∧ c' = c3 := by simpa using hv
    have := r10defs_any A' c' (l.map TM.dm) w1 hD (fun k hk => hk) (by rw [e1]; exact hk.len) (by rw [List.map_map]; exact hk.defs)
    rw [e1] at this
    exact this)
  obtain ⟨n, hn⟩ : ∃ n, l.length = n := ⟨_, rfl⟩
  have HN := Lib.hid hn
  have HA := Lib.hid hA
  have HS := Lib.hid hS
  have HK := Lib.hid hk
  have hl := hk.len
  rw [hn] at hl hdf hcd ⊢
  clear hA hS hk hn hcap
  go_enter Tryz.func48, Tryz.ntmps48
  go_wp2_with fail
  refine hdf.out.mono ?_
  rintro e w1 ⟨⟨A', c', rfl, h1, h2⟩, hb1⟩
  have hq := Lib.hid (hcd.out A' c' w1 hb1 h2)
  have HB1 := Lib.hid hb1
  clear h1 h2 hb1 hcd hdf
  go_wp2_with fail
  refine hq.out.mono ?_
  rintro e w2 ⟨rfl, hb2⟩
  have HB2 := Lib.hid (HB1.out.trans (hb2.mono HB1.out.size))
  clear hb2 hq HB1 w1
  go_wp2_with fail
  go_loopw [3] (fun i wr => ∃ k : Nat, k ≤ n ∧ i = .int .i64 k ∧ Below w.heap.size w wr) (fun i _ => n - (intOf i).toNat)
  case atStart => exact ⟨0, Nat.zero_le _, rfl, HB2.out⟩
  case round =>
    rename World => wo
    obtain ⟨k, hk, rfl, hb⟩ := hrel
    have HB := Lib.hid hb
    have hs := hb.size
    clear hb
    by_cases hlt : k < n
    · obtain ⟨x, hx⟩ : ∃ x, l[k]? = some x := ⟨_, List.getElem?_eq_getElem (by rw [HN.out]; exact hlt)⟩
      obtain ⟨b, off, rfl, hSb, hc1, hc2, hc3⟩ := (HA.out.below HB.out HS.out).get hx
      have hm := List.mem_of_getElem? hx
      have hpl := Lib.hid (fun w1 (hb : Below w.heap.size w w1) => rplain_any x.rA x.rc x.rows w1 (S := fun k => k < w1.heap.size) (((HA.out.rows x hm).below hb HS.out).mono fun k hk => Nat.lt_of_lt_of_le (HS.out k hk) hb.size) (fun k hk => hk) (by have := HK.out.rlen x hm; omega) (HK.out.set x hm) (HK.out.plain x hm))
      have HX : Hid (∀ w1, Below w.heap.size w w1 → w1.cell? ⟨b, off + k * 3 + 1, none⟩ = some (.slice x.cA x.cols.length x.cc) ∧ w1.cell? ⟨b, off + k * 3 + 2, none⟩ = some (.slice x.rA x.rows.length x.rc)) := Lib.hid (fun w1 h => by
        obtain ⟨b', off', e, _, d1, d2, d3⟩ := (HA.out.below h HS.out).get hx
        obtain ⟨rfl, rfl⟩ : b = b' ∧ off = off' := by simpa using e
        exact ⟨d2, d3⟩)
      have HCO := Lib.hid (fun w1 (hb : Below w.heap.size w w1) => ((HA.out.cols x hm).kept fun k hk => hb.block k (HS.out k hk)).to (B := w1.heap.size) fun k hk => Nat.lt_of_lt_of_le (HS.out k hk) hb.size)
      have HRO := Lib.hid (fun w1 (hb : Below w.heap.size w w1) => (HA.out.rows x hm).below hb HS.out)
      have HFI := Lib.hid (HK.out.fits x hm)
      have HRW := Lib.hid (fun y (hy : y ∈ x.rows) => (rowOk_len ((HK.out.set x hm).row hy)).2)
      have hcl := HK.out.clen x hm
      have hrl := HK.out.rlen x hm
      obtain ⟨xnm, xcA, xcc, xcl, xrA, xrc, xrl⟩ := x
      dsimp only at hc1 hc2 hc3 hpl HX HCO HRO HFI HRW hcl hrl
      obtain ⟨xn, hxn⟩ : ∃ xn, xcl.length = xn := ⟨_, rfl⟩
      obtain ⟨xm, hxm⟩ : ∃ xm, xrl.length = xm := ⟨_, rfl⟩
      have HXN := Lib.hid hxn
      have HXM := Lib.hid hxm
      rw [hxn] at HX hc2 hcl
      rw [hxm] at hpl HX hc3 hrl
      clear hx hm hSb hc1 hc2 hxn hxm
      go_wp2_with fail
      refine (hpl.out _ HB.out).mono ?_
      rintro e w3 ⟨rfl, hb3⟩
      have HB3 := Lib.hid (HB.out.trans (hb3.mono hs))
      clear hb3 hpl hc3
      go_wp2_with fail
      go_loopw [4] (fun i wr => ∃ j : Nat, j ≤ xm ∧ i = .int .i64 j ∧ Below w.heap.size w wr) (fun i _ => xm - (intOf i).toNat)
      case atStart => exact ⟨0, Nat.zero_le _, rfl, HB3.out⟩
      case round =>
        rename World => wi
        obtain ⟨j, hj, rfl, hb⟩ := hrel
        have HBi := Lib.hid hb
        have hsi := hb.size
        clear hb
        obtain ⟨d1, d2⟩ := HX.out wi HBi.out
        by_cases hjm : j < xm
        · obtain ⟨y, hy⟩ : ∃ y, xrl[j]? = some y := ⟨_, List.getElem?_eq_getElem (by rw [HXM.out]; exact hjm)⟩
          have hmy := List.mem_of_getElem? hy
          obtain ⟨b2, off2, rfl, hSb2, e1, e2⟩ := (HRO.out wi HBi.out).get hy
          have hft := Lib.hid (fun w1 (hb : Below w.heap.size w w1) => ref5_fits xcA y.A xcc y.c xcl y.r (by rw [HXN.out]; omega) (by have := HRW.out y hmy; omega) w1 (HCO.out w1 hb) (((HRO.out w1 hb).rows y hmy).to fun k hk => Nat.lt_of_lt_of_le (HS.out k hk) hb.size))
          rw [HFI.out y hmy, HXN.out] at hft
          obtain ⟨yA, yc, yr, yk⟩ := y
          dsimp only at e1 hft
          generalize yr.length = yn at e1 hft
          have f1 := fun d os => cell_regrown d1 d os
          have f2 := fun d os => cell_regrown d2 d os
          have f3 := fun d os => cell_regrown e1 d os
          have HBA : Hid (∀ d os, Below w.heap.size w (grow (redrawn wi d) os)) := Lib.hid (fun d os => HBi.out.trans ((below_regrown _ d os).mono hsi))
          have C1 := Lib.hid (fun d os => Calls.regrown_of (hft.out _ (HBA.out d os)))
          clear hy hmy hSb2 hft e2
          go_wp2_with fail
          refine wp_region_quiet_below (by assumption) (by kernel_rfl) ?_
          repeat (quiet_step (first | (go_at_call 49; exact C1.out _ _)))
          refine wpQuiet_nil ?_
          intro _ hw'
          obtain ⟨⟨nq, osq⟩, hw''⟩ := hw'
          subst hw''
          have HB4 := Lib.hid (HBA.out nq osq)
          clear f1 f2 f3 HBA C1 d1 d2 e1
          generalize grow (redrawn wi nq) osq = wb at HB4 ⊢
          go_wp2_with fail
          go_roundw
          case rel => exact ⟨j + 1, by omega, by go_num, HB4.out⟩
          case measure => simp [intOf]; omega
        · obtain rfl : j = xm := by omega
          go_wp2_with fail
          go_roundw
          case rel => exact ⟨k + 1, by omega, by go_num, HBi.out⟩
          case measure => simp [intOf]; omega
    · obtain rfl : k = n := by omega
      go_wp2_with fail
      go_ret
      exact ⟨rfl, HB.out⟩
end Go.Proofs.YtajnnkapgnmoaaaGreat
