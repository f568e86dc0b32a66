/-
  confluenceref6.Make: each row where it belongs.
-/
import Derived.Test.YtajnnkapgnmoaaaGreatMw5
import Derived.Test.YtajnnkapgnmoaaaGreatMw6
import Derived.Test.YtajnnkapgnmoaaaGreatMw3
import Derived.Test.YtajnnkapgnmoaaaGreatMw0
import Derived.Lib.QuietBelow
import Derived.Deep.DeepCutAuto
import Derived.Test.YtajnnkapgnmoaaaGreatMw4
set_option linter.unusedVariables false
set_option linter.unusedSimpArgs false
set_option linter.unusedVariables false
set_option linter.unusedSimpArgs false
namespace Go.Proofs.YtajnnkapgnmoaaaGreat
open Go.RowKit Go.Sort

def rmDs : List (Option Tmp) := [some 106, some 107, some 108, some 109, some 110, some 111, some 112, some 113, some 114, some 115, some 116, some 117, some 118, some 119, some 120, some 121, some 122, some 123, some 124, some 125, some 126, some 13]
def rmMs : List Nat := [0, 0, 0, 6, 15, 0, 0, 0, 192, 448, 960, 2047, 0, 0, 12288, 28672, 61440, 131071, 262143, 524287, 1048575, 2097151]
def rmV (T vx v8 v3 vl vj vq p1 p2 : Value) : List Value := [undef, v8, vq, v3, undef, undef, vl, vj, p1, p1, vx, undef, vl, vj, p1, p2, T, T]
def rmR (W0 q xn : Nat) (tk : List Value) (xr : List V) (T vx v8 v3 vl vj vq p1 p2 : Value) (i : Nat) (v : Value) (w : World) : Prop := match i with
  | 0 => Empty w W0 47 v
  | 4 => w.ownsRow W0 47 2 v q tk
  | 5 => Empty w W0 49 v
  | 11 => ∃ A c, v = .slice A xn c ∧ w.ownsRow W0 49 3 (.slice A xn c) xn (flat xr)
  | 18 => ∃ A c, v = .agg #[.slice A xn c, T] ∧ w.ownsRow W0 49 3 (.slice A xn c) xn (flat xr)
  | 19 => ∃ g A c, v = .slice (some ⟨g, 0, none⟩) 1 1 ∧ W0 ≤ g ∧ w.heap[g]? = some (.cells #[.slice A xn c, T] 47 (0, 0)) ∧ w.ownsRow W0 49 3 (.slice A xn c) xn (flat xr)
  | i => v = (rmV T vx v8 v3 vl vj vq p1 p2).getD i undef
theorem rmR_mono (W0 q xn : Nat) (tk : List Value) (xr : List V) (T vx v8 v3 vl vj vq p1 p2 : Value) : ∀ i v w w', Below w.heap.size w w' → rmR W0 q xn tk xr T vx v8 v3 vl vj vq p1 p2 i v w → rmR W0 q xn tk xr T vx v8 v3 vl vj vq p1 p2 i v w' := by
  intro i v w w' hb h
  unfold rmR at h ⊢
  split at h
  · exact h.below hb
  · exact ownM_below h hb
  · exact h.below hb
  · obtain ⟨A, c, h1, h2⟩ := h; exact ⟨A, c, h1, ownM_below h2 hb⟩
  · obtain ⟨A, c, h1, h2⟩ := h; exact ⟨A, c, h1, ownM_below h2 hb⟩
  · obtain ⟨g, A, c, h1, h2, h3, h4⟩ := h
    exact ⟨g, A, c, h1, h2, (hb.block g (Array.getElem?_eq_some_iff.1 h3).1).trans h3, ownM_below h4 hb⟩
  · exact h
theorem rm11 {w : World} {W0 xn : Nat} {v : Value} {xr : List V} (h : w.ownsRow W0 49 3 v xn (flat xr)) : ∃ A c, v = .slice A xn c ∧ w.ownsRow W0 49 3 (.slice A xn c) xn (flat xr) := by
  obtain ⟨A, c, rfl, _⟩ := own_slice h
  exact ⟨A, c, rfl, h⟩
theorem rm_assign {P : Program} {o : Oper} {a : Act} (v' : Value) {w : World} {K : Act → World → Prop} {Q : Exit → Act → World → Prop} (h : a.tmps.size = 152) (ho : o.op = .assign (.tmp 126)) (hK : K ((a.put (some 126) v').put o.dst v') w) : o.wp P (a.put (some 126) v') w K Q := by
  have e : (a.put (some 126) v').eval (.tmp 126) = v' := by
    simp [Act.put, Act.eval, h]
  unfold Oper.wp execOp
  simp only [ho, Sem.run_pure, e]
  exact hK

set_option maxHeartbeats 8000000 in
set_option maxRecDepth 100000 in
theorem rmake_any (A : Option Addr) (c : Nat) (l : List IM) (w : World) {S : Nat → Prop} (hA : SRow w S A l) (hS : ∀ k, S k → k < w.heap.size) (hl : l.length ≤ 1000000) (hr : ∀ x ∈ l, rowOk x.r = true) (hv : vol (its l) ≤ 1125899906842624) :
    Calls Tryz.prog 28 #[.slice A l.length c] w fun e w' => (∃ A' c' s, e = .returned (.tuple #[.slice A' s.length c', .int .i64 0]) ∧ SetRet w (its l) w' A' c' s) ∧ Below w.heap.size w w' := by
  obtain ⟨i0, hi, hz0, hz1, hz2⟩ := info_parts item_info
  obtain ⟨i1, hi', hz0', hz1', hz2'⟩ := info_parts value_info
  have mixed : Tryz.prog.follows .mixedOrders = true := by kernel_rfl
  obtain ⟨n, hn⟩ : ∃ n, l.length = n := ⟨_, rfl⟩
  have HN := Lib.hid hn
  have HA := Lib.hid hA
  have HS := Lib.hid hS
  have HR := Lib.hid hr
  have HV := Lib.hid hv
  rw [hn] at hl ⊢
  clear hA hS hr hv hn
  go_enter Tryz.func28, Tryz.ntmps28
  go_wp2_with fail
  go_loopw [4] (fun i wr => ∃ k : Nat, k ≤ n ∧ i = .int .i64 k ∧ Below w.heap.size w wr) (fun i _ => n - (intOf i).toNat)
  case atStart => exact ⟨0, Nat.zero_le _, rfl, Below.refl _ _⟩
  case round =>
    obtain ⟨k, hk, rfl, hb⟩ := hrel
    have HB := Lib.hid hb
    have hs := hb.size
    clear hb
    by_cases hlt : k < n
    · obtain ⟨x, hx⟩ : ∃ x, l[k]? = some x := ⟨_, List.getElem?_eq_getElem (by rw [HN.out]; exact hlt)⟩
      obtain ⟨b, off, rfl, hSb, hc1, hc2⟩ := (HA.out.below HB.out HS.out).get hx
      have hm := List.mem_of_getElem? hx
      have hok := HR.out x hm
      have hkN : okN x.k := by have h1 := vol_le_of hm; have h2 := HV.out; unfold okN; omega
      have hq := Lib.hid (fun w1 (hb : Below w.heap.size w w1) => ref5_right x.A x.c x.r (by have := (rowOk_len hok).2; omega) w1 ((((HA.out.rows x hm).to HS.out).below hb).more hb.size))
      rw [show rowOk x.r = true from hok] at hq
      have ht := Lib.hid (fun w1 => rf_parts hkN w1)
      obtain ⟨xA, xc, xr, xk⟩ := x
      dsimp only at hc1 hc2 hq ht
      generalize xr.length = xn at hc1 hq
      generalize tal xk = T at hc2 ht
      generalize pos xk = p1 at ht
      generalize pos (-xk) = p2 at ht
      clear hx hm hok hkN hSb
      go_wp2_with (go_at_call 56; refine (ht.out _).mono ?_; rintro e w' ⟨rfl, rfl⟩)
      refine (hq.out _ HB.out).mono ?_
      rintro e w1 ⟨rfl, hb1⟩
      have HB1 := Lib.hid (HB.out.trans (hb1.mono hs))
      clear hb1
      go_wp2_with fail
      go_roundw
      case rel => exact ⟨k + 1, by omega, by go_num, HB1.out⟩
      case measure => simp [intOf]; omega
    · obtain rfl : k = n := by omega
      go_wp2_with fail
      go_loopw [8, 9] (fun v i wr => ∃ (j : Nat) (al : List IM), j ≤ k ∧ i = .int .i64 j ∧ wr.ownsRow w.heap.size 47 2 v al.length (flatM al) ∧ Below w.heap.size w wr ∧ al.length ≤ j ∧ Hid (∀ x ∈ al, VRowS wr (fun g => NewS w wr g ∧ v.ownBlock ≠ some g) x.A x.r) ∧ Hid (Ord (its al)) ∧ Hid (∀ r, look (its al) r = look (its (l.take j)) r) ∧ (al = [] → v = .slice none 0 0)) (fun _ i _ => k - (intOf i).toNat)
      case atStart => exact ⟨0, [], Nat.zero_le _, rfl, World.ownsRow_nil _ _ _ _, HB.out, Nat.le_refl _, Lib.hid (fun x hx => by simp at hx), Lib.hid Ord.nil, Lib.hid (fun r => by simp), fun _ => rfl⟩
      case round =>
        rename World => wo
        obtain ⟨j, al, hjk, rfl, hown, hbr, haj, HOR, HOD, HLK, hnil⟩ := hrel
        have HO := Lib.hid hown
        have HBO := Lib.hid hbr
        have hs2 := hbr.size
        clear hown hbr HB hs
        by_cases hlt : j < k
        · obtain ⟨x, hx⟩ : ∃ x, l[j]? = some x := ⟨_, List.getElem?_eq_getElem (by rw [HN.out]; exact hlt)⟩
          obtain ⟨b, off, rfl, hSb, hc1, hc2⟩ := (HA.out.below HBO.out HS.out).get hx
          have hbS := HS.out b hSb
          have hm := List.mem_of_getElem? hx
          have hok := HR.out x hm
          have hx6 := (rowOk_len hok).2
          have hkN : okN x.k := by have h1 := vol_le_of hm; have h2 := HV.out; unfold okN; omega
          have HXO := Lib.hid hok
          have HXR := Lib.hid ((HA.out.rows x hm).to HS.out)
          have HTK : Hid (its (l.take (j + 1)) = its (l.take j) ++ [(x.r, x.k)]) := Lib.hid (by
            obtain ⟨h1, e1⟩ := List.getElem?_eq_some_iff.1 hx
            rw [List.take_succ_eq_append_getElem h1, its_append, e1]
            rfl)
          have HVB : Hid (∀ al' : List IM, Ord (its al') → (∀ r, look (its al') r = look (its (l.take (j + 1))) r) → vol (its al') ≤ 1125899906842624) := Lib.hid (fun al' h1 h2 => Int.le_trans (SetOk.vol_le h1 h2) (Int.le_trans (vol_take_le l (j + 1)) HV.out))
          have HVA : Hid (vol (its al) ≤ 1125899906842624) := Lib.hid (Int.le_trans (SetOk.vol_le HOD.out HLK.out) (Int.le_trans (vol_take_le l j) HV.out))
          obtain ⟨xA, xc, xr, xk⟩ := x
          dsimp only at hc1 hc2 hkN hx6 HXO HXR HTK
          obtain ⟨xn, hxn⟩ : ∃ xn, xr.length = xn := ⟨_, rfl⟩
          have HXN := Lib.hid hxn
          rw [hxn] at hc1 hx6
          have HKN := Lib.hid hkN
          clear hx hm hok hSb hxn hkN
          obtain ⟨m, hm⟩ : ∃ m, al.length = m := ⟨_, rfl⟩
          have HM := Lib.hid hm
          rw [hm] at haj HO
          clear hm
          rcases Nat.eq_zero_or_pos m with hm0 | hm0
          · subst hm0
            obtain rfl : al = [] := List.eq_nil_of_length_eq_zero HM.out
            obtain rfl := hnil rfl
            have h00 : decide (((0 : Nat) : Int) < ((0 : Nat) : Int)) = false := rfl
            have h01 : decide ((0 : Int) < (0 : Int)) = false := rfl
            go_wp2_with fail
            refine wp_loop_rounds 1 ?_
            rw [rounds_succ]
            go_upto_region 12 with (fail)
            go_cut [65] (fun sb wx => sb = .bool false ∧ RowKit.Below wo.heap.size wo wx)
            case first =>
              refine wp_region_quiet_below (by assumption) (by kernel_rfl) ?_
              iterate 5 (quiet_step (first | (fail)))
              iterate 11 (with_reducible (refine wpQuiet_skip ?_ ?_); kernel_rfl; simp only [Act.put, List.setIfInBounds_toArray, List.set_cons_zero, List.set_cons_succ])
              iterate 1 (quiet_step (first | (fail)))
              refine wpQuiet_nil ?_
              intro _ hw'
              obtain ⟨⟨nq, osq⟩, hw''⟩ := hw'
              subst hw''
              have HB3 := Lib.hid (below_regrown wo nq osq)
              generalize Sort.grow (redrawn wo nq) osq = wb at HB3 ⊢
              go_wp2_with fail
              go_meet
              exact ⟨rfl, HB3.out⟩
            case rest =>
            obtain ⟨rfl, hbx⟩ := hcut
            rename World => wd
            have HBX := Lib.hid hbx
            have hsx := hbx.size
            clear hbx
            go_upto_region 14 with (fail)
            go_cut [84] (fun sb wx => sb = .bool false ∧ RowKit.Below wo.heap.size wo wx)
            case first =>
              refine wp_region_quiet_below (by assumption) (by kernel_rfl) ?_
              iterate 5 (quiet_step (first | (fail)))
              iterate 11 (with_reducible (refine wpQuiet_skip ?_ ?_); kernel_rfl; simp only [Act.put, List.setIfInBounds_toArray, List.set_cons_zero, List.set_cons_succ])
              iterate 1 (quiet_step (first | (fail)))
              refine wpQuiet_nil ?_
              intro _ hw'
              obtain ⟨⟨nq, osq⟩, hw''⟩ := hw'
              subst hw''
              have HB3 := Lib.hid (HBX.out.trans ((below_regrown wd nq osq).mono hsx))
              generalize Sort.grow (redrawn wd nq) osq = wb at HB3 ⊢
              go_wp2_with fail
              go_meet
              exact ⟨rfl, HB3.out⟩
            case rest =>
            obtain ⟨rfl, hbx⟩ := hcut
            rename World => we
            have HBE := Lib.hid hbx
            have hse := hbx.size
            have hce1 := (hbx.cell (show b < wo.heap.size by omega)).trans hc1
            have hce2 := (hbx.cell (show b < wo.heap.size by omega)).trans hc2
            clear hbx HBX hsx
            have HIN : Hid (∀ x' : IM, x'.r = xr → x'.k = xk → Ord (its (insM [] 0 x')) ∧ ∀ r, look (its (insM [] 0 x')) r = look (its (l.take (j + 1))) r) := Lib.hid (fun x' e1 e2 => ⟨HOD.out.ins (by rw [e1]; exact HXO.out) (fun y hy => by simp at hy) rfl rfl, fun r => by rw [look_ins, HLK.out r, HTK.out, look_append, look_one, e1, e2]⟩)
            have HRD : Hid (∀ w1, RowKit.Below we.heap.size we w1 → Reads w1 w1.heap.size 2 none 0 (flatM (([] : List IM).take 0))) := Lib.hid (fun w1 h => Reads.none_)
            have HRD4 : Hid (∀ w1 : World, Reads w1 w1.heap.size 2 none 0 (flatM (([] : List IM).drop 0))) := Lib.hid (fun w1 => Reads.none_)
            clear HLK HOD h00 h01
            obtain ⟨TX, TY, hT⟩ : ∃ TX TY, tal xk = .complex .f64 TX TY := ⟨_, _, rfl⟩
            have hrd := Lib.hid (fun w1 => rf_reduce HKN.out w1)
            rw [hT] at hce2 hrd
            have HT := Lib.hid hT
            have HBE0 := Lib.hid (HBO.out.trans (HBE.out.mono hs2))
            clear hT
            have HCX : Hid (∀ w1, RowKit.Below we.heap.size we w1 → w1.cell? ⟨b, off + j * 2, none⟩ = some (.slice xA xn xc)) := Lib.hid (fun w1 h => (h.cell (show b < we.heap.size by omega)).trans hce1)
            have HCT : Hid (∀ w1, RowKit.Below we.heap.size we w1 → w1.cell? ⟨b, off + j * 2 + 1, none⟩ = some (.complex .f64 TX TY)) := Lib.hid (fun w1 h => (h.cell (show b < we.heap.size by omega)).trans hce2)
            have HRX : Hid (∀ w1, RowKit.Below we.heap.size we w1 → Reads w1 w1.heap.size 3 xA xn (flat xr)) := Lib.hid (fun w1 h => by
              have := (((HXR.out.below (HBE0.out.trans (h.mono (by omega)))).more (B' := w1.heap.size) (by have := h.size; omega))).reads
              rw [HXN.out] at this
              exact this)
            clear hce1 hce2 hc1 hc2
            go_upto_region 19 with (fail)
            refine EachKit.region_first (L := 20) (F := 2) (LL := #[true, true, true, true, true, true, true, true, true, true, true, true, true, true, true, true, true, true, true, true, false, false]) (R := rmR we.heap.size 0 xn (flatM (([] : List IM).take 0)) xr (.complex .f64 TX TY) (.slice xA xn xc) (.slice none 0 0) (.slice none 0 0) (.slice (some ⟨b, off, none⟩) k c) (.int .i64 (j : Nat)) (.int .i64 0) (.pointer (some ⟨b, off + j * 2, none⟩)) (.pointer (some ⟨b, off + j * 2 + 1, none⟩))) (ds := rmDs) (MS := rmMs) mixed (by kernel_rfl) (by kernel_rfl) (by kernel_rfl) (by kernel_rfl) (by kernel_rfl) (by kernel_rfl) rfl (by kernel_rfl) (by kernel_rfl) (rmR_mono _ _ _ _ _ _ _ _ _ _ _ _ _ _)
              (fun a0 => a0.tmps.getD 0 undef = .slice (some ⟨b, off, none⟩) k c ∧ a0.tmps.getD 8 undef = .slice none 0 0 ∧ a0.tmps.getD 9 undef = .int .i64 (j : Nat) ∧ a0.tmps.getD 10 undef = .int .i64 0) ⟨rfl, rfl, rfl, rfl⟩ ?_ ?_
            · intro hds Q' a0 ⟨og0, og8, og9, og10⟩
              refine EachKit.Each.cons (fun _ => EachKit.OpGoal.free rfl (fun a1 w1 hB hL1 hk K hK => ?_)) ?_
              · clear hk hL1
                go_simp
                exact hK _ _ ((Below.refl _ _).alloc (Nat.le_refl _) _) ⟨w1.heap.size, rfl, hB.size, heap_alloc_new w1 _⟩
              refine EachKit.Each.cons (fun _ => EachKit.OpGoal.free rfl (fun a1 w1 hB hL1 hk K hK => ?_)) ?_
              · have s8 : a1.tmps.getD 8 undef = .slice none 0 0 := hL1.old rfl og8
                clear hk hL1
                go_simp
                exact hK _ _ (Below.refl _ _) rfl
              refine EachKit.Each.cons (fun _ => EachKit.OpGoal.free rfl (fun a1 w1 hB hL1 hk K hK => ?_)) ?_
              · have s10 : a1.tmps.getD 10 undef = .int .i64 0 := hL1.old rfl og10
                clear hk hL1
                go_simp
                exact hK _ _ (Below.refl _ _) rfl
              refine EachKit.Each.cons (fun _ => EachKit.OpGoal.free rfl (fun a1 w1 hB hL1 hk K hK => ?_)) ?_
              · have s107 : a1.tmps.getD 107 undef = .slice none 0 0 := (hk 1 rfl).is rfl (fun _ h => h)
                have s108 : a1.tmps.getD 108 undef = .int .i64 0 := (hk 2 rfl).is rfl (fun _ h => h)
                clear hk hL1
                go_simp
                exact hK _ _ (Below.refl _ _) rfl
              refine EachKit.Each.cons (fun _ => EachKit.OpGoal.free rfl (fun a1 w1 hB hL1 hk K hK => ?_)) ?_
              · obtain ⟨v106, s106, hE⟩ := (hk 0 rfl).slot rfl
                have s109 : a1.tmps.getD 109 undef = .slice none 0 0 := (hk 3 rfl).is rfl (fun _ h => h)
                exact wp_append_empty w1 (.tmp 106) (.tmp 109) 42 rfl we.heap.size 47 i0 _ 2 40 Tryz.underlying42 hi hz0 hz1 hz2 rfl (by decide) v106 s106 hE _ _ _ _ _ s109 (HRD.out w1 hB) (flatM_ones _) (by unfold maxLen; omega) (by omega) hB.size (fun v' w' h2 h3 => hK _ _ h3 h2)
              refine EachKit.Each.cons (fun _ => EachKit.OpGoal.free rfl (fun a1 w1 hB hL1 hk K hK => ?_)) ?_
              · clear hk hL1
                go_simp
                exact hK _ _ ((Below.refl _ _).alloc (Nat.le_refl _) _) ⟨w1.heap.size, rfl, hB.size, heap_alloc_new w1 _⟩
              refine EachKit.Each.cons (fun _ => EachKit.OpGoal.free rfl (fun a1 w1 hB hL1 hk K hK => ?_)) ?_
              · have s0 : a1.tmps.getD 0 undef = .slice (some ⟨b, off, none⟩) k c := hL1.old rfl og0
                clear hk hL1
                go_simp
                exact hK _ _ (Below.refl _ _) rfl
              refine EachKit.Each.cons (fun _ => EachKit.OpGoal.free rfl (fun a1 w1 hB hL1 hk K hK => ?_)) ?_
              · have s9 : a1.tmps.getD 9 undef = .int .i64 (j : Nat) := hL1.old rfl og9
                clear hk hL1
                go_simp
                exact hK _ _ (Below.refl _ _) rfl
              refine EachKit.Each.cons (fun _ => EachKit.OpGoal.free rfl (fun a1 w1 hB hL1 hk K hK => ?_)) ?_
              · have s112 : a1.tmps.getD 112 undef = .slice (some ⟨b, off, none⟩) k c := (hk 6 rfl).is rfl (fun _ h => h)
                have s113 : a1.tmps.getD 113 undef = .int .i64 (j : Nat) := (hk 7 rfl).is rfl (fun _ h => h)
                clear hk hL1
                go_simp
                exact hK _ _ (Below.refl _ _) rfl
              refine EachKit.Each.cons (fun _ => EachKit.OpGoal.free rfl (fun a1 w1 hB hL1 hk K hK => ?_)) ?_
              · have s114 : a1.tmps.getD 114 undef = .pointer (some ⟨b, off + j * 2, none⟩) := (hk 8 rfl).is rfl (fun _ h => h)
                clear hk hL1
                go_simp
                exact hK _ _ (Below.refl _ _) rfl
              refine EachKit.Each.cons (fun _ => EachKit.OpGoal.free rfl (fun a1 w1 hB hL1 hk K hK => ?_)) ?_
              · have s115 : a1.tmps.getD 115 undef = .pointer (some ⟨b, off + j * 2, none⟩) := (hk 9 rfl).is rfl (fun _ h => h)
                have cx1 := HCX.out w1 hB
                clear hk hL1
                go_simp
                exact hK _ _ (Below.refl _ _) rfl
              refine EachKit.Each.cons (fun _ => EachKit.OpGoal.free rfl (fun a1 w1 hB hL1 hk K hK => ?_)) ?_
              · obtain ⟨v111, s111, hE⟩ := (hk 5 rfl).slot rfl
                have s116 : a1.tmps.getD 116 undef = .slice xA xn xc := (hk 10 rfl).is rfl (fun _ h => h)
                exact wp_append_empty w1 (.tmp 111) (.tmp 116) 26 rfl we.heap.size 49 i1 _ 3 32 Tryz.underlying26 hi' hz0' hz1' hz2' rfl (by decide) v111 s111 hE _ _ _ _ _ s116 (HRX.out w1 hB) (flat_ones _) (by unfold maxLen; omega) (by omega) hB.size (fun v' w' h2 h3 => hK _ _ h3 (rm11 h2))
              refine EachKit.Each.cons (fun _ => EachKit.OpGoal.free rfl (fun a1 w1 hB hL1 hk K hK => ?_)) ?_
              · have s0 : a1.tmps.getD 0 undef = .slice (some ⟨b, off, none⟩) k c := hL1.old rfl og0
                clear hk hL1
                go_simp
                exact hK _ _ (Below.refl _ _) rfl
              refine EachKit.Each.cons (fun _ => EachKit.OpGoal.free rfl (fun a1 w1 hB hL1 hk K hK => ?_)) ?_
              · have s9 : a1.tmps.getD 9 undef = .int .i64 (j : Nat) := hL1.old rfl og9
                clear hk hL1
                go_simp
                exact hK _ _ (Below.refl _ _) rfl
              refine EachKit.Each.cons (fun _ => EachKit.OpGoal.free rfl (fun a1 w1 hB hL1 hk K hK => ?_)) ?_
              · have s118 : a1.tmps.getD 118 undef = .slice (some ⟨b, off, none⟩) k c := (hk 12 rfl).is rfl (fun _ h => h)
                have s119 : a1.tmps.getD 119 undef = .int .i64 (j : Nat) := (hk 13 rfl).is rfl (fun _ h => h)
                clear hk hL1
                go_simp
                exact hK _ _ (Below.refl _ _) rfl
              refine EachKit.Each.cons (fun _ => EachKit.OpGoal.free rfl (fun a1 w1 hB hL1 hk K hK => ?_)) ?_
              · have s120 : a1.tmps.getD 120 undef = .pointer (some ⟨b, off + j * 2, none⟩) := (hk 14 rfl).is rfl (fun _ h => h)
                clear hk hL1
                go_simp
                exact hK _ _ (Below.refl _ _) rfl
              refine EachKit.Each.cons (fun _ => EachKit.OpGoal.free rfl (fun a1 w1 hB hL1 hk K hK => ?_)) ?_
              · have s121 : a1.tmps.getD 121 undef = .pointer (some ⟨b, off + j * 2 + 1, none⟩) := (hk 15 rfl).is rfl (fun _ h => h)
                have cx2 := HCT.out w1 hB
                clear hk hL1
                go_simp
                exact hK _ _ (Below.refl _ _) rfl
              refine EachKit.Each.cons (fun _ => EachKit.OpGoal.free rfl (fun a1 w1 hB hL1 hk K hK => ?_)) ?_
              · have s122 : a1.tmps.getD 122 undef = .complex .f64 TX TY := (hk 16 rfl).is rfl (fun _ h => h)
                clear hk hL1
                go_simp
                refine (hrd.out _).mono ?_
                rintro e w2 ⟨rfl, rfl⟩
                exact hK _ _ (Below.refl _ _) rfl
              refine EachKit.Each.cons (fun _ => EachKit.OpGoal.free rfl (fun a1 w1 hB hL1 hk K hK => ?_)) ?_
              · obtain ⟨v117, s117, A5, c5, rfl, hO5⟩ := (hk 11 rfl).slot rfl
                have s123 : a1.tmps.getD 123 undef = .complex .f64 TX TY := (hk 17 rfl).is rfl (fun _ h => h)
                have s117' := s117
                rw [Array.getD_eq_getD_getElem?] at s117'
                have s123' := s123
                rw [Array.getD_eq_getD_getElem?] at s123'
                clear hk hL1
                go_simp
                exact hK _ _ (Below.refl _ _) ⟨A5, c5, rfl, hO5⟩
              refine EachKit.Each.cons (fun _ => EachKit.OpGoal.free rfl (fun a1 w1 hB hL1 hk K hK => ?_)) ?_
              · obtain ⟨v124, s124, A5, c5, rfl, hO5⟩ := (hk 18 rfl).slot rfl
                have s124' := s124
                rw [Array.getD_eq_getD_getElem?] at s124'
                clear hk hL1
                go_simp
                exact hK _ _ ((Below.refl _ _).alloc (Nat.le_refl _) _) ⟨w1.heap.size, A5, c5, rfl, hB.size, heap_alloc_new w1 _, ownM_below hO5 ((Below.refl _ _).alloc (Nat.le_refl _) _)⟩
              refine EachKit.Each.cons (fun h => absurd h (by decide)) ?_
              refine EachKit.Each.cons (fun h => absurd h (by decide)) ?_
              exact trivial
            · rintro a' w1 hB hL1 hk
              obtain ⟨v110, s110, hO4⟩ := (hk 4 (by decide)).slot rfl
              obtain ⟨v125, s125, g5, A5, c5, rfl, hg5, hb5, hO5⟩ := (hk 19 (by decide)).slot rfl
              have hsz : a'.tmps.size = 152 := hL1.size.trans rfl
              have HO4 : Hid (w1.ownsRow we.heap.size 47 2 v110 0 (flatM (([] : List IM).take 0))) := Lib.hid hO4
              have HO5 : Hid (w1.ownsRow we.heap.size 49 3 (.slice A5 xn c5) xn (flat xr)) := Lib.hid hO5
              have HBW := Lib.hid hB
              have hwW := hB.size
              obtain ⟨u, hu⟩ := hL1.form
              clear hk hO4 hO5 hL1
              refine wpAny_one (i := 20) (by kernel_rfl) rfl (fun K hK => ?_)
              refine step_append_any w1 rfl (.tmp 110) (.tmp 125) 42 rfl we.heap.size 47 i0 _ 2 40 Tryz.underlying42 hi hz0 hz1 hz2 rfl (by decide) v110 0 _ s110 HO4.out (w1.heap.size) _ _ _ [.slice A5 xn c5, .complex .f64 TX TY] s125 ⟨rfl, fun _ => ⟨_, rfl, (Array.getElem?_eq_some_iff.1 hb5).1, World.news_of_block hb5⟩⟩ ?e1 ?e2 ?e3 hwW (fun v' w2 hown2 hgrow2 hat2 => ?_)
              case e1 => intro u hu; simp only [List.mem_cons, List.not_mem_nil, or_false] at hu; rcases hu with rfl | rfl <;> rfl
              case e2 => unfold maxLen; omega
              case e3 => omega
              refine hK _ _ ?_
              clear hK K s110 s125
              refine wpAny_one (i := 21) (by kernel_rfl) rfl (fun K hK => ?_)
              rw [if_pos (by rfl)]
              refine rm_assign v' hsz rfl (hK _ _ ?_)
              clear hK K hsz
              refine wpAny_done (by kernel_rfl) ?_ _
              subst hu
              simp only [rmDs, EachKit.setU, Act.put, List.getElem_toArray, List.getElem_cons_succ, List.getElem_cons_zero, List.setIfInBounds_toArray, List.set_cons_zero, List.set_cons_succ]
              have HBW2 := Lib.hid ((HBE.out.trans (HBW.out.mono hse)).grown hgrow2 (by omega) (fun k h => by have := (HO4.out.lt k h).1; omega))
              have hw2 := hgrow2.size
              have HG2 := Lib.hid hgrow2
              have HW2 := Lib.hid hown2
              have HA2 := Lib.hid hat2
              have h0x : 0 < xn := by rw [← HXN.out]; exact (rowOk_len HXO.out).1
              clear hrd hown2 hgrow2 hat2 hb5 hg5 hB HCX HCT HRX HRD
              go_wp2_with (at_builtin; refine wpList_append_any _ rfl _ _ 42 rfl we.heap.size 47 i0 _ 2 40 Tryz.underlying42 hi hz0 hz1 hz2 rfl (by decide) _ _ _ rfl HW2.out w2.heap.size _ _ _ (flatM (([] : List IM).drop 0)) rfl (HRD4.out w2) ?c1 ?c2 ?c3 ?c4 ?_)
              case c1 => exact flatM_ones _
              case c2 => unfold maxLen; omega
              case c3 => omega
              case c4 => omega
              intro v'' w3 hown3 hgrow3 hat3
              obtain ⟨x', ex'⟩ : ∃ x' : IM, x' = ⟨A5, c5, xr, xk⟩ := ⟨_, rfl⟩
              obtain ⟨hi1, hi2⟩ := HIN.out x' (by rw [ex']) (by rw [ex'])
              obtain ⟨hr1, hr2, hr3⟩ := ins_rows (q := 0) (x' := x') (al := []) (by decide : (47 : TypeId) ≠ 49) HOR.out hs2 hse (HBE.out.trans (HBW.out.mono hse)) HO4.out (by rw [ex']; exact HO5.out) (by rw [ex']; exact HXN.out) h0x hwW HG2.out HA2.out hgrow3 hat3
              have hin : (insM [] 0 x').length = 0 + 1 := by rw [insM_len [] 0 x' (Nat.le_refl 0)]; rfl
              have HO6 : Hid (w3.ownsRow w.heap.size 47 2 v'' (insM [] 0 x').length (flatM (insM [] 0 x'))) := Lib.hid (by
                have e1 : flatM (insM [] 0 x') = (flatM (([] : List IM).take 0) ++ [.slice A5 xn c5, .complex .f64 TX TY]) ++ flatM (([] : List IM).drop 0) := by
                  unfold insM
                  rw [flatM_append, flatM_append, flatM_one, ex']
                  simp only [IM.cs, HXN.out, HT.out]
                rw [e1, hin, show 0 + 1 = 0 + 1 + 0 by omega, List.append_assoc]
                exact hown3.mono (by omega))
              have HR6 := Lib.hid hr1
              have HI1 := Lib.hid hi1
              have HI2 := Lib.hid hi2
              have HB6 : Hid (RowKit.Below w.heap.size w w3) := Lib.hid (HBO.out.trans (hr2.mono hs2))
              clear hown3 hgrow3 hat3 hr1 hr2 hr3 hi1 hi2 ex' HIN HRD4 HBW2 HG2 HW2 HA2 HO4 HO5 HBW hwW hw2
              generalize insM [] 0 x' = al2 at HO6 HR6 HI1 HI2 hin
              go_wp2_with fail
              go_roundw
              case rel => exact ⟨j + 1, al2, by omega, by go_num, HO6.out, HB6.out, by omega, HR6, HI1, HI2, fun h => by rw [h] at hin; simp at hin⟩
              case measure => simp [intOf]; omega
          · obtain ⟨g8, cap8, rfl, hg1, hg2⟩ := HO.out.form hm0
            have hmc : m ≤ cap8 := by
              obtain ⟨A', c', hv, hc⟩ := own_slice HO.out
              simp only [Value.slice.injEq, true_and] at hv
              omega
            have HCE : Hid (∀ q y, al[q]? = some y → wo.cell? ⟨g8, q * 2, none⟩ = some (.slice y.A y.r.length y.c) ∧ wo.cell? ⟨g8, q * 2 + 1, none⟩ = some (tal y.k)) := Lib.hid (fun q y hy => own_cells HO.out hy)
            go_wp2_with fail
            go_loopw [10] (fun i wq => ∃ q : Nat, q ≤ m ∧ i = .int .i64 q ∧ RowKit.Below wo.heap.size wo wq ∧ Hid (∀ y ∈ al.take q, cmpR y.r xr < 0)) (fun i _ => m - (intOf i).toNat)
            case atStart => exact ⟨0, Nat.zero_le _, rfl, Below.refl _ _, Lib.hid (fun y hy => by simp at hy)⟩
            case round =>
              rename World => wq
              obtain ⟨q, hqm, rfl, hbq, HTL⟩ := hrel
              have HBQ := Lib.hid hbq
              have hsq := hbq.size
              have hcq1 := (hbq.cell (show b < wo.heap.size by omega)).trans hc1
              clear hbq
              go_upto_region 12 with (fail)
              go_cut [65] (fun sb wx => sb = .bool (lessB al q xr) ∧ RowKit.Below wo.heap.size wo wx)
              case first =>
                by_cases hq2 : q < m
                · obtain ⟨y, hy⟩ : ∃ y, al[q]? = some y := ⟨_, List.getElem?_eq_getElem (by rw [HM.out]; exact hq2)⟩
                  have hy1 := (HBQ.out.cell (show g8 < wo.heap.size from hg2)).trans (HCE.out q y hy).1
                  have hmy := List.mem_of_getElem? hy
                  have hyo := HOD.out.rows y.it (List.mem_map.2 ⟨y, hmy, rfl⟩)
                  have hy6 := (rowOk_len hyo).2
                  have HYR := Lib.hid ((HOR.out y hmy).to (B := wo.heap.size) (fun g hg => hg.1.2.1))
                  have hcl := Lib.hid (fun w3 (hb : RowKit.Below wo.heap.size wo w3) => ref5_less_in y.A xA y.c xc y.r xr (by have : y.it.1 = y.r := rfl; rw [this] at hy6; omega) (by rw [HXN.out]; omega) w3 ((HYR.out.below hb).more hb.size) ((HXR.out.below (HBO.out.trans (hb.mono hs2))).more (by have := hb.size; omega)))
                  rw [HXN.out] at hcl
                  have HM2 : Hid (lessB al q xr = rowLess y.r xr) := Lib.hid (by unfold lessB; rw [hy])
                  generalize rowLess y.r xr = qb at hcl HM2
                  obtain ⟨yA, yc, yr, yk⟩ := y
                  dsimp only at hy1 hcl
                  generalize yr.length = yn at hy1 hcl
                  have e1 := fun d os => cell_regrown hcq1 d os
                  have e2 := fun d os => cell_regrown hy1 d os
                  have C1 := Lib.hid (fun d os => Calls.regrown_of (hcl.out _ (HBQ.out.trans ((below_regrown wq d os).mono hsq))))
                  clear hy hmy hyo hy6 hcl hcq1 hy1 HYR
                  refine wp_region_quiet_below (by assumption) (by kernel_rfl) ?_
                  repeat (quiet_step (first | (go_at_call 58; exact C1.out _ _)))
                  refine wpQuiet_nil ?_
                  intro _ hw'
                  obtain ⟨⟨nq, osq⟩, hw''⟩ := hw'
                  subst hw''
                  have HB3 := Lib.hid (HBQ.out.trans ((below_regrown wq nq osq).mono hsq))
                  clear e1 e2 C1
                  generalize Sort.grow (redrawn wq nq) osq = wb at HB3 ⊢
                  go_wp2_with fail
                  go_meet
                  exact ⟨by rw [HM2.out], HB3.out⟩
                · obtain rfl : q = m := by omega
                  have HM2 : Hid (lessB al q xr = false) := Lib.hid (by unfold lessB; rw [List.getElem?_eq_none (by rw [HM.out]; exact Nat.le_refl _)])
                  have hqz : decide ((q : Int) < (q : Int)) = false := decide_eq_false (by omega)
                  refine wp_region_quiet_below (by assumption) (by kernel_rfl) ?_
                  iterate 5 (quiet_step (first | (fail)))
                  iterate 11 (with_reducible (refine wpQuiet_skip ?_ ?_); kernel_rfl; simp only [Act.put, List.setIfInBounds_toArray, List.set_cons_zero, List.set_cons_succ])
                  iterate 1 (quiet_step (first | (fail)))
                  refine wpQuiet_nil ?_
                  intro _ hw'
                  obtain ⟨⟨nq, osq⟩, hw''⟩ := hw'
                  subst hw''
                  have HB3 := Lib.hid (HBQ.out.trans ((below_regrown wq nq osq).mono hsq))
                  generalize Sort.grow (redrawn wq nq) osq = wb at HB3 ⊢
                  go_wp2_with fail
                  go_meet
                  exact ⟨by rw [HM2.out], HB3.out⟩
              case rest =>
              obtain ⟨rfl, hbx⟩ := hcut
              rename World => wd
              have HBX := Lib.hid hbx
              have hsx := hbx.size
              clear hbx HBQ hsq hcq1
              cases hLB : lessB al q xr
              · have hcd1 := (HBX.out.cell (show b < wo.heap.size by omega)).trans hc1
                go_upto_region 14 with (fail)
                go_cut [84] (fun sb wx => sb = .bool (moreB al q xr) ∧ RowKit.Below wo.heap.size wo wx)
                case first =>
                  by_cases hq2 : q < m
                  · obtain ⟨y, hy⟩ : ∃ y, al[q]? = some y := ⟨_, List.getElem?_eq_getElem (by rw [HM.out]; exact hq2)⟩
                    have hy1 := (HBX.out.cell (show g8 < wo.heap.size from hg2)).trans (HCE.out q y hy).1
                    have hmy := List.mem_of_getElem? hy
                    have hyo := HOD.out.rows y.it (List.mem_map.2 ⟨y, hmy, rfl⟩)
                    have hy6 := (rowOk_len hyo).2
                    have HYR := Lib.hid ((HOR.out y hmy).to (B := wo.heap.size) (fun g hg => hg.1.2.1))
                    have hcl := Lib.hid (fun w3 (hb : RowKit.Below wo.heap.size wo w3) => ref5_same y.A xA y.c xc y.r xr (by have : y.it.1 = y.r := rfl; rw [this] at hy6; omega) (by rw [HXN.out]; omega) w3 ((HYR.out.below hb).more hb.size) ((HXR.out.below (HBO.out.trans (hb.mono hs2))).more (by have := hb.size; omega)))
                    rw [HXN.out] at hcl
                    have HM2 : Hid (moreB al q xr = rowSame y.r xr) := Lib.hid (by unfold moreB; rw [hy])
                    generalize rowSame y.r xr = qb at hcl HM2
                    obtain ⟨yA, yc, yr, yk⟩ := y
                    dsimp only at hy1 hcl
                    generalize yr.length = yn at hy1 hcl
                    have e1 := fun d os => cell_regrown hcd1 d os
                    have e2 := fun d os => cell_regrown hy1 d os
                    have C1 := Lib.hid (fun d os => Calls.regrown_of (hcl.out _ (HBX.out.trans ((below_regrown wd d os).mono hsx))))
                    clear hy hmy hyo hy6 hcl hcd1 hy1 HYR
                    refine wp_region_quiet_below (by assumption) (by kernel_rfl) ?_
                    repeat (quiet_step (first | (go_at_call 59; exact C1.out _ _)))
                    refine wpQuiet_nil ?_
                    intro _ hw'
                    obtain ⟨⟨nq, osq⟩, hw''⟩ := hw'
                    subst hw''
                    have HB3 := Lib.hid (HBX.out.trans ((below_regrown wd nq osq).mono hsx))
                    clear e1 e2 C1
                    generalize Sort.grow (redrawn wd nq) osq = wb at HB3 ⊢
                    go_wp2_with fail
                    go_meet
                    exact ⟨by rw [HM2.out], HB3.out⟩
                  · obtain rfl : q = m := by omega
                    have HM2 : Hid (moreB al q xr = false) := Lib.hid (by unfold moreB; rw [List.getElem?_eq_none (by rw [HM.out]; exact Nat.le_refl _)])
                    have hqz : decide ((q : Int) < (q : Int)) = false := decide_eq_false (by omega)
                    refine wp_region_quiet_below (by assumption) (by kernel_rfl) ?_
                    iterate 5 (quiet_step (first | (fail)))
                    iterate 11 (with_reducible (refine wpQuiet_skip ?_ ?_); kernel_rfl; simp only [Act.put, List.setIfInBounds_toArray, List.set_cons_zero, List.set_cons_succ])
                    iterate 1 (quiet_step (first | (fail)))
                    refine wpQuiet_nil ?_
                    intro _ hw'
                    obtain ⟨⟨nq, osq⟩, hw''⟩ := hw'
                    subst hw''
                    have HB3 := Lib.hid (HBX.out.trans ((below_regrown wd nq osq).mono hsx))
                    generalize Sort.grow (redrawn wd nq) osq = wb at HB3 ⊢
                    go_wp2_with fail
                    go_meet
                    exact ⟨by rw [HM2.out], HB3.out⟩
                case rest =>
                obtain ⟨rfl, hbx⟩ := hcut
                rename World => we
                have HBE := Lib.hid hbx
                have hse := hbx.size
                have hce1 := (hbx.cell (show b < wo.heap.size by omega)).trans hc1
                have hce2 := (hbx.cell (show b < wo.heap.size by omega)).trans hc2
                clear hbx HBX hsx hcd1
                cases hMB : moreB al q xr
                · have HIN : Hid (∀ x' : IM, x'.r = xr → x'.k = xk → Ord (its (insM al q x')) ∧ ∀ r, look (its (insM al q x')) r = look (its (l.take (j + 1))) r) := Lib.hid (fun x' e1 e2 => ⟨HOD.out.ins (by rw [e1]; exact HXO.out) (by rw [e1]; exact HTL.out) (by rw [e1]; exact hLB) (by rw [e1]; exact hMB), fun r => by rw [look_ins, HLK.out r, HTK.out, look_append, look_one, e1, e2]⟩)
                  have HRD : Hid (∀ w1, RowKit.Below we.heap.size we w1 → Reads w1 w1.heap.size 2 (some ⟨g8, 0, none⟩) q (flatM (al.take q))) := Lib.hid (fun w1 h => (own_reads (ownM_below HO.out (HBE.out.trans (h.mono hse))) HM.out hqm _ (by have := h.size; omega)).1)
                  have HRD2 : Hid (∀ w1, RowKit.Below wo.heap.size wo w1 → Reads w1 w1.heap.size 2 (some ⟨g8, q * 2, none⟩) (m - q) (flatM (al.drop q))) := Lib.hid (fun w1 h => (own_reads (ownM_below HO.out h) HM.out hqm _ (by have := h.size; omega)).2)
                  clear hLB hMB HTL HLK HOD
                  obtain ⟨TX, TY, hT⟩ : ∃ TX TY, tal xk = .complex .f64 TX TY := ⟨_, _, rfl⟩
                  have hqc : q ≤ cap8 := by omega
                  have hrd := Lib.hid (fun w1 => rf_reduce HKN.out w1)
                  rw [hT] at hce2 hrd
                  have HT := Lib.hid hT
                  have HBE0 := Lib.hid (HBO.out.trans (HBE.out.mono hs2))
                  clear hT
                  have HCX : Hid (∀ w1, RowKit.Below we.heap.size we w1 → w1.cell? ⟨b, off + j * 2, none⟩ = some (.slice xA xn xc)) := Lib.hid (fun w1 h => (h.cell (show b < we.heap.size by omega)).trans hce1)
                  have HCT : Hid (∀ w1, RowKit.Below we.heap.size we w1 → w1.cell? ⟨b, off + j * 2 + 1, none⟩ = some (.complex .f64 TX TY)) := Lib.hid (fun w1 h => (h.cell (show b < we.heap.size by omega)).trans hce2)
                  have HRX : Hid (∀ w1, RowKit.Below we.heap.size we w1 → Reads w1 w1.heap.size 3 xA xn (flat xr)) := Lib.hid (fun w1 h => by
                    have := (((HXR.out.below (HBE0.out.trans (h.mono (by omega)))).more (B' := w1.heap.size) (by have := h.size; omega))).reads
                    rw [HXN.out] at this
                    exact this)
                  clear hce1 hce2 hc1 hc2
                  go_upto_region 19 with (fail)
                  refine EachKit.region_first (L := 20) (F := 2) (LL := #[true, true, true, true, true, true, true, true, true, true, true, true, true, true, true, true, true, true, true, true, false, false]) (R := rmR we.heap.size q xn (flatM (al.take q)) xr (.complex .f64 TX TY) (.slice xA xn xc) (.slice (some ⟨g8, 0, none⟩) m cap8) (.slice (some ⟨g8, 0, none⟩) q cap8) (.slice (some ⟨b, off, none⟩) k c) (.int .i64 (j : Nat)) (.int .i64 (q : Nat)) (.pointer (some ⟨b, off + j * 2, none⟩)) (.pointer (some ⟨b, off + j * 2 + 1, none⟩))) (ds := rmDs) (MS := rmMs) mixed (by kernel_rfl) (by kernel_rfl) (by kernel_rfl) (by kernel_rfl) (by kernel_rfl) (by kernel_rfl) rfl (by kernel_rfl) (by kernel_rfl) (rmR_mono _ _ _ _ _ _ _ _ _ _ _ _ _ _)
                    (fun a0 => a0.tmps.getD 0 undef = .slice (some ⟨b, off, none⟩) k c ∧ a0.tmps.getD 8 undef = .slice (some ⟨g8, 0, none⟩) m cap8 ∧ a0.tmps.getD 9 undef = .int .i64 (j : Nat) ∧ a0.tmps.getD 10 undef = .int .i64 (q : Nat)) ⟨rfl, rfl, rfl, rfl⟩ ?_ ?_
                  · intro hds Q' a0 ⟨og0, og8, og9, og10⟩
                    refine EachKit.Each.cons (fun _ => EachKit.OpGoal.free rfl (fun a1 w1 hB hL1 hk K hK => ?_)) ?_
                    · clear hk hL1
                      go_simp
                      exact hK _ _ ((Below.refl _ _).alloc (Nat.le_refl _) _) ⟨w1.heap.size, rfl, hB.size, heap_alloc_new w1 _⟩
                    refine EachKit.Each.cons (fun _ => EachKit.OpGoal.free rfl (fun a1 w1 hB hL1 hk K hK => ?_)) ?_
                    · have s8 : a1.tmps.getD 8 undef = .slice (some ⟨g8, 0, none⟩) m cap8 := hL1.old rfl og8
                      clear hk hL1
                      go_simp
                      exact hK _ _ (Below.refl _ _) rfl
                    refine EachKit.Each.cons (fun _ => EachKit.OpGoal.free rfl (fun a1 w1 hB hL1 hk K hK => ?_)) ?_
                    · have s10 : a1.tmps.getD 10 undef = .int .i64 (q : Nat) := hL1.old rfl og10
                      clear hk hL1
                      go_simp
                      exact hK _ _ (Below.refl _ _) rfl
                    refine EachKit.Each.cons (fun _ => EachKit.OpGoal.free rfl (fun a1 w1 hB hL1 hk K hK => ?_)) ?_
                    · have s107 : a1.tmps.getD 107 undef = .slice (some ⟨g8, 0, none⟩) m cap8 := (hk 1 rfl).is rfl (fun _ h => h)
                      have s108 : a1.tmps.getD 108 undef = .int .i64 (q : Nat) := (hk 2 rfl).is rfl (fun _ h => h)
                      clear hk hL1
                      go_simp
                      exact hK _ _ (Below.refl _ _) rfl
                    refine EachKit.Each.cons (fun _ => EachKit.OpGoal.free rfl (fun a1 w1 hB hL1 hk K hK => ?_)) ?_
                    · obtain ⟨v106, s106, hE⟩ := (hk 0 rfl).slot rfl
                      have s109 : a1.tmps.getD 109 undef = .slice (some ⟨g8, 0, none⟩) q cap8 := (hk 3 rfl).is rfl (fun _ h => h)
                      exact wp_append_empty w1 (.tmp 106) (.tmp 109) 42 rfl we.heap.size 47 i0 _ 2 40 Tryz.underlying42 hi hz0 hz1 hz2 rfl (by decide) v106 s106 hE _ _ _ _ _ s109 (HRD.out w1 hB) (flatM_ones _) (by unfold maxLen; omega) (by omega) hB.size (fun v' w' h2 h3 => hK _ _ h3 h2)
                    refine EachKit.Each.cons (fun _ => EachKit.OpGoal.free rfl (fun a1 w1 hB hL1 hk K hK => ?_)) ?_
                    · clear hk hL1
                      go_simp
                      exact hK _ _ ((Below.refl _ _).alloc (Nat.le_refl _) _) ⟨w1.heap.size, rfl, hB.size, heap_alloc_new w1 _⟩
                    refine EachKit.Each.cons (fun _ => EachKit.OpGoal.free rfl (fun a1 w1 hB hL1 hk K hK => ?_)) ?_
                    · have s0 : a1.tmps.getD 0 undef = .slice (some ⟨b, off, none⟩) k c := hL1.old rfl og0
                      clear hk hL1
                      go_simp
                      exact hK _ _ (Below.refl _ _) rfl
                    refine EachKit.Each.cons (fun _ => EachKit.OpGoal.free rfl (fun a1 w1 hB hL1 hk K hK => ?_)) ?_
                    · have s9 : a1.tmps.getD 9 undef = .int .i64 (j : Nat) := hL1.old rfl og9
                      clear hk hL1
                      go_simp
                      exact hK _ _ (Below.refl _ _) rfl
                    refine EachKit.Each.cons (fun _ => EachKit.OpGoal.free rfl (fun a1 w1 hB hL1 hk K hK => ?_)) ?_
                    · have s112 : a1.tmps.getD 112 undef = .slice (some ⟨b, off, none⟩) k c := (hk 6 rfl).is rfl (fun _ h => h)
                      have s113 : a1.tmps.getD 113 undef = .int .i64 (j : Nat) := (hk 7 rfl).is rfl (fun _ h => h)
                      clear hk hL1
                      go_simp
                      exact hK _ _ (Below.refl _ _) rfl
                    refine EachKit.Each.cons (fun _ => EachKit.OpGoal.free rfl (fun a1 w1 hB hL1 hk K hK => ?_)) ?_
                    · have s114 : a1.tmps.getD 114 undef = .pointer (some ⟨b, off + j * 2, none⟩) := (hk 8 rfl).is rfl (fun _ h => h)
                      clear hk hL1
                      go_simp
                      exact hK _ _ (Below.refl _ _) rfl
                    refine EachKit.Each.cons (fun _ => EachKit.OpGoal.free rfl (fun a1 w1 hB hL1 hk K hK => ?_)) ?_
                    · have s115 : a1.tmps.getD 115 undef = .pointer (some ⟨b, off + j * 2, none⟩) := (hk 9 rfl).is rfl (fun _ h => h)
                      have cx1 := HCX.out w1 hB
                      clear hk hL1
                      go_simp
                      exact hK _ _ (Below.refl _ _) rfl
                    refine EachKit.Each.cons (fun _ => EachKit.OpGoal.free rfl (fun a1 w1 hB hL1 hk K hK => ?_)) ?_
                    · obtain ⟨v111, s111, hE⟩ := (hk 5 rfl).slot rfl
                      have s116 : a1.tmps.getD 116 undef = .slice xA xn xc := (hk 10 rfl).is rfl (fun _ h => h)
                      exact wp_append_empty w1 (.tmp 111) (.tmp 116) 26 rfl we.heap.size 49 i1 _ 3 32 Tryz.underlying26 hi' hz0' hz1' hz2' rfl (by decide) v111 s111 hE _ _ _ _ _ s116 (HRX.out w1 hB) (flat_ones _) (by unfold maxLen; omega) (by omega) hB.size (fun v' w' h2 h3 => hK _ _ h3 (rm11 h2))
                    refine EachKit.Each.cons (fun _ => EachKit.OpGoal.free rfl (fun a1 w1 hB hL1 hk K hK => ?_)) ?_
                    · have s0 : a1.tmps.getD 0 undef = .slice (some ⟨b, off, none⟩) k c := hL1.old rfl og0
                      clear hk hL1
                      go_simp
                      exact hK _ _ (Below.refl _ _) rfl
                    refine EachKit.Each.cons (fun _ => EachKit.OpGoal.free rfl (fun a1 w1 hB hL1 hk K hK => ?_)) ?_
                    · have s9 : a1.tmps.getD 9 undef = .int .i64 (j : Nat) := hL1.old rfl og9
                      clear hk hL1
                      go_simp
                      exact hK _ _ (Below.refl _ _) rfl
                    refine EachKit.Each.cons (fun _ => EachKit.OpGoal.free rfl (fun a1 w1 hB hL1 hk K hK => ?_)) ?_
                    · have s118 : a1.tmps.getD 118 undef = .slice (some ⟨b, off, none⟩) k c := (hk 12 rfl).is rfl (fun _ h => h)
                      have s119 : a1.tmps.getD 119 undef = .int .i64 (j : Nat) := (hk 13 rfl).is rfl (fun _ h => h)
                      clear hk hL1
                      go_simp
                      exact hK _ _ (Below.refl _ _) rfl
                    refine EachKit.Each.cons (fun _ => EachKit.OpGoal.free rfl (fun a1 w1 hB hL1 hk K hK => ?_)) ?_
                    · have s120 : a1.tmps.getD 120 undef = .pointer (some ⟨b, off + j * 2, none⟩) := (hk 14 rfl).is rfl (fun _ h => h)
                      clear hk hL1
                      go_simp
                      exact hK _ _ (Below.refl _ _) rfl
                    refine EachKit.Each.cons (fun _ => EachKit.OpGoal.free rfl (fun a1 w1 hB hL1 hk K hK => ?_)) ?_
                    · have s121 : a1.tmps.getD 121 undef = .pointer (some ⟨b, off + j * 2 + 1, none⟩) := (hk 15 rfl).is rfl (fun _ h => h)
                      have cx2 := HCT.out w1 hB
                      clear hk hL1
                      go_simp
                      exact hK _ _ (Below.refl _ _) rfl
                    refine EachKit.Each.cons (fun _ => EachKit.OpGoal.free rfl (fun a1 w1 hB hL1 hk K hK => ?_)) ?_
                    · have s122 : a1.tmps.getD 122 undef = .complex .f64 TX TY := (hk 16 rfl).is rfl (fun _ h => h)
                      clear hk hL1
                      go_simp
                      refine (hrd.out _).mono ?_
                      rintro e w2 ⟨rfl, rfl⟩
                      exact hK _ _ (Below.refl _ _) rfl
                    refine EachKit.Each.cons (fun _ => EachKit.OpGoal.free rfl (fun a1 w1 hB hL1 hk K hK => ?_)) ?_
                    · obtain ⟨v117, s117, A5, c5, rfl, hO5⟩ := (hk 11 rfl).slot rfl
                      have s123 : a1.tmps.getD 123 undef = .complex .f64 TX TY := (hk 17 rfl).is rfl (fun _ h => h)
                      have s117' := s117
                      rw [Array.getD_eq_getD_getElem?] at s117'
                      have s123' := s123
                      rw [Array.getD_eq_getD_getElem?] at s123'
                      clear hk hL1
                      go_simp
                      exact hK _ _ (Below.refl _ _) ⟨A5, c5, rfl, hO5⟩
                    refine EachKit.Each.cons (fun _ => EachKit.OpGoal.free rfl (fun a1 w1 hB hL1 hk K hK => ?_)) ?_
                    · obtain ⟨v124, s124, A5, c5, rfl, hO5⟩ := (hk 18 rfl).slot rfl
                      have s124' := s124
                      rw [Array.getD_eq_getD_getElem?] at s124'
                      clear hk hL1
                      go_simp
                      exact hK _ _ ((Below.refl _ _).alloc (Nat.le_refl _) _) ⟨w1.heap.size, A5, c5, rfl, hB.size, heap_alloc_new w1 _, ownM_below hO5 ((Below.refl _ _).alloc (Nat.le_refl _) _)⟩
                    refine EachKit.Each.cons (fun h => absurd h (by decide)) ?_
                    refine EachKit.Each.cons (fun h => absurd h (by decide)) ?_
                    exact trivial
                  · rintro a' w1 hB hL1 hk
                    obtain ⟨v110, s110, hO4⟩ := (hk 4 (by decide)).slot rfl
                    obtain ⟨v125, s125, g5, A5, c5, rfl, hg5, hb5, hO5⟩ := (hk 19 (by decide)).slot rfl
                    have hsz : a'.tmps.size = 152 := hL1.size.trans rfl
                    have HO4 : Hid (w1.ownsRow we.heap.size 47 2 v110 q (flatM (al.take q))) := Lib.hid hO4
                    have HO5 : Hid (w1.ownsRow we.heap.size 49 3 (.slice A5 xn c5) xn (flat xr)) := Lib.hid hO5
                    have HBW := Lib.hid hB
                    have hwW := hB.size
                    obtain ⟨u, hu⟩ := hL1.form
                    clear hk hO4 hO5 hL1
                    refine wpAny_one (i := 20) (by kernel_rfl) rfl (fun K hK => ?_)
                    refine step_append_any w1 rfl (.tmp 110) (.tmp 125) 42 rfl we.heap.size 47 i0 _ 2 40 Tryz.underlying42 hi hz0 hz1 hz2 rfl (by decide) v110 q _ s110 HO4.out (w1.heap.size) _ _ _ [.slice A5 xn c5, .complex .f64 TX TY] s125 ⟨rfl, fun _ => ⟨_, rfl, (Array.getElem?_eq_some_iff.1 hb5).1, World.news_of_block hb5⟩⟩ ?e1 ?e2 ?e3 hwW (fun v' w2 hown2 hgrow2 hat2 => ?_)
                    case e1 => intro u hu; simp only [List.mem_cons, List.not_mem_nil, or_false] at hu; rcases hu with rfl | rfl <;> rfl
                    case e2 => unfold maxLen; omega
                    case e3 => omega
                    refine hK _ _ ?_
                    clear hK K s110 s125
                    refine wpAny_one (i := 21) (by kernel_rfl) rfl (fun K hK => ?_)
                    rw [if_pos (by rfl)]
                    refine rm_assign v' hsz rfl (hK _ _ ?_)
                    clear hK K hsz
                    refine wpAny_done (by kernel_rfl) ?_ _
                    subst hu
                    simp only [rmDs, EachKit.setU, Act.put, List.getElem_toArray, List.getElem_cons_succ, List.getElem_cons_zero, List.setIfInBounds_toArray, List.set_cons_zero, List.set_cons_succ]
                    have HBW2 := Lib.hid ((HBE.out.trans (HBW.out.mono hse)).grown hgrow2 (by omega) (fun k h => by have := (HO4.out.lt k h).1; omega))
                    have hw2 := hgrow2.size
                    have HG2 := Lib.hid hgrow2
                    have HW2 := Lib.hid hown2
                    have HA2 := Lib.hid hat2
                    have h0x : 0 < xn := by rw [← HXN.out]; exact (rowOk_len HXO.out).1
                    clear hrd hown2 hgrow2 hat2 hb5 hg5 hB HCX HCT HRX HRD
                    by_cases hcq : cap8 = q
                    · obtain rfl : m = q := by omega
                      obtain rfl : cap8 = m := hcq
                      have HRD4 : Hid (Reads w2 w2.heap.size 2 (some ⟨g8, 0, none⟩) 0 (flatM (al.drop cap8))) := Lib.hid (by
                        rw [List.drop_of_length_le (by rw [HM.out]; exact Nat.le_refl _)]
                        exact ⟨rfl, fun h => absurd h (by omega)⟩)
                      go_wp2_with (at_builtin; refine wpList_append_any _ rfl _ _ 42 rfl we.heap.size 47 i0 _ 2 40 Tryz.underlying42 hi hz0 hz1 hz2 rfl (by decide) _ _ _ rfl HW2.out w2.heap.size _ _ _ (flatM (al.drop cap8)) rfl HRD4.out ?c1 ?c2 ?c3 ?c4 ?_)
                      case c1 => exact flatM_ones _
                      case c2 => unfold maxLen; omega
                      case c3 => omega
                      case c4 => omega
                      intro v'' w3 hown3 hgrow3 hat3
                      obtain ⟨x', ex'⟩ : ∃ x' : IM, x' = ⟨A5, c5, xr, xk⟩ := ⟨_, rfl⟩
                      obtain ⟨hi1, hi2⟩ := HIN.out x' (by rw [ex']) (by rw [ex'])
                      obtain ⟨hr1, hr2, hr3⟩ := ins_rows (q := cap8) (x' := x') (al := al) (by decide : (47 : TypeId) ≠ 49) HOR.out hs2 hse (HBE.out.trans (HBW.out.mono hse)) HO4.out (by rw [ex']; exact HO5.out) (by rw [ex']; exact HXN.out) h0x hwW HG2.out HA2.out hgrow3 hat3
                      have hin : (insM al cap8 x').length = cap8 + 1 := by rw [insM_len al cap8 x' (by rw [HM.out]; exact hqm), HM.out]
                      have HO6 : Hid (w3.ownsRow w.heap.size 47 2 v'' (insM al cap8 x').length (flatM (insM al cap8 x'))) := Lib.hid (by
                        have e1 : flatM (insM al cap8 x') = (flatM (al.take cap8) ++ [.slice A5 xn c5, .complex .f64 TX TY]) ++ flatM (al.drop cap8) := by
                          unfold insM
                          rw [flatM_append, flatM_append, flatM_one, ex']
                          simp only [IM.cs, HXN.out, HT.out]
                        rw [e1, hin, show cap8 + 1 = cap8 + 1 + 0 by omega, List.append_assoc]
                        exact hown3.mono (by omega))
                      have HR6 := Lib.hid hr1
                      have HI1 := Lib.hid hi1
                      have HI2 := Lib.hid hi2
                      have HB6 : Hid (RowKit.Below w.heap.size w w3) := Lib.hid (HBO.out.trans (hr2.mono hs2))
                      clear hown3 hgrow3 hat3 hr1 hr2 hr3 hi1 hi2 ex' HIN HRD2 HBW2 HG2 HW2 HA2 HO4 HO5 HBW hwW hw2
                      generalize insM al cap8 x' = al2 at HO6 HR6 HI1 HI2 hin
                      go_wp2_with fail
                      go_roundw
                      case rel => exact ⟨j + 1, al2, by omega, by go_num, HO6.out, HB6.out, by omega, HR6, HI1, HI2, fun h => by rw [h] at hin; simp at hin⟩
                      case measure => simp [intOf]; omega
                    · go_wp2_with (at_builtin; refine wpList_append_any _ rfl _ _ 42 rfl we.heap.size 47 i0 _ 2 40 Tryz.underlying42 hi hz0 hz1 hz2 rfl (by decide) _ _ _ rfl HW2.out w2.heap.size _ _ _ (flatM (al.drop q)) rfl (HRD2.out w2 HBW2.out) ?c1 ?c2 ?c3 ?c4 ?_)
                      case c1 => exact flatM_ones _
                      case c2 => unfold maxLen; omega
                      case c3 => omega
                      case c4 => omega
                      intro v'' w3 hown3 hgrow3 hat3
                      obtain ⟨x', ex'⟩ : ∃ x' : IM, x' = ⟨A5, c5, xr, xk⟩ := ⟨_, rfl⟩
                      obtain ⟨hi1, hi2⟩ := HIN.out x' (by rw [ex']) (by rw [ex'])
                      obtain ⟨hr1, hr2, hr3⟩ := ins_rows (q := q) (x' := x') (al := al) (by decide : (47 : TypeId) ≠ 49) HOR.out hs2 hse (HBE.out.trans (HBW.out.mono hse)) HO4.out (by rw [ex']; exact HO5.out) (by rw [ex']; exact HXN.out) h0x hwW HG2.out HA2.out hgrow3 hat3
                      have hin : (insM al q x').length = m + 1 := by rw [insM_len al q x' (by rw [HM.out]; exact hqm), HM.out]
                      have HO6 : Hid (w3.ownsRow w.heap.size 47 2 v'' (insM al q x').length (flatM (insM al q x'))) := Lib.hid (by
                        have e1 : flatM (insM al q x') = (flatM (al.take q) ++ [.slice A5 xn c5, .complex .f64 TX TY]) ++ flatM (al.drop q) := by
                          unfold insM
                          rw [flatM_append, flatM_append, flatM_one, ex']
                          simp only [IM.cs, HXN.out, HT.out]
                        rw [e1, hin, show m + 1 = q + 1 + (m - q) by omega, List.append_assoc]
                        exact hown3.mono (by omega))
                      have HR6 := Lib.hid hr1
                      have HI1 := Lib.hid hi1
                      have HI2 := Lib.hid hi2
                      have HB6 : Hid (RowKit.Below w.heap.size w w3) := Lib.hid (HBO.out.trans (hr2.mono hs2))
                      clear hown3 hgrow3 hat3 hr1 hr2 hr3 hi1 hi2 ex' HIN HRD2 HBW2 HG2 HW2 HA2 HO4 HO5 HBW hwW hw2
                      generalize insM al q x' = al2 at HO6 HR6 HI1 HI2 hin
                      go_wp2_with fail
                      go_roundw
                      case rel => exact ⟨j + 1, al2, by omega, by go_num, HO6.out, HB6.out, by omega, HR6, HI1, HI2, fun h => by rw [h] at hin; simp at hin⟩
                      case measure => simp [intOf]; omega
                · obtain ⟨y, hy, hsm⟩ : ∃ y, al[q]? = some y ∧ rowSame y.r xr = true := by
                    unfold moreB at hMB
                    cases h0 : al[q]? with
                    | none => rw [h0] at hMB; cases hMB
                    | some y => rw [h0] at hMB; exact ⟨y, rfl, hMB⟩
                  have hq2 : q < m := by rw [← HM.out]; exact (List.getElem?_eq_some_iff.1 hy).1
                  have hyr : y.r = xr := same_eq hsm
                  have hmy := List.mem_of_getElem? hy
                  have HNW : Hid (Ord (its (al.set q ⟨y.A, y.c, y.r, y.k + xk⟩)) ∧ ∀ r, look (its (al.set q ⟨y.A, y.c, y.r, y.k + xk⟩)) r = look (its (l.take (j + 1))) r) := Lib.hid (by
                    rw [its_set hy]
                    refine ⟨HOD.out.set (its_get? hy) _, fun r => ?_⟩
                    rw [look_set (its_get? hy), HLK.out r, HTK.out, look_append, look_one, hyr])
                  have hkY : okN y.k := by
                    have h1 := vol_le_of hmy
                    have h2 := HVA.out
                    unfold okN; omega
                  have hkS : okN (y.k + xk) := by
                    have h1 := HVB.out _ HNW.out.1 HNW.out.2
                    have hm2 : (⟨y.A, y.c, y.r, y.k + xk⟩ : IM) ∈ al.set q ⟨y.A, y.c, y.r, y.k + xk⟩ := List.mem_set (by rw [HM.out]; exact hq2) _
                    have h2 := vol_le_of hm2
                    dsimp only at h2
                    unfold okN; omega
                  have had := Lib.hid (fun w1 => rf_add hkY HKN.out hkS w1)
                  have hy2 := (HBE.out.cell (show g8 < wo.heap.size from hg2)).trans (HCE.out q y hy).2
                  have HY := Lib.hid hy
                  have HST : Hid (∀ w6, RowKit.Below wo.heap.size wo w6 → (w6.setCell ⟨g8, q * 2 + 1, none⟩ (tal (y.k + xk))).ownsRow w.heap.size 47 2 (.slice (some ⟨g8, 0, none⟩) m cap8) m (flatM (al.set q ⟨y.A, y.c, y.r, y.k + xk⟩))) := Lib.hid (fun w6 h => own_set_net (ownM_below HO.out h) HY.out _)
                  have HSR : Hid (∀ z ∈ al.set q ⟨y.A, y.c, y.r, y.k + xk⟩, VRowS wo (fun g => NewS w wo g ∧ (Value.slice (some ⟨g8, 0, none⟩) m cap8).ownBlock ≠ some g) z.A z.r) := Lib.hid (fun z hz => by
                    rcases List.mem_or_eq_of_mem_set hz with hz | rfl
                    · exact HOR.out z hz
                    · exact HOR.out y hmy)
                  have hsl : (al.set q ⟨y.A, y.c, y.r, y.k + xk⟩).length = m := by rw [List.length_set]; exact HM.out
                  have hst2 := run_store_complex Tryz.prog
                  obtain ⟨yA, yc, yr, yk⟩ := y
                  dsimp only at hy2 had HNW HST HSR hsl
                  generalize al.set q ⟨yA, yc, yr, yk + xk⟩ = al2 at HNW HST HSR hsl
                  have HFZ : Hid (∀ w6, RowKit.Below wo.heap.size wo w6 → w6.frozen? ⟨g8, q * 2 + 1, none⟩ = false) := Lib.hid (fun w6 h => (ownM_below HO.out h).frozenAt (q * 2 + 1))
                  obtain ⟨SX, SY, hSS⟩ : ∃ SX SY, tal (yk + xk) = .complex .f64 SX SY := ⟨_, _, rfl⟩
                  rw [hSS] at had HST
                  clear hSS
                  generalize tal yk = T1 at had hy2
                  generalize tal xk = T2 at had hce2 hc2
                  have e1 := fun d os => cell_regrown hce2 d os
                  have e2 := fun d os => cell_regrown hy2 d os
                  have C1 := Lib.hid (fun d os => Calls.regrown_same (had.out (Sort.grow (redrawn we d) os)))
                  clear hy hsm hyr hmy hkY hkS HY HTL HLK HOD HVA HVB hLB hMB had hce1
                  go_upto_region 15 with (fail)
                  refine wp_region_quiet_below (by assumption) (by kernel_rfl) ?_
                  repeat (quiet_step (first | (go_at_call 60; exact C1.out _ _)))
                  refine wpQuiet_nil ?_
                  intro _ hw'
                  obtain ⟨⟨nq, osq⟩, hw''⟩ := hw'
                  subst hw''
                  have HB6 := Lib.hid (HBE.out.trans ((below_regrown we nq osq).mono hse))
                  have hc6 := e2 nq osq
                  clear e1 e2 C1 hce2 hy2
                  generalize Sort.grow (redrawn we nq) osq = w6 at HB6 hc6 ⊢
                  have hf6 := HFZ.out w6 HB6.out
                  clear HFZ
                  go_wp2_with fail
                  go_roundw
                  case rel =>
                    refine ⟨j + 1, al2, by omega, by go_num, by rw [hsl]; exact HST.out w6 HB6.out, (HBO.out.trans (HB6.out.mono hs2)).setCell (show w.heap.size ≤ g8 by omega) _, by omega, Lib.hid (fun z hz => ?_), Lib.hid HNW.out.1, Lib.hid HNW.out.2, fun h => ?_⟩
                    · have hkk : ∀ g, NewS w wo g ∧ (Value.slice (some ⟨g8, 0, none⟩) m cap8).ownBlock ≠ some g → (w6.setCell ⟨g8, q * 2 + 1, none⟩ (.complex .f64 SX SY)).heap[g]? = wo.heap[g]? := fun g hg => (Below.heap_setCell w6 ⟨g8, q * 2 + 1, none⟩ (.complex .f64 SX SY) g (fun e => hg.2 (by rw [e]; rfl))).trans (HB6.out.block g hg.1.2.1)
                      refine ((HSR.out z hz).kept hkk).mono fun g hg => ⟨⟨hg.1.1, ?_, fun o => (frozen_of_block (hkk g hg)).trans (hg.1.2.2 o)⟩, hg.2⟩
                      have h1 := hg.1.2.1
                      have h2 := HB6.out.size
                      have h3 : (w6.setCell ⟨g8, q * 2 + 1, none⟩ (.complex .f64 SX SY)).heap.size = w6.heap.size := by simp [World.setCell]
                      omega
                    · rw [h] at hsl; simp at hsl; omega
                  case measure => simp [intOf]; omega
              · have hq2 : q < m := by
                  rcases Nat.lt_or_ge q m with h | h
                  · exact h
                  · unfold lessB at hLB
                    rw [List.getElem?_eq_none (by rw [HM.out]; exact h)] at hLB
                    cases hLB
                have HTL2 : Hid (∀ y ∈ al.take (q + 1), cmpR y.r xr < 0) := Lib.hid (fun y hy => by
                  obtain ⟨z, hz⟩ : ∃ z, al[q]? = some z := ⟨_, List.getElem?_eq_getElem (by rw [HM.out]; exact hq2)⟩
                  obtain ⟨h1, e1⟩ := List.getElem?_eq_some_iff.1 hz
                  rw [List.take_succ_eq_append_getElem h1, e1] at hy
                  rcases List.mem_append.1 hy with hy | hy
                  · exact HTL.out y hy
                  · rw [List.mem_singleton.1 hy]
                    unfold lessB at hLB
                    rw [hz] at hLB
                    exact (rowLess_iff (HOD.out.rows z.it (List.mem_map.2 ⟨z, List.mem_of_getElem? hz, rfl⟩)) HXO.out).1 hLB)
                clear hLB
                go_wp2_with fail
                go_roundw
                case rel => exact ⟨q + 1, by omega, by go_num, HBX.out, HTL2⟩
                case measure => simp [intOf]; omega
        · obtain rfl : j = k := by omega
          have HLKF : Hid (∀ r, look (its al) r = look (its l) r) := Lib.hid (fun r => by rw [HLK.out r, List.take_of_length_le (by rw [HN.out]; exact Nat.le_refl _)])
          have HVA : Hid (vol (its al) ≤ 1125899906842624) := Lib.hid (Int.le_trans (SetOk.vol_le HOD.out HLKF.out) HV.out)
          have HNZ := Lib.hid (nz_ok HOD.out)
          have HNL : Hid (∀ r, look (its (nz al)) r = look (its l) r) := Lib.hid (fun r => by rw [look_nz, HLKF.out r])
          obtain ⟨m, hm⟩ : ∃ m, al.length = m := ⟨_, rfl⟩
          have HM := Lib.hid hm
          rw [hm] at haj HO
          clear hm HLK HLKF
          rcases Nat.eq_zero_or_pos m with hm0 | hm0
          · subst hm0
            obtain rfl : al = [] := List.eq_nil_of_length_eq_zero HM.out
            obtain rfl := hnil rfl
            go_wp2_with fail
            refine wp_loop_rounds 1 ?_
            rw [rounds_succ]
            go_wp2_with fail
            go_ret2
            exact ⟨⟨none, 0, [], rfl, Nat.le_refl _, SRow.nil none, SetOk.nil, HNL.out⟩, HBO.out⟩
          · obtain ⟨g8, cap8, rfl, hg1, hg2⟩ := HO.out.form hm0
            have HCE : Hid (∀ q y, al[q]? = some y → wo.cell? ⟨g8, q * 2, none⟩ = some (.slice y.A y.r.length y.c) ∧ wo.cell? ⟨g8, q * 2 + 1, none⟩ = some (tal y.k)) := Lib.hid (fun q y hy => own_cells HO.out hy)
            have hgz := eqGuard_at_tal
            go_wp2_with fail
            go_loopw [14, 15] (fun v i wq => ∃ (q : Nat) (ol : List IM), q ≤ m ∧ i = .int .i64 q ∧ Hid (ol = nz (al.take q)) ∧ wq.ownsRow wo.heap.size 47 2 v ol.length (flatM ol) ∧ RowKit.Below wo.heap.size wo wq ∧ ol.length ≤ q) (fun _ i _ => m - (intOf i).toNat)
            case atStart => exact ⟨0, [], Nat.zero_le _, rfl, Lib.hid rfl, World.ownsRow_nil _ _ _ _, Below.refl _ _, Nat.le_refl _⟩
            case round =>
              rename World => wq
              obtain ⟨q, ol, hqm, rfl, HOL, hown, hbq, hol⟩ := hrel
              have HO4 := Lib.hid hown
              have HBQ := Lib.hid hbq
              have hsq := hbq.size
              clear hown hbq
              by_cases hq2 : q < m
              · obtain ⟨y, hy⟩ : ∃ y, al[q]? = some y := ⟨_, List.getElem?_eq_getElem (by rw [HM.out]; exact hq2)⟩
                have hy1 := (HBQ.out.cell (show g8 < wo.heap.size from hg2)).trans (HCE.out q y hy).1
                have hy2 := (HBQ.out.cell (show g8 < wo.heap.size from hg2)).trans (HCE.out q y hy).2
                have hkY : okN y.k := by
                  have h1 := vol_le_of (List.mem_of_getElem? hy)
                  have h2 := HVA.out
                  unfold okN; omega
                have HSTP := Lib.hid (nz_step hy)
                have hne := fun w3 => run_ne_zero hkY 45 Tryz.prog w3
                obtain ⟨yA, yc, yr, yk⟩ := y
                dsimp only at hy1 hy2 hne HSTP
                obtain ⟨yn, hyn⟩ : ∃ yn, yr.length = yn := ⟨_, rfl⟩
                have HYN := Lib.hid hyn
                rw [hyn] at hy1
                clear hy hkY hyn
                by_cases hz : yk = 0
                · have hd : (!decide (yk = 0)) = false := by rw [decide_eq_true hz]; rfl
                  have HOL2 : Hid (ol = nz (al.take (q + 1))) := Lib.hid (by rw [HSTP.out, if_pos hz, List.append_nil]; exact HOL.out)
                  have hne2 : ∀ w3, (binOp .neq 45 (tal yk) (.complex .f64 0 0)).run Tryz.prog w3 = .ok (.bool false) w3 := fun w3 => by rw [hne w3, hd]
                  clear hne hd hz HSTP
                  go_wp2_with fail
                  go_roundw
                  case rel => exact ⟨q + 1, ol, by omega, by go_num, HOL2, HO4.out, HBQ.out, by omega⟩
                  case measure => simp [intOf]; omega
                · have hd : (!decide (yk = 0)) = true := by rw [decide_eq_false hz]; rfl
                  have HOL2 : Hid (ol ++ [(⟨yA, yc, yr, yk⟩ : IM)] = nz (al.take (q + 1))) := Lib.hid (by rw [HSTP.out, if_neg hz, HOL.out])
                  have hne2 : ∀ w3, (binOp .neq 45 (tal yk) (.complex .f64 0 0)).run Tryz.prog w3 = .ok (.bool true) w3 := fun w3 => by rw [hne w3, hd]
                  have HO5 := Lib.hid (HO4.out.alloc (.cells #[.slice yA yn yc, tal yk] 47))
                  clear hne hd hz HSTP
                  go_wp2_with (at_builtin; refine wpList_append_any _ rfl _ _ 42 rfl wo.heap.size 47 i0 _ 2 40 Tryz.underlying42 hi hz0 hz1 hz2 rfl (by decide) _ _ _ rfl HO5.out (wq.heap.size + 1) _ _ _ [.slice yA yn yc, tal yk] rfl ⟨rfl, fun _ => ⟨_, rfl, Nat.lt_succ_self _, World.news_of_block (heap_alloc_new wq _)⟩⟩ ?c1 ?c2 ?c3 ?c4 ?_)
                  case c1 => intro u hu; simp only [List.mem_cons, List.not_mem_nil, or_false] at hu; rcases hu with rfl | rfl <;> rfl
                  case c2 => unfold maxLen; omega
                  case c3 => omega
                  case c4 => first | omega | (simp; omega)
                  intro v' w5 hown' hgrow hat
                  have HB5 : Hid (RowKit.Below wo.heap.size wo w5) := Lib.hid ((HBQ.out.alloc hsq _).grown hgrow (by simp; omega) (fun g hg => (HO4.out.lt g hg).1))
                  have HO6 : Hid (w5.ownsRow wo.heap.size 47 2 v' (ol ++ [(⟨yA, yc, yr, yk⟩ : IM)]).length (flatM (ol ++ [(⟨yA, yc, yr, yk⟩ : IM)]))) := Lib.hid (by
                    rw [flatM_append, flatM_one, List.length_append]
                    simp only [IM.cs, HYN.out]
                    exact hown')
                  have hol5 : (ol ++ [(⟨yA, yc, yr, yk⟩ : IM)]).length ≤ q + 1 := by rw [List.length_append]; simp only [List.length_cons, List.length_nil]; omega
                  generalize ol ++ [(⟨yA, yc, yr, yk⟩ : IM)] = ol5 at HO6 hol5 HOL2
                  clear hown' hgrow hat HO5 HO4 HBQ
                  go_wp2_with fail
                  go_roundw
                  case rel => exact ⟨q + 1, ol5, by omega, by go_num, HOL2, HO6.out, HB5.out, hol5⟩
                  case measure => simp [intOf]; omega
              · obtain rfl : q = m := by omega
                have hol2 : ol = nz al := by rw [HOL.out, List.take_of_length_le (by rw [HM.out]; exact Nat.le_refl _)]
                have hrow : ∀ x ∈ ol, VRowS wq (NewS w wq) x.A x.r := fun x hx => by
                  have hx2 : x ∈ al := by rw [hol2] at hx; exact (List.mem_filter.1 hx).1
                  exact ((HOR.out x hx2).kept fun g hg => HBQ.out.block g hg.1.2.1).mono fun g hg => hg.1.below HBQ.out
                obtain ⟨A3, c3, rfl, hc3, hS3⟩ := own_items (S := NewS w wq) HO4.out (fun g h1 h2 h3 => ⟨by omega, h2, h3⟩) hrow
                have HE : Hid (SetRet w (its l) wq A3 c3 ol) := Lib.hid ⟨hc3, hS3, by rw [hol2]; exact HNZ.out, fun r => by rw [hol2]; exact HNL.out r⟩
                have HBF := Lib.hid (HBO.out.trans (HBQ.out.mono hs2))
                clear hol2 hrow hS3 HO4
                go_wp2_with fail
                go_ret2
                exact ⟨⟨A3, c3, ol, rfl, HE.out⟩, HBF.out⟩
end Go.Proofs.YtajnnkapgnmoaaaGreat
/-
  The reference's Add: the sum of two right sets.
-/
set_option linter.unusedVariables false
namespace Go.Proofs.YtajnnkapgnmoaaaGreat
open Go.RowKit

set_option maxHeartbeats 2000000 in
set_option maxRecDepth 100000 in
theorem radd_any (A B : Option Addr) (c d : Nat) (l1 l2 : List IM) (w : World) {S : Nat → Prop} (h1 : SRow w S A l1) (h2 : SRow w S B l2) (hS : ∀ k, S k → k < w.heap.size) (hl1 : l1.length ≤ 400000) (hl2 : l2.length ≤ 400000)
    (hr1 : ∀ x ∈ l1, rowOk x.r = true) (hr2 : ∀ x ∈ l2, rowOk x.r = true) (hv : vol (its l1) + vol (its l2) ≤ 1125899906842624) :
    Calls Tryz.prog 53 #[.slice A l1.length c, .slice B l2.length d] w fun e w' => (∃ A' c' s, e = .returned (.tuple #[.slice A' s.length c', .int .i64 0]) ∧ SetRet w (its (l1 ++ l2)) w' A' c' s) ∧ Below w.heap.size w w' := by
  obtain ⟨i0, hi, hz0, hz1, hz2⟩ := info_parts item_info
  have HS := Lib.hid hS
  have H1 := Lib.hid h1
  have H2 := Lib.hid h2
  have R1 := Lib.hid (h1.reads hS)
  have R2 := Lib.hid (h2.reads hS)
  have HR : Hid (∀ x ∈ l1 ++ l2, rowOk x.r = true) := Lib.hid (fun x hx => by
    rcases List.mem_append.1 hx with h | h
    · exact hr1 x h
    · exact hr2 x h)
  have HV : Hid (vol (its (l1 ++ l2)) ≤ 1125899906842624) := Lib.hid (by rw [its_vol_append]; exact hv)
  obtain ⟨n, hn⟩ : ∃ n, l1.length = n := ⟨_, rfl⟩
  obtain ⟨m, hm⟩ : ∃ m, l2.length = m := ⟨_, rfl⟩
  rw [hn] at R1 hl1 ⊢
  rw [hm] at R2 hl2 ⊢
  have HN := Lib.hid hn
  have HM := Lib.hid hm
  clear h1 h2 hS hr1 hr2 hv hn hm
  go_enter Tryz.func53, Tryz.ntmps53
  go_wp2_with (at_builtin; refine wpList_append_two _ rfl _ _ 41 42 47 Tryz.underlying42 rfl w.heap.size 47 i0 _ 2 40 Tryz.underlying41 hi hz0 hz1 hz2 rfl (by decide) _ _ _ rfl (Empty.own ⟨w.heap.size, rfl, Nat.le_refl _, heap_alloc_new w _⟩ 2) w.heap.size _ _ _ (flatM l1) rfl (R1.out.alloc (Nat.le_refl _) _) ?c1 ?c2 ?c3 ?c4 ?_)
  case c1 => exact flatM_ones _
  case c2 => unfold maxLen; omega
  case c3 => omega
  case c4 => simp
  intro v2 w2 hown2 hgrow2 hat2
  have HB2 : Hid (Below w.heap.size w w2) := Lib.hid (((Below.refl w.heap.size w).alloc (Nat.le_refl _) _).grown hgrow2 (by simp) (fun k e => by simp [Value.ownBlock] at e; omega))
  have hs2 := HB2.out.size
  have HO2 := Lib.hid hown2
  clear hown2 hgrow2 hat2
  go_wp2_with (at_builtin; refine wpList_append_two _ rfl _ _ 41 42 47 Tryz.underlying42 rfl w.heap.size 47 i0 _ 2 40 Tryz.underlying41 hi hz0 hz1 hz2 rfl (by decide) _ _ _ rfl HO2.out w.heap.size _ _ _ (flatM l2) rfl (R2.out.below HB2.out) ?d1 ?d2 ?d3 ?d4 ?_)
  case d1 => exact flatM_ones _
  case d2 => unfold maxLen; omega
  case d3 => omega
  case d4 => exact hs2
  intro v3 w3 hown3 hgrow3 hat3
  have hb3 : Below w.heap.size w w3 := HB2.out.grown hgrow3 hs2 (fun k e => (HO2.out.lt k e).1)
  rw [← flatM_append] at hown3
  obtain ⟨A1, c1, rfl, hc1⟩ := own_slice hown3
  have HB3 := Lib.hid hb3
  have hs3 := hb3.size
  have hlen : (l1 ++ l2).length = n + m := by rw [List.length_append, HN.out, HM.out]
  have hrows : ∀ x ∈ l1 ++ l2, VRowS w3 (fun k => k < w3.heap.size) x.A x.r := fun x hx => by
    have : VRowS w3 S x.A x.r := by
      rcases List.mem_append.1 hx with h | h
      · exact (H1.out.below hb3 HS.out).rows x h
      · exact (H2.out.below hb3 HS.out).rows x h
    exact this.mono fun k hk => Nat.lt_of_lt_of_le (HS.out k hk) hs3
  obtain ⟨A2, c2, hv2, _, hS1⟩ := own_items (S := fun k => k < w3.heap.size) (l := l1 ++ l2) (by rw [hlen]; exact hown3) (fun g _ h2 _ => h2) hrows
  obtain ⟨rfl, rfl⟩ : A1 = A2 ∧ c1 = c2 := by rw [hlen] at hv2; simpa using hv2
  have hmk := Lib.hid (rmake_any A1 c1 (l1 ++ l2) w3 hS1 (fun k hk => hk) (by omega) HR.out HV.out)
  rw [hlen] at hmk
  clear hown3 hgrow3 hat3 hb3 hlen hrows hv2 hS1 hc1 HO2 HB2
  go_wp2_with fail
  refine hmk.out.mono ?_
  rintro e w4 ⟨⟨A', c', s, rfl, h1, h2, h3, h4⟩, hb4⟩
  have HB4 := Lib.hid (HB3.out.trans (hb4.mono hs3))
  have HE : Hid (SetRet w (its (l1 ++ l2)) w4 A' c' s) := Lib.hid ⟨h1, h2.mono fun k hk => hk.lower hs3, h3, h4⟩
  clear h1 h2 h3 h4 hb4 hmk
  go_wp2
  go_ret2
  exact ⟨⟨A', c', s, rfl, HE.out⟩, HB4.out⟩
end Go.Proofs.YtajnnkapgnmoaaaGreat
