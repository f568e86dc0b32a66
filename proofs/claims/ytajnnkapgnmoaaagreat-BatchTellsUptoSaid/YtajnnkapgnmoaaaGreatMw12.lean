/-
  Package confluencekeep: Few: so many changes, cut short.
-/
import Derived.Test.YtajnnkapgnmoaaaGreatMw11
import Derived.Test.YtajnnkapgnmoaaaGreatMw0
import Derived.Deep.DeepCutAuto
import Derived.Test.YtajnnkapgnmoaaaGreatMw9
import Derived.Test.YtajnnkapgnmoaaaGreatMw5
import Derived.ProofKit
import Derived.OpenShut
import Derived.Deep.Slices
import Derived.Deep.Fields
import Derived.ChangeSame
import Derived.Carry
import Derived.ChangeSlices
import Derived.Lib.SmallJoins
set_option linter.unusedVariables false
set_option linter.unusedSimpArgs false
set_option linter.unusedVariables false
set_option linter.unusedSimpArgs false
namespace Go.Proofs.YtajnnkapgnmoaaaGreat
open Go.RowKit

/-- a change that is not too large -/
structure FewOk (x : CM) : Prop where
  nm : x.nm.size ≤ 9223372036854775807
  len : x.r.length ≤ 7
  vs : ∀ y ∈ x.r, y.s.size ≤ 9223372036854775807

/-- a row of values of the call's own that is written over -/
structure Inv (w8 wr : World) (base : Nat) (A : Option Addr) (c xn : Nat) (cur : List V) : Prop where
  own : wr.ownsRow base 49 3 (.slice A xn c) xn (flat cur)
  len : cur.length = xn
  vs : ∀ y ∈ cur, y.s.size ≤ 9223372036854775807
  gr : w8.grownBy wr (Value.slice A xn c).ownBlock
theorem Inv.setS {w8 wr : World} {base c xn g : Nat} {cur : List V} (h : Inv w8 wr base (some ⟨g, 0, none⟩) c xn cur) {j : Nat} {v : V} (hj : cur[j]? = some v) {s : ByteArray} (hs : s.size ≤ 9223372036854775807) :
    Inv w8 (wr.setCell ⟨g, j * 3 + 2, none⟩ (.string s)) base (some ⟨g, 0, none⟩) c xn (cur.set j ⟨v.k, v.n, s⟩) := by
  refine ⟨?_, by rw [List.length_set]; exact h.len, fun y hy => ?_, ⟨h.gr.os, h.gr.tape, h.gr.output, by have := h.gr.size; simpa [World.setCell] using this, fun k hk hn => (Below.heap_setCell wr ⟨g, j * 3 + 2, none⟩ _ k (fun e => hn (by rw [e]; rfl))).trans (h.gr.block k hk hn)⟩⟩
  · rw [← flat_setS cur j v s hj]
    exact own_set_cell h.own _ _
  · rcases List.mem_or_eq_of_mem_set hy with hy | rfl
    · exact h.vs y hy
    · exact hs
theorem Inv.setK {w8 wr : World} {base c xn g : Nat} {cur : List V} (h : Inv w8 wr base (some ⟨g, 0, none⟩) c xn cur) {j : Nat} {v : V} (hj : cur[j]? = some v) (k : Int) :
    Inv w8 (wr.setCell ⟨g, j * 3, none⟩ (.int .i64 k)) base (some ⟨g, 0, none⟩) c xn (cur.set j ⟨k, v.n, v.s⟩) := by
  refine ⟨?_, by rw [List.length_set]; exact h.len, fun y hy => ?_, ⟨h.gr.os, h.gr.tape, h.gr.output, by have := h.gr.size; simpa [World.setCell] using this, fun k' hk hn => (Below.heap_setCell wr ⟨g, j * 3, none⟩ _ k' (fun e => hn (by rw [e]; rfl))).trans (h.gr.block k' hk hn)⟩⟩
  · rw [← flat_setK cur j v k hj]
    exact own_set_cell h.own _ _
  · rcases List.mem_or_eq_of_mem_set hy with hy | rfl
    · exact h.vs y hy
    · exact h.vs v (List.mem_of_getElem? hj)
theorem Inv.cells {w8 wr : World} {base c xn g : Nat} {cur : List V} (h : Inv w8 wr base (some ⟨g, 0, none⟩) c xn cur) {j : Nat} {v : V} (hj : cur[j]? = some v) :
    wr.cell? ⟨g, j * 3, none⟩ = some (.int .i64 v.k) ∧ wr.cell? ⟨g, j * 3 + 2, none⟩ = some (.string v.s) := by
  have hi : j < cur.length := (List.getElem?_eq_some_iff.1 hj).1
  rw [h.len] at hi
  obtain ⟨f1, _, f3⟩ := flat_get cur j v hj
  rw [h.own.cellAt _ (by omega), h.own.cellAt _ (by omega)]
  exact ⟨f1, f3⟩
theorem VRowS.take {w : World} {S : Nat → Prop} {A : Option Addr} {r : List V} (h : VRowS w S A r) (m : Nat) : VRowS w S A (r.take m) := by
  rcases h with rfl | ⟨b, off, e, hS, h⟩
  · exact .inl (by simp)
  · refine .inr ⟨b, off, e, hS, fun i v hv => h i v ?_⟩
    rw [List.getElem?_take] at hv
    split at hv
    · exact hv
    · cases hv

set_option maxHeartbeats 4000000 in
set_option maxRecDepth 100000 in
theorem few_any (A : Option Addr) (c : Nat) (l : List CM) (w : World) (h0 : ChIn w A l) (hrl : ∀ x ∈ l, x.r.length ≤ 1048576) :
    Calls Tryz.prog 8 #[.slice A l.length c, .int .i64 9] w fun e w' => (∃ v ol, e = .returned v ∧ ol.length ≤ 9 ∧ w'.ownsRow w.heap.size 28 3 v ol.length (flatK ol) ∧ (∀ x ∈ ol, FewOk x) ∧ ∀ x ∈ ol, VRowS w' (fun g => NewS w w' g ∧ v.ownBlock ≠ some g) x.A x.r) ∧ Below w.heap.size w w' := by
  obtain ⟨i2, hi, hz0, hz1, hz2⟩ := info_parts change_info
  obtain ⟨i1, hi', hz0', hz1', hz2'⟩ := info_parts value_info
  have H1 := Lib.hid h0
  have HRL := Lib.hid hrl
  obtain ⟨n, hn⟩ : ∃ n, l.length = n := ⟨_, rfl⟩
  have HN := Lib.hid hn
  have hnb := h0.len
  rw [hn] at hnb ⊢
  clear h0 hn hrl
  go_enter Tryz.func8, Tryz.ntmps8
  go_wp2_with fail
  go_loopw [5, 6] (fun v i wr => ∃ (k : Nat) (ol : List CM), k ≤ n ∧ k ≤ 9 ∧ i = .int .i64 k ∧ wr.ownsRow w.heap.size 28 3 v ol.length (flatK ol) ∧ Below w.heap.size w wr ∧ ol.length = k ∧ Hid (∀ x ∈ ol, VRowS wr (fun g => NewS w wr g ∧ v.ownBlock ≠ some g) x.A x.r) ∧ Hid (∀ x ∈ ol, FewOk x)) (fun _ i _ => n - (intOf i).toNat)
  case atStart => exact ⟨0, [], Nat.zero_le _, Nat.zero_le _, rfl, World.ownsRow_nil _ _ _ _, Below.refl _ _, rfl, Lib.hid (fun x hx => by simp at hx), Lib.hid (fun x hx => by simp at hx)⟩
  case round =>
    rename World => wo
    obtain ⟨k, ol, hk, hk9, rfl, hown, hb, hlen, HOR, HOK⟩ := hrel
    have HO := Lib.hid hown
    have HB := Lib.hid hb
    have hs := hb.size
    clear hown hb
    by_cases hlt : k < n
    · by_cases hlt9 : k < 9
      · obtain ⟨x, hx⟩ : ∃ x, l[k]? = some x := ⟨_, List.getElem?_eq_getElem (by rw [HN.out]; exact hlt)⟩
        obtain ⟨b, off, rfl, hSb, hc1, hc2, hc3⟩ := (H1.out.row.below HB.out (fun k hk => hk)).get hx
        have hm := List.mem_of_getElem? hx
        have hnm := H1.out.nm x hm
        have HVS := Lib.hid (H1.out.vs x hm)
        have hxn1 := HRL.out x hm
        have HXR := Lib.hid (fun w1 (hb : Below w.heap.size w w1) => (((H1.out.row.rows x hm).to (B := w.heap.size) (fun k hk => hk)).below hb).reads)
        obtain ⟨xnm, xA, xc, xr, xrem⟩ := x
        dsimp only at hc1 hc2 hc3 hnm HVS HXR hxn1
        obtain ⟨xn, hxn⟩ : ∃ xn, xr.length = xn := ⟨_, rfl⟩
        have HXN := Lib.hid hxn
        rw [hxn] at hc2 HXR hxn1
        clear hx hm hSb hxn
        go_upto_if 28 with (fail)
        go_cut [28] (fun s wx => ∃ nm' : ByteArray, nm'.size ≤ 9223372036854775807 ∧ wx = wo.alloc (.cells #[.string nm', .slice xA xn xc, .bool xrem] 28))
        case first =>
          by_cases hsz : (20 : Int) < (xnm.size : Int)
          · go_wp2_with fail
            go_meet
            refine ⟨xnm.extract 0 20, ?_, rfl⟩
            have := ByteArray.size_extract (a := xnm) (b := 0) (e := 20)
            omega
          · go_wp2_with fail
            go_meet
            exact ⟨xnm, hnm, rfl⟩
        case rest =>
        obtain ⟨nm', hnm', rfl⟩ := hcut
        have HBA : Hid (Below w.heap.size w (wo.alloc (.cells #[.string nm', .slice xA xn xc, .bool xrem] 28))) := Lib.hid (HB.out.alloc hs _)
        have HGA : Hid (Blk (wo.alloc (.cells #[.string nm', .slice xA xn xc, .bool xrem] 28)) wo.heap.size 28 #[.string nm', .slice xA xn xc, .bool xrem]) := Lib.hid (Blk.new wo _ _)
        have HBO : Hid (Below wo.heap.size wo (wo.alloc (.cells #[.string nm', .slice xA xn xc, .bool xrem] 28))) := Lib.hid ((Below.refl wo.heap.size wo).alloc (Nat.le_refl _) _)
        have hsa : wo.heap.size < (wo.alloc (.cells #[.string nm', .slice xA xn xc, .bool xrem] 28)).heap.size := by simp
        generalize wo.alloc (.cells #[.string nm', .slice xA xn xc, .bool xrem] 28) = wa at HBA HGA HBO hsa ⊢
        have a1 := (HGA.out.cell 1).trans rfl
        clear hc1 hc2 hc3
        go_wp2_with (at_builtin; go_loud (refine wpList_append_any _ rfl _ _ 26 rfl wa.heap.size 49 i1 _ 3 32 Tryz.underlying26 hi' hz0' hz1' hz2' rfl (by decide) _ _ _ rfl (Empty.own ⟨wa.heap.size, rfl, Nat.le_refl _, heap_alloc_new wa _⟩ 3) w.heap.size _ _ _ (flat xr) rfl ((HXR.out _ HBA.out).alloc (by omega) _) ?c1 ?c2 ?c3 ?c4 ?_))
        case c1 => exact flat_ones _
        case c2 => unfold maxLen; omega
        case c3 => omega
        case c4 => simp
        intro v8 w8 hown8 hgrow8 hat8
        obtain ⟨A8, c8, rfl, hc8⟩ := own_slice hown8
        have HI8 : Hid (Inv w8 w8 wa.heap.size A8 c8 xn xr) := Lib.hid ⟨hown8, HXN.out, HVS.out, World.grownBy.refl _ _⟩
        have HB8 : Hid (Below wo.heap.size wo w8) := Lib.hid ((HBO.out.alloc (by omega) _).grown hgrow8 (by simp; omega) (fun k e => by simp [Value.ownBlock] at e; omega))
        have HG8 : Hid (Blk w8 wo.heap.size 28 #[.string nm', .slice xA xn xc, .bool xrem]) := Lib.hid ((HGA.out.alloc _).grown hgrow8 (by simp [Value.ownBlock]; omega))
        have hw8 : wa.heap.size < w8.heap.size := by have := hgrow8.size; simp at this; omega
        have HE8 := Lib.hid (HXR.out)
        clear hown8 hgrow8 hat8 HVS HBA HBO HXR a1
        obtain ⟨m1, hm1⟩ : ∃ m1, (if 7 < xn then 7 else xn) = m1 := ⟨_, rfl⟩
        have hm7 : m1 ≤ 7 ∧ m1 ≤ xn := by rw [← hm1]; split <;> omega
        go_upto_if 39 with (fail)
        go_cut [8] (fun s wx => s = .slice A8 m1 c8 ∧ wx = w8)
        case first =>
          by_cases h7 : 7 < xn
          · have h7' : (7 : Int) < (xn : Int) := by omega
            have h7c : (7 : Int) ≤ (c8 : Int) := by omega
            rw [if_pos h7] at hm1
            subst hm1
            obtain ⟨g8, cap8, hv8, _⟩ := HI8.out.own.form (by omega)
            simp only [Value.slice.injEq, true_and] at hv8
            obtain ⟨rfl, rfl⟩ := hv8
            clear h7
            go_wp2_with fail
            go_meet
            exact ⟨rfl, rfl⟩
          · have h7' : ¬ (7 : Int) < (xn : Int) := by omega
            rw [if_neg h7] at hm1
            subst hm1
            clear h7
            go_wp2_with fail
            go_meet
            exact ⟨rfl, rfl⟩
        case rest =>
        obtain ⟨rfl, hwc⟩ := hcut
        obtain rfl : w8 = wc := hwc.symm
        clear hm1 hwc
        go_wp2_with fail
        go_loopw [9] (fun i wr => ∃ (j : Nat) (cur : List V), j ≤ m1 ∧ i = .int .i64 j ∧ Hid (Inv w8 wr wa.heap.size A8 c8 xn cur)) (fun i _ => m1 - (intOf i).toNat)
        case atStart => exact ⟨0, xr, Nat.zero_le _, rfl, HI8⟩
        case round =>
          rename World => wi
          obtain ⟨j, cur, hj, rfl, HI⟩ := hrel
          by_cases hjm : j < m1
          · obtain ⟨y, hy⟩ : ∃ y, cur[j]? = some y := ⟨_, List.getElem?_eq_getElem (by rw [HI.out.len]; omega)⟩
            obtain ⟨g8, cap8, hv8, hg8, hl8⟩ := HI.out.own.form (by omega)
            simp only [Value.slice.injEq, true_and] at hv8
            obtain ⟨rfl, rfl⟩ := hv8
            obtain ⟨d1, d2⟩ := HI.out.cells hy
            have f2 := HI.out.own.frozenAt (j * 3 + 2)
            have hys := HI.out.vs y (List.mem_of_getElem? hy)
            have HS2 := Lib.hid (fun (s : ByteArray) (hs : s.size ≤ 9223372036854775807) => HI.out.setS hy hs)
            have HY := Lib.hid hy
            obtain ⟨yk, yn, ys⟩ := y
            dsimp only at d1 d2 hys HS2
            have hj0 : (0 : Int) ≤ (j : Int) := by omega
            have hjm' : (j : Int) < (m1 : Int) := by omega
            clear hy
            go_upto_if 54 with (fail)
            go_cut [54] (fun s wx => ∃ cur', Inv w8 wx wa.heap.size (some ⟨g8, 0, none⟩) c8 xn cur')
            case first =>
              by_cases hsz : (41 : Int) < (ys.size : Int)
              · go_wp2_with fail
                go_meet
                refine ⟨_, HS2.out (ys.extract 0 41) ?_⟩
                have := ByteArray.size_extract (a := ys) (b := 0) (e := 41)
                omega
              · go_wp2_with fail
                go_meet
                exact ⟨_, HI.out⟩
            case rest =>
            obtain ⟨cur', hI'⟩ := hcut
            obtain ⟨y', hy'⟩ : ∃ y', cur'[j]? = some y' := ⟨_, List.getElem?_eq_getElem (by rw [hI'.len]; omega)⟩
            obtain ⟨e1, _⟩ := hI'.cells hy'
            have f1 := hI'.own.frozenAt (j * 3)
            have HK2 := Lib.hid (fun (k : Int) => hI'.setK hy' k)
            obtain ⟨yk', yn', ys'⟩ := y'
            dsimp only at e1 HK2
            clear HS2 HI d1 d2 f2 hy' hI' HY
            go_wp2_with (go_at_call 19; refine (near_any _ _).mono ?_; rintro e w' ⟨rfl, rfl⟩)
            have HI2 := Lib.hid (HK2.out (nearK yk'))
            clear HK2
            go_roundw
            case rel => exact ⟨j + 1, _, by omega, by go_num, HI2⟩
            case measure => simp [intOf]; omega
          · obtain rfl : j = m1 := by omega
            have hwi : w8.heap.size ≤ wi.heap.size := HI.out.gr.size
            have hnb8 : ∀ g, (Value.slice A8 xn c8).ownBlock = some g → wa.heap.size ≤ g ∧ g < wi.heap.size := fun g hg => HI.out.own.lt g hg
            have HGi : Hid (Blk wi wo.heap.size 28 #[.string nm', .slice xA xn xc, .bool xrem]) := Lib.hid (HG8.out.grown HI.out.gr (fun e => by have := (hnb8 _ e.symm).1; omega))
            have HBi : Hid (Below wo.heap.size wo wi) := Lib.hid (HB8.out.grown HI.out.gr HB8.out.size (fun g hg => by have := (hnb8 g hg).1; omega))
            have HV8 : Hid (VRowS wi (fun g => (wa.heap.size ≤ g ∧ g < wi.heap.size) ∧ ∀ o, wi.frozen? ⟨g, o, none⟩ = false) A8 (cur.take j)) := Lib.hid (by
              obtain ⟨A9, c9, hv9, _, hr9⟩ := own_vals (r := cur) (S := fun g => (wa.heap.size ≤ g ∧ g < wi.heap.size) ∧ ∀ o, wi.frozen? ⟨g, o, none⟩ = false) (by rw [HI.out.len]; exact HI.out.own) (fun g h1 h2 h3 => ⟨⟨h1, h2⟩, h3⟩)
              obtain ⟨rfl, rfl⟩ : A8 = A9 ∧ c8 = c9 := by rw [HI.out.len] at hv9; simpa using hv9
              exact hr9.take j)
            have HVS := Lib.hid (fun y (hy : y ∈ cur.take j) => HI.out.vs y (List.mem_of_mem_take hy))
            have hct : (cur.take j).length = j := by rw [List.length_take, HI.out.len]; omega
            have g0 := (HGi.out.cell 0).trans rfl
            have g1 := (HGi.out.cell 1).trans rfl
            have g2 := (HGi.out.cell 2).trans rfl
            have fg := HGi.out.frozen 1
            have HB9 : Hid (Below wo.heap.size wo (wi.setCell ⟨wo.heap.size, 1, none⟩ (.slice A8 j c8))) := Lib.hid (HBi.out.setCell (show wo.heap.size ≤ wo.heap.size from Nat.le_refl _) _)
            have hs9 : (wi.setCell ⟨wo.heap.size, 1, none⟩ (.slice A8 j c8)).heap.size = wi.heap.size := by simp [World.setCell]
            have HO9 := Lib.hid (ownM_below HO.out HB9.out)
            have HK9 : Hid (∀ g, g ≠ wo.heap.size → (wi.setCell ⟨wo.heap.size, 1, none⟩ (.slice A8 j c8)).heap[g]? = wi.heap[g]?) := Lib.hid (fun g hg => Below.heap_setCell wi ⟨wo.heap.size, 1, none⟩ _ g hg)
            have HS9 := Lib.hid hs9
            have hlo := HB9.out.size
            have hw9 : wo.heap.size < wi.heap.size := by omega
            clear hs9 HI HG8 HI8 HE8 hnb8
            have HG9 : Hid (Blk (wi.setCell ⟨wo.heap.size, 1, none⟩ (.slice A8 j c8)) wo.heap.size 28 #[.string nm', .slice A8 j c8, .bool xrem]) := Lib.hid (HGi.out.set_ 1 (.slice A8 j c8))
            go_upto_region 18 with (fail)
            generalize wi.setCell ⟨wo.heap.size, 1, none⟩ (.slice A8 j c8) = w9 at HB9 HO9 HK9 HS9 HG9 hlo ⊢
            have g0 := (HG9.out.cell 0).trans rfl
            have g1 := (HG9.out.cell 1).trans rfl
            have g2 := (HG9.out.cell 2).trans rfl
            go_wp2_with (at_builtin; refine wpList_append_any _ rfl _ _ 22 rfl w.heap.size 28 i2 _ 3 48 Tryz.underlying22 hi hz0 hz1 hz2 rfl (by decide) _ _ _ rfl (HO9.out.alloc _) (w9.heap.size + 1) _ _ _ [.string nm', .slice A8 j c8, .bool xrem] rfl ⟨rfl, fun _ => ⟨_, rfl, Nat.lt_succ_self _, World.news_of_block (heap_alloc_new w9 _)⟩⟩ ?d1 ?d2 ?d3 ?d4 ?_)
            case d1 => intro u hu; simp only [List.mem_cons, List.not_mem_nil, or_false] at hu; rcases hu with rfl | rfl | rfl <;> rfl
            case d2 => unfold maxLen; omega
            case d3 => omega
            case d4 => simp; omega
            intro v5 w5 hown5 hgrow5 hat5
            obtain ⟨hk1, hk2, hb5⟩ := snoc_blocks (v' := v5) (fun g hg => HO.out.lt g hg) hs HB.out HB9.out _ hgrow5 (by
              rcases hat5 with h | h
              · exact .inl h
              · exact .inr (by simpa using h))
            obtain ⟨x', ex'⟩ : ∃ x' : CM, x' = ⟨nm', A8, c8, cur.take j, xrem⟩ := ⟨_, rfl⟩
            have HO5 : Hid (w5.ownsRow w.heap.size 28 3 v5 (ol ++ [x']).length (flatK (ol ++ [x']))) := Lib.hid (by rw [flatK_append, flatK_one, List.length_append, hlen, ex']; simp only [CM.cs, hct]; exact hown5)
            have HR5 : Hid (∀ x ∈ ol ++ [x'], VRowS w5 (fun g => NewS w w5 g ∧ v5.ownBlock ≠ some g) x.A x.r) := Lib.hid (fun x hx => by
              rcases List.mem_append.1 hx with hx | hx
              · exact ((HOR.out x hx).kept fun g hg => (hk1 g hg).1).mono fun g hg => (hk1 g hg).2
              · rw [List.mem_singleton.1 hx, ex']
                have hne : ∀ g, (wa.heap.size ≤ g ∧ g < wi.heap.size) ∧ (∀ o, wi.frozen? ⟨g, o, none⟩ = false) → g ≠ wo.heap.size ∧ NewS wo w9 g := fun g hg => by
                  have h1 : g ≠ wo.heap.size := by have := hg.1.1; omega
                  refine ⟨h1, by have := hg.1.1; omega, by have := hg.1.2; have := HS9.out; omega, fun o => (frozen_of_block (HK9.out g h1)).trans (hg.2 o)⟩
                exact (HV8.out.kept fun g hg => (hk2 g (hne g hg).2).1.trans (HK9.out g (hne g hg).1)).mono fun g hg => (hk2 g (hne g hg).2).2)
            have HK5 : Hid (∀ x ∈ ol ++ [x'], FewOk x) := Lib.hid (fun x hx => by
              rcases List.mem_append.1 hx with hx | hx
              · exact HOK.out x hx
              · rw [List.mem_singleton.1 hx, ex']
                exact ⟨hnm', by show (cur.take j).length ≤ 7; omega, HVS.out⟩)
            have hol5 : (ol ++ [x']).length = k + 1 := by rw [List.length_append, hlen]; rfl
            have HB5 := Lib.hid hb5
            generalize ol ++ [x'] = ol5 at HO5 HR5 HK5 hol5
            clear hown5 hgrow5 hat5 hk1 hk2 hb5 HO9 HB9 HK9 HS9 HG9 HBi HGi HV8 HVS HO HB HOR HOK hct g0 g1 g2
            go_wp2_with fail
            go_roundw
            case rel => exact ⟨k + 1, ol5, by omega, by omega, by go_num, HO5.out, HB5.out, hol5, HR5, HK5⟩
            case measure => simp [intOf]; omega
      · have h9 : ¬ (k : Int) < 9 := by omega
        have hkn : (k : Int) < (n : Int) := by omega
        go_wp2_with fail
        go_ret
        exact ⟨⟨_, rfl, ol, by omega, HO.out, HOK.out, HOR.out⟩, HB.out⟩
    · have hkn : ¬ (k : Int) < (n : Int) := by omega
      go_wp2_with fail
      go_ret
      exact ⟨⟨_, rfl, ol, by omega, HO.out, HOK.out, HOR.out⟩, HB.out⟩
end Go.Proofs.YtajnnkapgnmoaaaGreat
/-
  law 16's known runs, by the contracts.
-/
set_option linter.unusedVariables false
set_option linter.unusedSimpArgs false
namespace Go.Proofs.YtajnnkapgnmoaaaGreat
open Go.RowKit

theorem keep_put16 (s : ByteArray) (A : Option Addr) (n c : Nat) (w : World) : Calls Tryz.prog 29 #[.string s, .slice A n c] w fun e w' => e = .returned (.agg #[.string s, .slice A n c, .bool false]) ∧ Below w.heap.size w w' := by
  go_enter Tryz.func29, Tryz.ntmps29
  go_wp2
  exact bodyPost_ret (v := .agg #[.string s, .slice A n c, .bool false]) (by simp [results, Tryz.results29, go_sem]) rfl ⟨rfl, (Below.refl _ _).alloc (Nat.le_refl _) _⟩
theorem keep_take16 (s : ByteArray) (A : Option Addr) (n c : Nat) (w : World) : Calls Tryz.prog 30 #[.string s, .slice A n c] w fun e w' => e = .returned (.agg #[.string s, .slice A n c, .bool true]) ∧ Below w.heap.size w w' := by
  go_enter Tryz.func30, Tryz.ntmps30
  go_wp2
  exact bodyPost_ret (v := .agg #[.string s, .slice A n c, .bool true]) (by simp [results, Tryz.results30, go_sem]) rfl ⟨rfl, (Below.refl _ _).alloc (Nat.le_refl _) _⟩
theorem nums16 (x y : Int) (w0 w : World) (g : Nat) (t : TypeId) (hg : w.heap[g]? = some (.cells #[.int .i64 x, .int .i64 y] t (0, 0))) :
    Calls Tryz.prog 27 #[.slice (some ⟨g, 0, none⟩) 2 2] w fun e w' => (∃ A c, e = .returned (.slice A 2 c) ∧ VRow w' w'.heap.size A [numV x, numV y]) ∧ Below w.heap.size w w' := by
  have hlt := (Array.getElem?_eq_some_iff.1 hg).1
  refine (nums_any g 0 2 [x, y] 2 rfl (by omega) w hlt (fun k hk => ?_)).mono ?_
  · have : k = 0 ∨ k = 1 := by omega
    rcases this with rfl | rfl
    · exact (Blk.cell hg 0).trans rfl
    · exact (Blk.cell hg 1).trans rfl
  · rintro e w' ⟨v, he, hown, hb⟩
    obtain ⟨A, c, hv, _, hr, _⟩ := own_row hown
    exact ⟨⟨A, c, by rw [he, hv]; rfl, hr⟩, hb⟩
def kT (b : Bool) : Ch := ⟨nmU, [numV 1, numV 1], b⟩
theorem known_one : applyK (tabsK 0 []) [kT false, kT true] = (0, 0, (applyK (tabsK 0 []) [kT false, kT true]).2.2.1, [(nmU, [])]) := by
  have h : ∀ c ∈ [kT false, kT true], GoodC c := fun c hc => by
    simp only [List.mem_cons, List.not_mem_nil, or_false] at hc
    rcases hc with rfl | rfl
    · exact .inr ⟨rfl, (by decide +kernel : fitsB uC [numV 1, numV 1] = true)⟩
    · exact .inr ⟨rfl, (by decide +kernel : fitsB uC [numV 1, numV 1] = true)⟩
  have h1 : (runK (tabsK 0 []) 0 [kT false, kT true]).1 = 0 := by kernel_rfl
  have h2 : (nmsOf (hasN nmT ([kT false, kT true].map Ch.nm)) (hasN nmU ([kT false, kT true].map Ch.nm))).map (deltaK (runK (tabsK 0 []) 0 [kT false, kT true]).2.2 (tabsK 0 [])) = [(nmU, [])] := by kernel_rfl
  have h3 : applyK (tabsK 0 []) [kT false, kT true] = (0, 0, (runK (tabsK 0 []) 0 [kT false, kT true]).2.2, (onceN ([kT false, kT true].map Ch.nm)).map (deltaK (runK (tabsK 0 []) 0 [kT false, kT true]).2.2 (tabsK 0 []))) := by
    unfold applyK
    rw [if_neg (by decide), if_neg (by decide), if_pos h1]
  rw [h3, onceN_two (good_names h)]
  exact congrArg _ (congrArg _ (congrArg _ h2))
theorem known_two : (applyK (tabsK 0 []) [kT true]).1 = 25 ∧ (applyK (tabsK 0 []) [kT true]).2.1 = 0 := ⟨by kernel_rfl, by kernel_rfl⟩

set_option maxHeartbeats 2000000 in
set_option maxRecDepth 100000 in
theorem known16 (W : World) : Calls Tryz.prog 12 #[] W fun e w' => e = .returned (.bool true) ∧ Below W.heap.size W w' := by
  have HT0 := Lib.hid (tables_any 0 (by omega) (by omega) none 0 [] W (S := fun k => k < W.heap.size) ⟨.inl rfl, fun x hx => by simp at hx⟩ (fun k hk => hk) (by simp) (fun x hx => by simp at hx) (fun x hx => by simp at hx))
  have HKO := Lib.hid (KeysOk_tabs 0 (by omega) [])
  have ne : (nmU.toList == nmU.toList) = true := beq_self_eq_true _
  go_enter Tryz.func12, Tryz.ntmps12
  go_wp2_with fail
  refine HT0.out.mono ?_
  rintro e w1 ⟨⟨v, rfl, hT⟩, hb1⟩
  obtain ⟨g, s, rfl, hTR, hsk0, _⟩ := hT
  have hsk : s.map TM.key = tabsK 0 [] := hsk0
  have hs2 : s.length = 2 := by have := congrArg List.length hsk; simpa [tabsK] using this
  have HTR := Lib.hid hTR
  have HSK := Lib.hid hsk
  have HS2 := Lib.hid hs2
  have HB1 := Lib.hid hb1
  have h1s := hb1.size
  have HAP := Lib.hid (fun (B : Option Addr) (d : Nat) (cs : List CM) (w2 : World) (hb : Below w1.heap.size w1 w2) (hC : ChRow w2 (fun k => k < w2.heap.size) B cs) (hl : cs.length ≤ 1000000) (hr : ∀ x ∈ cs, x.r.length ≤ 1000) => by
    have := bapply_any (some ⟨g, 0, none⟩) B 2 d s cs w2 (S := fun k => k < w2.heap.size) ((hTR.kept fun k hk => hb.block k hk.2).mono fun k hk => Nat.lt_of_lt_of_le hk.2 hb.size) (fun k hk => hk) (by rw [hsk]; exact HKO.out.more (by omega)) (by omega) hC hl hr
    rw [hs2, hsk] at this
    exact this)
  clear hTR hsk hsk0 hs2 hb1 HT0
  go_wp2_with fail
  refine (nums16 1 1 w1 _ w1.heap.size _ (heap_alloc_new w1 _)).mono ?_
  rintro e w2 ⟨⟨A1, c1, rfl, hr1⟩, hb2⟩
  have HB2 : Hid (Below w1.heap.size w1 w2) := Lib.hid (((Below.refl _ _).alloc (Nat.le_refl _) _).trans (hb2.mono (by simp)))
  have HR1 := Lib.hid hr1
  have h2s := HB2.out.size
  clear hb2 hr1
  go_wp2_with fail
  refine (keep_put16 _ A1 2 c1 _).mono ?_
  rintro e w3 ⟨rfl, hb3⟩
  have HB3 : Hid (Below w2.heap.size w2 w3) := Lib.hid hb3
  have h3s := HB3.out.size
  clear hb3
  go_wp2_with fail
  refine (nums16 1 1 w3 _ w3.heap.size _ (heap_alloc_new w3 _)).mono ?_
  rintro e w4 ⟨⟨A2, c2, rfl, hr2⟩, hb4⟩
  have HB4 : Hid (Below w3.heap.size w3 w4) := Lib.hid (((Below.refl _ _).alloc (Nat.le_refl _) _).trans (hb4.mono (by simp)))
  have HR2 := Lib.hid hr2
  have h4s := HB4.out.size
  clear hb4 hr2
  go_wp2_with fail
  refine (keep_take16 _ A2 2 c2 _).mono ?_
  rintro e w5 ⟨rfl, hb5⟩
  have HB5 : Hid (Below w4.heap.size w4 w5) := Lib.hid hb5
  have h5s := HB5.out.size
  clear hb5
  go_wp2_with fail
  have h6a : Below w5.heap.size w5 (w5.alloc (.cells #[.string ⟨#[117]⟩, .slice A1 2 c1, .bool false, .string ⟨#[117]⟩, .slice A2 2 c2, .bool true] 28)) := (Below.refl _ _).alloc (Nat.le_refl _) _
  have hbk : Blk (w5.alloc (.cells #[.string ⟨#[117]⟩, .slice A1 2 c1, .bool false, .string ⟨#[117]⟩, .slice A2 2 c2, .bool true] 28)) w5.heap.size 28 #[.string ⟨#[117]⟩, .slice A1 2 c1, .bool false, .string ⟨#[117]⟩, .slice A2 2 c2, .bool true] := Blk.new _ _ _
  have hca : ChRow (w5.alloc (.cells #[.string ⟨#[117]⟩, .slice A1 2 c1, .bool false, .string ⟨#[117]⟩, .slice A2 2 c2, .bool true] 28)) (fun k => k < (w5.alloc (.cells #[.string ⟨#[117]⟩, .slice A1 2 c1, .bool false, .string ⟨#[117]⟩, .slice A2 2 c2, .bool true] 28)).heap.size) (some ⟨w5.heap.size, 0, none⟩) [(⟨nmU, A1, c1, [numV 1, numV 1], false⟩ : CM), ⟨nmU, A2, c2, [numV 1, numV 1], true⟩] := by
    have up : ∀ {wa : World} {A : Option Addr} {r : List V}, VRow wa wa.heap.size A r → Below wa.heap.size wa (w5.alloc (.cells #[.string ⟨#[117]⟩, .slice A1 2 c1, .bool false, .string ⟨#[117]⟩, .slice A2 2 c2, .bool true] 28)) → VRowS (w5.alloc (.cells #[.string ⟨#[117]⟩, .slice A1 2 c1, .bool false, .string ⟨#[117]⟩, .slice A2 2 c2, .bool true] 28)) (fun k => k < (w5.alloc (.cells #[.string ⟨#[117]⟩, .slice A1 2 c1, .bool false, .string ⟨#[117]⟩, .slice A2 2 c2, .bool true] 28)).heap.size) A r := fun {wa A r} h hb => by
      rcases (h.below hb).more hb.size with h | ⟨b, o, e, hlt, h⟩
      · exact .inl h
      · exact .inr ⟨b, o, e, hlt, h⟩
    refine ⟨.inr ⟨w5.heap.size, 0, rfl, by simp, fun i x hx => ?_⟩, fun x hx => ?_⟩
    · match i, hx with
      | 0, hx =>
        obtain rfl := Option.some.inj hx
        exact ⟨(hbk.cell 0).trans rfl, (hbk.cell 1).trans rfl, (hbk.cell 2).trans rfl⟩
      | 1, hx =>
        obtain rfl := Option.some.inj hx
        exact ⟨(hbk.cell 3).trans rfl, (hbk.cell 4).trans rfl, (hbk.cell 5).trans rfl⟩
      | i + 2, hx => simp at hx
    · simp only [List.mem_cons, List.not_mem_nil, or_false] at hx
      rcases hx with rfl | rfl
      · exact up HR1.out ((((HB3.out.trans (HB4.out.mono h3s)).trans (HB5.out.mono (by omega))).trans (h6a.mono (by omega))))
      · exact up HR2.out (HB5.out.trans (h6a.mono h5s))
  have hap := Lib.hid (HAP.out (some ⟨w5.heap.size, 0, none⟩) 2 [(⟨nmU, A1, c1, [numV 1, numV 1], false⟩ : CM), ⟨nmU, A2, c2, [numV 1, numV 1], true⟩] _ (((((HB2.out.trans (HB3.out.mono h2s)).trans (HB4.out.mono (by omega))).trans (HB5.out.mono (by omega))).trans (h6a.mono (by omega)))) hca (by simp) (fun x hx => by
    simp only [List.mem_cons, List.not_mem_nil, or_false] at hx
    rcases hx with rfl | rfl <;> simp))
  have ek : applyK (tabsK 0 []) ([(⟨nmU, A1, c1, [numV 1, numV 1], false⟩ : CM), ⟨nmU, A2, c2, [numV 1, numV 1], true⟩].map CM.ch) = (0, 0, (applyK (tabsK 0 []) [kT false, kT true]).2.2.1, [(nmU, [])]) := known_one
  rw [ek] at hap
  have HBa : Hid (Below w1.heap.size w1 (w5.alloc (.cells #[.string ⟨#[117]⟩, .slice A1 2 c1, .bool false, .string ⟨#[117]⟩, .slice A2 2 c2, .bool true] 28))) := Lib.hid ((((HB2.out.trans (HB3.out.mono h2s)).trans (HB4.out.mono (by omega))).trans (HB5.out.mono (by omega))).trans (h6a.mono (by omega)))
  have h6z : w5.heap.size < (w5.alloc (.cells #[.string ⟨#[117]⟩, .slice A1 2 c1, .bool false, .string ⟨#[117]⟩, .slice A2 2 c2, .bool true] 28)).heap.size := by simp
  clear hca hbk ek h6a
  refine hap.out.mono ?_
  rintro e w6 ⟨v, dv, rfl, hb6, _, har⟩
  obtain ⟨Ax, cx, x, rfl, hX, hxk⟩ := (har rfl).tells
  have hx1 : x.length = 1 := by have := congrArg List.length hxk; simpa using this
  obtain ⟨x0, rfl⟩ : ∃ x0, x = [x0] := by
    match x, hx1 with
    | [x0], _ => exact ⟨x0, rfl⟩
  have hx0 : x0.key = (nmU, []) := by simpa using hxk
  have hxn : x0.nm = nmU := congrArg Prod.fst hx0
  have hxr : x0.rows.length = 0 := by have := congrArg (fun z => z.2.length) hx0; simpa [XM.key, its] using this
  obtain ⟨bx, ox, rfl, hSx, p1, p2⟩ := hX.get (i := 0) (t := x0) rfl
  rw [hxn] at p1
  rw [hxr] at p2
  rw [Nat.zero_mul, Nat.add_zero] at p1 p2
  have HX1 : Hid (bx < w6.heap.size ∧ w6.cell? ⟨bx, ox, none⟩ = some (.string nmU) ∧ w6.cell? ⟨bx, ox + 1, none⟩ = some (.slice x0.A 0 x0.c)) := Lib.hid ⟨hSx.2.1, p1, p2⟩
  have h6s := hb6.size
  have HB6 : Hid (Below w1.heap.size w1 w6) := Lib.hid (HBa.out.trans (hb6.mono HBa.out.size))
  have h16 := HB6.out.size
  obtain ⟨xA, xcc, hxA⟩ : ∃ xA xcc, x0.A = xA ∧ x0.c = xcc := ⟨_, _, rfl, rfl⟩
  rw [hxA.1, hxA.2] at HX1
  clear hX hxk hx0 hxn hxr hSx p1 p2 har hb6 hap HBa HB2 HB3 HB4 HB5 HR1 HR2
  go_wp2_with fail
  refine (nums16 1 1 w6 _ w6.heap.size _ (heap_alloc_new w6 _)).mono ?_
  rintro e w7 ⟨⟨A3, c3, rfl, hr3⟩, hb7⟩
  have HB7 : Hid (Below w6.heap.size w6 w7) := Lib.hid (((Below.refl _ _).alloc (Nat.le_refl _) _).trans (hb7.mono (by simp)))
  have HR3 := Lib.hid hr3
  have h7s := HB7.out.size
  clear hb7 hr3
  go_wp2_with fail
  refine (keep_take16 _ A3 2 c3 _).mono ?_
  rintro e w8 ⟨rfl, hb8⟩
  have HB8 : Hid (Below w7.heap.size w7 w8) := Lib.hid hb8
  have h8s := HB8.out.size
  clear hb8
  go_wp2_with fail
  have h9a : Below w8.heap.size w8 (w8.alloc (.cells #[.string ⟨#[117]⟩, .slice A3 2 c3, .bool true] 28)) := (Below.refl _ _).alloc (Nat.le_refl _) _
  have hbk : Blk (w8.alloc (.cells #[.string ⟨#[117]⟩, .slice A3 2 c3, .bool true] 28)) w8.heap.size 28 #[.string ⟨#[117]⟩, .slice A3 2 c3, .bool true] := Blk.new _ _ _
  have hca : ChRow (w8.alloc (.cells #[.string ⟨#[117]⟩, .slice A3 2 c3, .bool true] 28)) (fun k => k < (w8.alloc (.cells #[.string ⟨#[117]⟩, .slice A3 2 c3, .bool true] 28)).heap.size) (some ⟨w8.heap.size, 0, none⟩) [(⟨nmU, A3, c3, [numV 1, numV 1], true⟩ : CM)] := by
    refine ⟨.inr ⟨w8.heap.size, 0, rfl, by simp, fun i x hx => ?_⟩, fun x hx => ?_⟩
    · match i, hx with
      | 0, hx =>
        obtain rfl := Option.some.inj hx
        exact ⟨(hbk.cell 0).trans rfl, (hbk.cell 1).trans rfl, (hbk.cell 2).trans rfl⟩
      | i + 1, hx => simp at hx
    · rw [List.mem_singleton.1 hx]
      rcases (HR3.out.below (HB8.out.trans (h9a.mono h8s))).more (HB8.out.trans (h9a.mono h8s)).size with h | ⟨b, o, e, hlt, h⟩
      · exact .inl h
      · exact .inr ⟨b, o, e, hlt, h⟩
  have HBb : Hid (Below w6.heap.size w6 (w8.alloc (.cells #[.string ⟨#[117]⟩, .slice A3 2 c3, .bool true] 28))) := Lib.hid ((HB7.out.trans (HB8.out.mono h7s)).trans (h9a.mono (by omega)))
  have hap := Lib.hid (HAP.out (some ⟨w8.heap.size, 0, none⟩) 1 [(⟨nmU, A3, c3, [numV 1, numV 1], true⟩ : CM)] _ (HB6.out.trans (HBb.out.mono h16)) hca (by simp) (fun x hx => by rw [List.mem_singleton.1 hx]; simp))
  have ek1 : (applyK (tabsK 0 []) ([(⟨nmU, A3, c3, [numV 1, numV 1], true⟩ : CM)].map CM.ch)).1 = 25 := known_two.1
  have ek2 : (applyK (tabsK 0 []) ([(⟨nmU, A3, c3, [numV 1, numV 1], true⟩ : CM)].map CM.ch)).2.1 = 0 := known_two.2
  rw [ek1, ek2] at hap
  clear hca hbk h9a ek1 ek2
  refine hap.out.mono ?_
  rintro e w9 ⟨v9, dv9, rfl, hb9, _, _⟩
  have HB9 : Hid (Below w6.heap.size w6 w9) := Lib.hid (HBb.out.trans (hb9.mono HBb.out.size))
  obtain ⟨hbx, q1, q2⟩ := HX1.out
  have c1' : w9.cell? ⟨bx, ox, none⟩ = some (.string ⟨#[117]⟩) := (HB9.out.cell (p := ⟨bx, ox, none⟩) hbx).trans q1
  have c2' := (HB9.out.cell (p := ⟨bx, ox + 1, none⟩) hbx).trans q2
  have ne2 : ((⟨#[117]⟩ : ByteArray).toList == (⟨#[117]⟩ : ByteArray).toList) = true := beq_self_eq_true _
  clear hap hb9 q1 q2 hbx HBb HB7 HB8 HR3
  go_wp2_with fail
  go_ret
  exact ⟨rfl, HB1.out.trans ((HB6.out.trans (HB9.out.mono h16)).mono h1s)⟩
end Go.Proofs.YtajnnkapgnmoaaaGreat
/-
  law 16's BatchTells.
-/
set_option linter.unusedVariables false
set_option linter.unusedSimpArgs false
namespace Go.Proofs.YtajnnkapgnmoaaaGreat
open Go.RowKit

/-- a slice of Booleans that came in -/
def LRow (w : World) (B : Nat) (A : Option Addr) (l : List Bool) : Prop := l = [] ∨ ∃ b off, A = some ⟨b, off, none⟩ ∧ b < B ∧ ∀ (i : Nat) x, l[i]? = some x → w.cell? ⟨b, off + i, none⟩ = some (.bool x)
theorem wp_store_change {op : Oper} {a : Act} {w : World} {K : Act → World → Prop} {Q : Exit → Act → World → Prop} {p v : Nat} (ho : op.op = .store 28 (.tmp p) (.tmp v)) {b : Nat} {x : ByteArray} {A : Option Addr} {n c : Nat} {z : Bool} {u1 u2 u3 : Value}
    (hp : a.tmps.getD p undef = .pointer (some ⟨b, 0, none⟩)) (hv : a.tmps.getD v undef = .agg #[.string x, .slice A n c, .bool z])
    (c1 : w.cell? ⟨b, 0, none⟩ = some u1) (c2 : w.cell? ⟨b, 1, none⟩ = some u2) (c3 : w.cell? ⟨b, 2, none⟩ = some u3)
    (f1 : w.frozen? ⟨b, 0, none⟩ = false) (f2 : w.frozen? ⟨b, 1, none⟩ = false) (f3 : w.frozen? ⟨b, 2, none⟩ = false)
    (hK : K (a.put op.dst undef) (((w.setCell ⟨b, 0, none⟩ (.string x)).setCell ⟨b, 1, none⟩ (.slice A n c)).setCell ⟨b, 2, none⟩ (.bool z))) : op.wp Tryz.prog a w K Q := by
  have e1 : a.eval (.tmp p) = .pointer (some ⟨b, 0, none⟩) := hp
  have e2 : a.eval (.tmp v) = .agg #[.string x, .slice A n c, .bool z] := hv
  unfold Oper.wp execOp
  simp only [ho, e1, e2]
  clear e1 e2 hp hv ho
  go_simp
  exact hK
theorem wpList_store_change {ops : Array Oper} {rest : List Oper} {op : Oper} {a : Act} {w : World} {Q : Exit → Act → World → Prop} {p v : Nat} (hgd : op.guard = none) (ho : op.op = .store 28 (.tmp p) (.tmp v)) {b : Nat} {x : ByteArray} {A : Option Addr} {n c : Nat} {z : Bool} {u1 u2 u3 : Value}
    (hp : a.tmps.getD p undef = .pointer (some ⟨b, 0, none⟩)) (hv : a.tmps.getD v undef = .agg #[.string x, .slice A n c, .bool z])
    (c1 : w.cell? ⟨b, 0, none⟩ = some u1) (c2 : w.cell? ⟨b, 1, none⟩ = some u2) (c3 : w.cell? ⟨b, 2, none⟩ = some u3)
    (f1 : w.frozen? ⟨b, 0, none⟩ = false) (f2 : w.frozen? ⟨b, 1, none⟩ = false) (f3 : w.frozen? ⟨b, 2, none⟩ = false)
    (h : wpList Tryz.prog ops Q rest (a.put op.dst undef) (((w.setCell ⟨b, 0, none⟩ (.string x)).setCell ⟨b, 1, none⟩ (.slice A n c)).setCell ⟨b, 2, none⟩ (.bool z))) : wpList Tryz.prog ops Q (op :: rest) a w :=
  wpList_plain hgd fun K hK => wp_store_change ho hp hv c1 c2 c3 f1 f2 f3 (hK _ _ h)
theorem rem66 (x : Int) : -66 < x.tmod 66 ∧ x.tmod 66 < 66 ∧ IntKind.i64.wrap (x.tmod 66) = x.tmod 66 := by
  have h1 := Int.tmod_lt_of_pos x (b := 66) (by omega)
  have h2 : -66 < x.tmod 66 := by
    rcases Int.lt_or_le x 0 with h | h
    · have h3 : (-x).tmod 66 < 66 := Int.tmod_lt_of_pos (-x) (by omega)
      rw [Int.neg_tmod] at h3
      omega
    · have := Int.tmod_nonneg 66 h
      omega
  refine ⟨h2, h1, ?_⟩
  rw [IntKind.wrap_i64]
  omega

set_option maxHeartbeats 4000000 in
set_option maxRecDepth 100000 in
theorem batchTells_any (n : Int) (A B D : Option Addr) (c d e0 : Nat) (l0 l1 : List CM) (bl : List Bool) (W : World) (h0 : ChIn W A l0) (h1 : ChIn W B l1) (hrl : ∀ x ∈ l1, x.r.length ≤ 1048576) (hbl : LRow W W.heap.size D bl) (hbn : bl.length ≤ 9223372036854775807) :
    Calls Tryz.prog 3 #[.int .i64 n, .slice A l0.length c, .slice B l1.length d, .slice D bl.length e0] W fun e w' => e = .returned (.bool true) ∧ Below W.heap.size W w' := by
  obtain ⟨i2, hi, hz0, hz1, hz2⟩ := info_parts change_info
  obtain ⟨m1, m2, m3⟩ := rem66 n
  obtain ⟨nk, hnk⟩ : ∃ nk, n.tmod 66 = nk := ⟨_, rfl⟩
  rw [hnk] at m1 m2 m3
  have HT0 := Lib.hid (fun w1 (hb : Below W.heap.size W w1) => h0.tables hb nk (by omega) (by omega) c)
  have HFW := Lib.hid (few_any B d l1 W h1 hrl)
  have HLB := Lib.hid hbl
  have hkn := Lib.hid (fun w3 => known16 w3)
  have HKO := Lib.hid (KeysOk_tabs nk (by omega) (l0.map CM.ch))
  obtain ⟨n1, hn1⟩ : ∃ n1, l1.length = n1 := ⟨_, rfl⟩
  obtain ⟨n0, hn0⟩ : ∃ n0, l0.length = n0 := ⟨_, rfl⟩
  obtain ⟨nb, hnb⟩ : ∃ nb, bl.length = nb := ⟨_, rfl⟩
  have HNB := Lib.hid hnb
  have hw := h1.row
  rw [hn1] at HFW ⊢
  rw [hn0] at HT0 ⊢
  rw [hnb] at hbn ⊢
  clear h0 h1 hn1 hn0 hnb hrl hbl hw
  go_enter Tryz.func3, Tryz.ntmps3
  go_wp2_with fail
  refine HFW.out.mono ?_
  rintro e w2 ⟨⟨v, ol, rfl, hol9, hown, hok, hrows⟩, hb2⟩
  obtain ⟨A2, c2, rfl, hc2, hCR⟩ := own_chs (S := fun g => g < w2.heap.size) hown (fun g _ h _ => h) (fun x hx => (hrows x hx).mono fun g hg => hg.1.2.1)
  have HCR := Lib.hid hCR
  have HOK := Lib.hid hok
  have HB2 := Lib.hid hb2
  have hs2 := hb2.size
  obtain ⟨m, hm⟩ : ∃ m, ol.length = m := ⟨_, rfl⟩
  have HM := Lib.hid hm
  rw [hm] at hol9 ⊢
  clear hown hok hrows hb2 hCR hm HFW hc2
  go_wp2_with fail
  go_loopw [10, 12] (fun v i wr => ∃ (k : Nat) (sl : List CM), k ≤ m ∧ i = .int .i64 k ∧ wr.ownsRow w2.heap.size 28 3 v sl.length (flatK sl) ∧ Below w2.heap.size w2 wr ∧ Hid (∀ x ∈ sl, VRowS wr (fun g => g < wr.heap.size ∧ v.ownBlock ≠ some g) x.A x.r) ∧ Hid (∀ x ∈ sl, x.r.length ≤ 7) ∧ sl.length = k) (fun _ i _ => m - (intOf i).toNat)
  case atStart => exact ⟨0, [], Nat.zero_le _, rfl, World.ownsRow_nil _ _ _ _, Below.refl _ _, Lib.hid (fun x hx => by simp at hx), Lib.hid (fun x hx => by simp at hx), rfl⟩
  case round =>
    rename World => wo
    obtain ⟨k, sl, hk, rfl, ho, hb, HSR, HSL, hsl⟩ := hrel
    have HO := Lib.hid ho
    have HB := Lib.hid hb
    have hs := hb.size
    clear ho hb
    by_cases hlt : k < m
    · obtain ⟨x, hx⟩ : ∃ x, ol[k]? = some x := ⟨_, List.getElem?_eq_getElem (by rw [HM.out]; exact hlt)⟩
      obtain ⟨b, off, rfl, hSb, hc1, hc2, hc3⟩ := (HCR.out.below HB.out (fun k hk => hk)).get hx
      have hm := List.mem_of_getElem? hx
      have hfo := HOK.out x hm
      have HXV := Lib.hid ((HCR.out.below HB.out (fun k hk => hk)).rows x hm)
      have HBD : Hid (∀ w1, Below W.heap.size W w1 → k < nb → ∃ q, w1.cell? ⟨(D.getD ⟨0, 0, none⟩).block, (D.getD ⟨0, 0, none⟩).off + k, none⟩ = some (.bool q) ∧ D = some ⟨(D.getD ⟨0, 0, none⟩).block, (D.getD ⟨0, 0, none⟩).off, none⟩) := Lib.hid (fun w1 h hkb => by
        rcases HLB.out with hz | ⟨b', off', rfl, hlt', hcell⟩
        · have := HNB.out; rw [hz] at this; simp at this; omega
        · obtain ⟨q, hq⟩ : ∃ q, bl[k]? = some q := ⟨_, List.getElem?_eq_getElem (by rw [HNB.out]; exact hkb)⟩
          exact ⟨q, (h.cell (p := ⟨b', off' + k, none⟩) hlt').trans (hcell k q hq), rfl⟩)
      obtain ⟨xnm, xA, xc, xr, xrem⟩ := x
      obtain ⟨f1, f2, f3⟩ := hfo
      dsimp only at hc1 hc2 hc3 f1 f2 f3 HXV
      have HVS := Lib.hid f3
      have hkm : (k : Int) < (m : Int) := by omega
      have hk0 : (0 : Int) ≤ (k : Int) := by omega
      clear hx hm hSb f3
      obtain ⟨xn, hxn⟩ : ∃ xn, xr.length = xn := ⟨_, rfl⟩
      have HXN := Lib.hid hxn
      rw [hxn] at hc2 f2
      clear hxn
      go_upto_region 8 with (fail)
      have HBA : Hid (Below wo.heap.size wo (wo.alloc (.cells #[.string xnm, .slice xA xn xc, .bool xrem] 28))) := Lib.hid ((Below.refl wo.heap.size wo).alloc (Nat.le_refl _) _)
      have HGA : Hid (Blk (wo.alloc (.cells #[.string xnm, .slice xA xn xc, .bool xrem] 28)) wo.heap.size 28 #[.string xnm, .slice xA xn xc, .bool xrem]) := Lib.hid (Blk.new wo _ _)
      have hsa : wo.heap.size < (wo.alloc (.cells #[.string xnm, .slice xA xn xc, .bool xrem] 28)).heap.size := by simp
      generalize wo.alloc (.cells #[.string xnm, .slice xA xn xc, .bool xrem] 28) = wa at HBA HGA hsa ⊢
      have HBW : Hid (Below W.heap.size W wa) := Lib.hid (HB2.out.trans ((HB.out.trans (HBA.out.mono hs)).mono hs2))
      have hno : u10.ownBlock ≠ some wo.heap.size := fun e => by have := (HO.out.lt _ e).2; omega
      have HXA : Hid (VRowS wa (fun g => g < wa.heap.size ∧ g ≠ wo.heap.size ∧ u10.ownBlock ≠ some g) xA xr) := Lib.hid ((HXV.out.kept fun g hg => HBA.out.block g (by omega)).mono fun g hg => ⟨by omega, by omega, fun e => by have := (HO.out.lt g e).1; omega⟩)
      clear hc1 hc2 hc3 HXV
      go_cut [41] (fun s wx => (s = .bool true ∨ s = .bool false) ∧ wx = wa)
      case first =>
        by_cases hkb : k < nb
        · obtain ⟨q, hq, hD⟩ := HBD.out wa HBW.out hkb
          have hkb' : (k : Int) < (nb : Int) := by omega
          generalize (D.getD ⟨0, 0, none⟩).block = db at hq hD
          generalize (D.getD ⟨0, 0, none⟩).off = dof at hq hD
          subst hD
          cases q
          · go_wp2_with fail
            go_meet
            exact ⟨.inr rfl, rfl⟩
          · go_wp2_with fail
            go_meet
            exact ⟨.inl rfl, rfl⟩
        · have hkb' : ¬ (k : Int) < (nb : Int) := by omega
          go_wp2_with fail
          go_meet
          exact ⟨.inr rfl, rfl⟩
      case rest =>
      obtain ⟨hq, hwc⟩ := hcut
      obtain rfl : wa = wc := hwc.symm
      clear hwc HBD
      go_upto_if 41 with (fail)
      go_cut [41] (fun s wx => ∃ (nm' : ByteArray) (A' : Option Addr) (c' : Nat) (r' : List V) (rm : Bool), Aside (Blk wx wo.heap.size 28 #[.string nm', .slice A' r'.length c', .bool rm]) ∧ r'.length ≤ 7 ∧ Aside (VRowS wx (fun g => g < wx.heap.size ∧ g ≠ wo.heap.size ∧ u10.ownBlock ≠ some g) A' r') ∧ Aside (Below wo.heap.size wo wx))
      case first =>
        rcases hq with rfl | rfl
        · have a0 := (HGA.out.cell 0).trans rfl
          have a1 := (HGA.out.cell 1).trans rfl
          have a2 := (HGA.out.cell 2).trans rfl
          have htm := Lib.hid (tame_any xnm xA xc xr xrem wa ((HXA.out.mono (S' := fun g => g < wa.heap.size) fun g hg => hg.1).to fun g hg => hg) f1 HVS.out)
          rw [HXN.out] at htm
          go_wp2_with fail
          refine htm.out.mono ?_
          rintro e w5 ⟨g5, rfl, hg5, hbk5, hb5⟩
          have HG5 := Lib.hid (HGA.out.below hb5 hsa)
          have HK5 := Lib.hid hbk5
          have HB5 := Lib.hid (HBA.out.trans (hb5.mono (Nat.le_of_lt hsa)))
          have hs5 := hb5.size
          have hlt5 : g5 < w5.heap.size := (Array.getElem?_eq_some_iff.1 hbk5).1
          have b0 := (HG5.out.cell 0).trans rfl
          have b1 := (HG5.out.cell 1).trans rfl
          have b2 := (HG5.out.cell 2).trans rfl
          have z0 := HG5.out.frozen 0
          have z1 := HG5.out.frozen 1
          have z2 := HG5.out.frozen 2
          obtain ⟨tn, htn⟩ : ∃ tn, tameK xnm xr = tn := ⟨_, rfl⟩
          rw [htn] at HK5 ⊢
          have htl := tameK_len xnm xr
          rw [htn] at htl
          obtain ⟨tnm, tr⟩ := tn
          dsimp only at HK5 htl ⊢
          obtain ⟨tl, htl2⟩ : ∃ tl, tr.length = tl := ⟨_, rfl⟩
          have HTL := Lib.hid htl2
          rw [htl2] at htl ⊢
          clear hbk5 hb5 a0 a1 a2 htm htn htl2
          have HS5 : Hid (Blk (((w5.setCell ⟨wo.heap.size, 0, none⟩ (.string tnm)).setCell ⟨wo.heap.size, 1, none⟩ (.slice (some ⟨g5, 0, none⟩) tl tl)).setCell ⟨wo.heap.size, 2, none⟩ (.bool xrem)) wo.heap.size 28 #[.string tnm, .slice (some ⟨g5, 0, none⟩) tl tl, .bool xrem]) := Lib.hid (((HG5.out.set_ 0 (.string tnm)).set_ 1 (.slice (some ⟨g5, 0, none⟩) tl tl)).set_ 2 (.bool xrem))
          have HB6 : Hid (Below wo.heap.size wo (((w5.setCell ⟨wo.heap.size, 0, none⟩ (.string tnm)).setCell ⟨wo.heap.size, 1, none⟩ (.slice (some ⟨g5, 0, none⟩) tl tl)).setCell ⟨wo.heap.size, 2, none⟩ (.bool xrem))) := Lib.hid (((HB5.out.setCell (show wo.heap.size ≤ wo.heap.size from Nat.le_refl _) _).setCell (show wo.heap.size ≤ wo.heap.size from Nat.le_refl _) _).setCell (show wo.heap.size ≤ wo.heap.size from Nat.le_refl _) _)
          have HT6 : Hid (VRowS (((w5.setCell ⟨wo.heap.size, 0, none⟩ (.string tnm)).setCell ⟨wo.heap.size, 1, none⟩ (.slice (some ⟨g5, 0, none⟩) tl tl)).setCell ⟨wo.heap.size, 2, none⟩ (.bool xrem)) (fun g => g < (((w5.setCell ⟨wo.heap.size, 0, none⟩ (.string tnm)).setCell ⟨wo.heap.size, 1, none⟩ (.slice (some ⟨g5, 0, none⟩) tl tl)).setCell ⟨wo.heap.size, 2, none⟩ (.bool xrem)).heap.size ∧ g ≠ wo.heap.size ∧ u10.ownBlock ≠ some g) (some ⟨g5, 0, none⟩) tr) := Lib.hid (by
            have hne : g5 ≠ wo.heap.size := by omega
            have hb : Blk (((w5.setCell ⟨wo.heap.size, 0, none⟩ (.string tnm)).setCell ⟨wo.heap.size, 1, none⟩ (.slice (some ⟨g5, 0, none⟩) tl tl)).setCell ⟨wo.heap.size, 2, none⟩ (.bool xrem)) g5 49 (flat tr).toArray := ((Blk.far HK5.out (p := ⟨wo.heap.size, 0, none⟩) hne _).far (p := ⟨wo.heap.size, 1, none⟩) hne _).far (p := ⟨wo.heap.size, 2, none⟩) hne _
            exact vals_of_blk hb ⟨hb.lt, hne, fun e => by have := (HO.out.lt g5 e).2; omega⟩)
          go_wp2_with fail
          go_meet
          clear b0 b1 b2 z0 z1 z2
          exact ⟨tnm, some ⟨g5, 0, none⟩, tl, tr, xrem, by rw [HTL.out]; exact HS5.out, by rw [HTL.out]; omega, HT6.out, HB6.out⟩
        · go_wp2_with fail
          go_meet
          exact ⟨xnm, xA, xc, xr, xrem, by rw [HXN.out]; exact HGA.out, by rw [HXN.out]; omega, HXA.out, HBA.out⟩
      case rest =>
      obtain ⟨nm', A', c', r', rm, hblk, hr7, hvr, hbx⟩ := hcut
      rename World => wx
      have HGX : Hid (Blk wx wo.heap.size 28 #[.string nm', .slice A' r'.length c', .bool rm]) := Lib.hid hblk
      have HVX : Hid (VRowS wx (fun g => g < wx.heap.size ∧ g ≠ wo.heap.size ∧ u10.ownBlock ≠ some g) A' r') := Lib.hid hvr
      have HBX : Hid (Below wo.heap.size wo wx) := Lib.hid hbx
      have hsx := HBX.out.size
      obtain ⟨rn, hrn⟩ : ∃ rn, r'.length = rn := ⟨_, rfl⟩
      have HRN := Lib.hid hrn
      rw [hrn] at HGX hr7
      have a0 := (HGX.out.cell 0).trans rfl
      have a1 := (HGX.out.cell 1).trans rfl
      have a2 := (HGX.out.cell 2).trans rfl
      have HOX := Lib.hid (ownM_below HO.out HBX.out)
      clear hblk hvr hbx hrn hq HGA HXA HBA HBW HVS f1 f2
      go_wp2_with (at_builtin; refine wpList_append_any _ rfl _ _ 22 rfl w2.heap.size 28 i2 _ 3 48 Tryz.underlying22 hi hz0 hz1 hz2 rfl (by decide) _ _ _ rfl (HOX.out.alloc _) (wx.heap.size + 1) _ _ _ [.string nm', .slice A' rn c', .bool rm] rfl ⟨rfl, fun _ => ⟨_, rfl, Nat.lt_succ_self _, World.news_of_block (heap_alloc_new wx _)⟩⟩ ?d1 ?d2 ?d3 ?d4 ?_)
      case d1 => intro u hu; simp only [List.mem_cons, List.not_mem_nil, or_false] at hu; rcases hu with rfl | rfl | rfl <;> rfl
      case d2 => unfold maxLen; omega
      case d3 => omega
      case d4 => simp; omega
      intro v5 w5 hown5 hgrow5 hat5
      have hat6 : v5.ownBlock = u10.ownBlock ∨ v5.ownBlock = some (wx.heap.size + 1) := by
        rcases hat5 with h | h
        · exact .inl h
        · exact .inr (by simpa using h)
      obtain ⟨hk1, hk2, hb5⟩ := snoc_blocks (v' := v5) (fun g hg => HO.out.lt g hg) hs HB.out HBX.out _ hgrow5 hat6
      have hz5 : wx.heap.size + 1 ≤ w5.heap.size := by have := hgrow5.size; simpa using this
      have hkk : ∀ g, g < wx.heap.size → u10.ownBlock ≠ some g → w5.heap[g]? = wx.heap[g]? := fun g h1 h2 => (hgrow5.block g (by simp; omega) (fun e => h2 e.symm)).trans (Below.heap_alloc wx _ g h1)
      have hnb5 : ∀ g, g < wx.heap.size → u10.ownBlock ≠ some g → v5.ownBlock ≠ some g := fun g h1 h2 e => by
        rcases hat6 with h | h
        · exact h2 (h ▸ e)
        · rw [h] at e; have := Option.some.inj e; omega
      obtain ⟨x', ex'⟩ : ∃ x' : CM, x' = ⟨nm', A', c', r', rm⟩ := ⟨_, rfl⟩
      have HO5 : Hid (w5.ownsRow w2.heap.size 28 3 v5 (sl ++ [x']).length (flatK (sl ++ [x']))) := Lib.hid (by rw [flatK_append, flatK_one, List.length_append, hsl, ex']; simp only [CM.cs, HRN.out]; exact hown5)
      have HR5 : Hid (∀ x ∈ sl ++ [x'], VRowS w5 (fun g => g < w5.heap.size ∧ v5.ownBlock ≠ some g) x.A x.r) := Lib.hid (fun x hx => by
        rcases List.mem_append.1 hx with hx | hx
        · exact ((HSR.out x hx).kept fun g hg => (hkk g (by omega) hg.2).trans (HBX.out.block g hg.1)).mono fun g hg => ⟨by omega, hnb5 g (by omega) hg.2⟩
        · rw [List.mem_singleton.1 hx, ex']
          exact (HVX.out.kept fun g hg => hkk g hg.1 hg.2.2).mono fun g hg => ⟨by omega, hnb5 g hg.1 hg.2.2⟩)
      have HL5 : Hid (∀ x ∈ sl ++ [x'], x.r.length ≤ 7) := Lib.hid (fun x hx => by
        rcases List.mem_append.1 hx with hx | hx
        · exact HSL.out x hx
        · rw [List.mem_singleton.1 hx, ex']
          show r'.length ≤ 7
          rw [HRN.out]; omega)
      have hol5 : (sl ++ [x']).length = k + 1 := by rw [List.length_append, hsl]; rfl
      have HB5 := Lib.hid hb5
      generalize sl ++ [x'] = sl5 at HO5 HR5 HL5 hol5
      clear hown5 hgrow5 hat5 hat6 hk1 hk2 hb5 hkk hnb5 HOX HGX HVX HBX HO HB HSR HSL a0 a1 a2 ex'
      go_wp2_with fail
      go_roundw
      case rel => exact ⟨k + 1, sl5, by omega, by go_num, HO5.out, HB5.out, HR5, HL5, hol5⟩
      case measure => simp [intOf]; omega
    · obtain rfl : k = m := by omega
      have HBW : Hid (Below W.heap.size W wo) := Lib.hid (HB2.out.trans (HB.out.mono hs2))
      obtain ⟨A3, c3, rfl, hc3, hC3⟩ := own_chs (S := fun g => g < wo.heap.size) HO.out (fun g _ h _ => h) (fun x hx => (HSR.out x hx).mono fun g hg => hg.1)
      have HC3 := Lib.hid hC3
      clear hC3
      rw [hsl]
      go_wp2_with fail
      refine (HT0.out wo HBW.out).mono ?_
      rintro e w5 ⟨⟨v, rfl, hT⟩, hb5⟩
      obtain ⟨g, t0, t1, rfl, hTR, k0, k1, cap0, cap1⟩ := hT.get2
      have hst : [t0, t1].map TM.key = st (setOf (partU ((l0.map CM.ch).take 20) ++ moreU nk)) (setOf (partT ((l0.map CM.ch).take 20))) := by
        show [t0.key, t1.key] = _
        rw [k0, k1]
        rfl
      have HBO := Lib.hid (both_any (some ⟨g, 0, none⟩) A3 2 c3 [t0, t1] sl _ _ w5 (S := fun g => g < w5.heap.size) (hTR.mono fun g hg => hg.2) (fun g hg => hg) hst (fun t ht => by
        simp only [List.mem_cons, List.not_mem_nil, or_false] at ht
        rcases ht with rfl | rfl
        · exact cap0
        · exact cap1) (HKO.out.more (by omega)) ((HC3.out.kept fun g hg => hb5.block g hg).mono fun g hg => Nat.lt_of_lt_of_le hg hb5.size) (by omega) (fun x hx => by have := HSL.out x hx; omega))
      rw [hsl] at HBO
      have HB5 := Lib.hid (HBW.out.trans (hb5.mono HBW.out.size))
      clear hT hTR k0 k1 cap0 cap1 hst hb5
      go_wp2_with fail
      refine HBO.out.mono ?_
      rintro e w6 ⟨⟨va, vb, vc, rfl⟩, hb6⟩
      have HB6 := Lib.hid (HB5.out.trans (hb6.mono HB5.out.size))
      clear hb6 HBO
      go_wp2_with (go_at_call 12; refine (hkn.out _).mono ?_; rintro e w7 ⟨rfl, hb7⟩)
      have HB7 := Lib.hid (HB6.out.trans (hb7.mono HB6.out.size))
      clear hb7
      go_ret
      exact ⟨rfl, HB7.out⟩
end Go.Proofs.YtajnnkapgnmoaaaGreat
/-
  Arguments opened: a slice of columns, a row; a law's end: all arguments read as they did. No program in sight.
-/
namespace Go.Proofs.YtajnnkapgnmoaaaGreat
open Go.ChangeShapes Go.WideShapes Go.Deep Go.RowKit

theorem list_of {α : Type} {n : Nat} {p : Nat → α → Prop} (h : ∀ i, i < n → ∃ x, p i x) : ∃ l : List α, l.length = n ∧ ∀ i x, l[i]? = some x → p i x := by
  induction n with
  | zero => exact ⟨[], rfl, fun i x hx => by simp at hx⟩
  | succ n ih =>
    obtain ⟨l, hl, hp⟩ := ih fun i hi => h i (by omega)
    obtain ⟨y, hy⟩ := h n (by omega)
    refine ⟨l ++ [y], by simp [hl], fun i x hx => ?_⟩
    by_cases hi : i < n
    · exact hp i x (by rwa [List.getElem?_append_left (by omega)] at hx)
    · have hlen : i < (l ++ [y]).length := (List.getElem?_eq_some_iff.1 hx).1
      have : i = n := by simp [hl] at hlen; omega
      subst this
      rw [List.getElem?_append_right (by omega), hl] at hx
      simp at hx
      subst hx
      exact hy

section
variable {H : Type} {enc : TypeId × Value → H} {P : Program} {w : World} {base : Nat} {spare : Nat → Bool} {held : Bool}
/-- a slice of structs of one-cell fields -/
theorem open_fields {t e : TypeId} {fs : Array Field} {fuel : Nat} {cs : List Value} {x : DataW H × List MemPlace} (ht : P.underlying t = some (.slice e)) (he : P.underlying e = some (.struct fs))
    (hone : oneCellFields P fs = true) (hC : P.cellsOf e = fs.size) (h : DataW.trod enc P w base spare held fuel t cs = some x) :
    (cs = [.slice none 0 0]) ∨
    ∃ (a : Addr) (len cap m : Nat), cs = [.slice (some a) len cap] ∧ len ≤ cap ∧ cap ≤ maxLen ∧ m = (if spare a.block then cap else len) ∧
      ∀ i, i < m → ∃ (n : Nat), ∀ (j : Nat) (f : Field), fs[j]? = some f → ∃ (v : Value) (y : DataW H × List MemPlace), w.cell? (a.add (i * fs.size + j)) = some v ∧ DataW.trod enc P w base spare held n f.type [v] = some y := by
  rcases open_slice ht h with ⟨h0, _⟩ | ⟨a, len, cap, m, n, D, Pl, hcs, hb, hl, hm, hmm, hx, hi⟩
  · exact .inl h0
  · refine .inr ⟨a, len, cap, m, hcs, hl, hm, hmm, fun i him => ?_⟩
    obtain ⟨cs', hc, ht'⟩ := hi i him
    rw [hC] at hc
    obtain ⟨ys, n', hn', hy, hlen, hyl, hf⟩ := DataW.trod_struct he ht'
    obtain ⟨_, hcl, hat⟩ := World.cells?_some hc
    refine ⟨n', fun j f hj => ?_⟩
    obtain ⟨ho, hk⟩ := hone_of hone j f hj
    have hjl : j < fs.size := (Array.getElem?_eq_some_iff.1 hj).1
    have hcell := hat j hjl
    have hv : cs'[j]? = some (cs'[j]'(by omega)) := List.getElem?_eq_getElem (by omega)
    have h1 := hf j f hj
    rw [ho, hk] at h1
    have hone' : (cs'.drop j).take 1 = [cs'[j]'(by omega)] := by
      rw [List.drop_eq_getElem_cons (by omega)]
      rfl
    rw [hone'] at h1
    have hys : ys[j]? = some (ys[j]'(by omega)) := List.getElem?_eq_getElem (by omega)
    refine ⟨_, _, ?_, h1.trans hys⟩
    rw [← Go.Deep.add_add, hcell, hv]

def V.wf (v : V) : Prop := (Lit.int .i64 v.k).wf = true ∧ (Lit.int .i64 v.n).wf = true ∧ v.s.size ≤ maxLen
def C.wf (c : C) : Prop := c.nm.size ≤ maxLen ∧ (Lit.int .i64 c.k).wf = true

theorem add_pos {b off n : Nat} : (⟨b, off, none⟩ : Addr).add n = ⟨b, off + n, none⟩ := by
  unfold Addr.add; split
  · subst_vars; rfl
  · rfl

/-- a row that came in -/
theorem open_row {t e : TypeId} {f0 f1 f2 : Field} (ht : P.underlying t = some (.slice e)) (he : P.underlying e = some (.struct #[f0, f1, f2])) (hone : oneCellFields P #[f0, f1, f2] = true) (hC : P.cellsOf e = 3)
    (u0 : P.underlying f0.type = some (.int .i64)) (u1 : P.underlying f1.type = some (.int .i64)) (u2 : P.underlying f2.type = some .string)
    {A : Option Addr} {len cap : Nat} {d : DataW H} {ps : List MemPlace} (h : DataW.Trod enc P w base (fun _ => true) held t (.slice A len cap) d ps) :
    ∃ l : List V, l.length = len ∧ len ≤ cap ∧ cap ≤ maxLen ∧ VRow w w.heap.size A l ∧ ∀ x ∈ l, x.wf := by
  obtain ⟨fuel, hf⟩ := h
  simp only [Value.cells] at hf
  rcases open_fields ht he hone hC hf with hcs | ⟨a, len', cap', m, hcs, hl, hm, hmm, hi⟩
  · simp at hcs
    obtain ⟨rfl, rfl, rfl⟩ := hcs
    exact ⟨[], rfl, Nat.le_refl _, Nat.zero_le _, .inl rfl, fun x hx => by cases hx⟩
  · simp at hcs
    obtain ⟨rfl, rfl, rfl⟩ := hcs
    simp only [if_true] at hmm
    subst hmm
    obtain ⟨l, hll, hp⟩ : ∃ l : List V, l.length = len ∧ ∀ i x, l[i]? = some x → x.wf ∧ w.cell? (a.add (i * 3)) = some (.int .i64 x.k) ∧ w.cell? (a.add (i * 3 + 1)) = some (.int .i64 x.n) ∧ w.cell? (a.add (i * 3 + 2)) = some (.string x.s) := by
      refine list_of fun i hil => ?_
      obtain ⟨n, hg⟩ := hi i (by omega)
      obtain ⟨v0, y0, c0, t0⟩ := hg 0 f0 rfl
      obtain ⟨v1, y1, c1, t1⟩ := hg 1 f1 rfl
      obtain ⟨v2, y2, c2, t2⟩ := hg 2 f2 rfl
      obtain ⟨k, e0, _, wk⟩ := DataW.trod_int u0 t0
      obtain ⟨z, e1, _, wz⟩ := DataW.trod_int u1 t1
      obtain ⟨s, e2, _, ws⟩ := DataW.trod_string u2 t2
      simp only [List.cons.injEq, and_true] at e0 e1 e2
      subst e0 e1 e2
      exact ⟨⟨k, z, s⟩, ⟨wk, wz, ws⟩, c0, c1, c2⟩
    refine ⟨l, hll, hl, hm, ?_, fun x hx => ?_⟩
    · rcases Nat.eq_zero_or_pos len with h0 | h0
      · exact .inl (List.eq_nil_of_length_eq_zero (by omega))
      · obtain ⟨x, hx⟩ : ∃ x, l[0]? = some x := ⟨_, List.getElem?_eq_getElem (by omega)⟩
        obtain ⟨_, c0, _, _⟩ := hp 0 x hx
        have c0' : w.cell? a = some (.int .i64 x.k) := by simpa [Addr.add] using c0
        obtain ⟨b, off, spot⟩ := a
        have hsp : spot = none := World.cell?_spot c0'
        subst hsp
        refine .inr ⟨b, off, rfl, block_lt_of_cell c0', fun i y hy => ?_⟩
        obtain ⟨_, d0, d1, d2⟩ := hp i y hy
        rw [add_pos] at d0 d1 d2
        exact ⟨d0, by rw [Nat.add_assoc]; exact d1, by rw [Nat.add_assoc]; exact d2⟩
    · obtain ⟨i, hil, rfl⟩ := List.mem_iff_getElem.1 hx
      exact (hp i _ (List.getElem?_eq_getElem hil)).1

/-- columns that came in -/
theorem open_cols {t e : TypeId} {f0 f1 : Field} (ht : P.underlying t = some (.slice e)) (he : P.underlying e = some (.struct #[f0, f1])) (hone : oneCellFields P #[f0, f1] = true) (hC : P.cellsOf e = 2)
    (u0 : P.underlying f0.type = some .string) (u1 : P.underlying f1.type = some (.int .i64))
    {A : Option Addr} {len cap : Nat} {d : DataW H} {ps : List MemPlace} (h : DataW.Trod enc P w base (fun _ => true) held t (.slice A len cap) d ps) :
    ∃ l : List C, l.length = len ∧ len ≤ cap ∧ cap ≤ maxLen ∧ CRow w w.heap.size A l ∧ ∀ x ∈ l, x.wf := by
  obtain ⟨fuel, hf⟩ := h
  simp only [Value.cells] at hf
  rcases open_fields ht he hone hC hf with hcs | ⟨a, len', cap', m, hcs, hl, hm, hmm, hi⟩
  · simp at hcs
    obtain ⟨rfl, rfl, rfl⟩ := hcs
    exact ⟨[], rfl, Nat.le_refl _, Nat.zero_le _, .inl rfl, fun x hx => by cases hx⟩
  · simp at hcs
    obtain ⟨rfl, rfl, rfl⟩ := hcs
    simp only [if_true] at hmm
    subst hmm
    obtain ⟨l, hll, hp⟩ : ∃ l : List C, l.length = len ∧ ∀ i x, l[i]? = some x → x.wf ∧ w.cell? (a.add (i * 2)) = some (.string x.nm) ∧ w.cell? (a.add (i * 2 + 1)) = some (.int .i64 x.k) := by
      refine list_of fun i hil => ?_
      obtain ⟨n, hg⟩ := hi i (by omega)
      obtain ⟨v0, y0, c0, t0⟩ := hg 0 f0 rfl
      obtain ⟨v1, y1, c1, t1⟩ := hg 1 f1 rfl
      obtain ⟨s, e0, _, ws⟩ := DataW.trod_string u0 t0
      obtain ⟨k, e1, _, wk⟩ := DataW.trod_int u1 t1
      simp only [List.cons.injEq, and_true] at e0 e1
      subst e0 e1
      exact ⟨⟨s, k⟩, ⟨ws, wk⟩, c0, c1⟩
    refine ⟨l, hll, hl, hm, ?_, fun x hx => ?_⟩
    · rcases Nat.eq_zero_or_pos len with h0 | h0
      · exact .inl (List.eq_nil_of_length_eq_zero (by omega))
      · obtain ⟨x, hx⟩ : ∃ x, l[0]? = some x := ⟨_, List.getElem?_eq_getElem (by omega)⟩
        obtain ⟨_, c0, _⟩ := hp 0 x hx
        have c0' : w.cell? a = some (.string x.nm) := by simpa [Addr.add] using c0
        obtain ⟨b, off, spot⟩ := a
        have hsp : spot = none := World.cell?_spot c0'
        subst hsp
        refine .inr ⟨b, off, rfl, block_lt_of_cell c0', fun i y hy => ?_⟩
        obtain ⟨_, d0, d1⟩ := hp i y hy
        rw [add_pos] at d0 d1
        exact ⟨d0, by rw [Nat.add_assoc]; exact d1⟩
    · obtain ⟨i, hil, rfl⟩ := List.mem_iff_getElem.1 hx
      exact (hp i _ (List.getElem?_eq_getElem hil)).1

/-- all arguments read behind the call as they did -/
theorem trodAll_below (hl : laidOutB P = true) {W W' : World} (hb : Below W.heap.size W W') : ∀ (ts : List TypeId) (vs : List Value) (ds : List (DataW H)) (ps : List MemPlace), (ts.all fun t => P.readableRec t && decide (t < P.types.size)) = true →
    DataW.TrodAll enc P W 0 (fun _ => true) true ts vs ds ps → (∀ x ∈ ps, x.block < W.heap.size) → DataW.TrodAll enc P W' 0 (fun b => decide (b < W.heap.size)) true ts vs ds ps := by
  intro ts
  induction ts with
  | nil =>
    intro vs ds ps _ h _
    cases vs <;> cases ds <;> first | exact h | exact h.elim
  | cons t ts ih =>
    intro vs ds ps hr h hlt
    cases vs with
    | nil => cases ds <;> exact h.elim
    | cons v vs =>
      cases ds with
      | nil => exact h.elim
      | cons d ds =>
        obtain ⟨p, q, h1, h2, rfl⟩ := h
        rw [List.all_cons, Bool.and_eq_true, Bool.and_eq_true, decide_eq_true_eq] at hr
        exact ⟨p, q, Below.trod hl hr.1.1 hr.1.2 h1 hb (fun x hx => hlt x (List.mem_append_left _ hx)), ih vs ds q hr.2 h2 (fun x hx => hlt x (List.mem_append_right _ hx)), rfl⟩

/-- THE END OF A LAW: it returned true, and below the heap's old size nothing has turned -/
theorem law_post {f : Func} {s : ChangeSpec} {W W' : World} {args : Array Value} {ds gs : List (DataW H)} {before : List MemPlace} {tb : TypeId}
    (hl : laidOutB P = true) (hr : (f.params.toList.all fun t => P.readableRec t && decide (t < P.types.size)) = true) (hb : P.underlying tb = some .bool) (hres : f.resultTypes = #[tb]) (hvars : s.vars = [])
    (hW : DataW.Whole enc P f.params.toList s.vars false W args.toList ds gs before) (h1 : (s.fn H (ds ++ gs)).results = [.lit (.bool true)]) (h2 : (s.fn H (ds ++ gs)).args = ds) (h3 : (s.fn H (ds ++ gs)).vars = [])
    (hbelow : Below W.heap.size W W') : s.post enc P f false true false false W args (.bool true) W' := by
  have hW' := hW
  obtain ⟨p, q, hA, hV, rfl, hfz, hnd⟩ := hW
  rw [hvars] at hV
  have hq : q = [] := by
    cases gs with
    | nil => exact hV
    | cons g gs => exact hV.elim
  subst hq
  have hlt : ∀ x ∈ p, x.block < W.heap.size := fun x hx => by simpa using hW'.lt x (by simpa using hx)
  refine ⟨ds, gs, p ++ [], [], p, [], hW', ?_, ?_, ?_, hbelow.frame _, fun h => by cases h⟩
  · rw [h1, hres]
    exact trodAll_cons_mk (shut_bool hb _) trodAll_mk0
  · rw [h2]
    exact trodAll_below hl hbelow _ _ _ _ hr hA hlt
  · rw [h3, hvars]; rfl
end
end Go.Proofs.YtajnnkapgnmoaaaGreat
/-
  Arguments opened where all that is read is of bounded bulk: rows, columns. (XBulk without the wire.) No program in sight.
-/
namespace Go.Proofs.YtajnnkapgnmoaaaGreat
open Go.ChangeShapes Go.WideShapes Go.Deep Go.RowKit
namespace Bulk
theorem one_le {H : Type} (d : DataW H) : 1 ≤ Rows.uptoBulk d := by
  cases d with
  | lit l => cases l <;> simp [Rows.uptoBulk]
  | nil => simp [Rows.uptoBulk]
  | ptr d => simp [Rows.uptoBulk]
  | slice elems spare => simp [Rows.uptoBulk]
  | agg parts => simp [Rows.uptoBulk]
  | iface t d => simp [Rows.uptoBulk]
  | map entries => simp [Rows.uptoBulk]
  | held h => simp [Rows.uptoBulk]
theorem part_le {H : Type} {d : DataW H} {l : List (DataW H)} (h : d ∈ l) : Rows.uptoBulk d ≤ Rows.uptoBulkAll l := by
  induction l with
  | nil => cases h
  | cons x r ih =>
    simp only [Rows.uptoBulkAll]
    cases List.mem_cons.1 h with
    | inl e => subst e; omega
    | inr e => have := ih e; omega
theorem length_le {H : Type} (l : List (DataW H)) : l.length ≤ Rows.uptoBulkAll l := by
  induction l with
  | nil => simp [Rows.uptoBulkAll]
  | cons x r ih => have := one_le x; simp only [Rows.uptoBulkAll, List.length_cons]; omega
theorem slice_le {H : Type} (elems spare : List (DataW H)) : elems.length + spare.length + 1 ≤ Rows.uptoBulk (.slice elems spare) := by
  have h1 := length_le elems
  have h2 := length_le spare
  simp only [Rows.uptoBulk]
  omega
theorem slice_part {H : Type} {elems spare : List (DataW H)} {d : DataW H} (h : d ∈ elems ∨ d ∈ spare) : Rows.uptoBulk d ≤ Rows.uptoBulk (.slice elems spare) := by
  simp only [Rows.uptoBulk]
  rcases h with h | h
  · have := part_le h; omega
  · have := part_le h; omega
theorem agg_part {H : Type} {parts : List (DataW H)} {d : DataW H} (h : d ∈ parts) : Rows.uptoBulk d ≤ Rows.uptoBulk (.agg parts) := by
  simp only [Rows.uptoBulk]
  have := part_le h
  omega
theorem string_le {H : Type} {M : Nat} {s : ByteArray} (h : Rows.uptoBulk (DataW.lit (H := H) (.string s.data.toList)) ≤ M) : s.size ≤ M := by
  simp only [Rows.uptoBulk] at h
  have : s.data.toList.length = s.size := rfl
  omega
theorem bound {H : Type} {l : List (DataW H)} (hk : Rows.uptoSmall H l = true) : Rows.uptoBulkAll l ≤ 1048576 := of_decide_eq_true hk
theorem each {H : Type} {l : List (DataW H)} (hk : Rows.uptoSmall H l = true) {d : DataW H} (hd : d ∈ l) : Rows.uptoBulk d ≤ 1048576 := Nat.le_trans (part_le hd) (bound hk)
end Bulk
section
variable {H : Type} {enc : TypeId × Value → H} {P : Program} {w : World} {base : Nat} {held : Bool}
/-- a slice of structs of one-cell fields, with the bulk of its parts -/
theorem open_fieldsB {t e : TypeId} {fs : Array Field} {fuel : Nat} {cs : List Value} {x : DataW H × List MemPlace} (ht : P.underlying t = some (.slice e)) (he : P.underlying e = some (.struct fs))
    (hone : oneCellFields P fs = true) (hC : P.cellsOf e = fs.size) (h : DataW.trod enc P w base (fun _ => true) held fuel t cs = some x) :
    (cs = [.slice none 0 0]) ∨
    ∃ (a : Addr) (len cap : Nat), cs = [.slice (some a) len cap] ∧ len ≤ cap ∧ cap ≤ maxLen ∧ cap + 1 ≤ Rows.uptoBulk x.1 ∧
      ∀ i, i < cap → ∃ (n : Nat), ∀ (j : Nat) (f : Field), fs[j]? = some f → ∃ (v : Value) (y : DataW H × List MemPlace), w.cell? (a.add (i * fs.size + j)) = some v ∧ DataW.trod enc P w base (fun _ => true) held n f.type [v] = some y ∧ Rows.uptoBulk y.1 ≤ Rows.uptoBulk x.1 := by
  rcases open_slice ht h with ⟨h0, _⟩ | ⟨a, len, cap, m, n, D, Pl, hcs, hb, hl, hm, hmm, hx, hi⟩
  · exact .inl h0
  · simp only [if_true] at hmm
    subst hmm
    have hsz : m + 1 ≤ Rows.uptoBulk x.1 := by
      rw [hx]
      show m + 1 ≤ Rows.uptoBulk (DataW.slice _ _)
      have := Bulk.slice_le ((List.range len).map D) ((List.range (m - len)).map fun j => D (len + j))
      simp only [List.length_map, List.length_range] at this
      omega
    have hpart : ∀ i, i < m → Rows.uptoBulk (D i) ≤ Rows.uptoBulk x.1 := by
      intro i him
      rw [hx]
      refine Bulk.slice_part ?_
      by_cases h1 : i < len
      · exact .inl (List.mem_map.2 ⟨i, List.mem_range.2 h1, rfl⟩)
      · exact .inr (List.mem_map.2 ⟨i - len, List.mem_range.2 (by omega), by rw [show len + (i - len) = i from by omega]⟩)
    refine .inr ⟨a, len, m, hcs, hl, hm, hsz, fun i him => ?_⟩
    obtain ⟨cs', hc, ht'⟩ := hi i him
    have hp := hpart i him
    rw [hC] at hc
    obtain ⟨ys, n', hn', hy, hlen, hyl, hf⟩ := DataW.trod_struct he ht'
    obtain ⟨_, hcl, hat⟩ := World.cells?_some hc
    refine ⟨n', fun j f hj => ?_⟩
    obtain ⟨ho, hk⟩ := hone_of hone j f hj
    have hjl : j < fs.size := (Array.getElem?_eq_some_iff.1 hj).1
    have hcell := hat j hjl
    have hv : cs'[j]? = some (cs'[j]'(by omega)) := List.getElem?_eq_getElem (by omega)
    have h1 := hf j f hj
    rw [ho, hk] at h1
    have hone' : (cs'.drop j).take 1 = [cs'[j]'(by omega)] := by
      rw [List.drop_eq_getElem_cons (by omega)]
      rfl
    rw [hone'] at h1
    have hys : ys[j]? = some (ys[j]'(by omega)) := List.getElem?_eq_getElem (by omega)
    refine ⟨_, _, ?_, h1.trans hys, ?_⟩
    · rw [← Go.Deep.add_add, hcell, hv]
    · have hD : D i = .agg (ys.map (·.1)) := congrArg Prod.fst hy
      have := Bulk.agg_part (parts := ys.map (·.1)) (List.mem_map.2 ⟨_, List.mem_of_getElem? hys, rfl⟩)
      rw [← hD] at this
      omega
/-- a row that came in -/
theorem open_rowB {t e : TypeId} {f0 f1 f2 : Field} (ht : P.underlying t = some (.slice e)) (he : P.underlying e = some (.struct #[f0, f1, f2])) (hone : oneCellFields P #[f0, f1, f2] = true) (hC : P.cellsOf e = 3)
    (u0 : P.underlying f0.type = some (.int .i64)) (u1 : P.underlying f1.type = some (.int .i64)) (u2 : P.underlying f2.type = some .string) {M : Nat}
    {A : Option Addr} {len cap : Nat} {d : DataW H} {ps : List MemPlace} (h : DataW.Trod enc P w base (fun _ => true) held t (.slice A len cap) d ps) (hM : Rows.uptoBulk d ≤ M) :
    ∃ l : List V, l.length = len ∧ len ≤ cap ∧ cap ≤ maxLen ∧ cap ≤ M ∧ VRow w w.heap.size A l ∧ (∀ x ∈ l, x.wf) ∧ ∀ x ∈ l, x.s.size ≤ M := by
  obtain ⟨fuel, hf⟩ := h
  simp only [Value.cells] at hf
  rcases open_fieldsB ht he hone hC hf with hcs | ⟨a, len', cap', hcs, hl, hm, hbk, hi⟩
  · simp at hcs
    obtain ⟨rfl, rfl, rfl⟩ := hcs
    exact ⟨[], rfl, Nat.le_refl _, Nat.zero_le _, Nat.zero_le _, .inl rfl, (fun x hx => by cases hx), fun x hx => by cases hx⟩
  · simp at hcs
    obtain ⟨rfl, rfl, rfl⟩ := hcs
    have hbk : cap + 1 ≤ Rows.uptoBulk d := hbk
    obtain ⟨l, hll, hp⟩ : ∃ l : List V, l.length = len ∧ ∀ i x, l[i]? = some x → (x.wf ∧ x.s.size ≤ M) ∧ w.cell? (a.add (i * 3)) = some (.int .i64 x.k) ∧ w.cell? (a.add (i * 3 + 1)) = some (.int .i64 x.n) ∧ w.cell? (a.add (i * 3 + 2)) = some (.string x.s) := by
      refine list_of fun i hil => ?_
      obtain ⟨n, hg⟩ := hi i (by omega)
      obtain ⟨v0, y0, c0, t0, _⟩ := hg 0 f0 rfl
      obtain ⟨v1, y1, c1, t1, _⟩ := hg 1 f1 rfl
      obtain ⟨v2, y2, c2, t2, b2⟩ := hg 2 f2 rfl
      obtain ⟨k, e0, _, wk⟩ := DataW.trod_int u0 t0
      obtain ⟨z, e1, _, wz⟩ := DataW.trod_int u1 t1
      obtain ⟨s, e2, e3, ws⟩ := DataW.trod_string u2 t2
      simp only [List.cons.injEq, and_true] at e0 e1 e2
      subst e0 e1 e2 e3
      exact ⟨⟨k, z, s⟩, ⟨⟨wk, wz, ws⟩, Nat.le_trans (Bulk.string_le b2) hM⟩, c0, c1, c2⟩
    refine ⟨l, hll, hl, hm, by omega, ?_, fun x hx => ?_, fun x hx => ?_⟩
    · rcases Nat.eq_zero_or_pos len with h0 | h0
      · exact .inl (List.eq_nil_of_length_eq_zero (by omega))
      · obtain ⟨x, hx⟩ : ∃ x, l[0]? = some x := ⟨_, List.getElem?_eq_getElem (by omega)⟩
        obtain ⟨_, c0, _, _⟩ := hp 0 x hx
        have c0' : w.cell? a = some (.int .i64 x.k) := by simpa [Addr.add] using c0
        obtain ⟨b, off, spot⟩ := a
        have hsp : spot = none := World.cell?_spot c0'
        subst hsp
        refine .inr ⟨b, off, rfl, block_lt_of_cell c0', fun i y hy => ?_⟩
        obtain ⟨_, d0, d1, d2⟩ := hp i y hy
        rw [add_pos] at d0 d1 d2
        exact ⟨d0, by rw [Nat.add_assoc]; exact d1, by rw [Nat.add_assoc]; exact d2⟩
    · obtain ⟨i, hil, rfl⟩ := List.mem_iff_getElem.1 hx
      exact (hp i _ (List.getElem?_eq_getElem hil)).1.1
    · obtain ⟨i, hil, rfl⟩ := List.mem_iff_getElem.1 hx
      exact (hp i _ (List.getElem?_eq_getElem hil)).1.2
/-- columns that came in -/
theorem open_colsB {t e : TypeId} {f0 f1 : Field} (ht : P.underlying t = some (.slice e)) (he : P.underlying e = some (.struct #[f0, f1])) (hone : oneCellFields P #[f0, f1] = true) (hC : P.cellsOf e = 2)
    (u0 : P.underlying f0.type = some .string) (u1 : P.underlying f1.type = some (.int .i64)) {M : Nat}
    {A : Option Addr} {len cap : Nat} {d : DataW H} {ps : List MemPlace} (h : DataW.Trod enc P w base (fun _ => true) held t (.slice A len cap) d ps) (hM : Rows.uptoBulk d ≤ M) :
    ∃ l : List C, l.length = len ∧ len ≤ cap ∧ cap ≤ maxLen ∧ cap ≤ M ∧ CRow w w.heap.size A l ∧ (∀ x ∈ l, x.wf) ∧ ∀ x ∈ l, x.nm.size ≤ M := by
  obtain ⟨fuel, hf⟩ := h
  simp only [Value.cells] at hf
  rcases open_fieldsB ht he hone hC hf with hcs | ⟨a, len', cap', hcs, hl, hm, hbk, hi⟩
  · simp at hcs
    obtain ⟨rfl, rfl, rfl⟩ := hcs
    exact ⟨[], rfl, Nat.le_refl _, Nat.zero_le _, Nat.zero_le _, .inl rfl, (fun x hx => by cases hx), fun x hx => by cases hx⟩
  · simp at hcs
    obtain ⟨rfl, rfl, rfl⟩ := hcs
    have hbk : cap + 1 ≤ Rows.uptoBulk d := hbk
    obtain ⟨l, hll, hp⟩ : ∃ l : List C, l.length = len ∧ ∀ i x, l[i]? = some x → (x.wf ∧ x.nm.size ≤ M) ∧ w.cell? (a.add (i * 2)) = some (.string x.nm) ∧ w.cell? (a.add (i * 2 + 1)) = some (.int .i64 x.k) := by
      refine list_of fun i hil => ?_
      obtain ⟨n, hg⟩ := hi i (by omega)
      obtain ⟨v0, y0, c0, t0, b0⟩ := hg 0 f0 rfl
      obtain ⟨v1, y1, c1, t1, _⟩ := hg 1 f1 rfl
      obtain ⟨s, e0, e3, ws⟩ := DataW.trod_string u0 t0
      obtain ⟨k, e1, _, wk⟩ := DataW.trod_int u1 t1
      simp only [List.cons.injEq, and_true] at e0 e1
      subst e0 e1 e3
      exact ⟨⟨s, k⟩, ⟨⟨ws, wk⟩, Nat.le_trans (Bulk.string_le b0) hM⟩, c0, c1⟩
    refine ⟨l, hll, hl, hm, by omega, ?_, fun x hx => ?_, fun x hx => ?_⟩
    · rcases Nat.eq_zero_or_pos len with h0 | h0
      · exact .inl (List.eq_nil_of_length_eq_zero (by omega))
      · obtain ⟨x, hx⟩ : ∃ x, l[0]? = some x := ⟨_, List.getElem?_eq_getElem (by omega)⟩
        obtain ⟨_, c0, _⟩ := hp 0 x hx
        have c0' : w.cell? a = some (.string x.nm) := by simpa [Addr.add] using c0
        obtain ⟨b, off, spot⟩ := a
        have hsp : spot = none := World.cell?_spot c0'
        subst hsp
        refine .inr ⟨b, off, rfl, block_lt_of_cell c0', fun i y hy => ?_⟩
        obtain ⟨_, d0, d1⟩ := hp i y hy
        rw [add_pos] at d0 d1
        exact ⟨d0, by rw [Nat.add_assoc]; exact d1⟩
    · obtain ⟨i, hil, rfl⟩ := List.mem_iff_getElem.1 hx
      exact (hp i _ (List.getElem?_eq_getElem hil)).1.1
    · obtain ⟨i, hil, rfl⟩ := List.mem_iff_getElem.1 hx
      exact (hp i _ (List.getElem?_eq_getElem hil)).1.2
/-- a value that came in -/
theorem open_value {r : Reach} {b0 : Nat} {spare : Nat → Bool} {t : TypeId} {f0 f1 f2 : Field} {v : Value} {d : DataW H} {p : List MemPlace} (hs : P.underlying t = some (.struct #[f0, f1, f2])) (hone : oneCellFields P #[f0, f1, f2] = true) (hC : P.cellsOf t = 3)
    (u0 : P.underlying f0.type = some (.int .i64)) (u1 : P.underlying f1.type = some (.int .i64)) (u2 : P.underlying f2.type = some .string)
    (hv : Value.okWide P w r b0 t v) (h : DataW.Trod enc P w base spare held t v d p) : ∃ x : V, v = x.val ∧ x.wf ∧ ∀ M, Rows.uptoBulk d ≤ M → x.s.size ≤ M := by
  obtain ⟨v0, v1, v2, y0, y1, y2, n, rfl, rfl, rfl, h0, h1, h2⟩ := Joins.open_agg3 hs hone hC hv h
  obtain ⟨k, e0, _, wk⟩ := DataW.trod_int u0 h0
  obtain ⟨z, e1, _, wz⟩ := DataW.trod_int u1 h1
  obtain ⟨s, e2, e3, ws⟩ := DataW.trod_string u2 h2
  simp only [List.cons.injEq, and_true] at e0 e1 e2
  subst e0 e1 e2 e3
  exact ⟨⟨k, z, s⟩, rfl, ⟨wk, wz, ws⟩, fun M hM => Bulk.string_le (Nat.le_trans (Bulk.agg_part (by simp)) hM)⟩
end
end Go.Proofs.YtajnnkapgnmoaaaGreat
/-
  Arguments opened where all that is read is of bounded bulk: changes; Booleans. No program in sight.
-/
set_option linter.unusedVariables false
namespace Go.Proofs.YtajnnkapgnmoaaaGreat
open Go.ChangeShapes Go.WideShapes Go.Deep Go.RowKit

section
variable {H : Type} {enc : TypeId × Value → H} {P : Program} {w : World} {base : Nat} {held : Bool}
/-- changes that came in -/
theorem open_changesB {t e er : TypeId} {f0 f1 f2 g0 g1 g2 : Field} (ht : P.underlying t = some (.slice e)) (he : P.underlying e = some (.struct #[f0, f1, f2])) (hone : oneCellFields P #[f0, f1, f2] = true) (hC : P.cellsOf e = 3)
    (u0 : P.underlying f0.type = some .string) (u1 : P.underlying f1.type = some (.slice er)) (u2 : P.underlying f2.type = some .bool)
    (her : P.underlying er = some (.struct #[g0, g1, g2])) (honer : oneCellFields P #[g0, g1, g2] = true) (hCr : P.cellsOf er = 3)
    (v0 : P.underlying g0.type = some (.int .i64)) (v1 : P.underlying g1.type = some (.int .i64)) (v2 : P.underlying g2.type = some .string) {M : Nat} (hM0 : M ≤ 9223372036854775807)
    {A : Option Addr} {len cap : Nat} {d : DataW H} {ps : List MemPlace} (h : DataW.Trod enc P w base (fun _ => true) held t (.slice A len cap) d ps) (hM : Rows.uptoBulk d ≤ M) :
    ∃ l : List CM, l.length = len ∧ len ≤ cap ∧ cap ≤ maxLen ∧ ChIn w A l ∧ ∀ x ∈ l, x.r.length ≤ M := by
  obtain ⟨fuel, hf⟩ := h
  simp only [Value.cells] at hf
  rcases open_fieldsB ht he hone hC hf with hcs | ⟨a, len', cap', hcs, hl, hm, hbk, hi⟩
  · simp at hcs
    obtain ⟨rfl, rfl, rfl⟩ := hcs
    exact ⟨[], rfl, Nat.le_refl _, Nat.zero_le _, ⟨⟨.inl rfl, fun x hx => by simp at hx⟩, by simp, fun x hx => by simp at hx, fun x hx => by simp at hx⟩, fun x hx => by simp at hx⟩
  · simp at hcs
    obtain ⟨rfl, rfl, rfl⟩ := hcs
    obtain ⟨l, hll, hp⟩ : ∃ l : List CM, l.length = len ∧ ∀ i x, l[i]? = some x → (w.cell? (a.add (i * 3)) = some (.string x.nm) ∧ w.cell? (a.add (i * 3 + 1)) = some (.slice x.A x.r.length x.c) ∧ w.cell? (a.add (i * 3 + 2)) = some (.bool x.rem)) ∧ VRow w w.heap.size x.A x.r ∧ x.nm.size ≤ maxLen ∧ (∀ y ∈ x.r, y.s.size ≤ M) ∧ x.r.length ≤ M := by
      refine list_of fun i hil => ?_
      obtain ⟨n, hg⟩ := hi i (by omega)
      obtain ⟨y0, z0, c0, t0, _⟩ := hg 0 f0 rfl
      obtain ⟨y1, z1, c1, t1, b1⟩ := hg 1 f1 rfl
      obtain ⟨y2, z2, c2, t2, _⟩ := hg 2 f2 rfl
      obtain ⟨nm, e0, _, wn⟩ := DataW.trod_string u0 t0
      obtain ⟨b, e2, _⟩ := DataW.trod_bool u2 t2
      simp only [List.cons.injEq, and_true] at e0 e2
      subst e0 e2
      have hrow : ∃ (A' : Option Addr) (n' c' : Nat), y1 = .slice A' n' c' := by
        rcases open_slice u1 t1 with ⟨e1, _⟩ | ⟨a', len', cap', m', n', D, Pl, e1, _⟩
        · simp only [List.cons.injEq, and_true] at e1; exact ⟨_, _, _, e1⟩
        · simp only [List.cons.injEq, and_true] at e1; exact ⟨_, _, _, e1⟩
      obtain ⟨A', n', c', rfl⟩ := hrow
      obtain ⟨r, hr, hc, _, hcM, hv, hwf, hts⟩ := open_rowB (d := z1.1) (ps := z1.2) (held := held) u1 her honer hCr v0 v1 v2 ⟨n, t1⟩ (Nat.le_trans b1 hM)
      exact ⟨⟨nm, A', c', r, b⟩, ⟨c0, by rw [hr]; exact c1, c2⟩, hv, wn, hts, by show r.length ≤ M; omega⟩
    have hmx : maxLen ≤ 9223372036854775807 := by decide
    refine ⟨l, hll, hl, hm, ⟨⟨?_, fun x hx => ?_⟩, by omega, fun x hx => ?_, fun x hx y hy => ?_⟩, fun x hx => ?_⟩
    · rcases Nat.eq_zero_or_pos len with h0 | h0
      · exact .inl (List.eq_nil_of_length_eq_zero (by omega))
      · obtain ⟨x, hx⟩ : ∃ x, l[0]? = some x := ⟨_, List.getElem?_eq_getElem (by omega)⟩
        obtain ⟨⟨c0, _⟩, _⟩ := hp 0 x hx
        have c0' : w.cell? a = some (.string x.nm) := by simpa [Addr.add] using c0
        obtain ⟨b, off, spot⟩ := a
        have hsp : spot = none := World.cell?_spot c0'
        subst hsp
        refine .inr ⟨b, off, rfl, block_lt_of_cell c0', fun i y hy => ?_⟩
        obtain ⟨⟨d0, d1, d2⟩, _⟩ := hp i y hy
        rw [add_pos] at d0 d1 d2
        exact ⟨d0, by rw [Nat.add_assoc]; exact d1, by rw [Nat.add_assoc]; exact d2⟩
    · obtain ⟨i, hil, rfl⟩ := List.mem_iff_getElem.1 hx
      rcases (hp i _ (List.getElem?_eq_getElem hil)).2.1 with h | ⟨b, o, hA, hlt, h⟩
      · exact .inl h
      · exact .inr ⟨b, o, hA, hlt, h⟩
    · obtain ⟨i, hil, rfl⟩ := List.mem_iff_getElem.1 hx
      have := (hp i _ (List.getElem?_eq_getElem hil)).2.2.1
      omega
    · obtain ⟨i, hil, rfl⟩ := List.mem_iff_getElem.1 hx
      have := (hp i _ (List.getElem?_eq_getElem hil)).2.2.2.1 y hy
      omega
    · obtain ⟨i, hil, rfl⟩ := List.mem_iff_getElem.1 hx
      exact (hp i _ (List.getElem?_eq_getElem hil)).2.2.2.2
/-- Booleans that came in -/
theorem open_boolsB {t e : TypeId} (ht : P.underlying t = some (.slice e)) (he : P.underlying e = some .bool) (hC : P.cellsOf e = 1)
    {A : Option Addr} {len cap : Nat} {d : DataW H} {ps : List MemPlace} (h : DataW.Trod enc P w base (fun _ => true) held t (.slice A len cap) d ps) :
    ∃ l : List Bool, l.length = len ∧ len ≤ cap ∧ cap ≤ maxLen ∧ LRow w w.heap.size A l := by
  obtain ⟨fuel, hf⟩ := h
  simp only [Value.cells] at hf
  rcases open_slice ht hf with ⟨h0, _⟩ | ⟨a, len', cap', m, n, D, Pl, hcs, hb, hl, hm, hmm, hx, hi⟩
  · simp at h0
    obtain ⟨rfl, rfl, rfl⟩ := h0
    exact ⟨[], rfl, Nat.le_refl _, Nat.zero_le _, .inl rfl⟩
  · simp at hcs
    obtain ⟨rfl, rfl, rfl⟩ := hcs
    simp only [if_true] at hmm
    subst hmm
    obtain ⟨l, hll, hp⟩ : ∃ l : List Bool, l.length = len ∧ ∀ i x, l[i]? = some x → w.cell? (a.add i) = some (.bool x) := by
      refine list_of fun i hil => ?_
      obtain ⟨cs', hc, ht'⟩ := hi i (by omega)
      rw [hC, Nat.mul_one] at hc
      obtain ⟨_, hcl, hat⟩ := World.cells?_some hc
      obtain ⟨b, e2, _⟩ := DataW.trod_bool he ht'
      subst e2
      have := hat (i := 0) (by omega)
      exact ⟨b, by simpa [Addr.add] using this⟩
    refine ⟨l, hll, hl, hm, ?_⟩
    rcases Nat.eq_zero_or_pos len with h0 | h0
    · exact .inl (List.eq_nil_of_length_eq_zero (by omega))
    · obtain ⟨x, hx⟩ : ∃ x, l[0]? = some x := ⟨_, List.getElem?_eq_getElem (by omega)⟩
      have c0 := hp 0 x hx
      have c0' : w.cell? a = some (.bool x) := by simpa [Addr.add] using c0
      obtain ⟨b, off, spot⟩ := a
      have hsp : spot = none := World.cell?_spot c0'
      subst hsp
      refine .inr ⟨b, off, rfl, block_lt_of_cell c0', fun i y hy => ?_⟩
      have d0 := hp i y hy
      rw [add_pos] at d0
      exact d0
end
end Go.Proofs.YtajnnkapgnmoaaaGreat
