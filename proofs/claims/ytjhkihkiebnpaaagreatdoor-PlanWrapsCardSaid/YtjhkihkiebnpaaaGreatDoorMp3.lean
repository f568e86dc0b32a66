/-
  Package plan's reader: agg.
-/
import Derived.Test.YtjhkihkiebnpaaaGreatDoorMp2
import Derived.Test.YtjhkihkiebnpaaaGreatDoorMp0
import Derived.KernelRfl
set_option linter.unusedVariables false
set_option linter.unusedSimpArgs false
namespace Go.Proofs.YtjhkihkiebnpaaaGreatDoor
open Go.RowKit
set_option linter.unusedVariables false
set_option linter.unusedSimpArgs false
theorem agg_info : (Tryz.prog.info? 46).map (fun i => (i.zero, i.size, i.bytes)) = some (some (.agg #[.string ByteArray.empty, .string ByteArray.empty, .string ByteArray.empty]), 3, 48) := by kernel_rfl
theorem results_agg {fn : Func} {p : Tmp} (h : fn.results = #[.cell p 46]) {tmps : Array Value} {w : World} {g : Nat} {x0 x1 x2 : Value} {t : TypeId}
    (hp : tmps.getD p undef = .pointer (some ⟨g, 0, none⟩)) (hg : w.heap[g]? = some (.cells #[x0, x1, x2] t (0, 0))) : (results fn tmps).run Tryz.prog w = .ok (.agg #[x0, x1, x2]) w := by
  have hp' : tmps[p]?.getD undef = .pointer (some ⟨g, 0, none⟩) := by simpa using hp
  have hl := run_loadVar_row (P := Tryz.prog) w g t 46 #[x0, x1, x2] (0, 0) _ hg Tryz.underlying46 rfl (by show _ = some 3; kernel_rfl)
  simp [results, h, hp', asAddr, hl]
theorem TKids.at {w : World} {B : Nat} {A : Option Addr} {l : List T} (h : TKids w B A l) (hB : B ≤ w.heap.size) {i : Nat} {x : T} (hx : l[i]? = some x) :
    ∃ b o A' c', A = some ⟨b, o, none⟩ ∧ b < B ∧ w.cell? ⟨b, o + i * 5, none⟩ = some (.int .i64 x.k) ∧ w.cell? ⟨b, o + i * 5 + 1, none⟩ = some (.string x.s) ∧
      w.cell? ⟨b, o + i * 5 + 2, none⟩ = some (.int .i64 x.n) ∧ w.cell? ⟨b, o + i * 5 + 3, none⟩ = some (.slice A' x.kids.length c') ∧ w.cell? ⟨b, o + i * 5 + 4, none⟩ = some (.int .i64 x.at_) ∧ x.kids.length ≤ c' ∧ TKids w B A' x.kids := by
  cases h with
  | nil A => simp at hx
  | mk b off l hn hlt A c h hk =>
    obtain ⟨h1, h2, h3, h4, h5, h6⟩ := h i x hx
    exact ⟨b, off, A i, c i, rfl, hlt, h1, h2, h3, h4, h5, h6, hk i x hx⟩
theorem Only.drew {g : Nat} {w w' : World} (h : Only g w w') : Only g w w'.drew := ⟨h.os, h.tape, h.output, h.size, h.block⟩
theorem Only.undrew {g : Nat} {w w' : World} (h : Only g w.drew w') : Only g w w' := ⟨h.os, h.tape, h.output, h.size, h.block⟩
theorem cell3p {w : World} {g : Nat} {a b c : Value} {t : TypeId} (h : w.heap[g]? = some (.cells #[a, b, c] t (0, 0))) :
    (w.cell? ⟨g, 0, none⟩ = some a ∧ w.cell? ⟨g, 1, none⟩ = some b ∧ w.cell? ⟨g, 2, none⟩ = some c) ∧ w.frozen? ⟨g, 0, none⟩ = false ∧ w.frozen? ⟨g, 1, none⟩ = false ∧ w.frozen? ⟨g, 2, none⟩ = false := by
  simp [World.cell?, World.frozen?, h]
theorem set3p {w : World} {g k : Nat} {a b c u : Value} {t : TypeId} (h : w.heap[g]? = some (.cells #[a, b, c] t (0, 0))) : (w.setCell ⟨g, k, none⟩ u).heap[g]? = some (.cells (#[a, b, c].set! k u) t (0, 0)) := by
  show (w.heap.modify g _)[g]? = _
  rw [Array.getElem?_modify]
  simp [h]
def put3p (w : World) (p : Nat) (x0 x1 x2 : Value) : World := ((w.setCell ⟨p, 0, none⟩ x0).setCell ⟨p, 1, none⟩ x1).setCell ⟨p, 2, none⟩ x2
theorem put3p_block {w : World} {p : Nat} {a b c x0 x1 x2 : Value} {t : TypeId} (h : w.heap[p]? = some (.cells #[a, b, c] t (0, 0))) : (put3p w p x0 x1 x2).heap[p]? = some (.cells #[x0, x1, x2] t (0, 0)) :=
  set3p (k := 2) (set3p (k := 1) (set3p (k := 0) h))
theorem put3p_other {w : World} {p k : Nat} {x0 x1 x2 : Value} (h : k ≠ p) : (put3p w p x0 x1 x2).heap[k]? = w.heap[k]? := by
  simp only [put3p, World.setCell, Array.getElem?_modify]
  rw [if_neg (by omega), if_neg (by omega), if_neg (by omega)]
theorem put3p_size {w : World} {p : Nat} {x0 x1 x2 : Value} : (put3p w p x0 x1 x2).heap.size = w.heap.size := by simp [put3p, World.setCell]
theorem agg_words (l : List UInt8) : l = wSum ∨ l = wMin ∨ l = wMax ∨ l = wCount ∨ ((l == wSum) = false ∧ (l == wMin) = false ∧ (l == wMax) = false ∧ (l == wCount) = false) := by
  by_cases h1 : l = wSum
  · exact .inl h1
  by_cases h2 : l = wMin
  · exact .inr (.inl h2)
  by_cases h3 : l = wMax
  · exact .inr (.inr (.inl h3))
  by_cases h4 : l = wCount
  · exact .inr (.inr (.inr (.inl h4)))
  exact .inr (.inr (.inr (.inr ⟨beq_eq_false_iff_ne.2 h1, beq_eq_false_iff_ne.2 h2, beq_eq_false_iff_ne.2 h3, beq_eq_false_iff_ne.2 h4⟩)))
set_option maxHeartbeats 1000000 in
theorem ragg_any (t : T) (A : Option Addr) (c : Nat) (g : Nat) (st : RSt) (w : World) (h : RAt w g st) (hA : TKids w g A t.kids) (hn : t.kids.length = 2 ∨ t.kids.length = 3) :
    Calls Tryz.prog 60 #[.pointer (some ⟨g, 0, none⟩), t.val A c] w fun r w' =>
      r = .returned (.agg #[.string (aggV t.kids).nm, .string (aggV t.kids).fn, .string (aggV t.kids).col]) ∧ Only g w w' ∧ RAt w' g (aggR t.kids st) := by
  obtain ⟨k, s, n, l, a⟩ := t
  simp only [T.val, T.k, T.s, T.n, T.kids, T.at_] at hA hn ⊢
  have hlt := h.lt
  obtain ⟨x, hx⟩ : ∃ x, l[0]? = some x := ⟨_, List.getElem?_eq_getElem (by omega)⟩
  obtain ⟨y, hy⟩ : ∃ y, l[1]? = some y := ⟨_, List.getElem?_eq_getElem (by omega)⟩
  obtain ⟨wa, ewa⟩ : ∃ wa, wa = w.alloc (.cells #[.int .i64 k, .string s, .int .i64 n, .slice A l.length c, .int .i64 a] 71) := ⟨_, rfl⟩
  have hba : Below w.heap.size w wa := by rw [ewa]; exact (Below.refl _ _).alloc (Nat.le_refl _) _
  have hsa : wa.heap.size = w.heap.size + 1 := by rw [ewa]; simp
  have hxa : wa.heap[w.heap.size]? = some (.cells #[.int .i64 k, .string s, .int .i64 n, .slice A l.length c, .int .i64 a] 71 (0, 0)) := by rw [ewa]; exact heap_alloc_new w _
  obtain ⟨w1, ew1⟩ : ∃ w1, w1 = wa.alloc (.cells #[.string ⟨#[]⟩, .string ⟨#[]⟩, .string ⟨#[]⟩] 46) := ⟨_, rfl⟩
  have hb1 : Below wa.heap.size wa w1 := by rw [ew1]; exact (Below.refl _ _).alloc (Nat.le_refl _) _
  have hs1 : w.heap.size + 1 < w1.heap.size := by rw [ew1]; simp; omega
  have hr1 : w1.heap[w.heap.size + 1]? = some (.cells #[.string ⟨#[]⟩, .string ⟨#[]⟩, .string ⟨#[]⟩] 46 (0, 0)) := by rw [ew1, ← hsa]; exact heap_alloc_new wa _
  have hx1 : w1.heap[w.heap.size]? = some (.cells #[.int .i64 k, .string s, .int .i64 n, .slice A l.length c, .int .i64 a] 71 (0, 0)) := (hb1.block _ (by omega)).trans hxa
  have hbw : Below w.heap.size w w1 := hba.trans (hb1.mono (by omega))
  have HW1 := Lib.hid (show w1 = (w.alloc (.cells #[.int .i64 k, .string s, .int .i64 n, .slice A l.length c, .int .i64 a] 71)).alloc (.cells #[.string ⟨#[]⟩, .string ⟨#[]⟩, .string ⟨#[]⟩] 46) by rw [ew1, ewa])
  have HK1 := Lib.hid (hA.low (hbw.mono (Nat.le_of_lt hlt)))
  have HR1 := Lib.hid (h.kept hbw)
  have HX1 := Lib.hid hx1
  have HT1 := Lib.hid hr1
  have HB1 := Lib.hid hbw
  clear ewa hba hsa hxa ew1 hb1 hr1 hx1 hbw h hA wa
  obtain ⟨b, o, A1, c1, rfl, hbg, m0, m1, m2, m3, m4, hc1, hK1⟩ := HK1.out.at (by omega) hx
  obtain ⟨b', o', A2, c2, e9, hbg', p0, p1, p2, p3, p4, hc2, hK2⟩ := HK1.out.at (by omega) hy
  obtain ⟨rfl, rfl⟩ : b = b' ∧ o = o' := by injection e9 with e9; injection e9 with e9 e10; exact ⟨e9, e10⟩
  rw [Nat.zero_mul, Nat.add_zero] at m0 m1 m2 m3 m4
  rw [Nat.one_mul] at p0 p1 p2 p3 p4
  have HN1 := Lib.hid (fun wx (hx : RAt wx g st) => rname_any x A1 c1 g st wx hx)
  have hV : Hid (aggV l = ⟨x.s, y.s, if l.length = 3 then (l.getD 2 zeroT).s else ⟨#[]⟩⟩) := Lib.hid (by unfold aggV; rw [getD_some hx, getD_some hy])
  have hO : Hid (aggOk l = if l.length = 2 then y.s.toList == wCount else ((y.s.toList == wSum || y.s.toList == wMin) || y.s.toList == wMax)) := Lib.hid (by unfold aggOk; rw [getD_some hy])
  have hR : Hid (aggR1 l st = if aggOk l then nameR x st else refu 12 y.at_ (nameR x st)) := Lib.hid (by unfold aggR1; rw [getD_some hx, getD_some hy])
  have hR2 : Hid (aggR l st = if l.length = 3 then nameR (l.getD 2 zeroT) (aggR1 l st) else aggR1 l st) := Lib.hid rfl
  have HP := Lib.hid p1
  obtain ⟨⟨k0, k1, k2, k3, k4⟩, _, _, _, _, _⟩ := cell5 HX1.out
  generalize aggV l = V at *
  generalize aggR l st = R2 at *
  generalize aggR1 l st = R1 at *
  generalize aggOk l = ok at *
  generalize nameR x st = st1 at *
  obtain ⟨xk, xs, xn, xl, xa⟩ := x
  obtain ⟨yk, ys, yn, yl, ya⟩ := y
  simp only [T.val, T.k, T.s, T.n, T.kids, T.at_] at m0 m1 m2 m3 m4 p0 p1 p2 p3 p4 HN1 hV hO hR HP
  clear e9 hbg' hc1 hc2 hK1 hK2
  generalize xl.length = xm at *
  generalize yl.length = ym at *
  have hx' := Lib.hid hx
  have hy' := Lib.hid hy
  clear hx hy
  have HLL : Hid (∀ z, l[2]? = some z → l.getD 2 zeroT = z) := Lib.hid fun z hz => getD_some hz
  have HEM0 : ∃ m, l.length = m := ⟨_, rfl⟩
  generalize hem : l.length = m at *
  have HEM := Lib.hid hem
  clear hem HEM0
  have hm0 : 0 < m := by omega
  have hm1 : 1 < m := by omega
  have hm2 : (1 : Int) < (m : Int) := by omega
  have q1 : w.heap.size < w1.heap.size := by omega
  have q2 : w.heap.size ≠ g := by omega
  have q3 : b < w1.heap.size := by omega
  have q4 : b ≠ g := by omega
  go_enter Tryz.func60, Tryz.ntmps60
  go_upto_region 1 with (fail)
  rw [← HW1.out]
  refine wp_region_held_drew (S := fun w' => Only g w1 w') (by kernel_rfl) ((Only.refl g w1).drew) (fun hHeld => ?_)
  refine wpAnyH_take (i := 0) (v := .pointer (some ⟨g, 0, none⟩)) rfl (by kernel_rfl) (by kernel_rfl) (by kernel_rfl) (fun _ _ _ h => h) (Or.inl ⟨by rfl, fun w1' hSw => by (go_simp)⟩) (by assumption) ?_
  simp only [List.getElem_toArray, List.getElem_cons_zero, Act.put, List.setIfInBounds_toArray, List.set_cons_zero, List.set_cons_succ]
  refine wpAnyH_take (i := 1) (v := .pointer (some ⟨w.heap.size, 3, none⟩)) rfl (by kernel_rfl) (by kernel_rfl) (by kernel_rfl) (fun _ _ _ h => h) (Or.inl ⟨by rfl, fun w1' hSw => by (go_simp)⟩) (by assumption) ?_
  simp only [List.getElem_toArray, List.getElem_cons_succ, List.getElem_cons_zero, Act.put, List.setIfInBounds_toArray, List.set_cons_zero, List.set_cons_succ]
  refine wpAnyH_take (i := 2) (v := .slice (some ⟨b, o, none⟩) m c) rfl (by kernel_rfl) (by kernel_rfl) (by kernel_rfl) (fun _ _ _ h => h) (Or.inl ⟨by rfl, fun w1' hSw => by (have j3 := (hSw.cell (p := ⟨w.heap.size, 3, none⟩) q1 q2).trans k3; go_simp)⟩) (by assumption) ?_
  simp only [List.getElem_toArray, List.getElem_cons_succ, List.getElem_cons_zero, Act.put, List.setIfInBounds_toArray, List.set_cons_zero, List.set_cons_succ]
  refine wpAnyH_take (i := 3) (v := .pointer (some ⟨b, o, none⟩)) rfl (by kernel_rfl) (by kernel_rfl) (by kernel_rfl) (fun _ _ _ h => h) (Or.inl ⟨by rfl, fun w1' hSw => by (go_simp)⟩) (by assumption) ?_
  simp only [List.getElem_toArray, List.getElem_cons_succ, List.getElem_cons_zero, Act.put, List.setIfInBounds_toArray, List.set_cons_zero, List.set_cons_succ]
  refine wpAnyH_take (i := 4) (v := .agg #[.int .i64 xk, .string xs, .int .i64 xn, .slice A1 xm c1, .int .i64 xa]) rfl (by kernel_rfl) (by kernel_rfl) (by kernel_rfl) (fun _ _ _ h => h) (Or.inl ⟨by rfl, fun w1' hSw => by (have m0' := (hSw.cell (p := ⟨b, o, none⟩) q3 q4).trans m0; have m1' := (hSw.cell (p := ⟨b, o + 1, none⟩) q3 q4).trans m1; have m2' := (hSw.cell (p := ⟨b, o + 2, none⟩) q3 q4).trans m2; have m3' := (hSw.cell (p := ⟨b, o + 3, none⟩) q3 q4).trans m3; have m4' := (hSw.cell (p := ⟨b, o + 4, none⟩) q3 q4).trans m4; go_simp)⟩) (by assumption) ?_
  simp only [List.getElem_toArray, List.getElem_cons_succ, List.getElem_cons_zero, Act.put, List.setIfInBounds_toArray, List.set_cons_zero, List.set_cons_succ]
  refine wpAnyH_take (i := 6) (v := .pointer (some ⟨w.heap.size, 3, none⟩)) rfl (by kernel_rfl) (by kernel_rfl) (by kernel_rfl) (fun _ _ _ h => h) (Or.inl ⟨by rfl, fun w1' hSw => by (go_simp)⟩) (by assumption) ?_
  simp only [List.getElem_toArray, List.getElem_cons_succ, List.getElem_cons_zero, Act.put, List.setIfInBounds_toArray, List.set_cons_zero, List.set_cons_succ]
  refine wpAnyH_take (i := 7) (v := .slice (some ⟨b, o, none⟩) m c) rfl (by kernel_rfl) (by kernel_rfl) (by kernel_rfl) (fun _ _ _ h => h) (Or.inl ⟨by rfl, fun w1' hSw => by (have j3 := (hSw.cell (p := ⟨w.heap.size, 3, none⟩) q1 q2).trans k3; go_simp)⟩) (by assumption) ?_
  simp only [List.getElem_toArray, List.getElem_cons_succ, List.getElem_cons_zero, Act.put, List.setIfInBounds_toArray, List.set_cons_zero, List.set_cons_succ]
  refine wpAnyH_take (i := 8) (v := .pointer (some ⟨b, o + 5, none⟩)) rfl (by kernel_rfl) (by kernel_rfl) (by kernel_rfl) (fun _ _ _ h => h) (Or.inl ⟨by rfl, fun w1' hSw => by (go_simp)⟩) (by assumption) ?_
  simp only [List.getElem_toArray, List.getElem_cons_succ, List.getElem_cons_zero, Act.put, List.setIfInBounds_toArray, List.set_cons_zero, List.set_cons_succ]
  refine wpAnyH_take (i := 9) (v := .pointer (some ⟨b, o + 5 + 1, none⟩)) rfl (by kernel_rfl) (by kernel_rfl) (by kernel_rfl) (fun _ _ _ h => h) (Or.inl ⟨by rfl, fun w1' hSw => by (go_simp)⟩) (by assumption) ?_
  simp only [List.getElem_toArray, List.getElem_cons_succ, List.getElem_cons_zero, Act.put, List.setIfInBounds_toArray, List.set_cons_zero, List.set_cons_succ]
  refine wpAnyH_take (i := 10) (v := .string ys) rfl (by kernel_rfl) (by kernel_rfl) (by kernel_rfl) (fun _ _ _ h => h) (Or.inl ⟨by rfl, fun w1' hSw => by (have p1' := (hSw.cell (p := ⟨b, o + 5 + 1, none⟩) q3 q4).trans p1; go_simp)⟩) (by assumption) ?_
  simp only [List.getElem_toArray, List.getElem_cons_succ, List.getElem_cons_zero, Act.put, List.setIfInBounds_toArray, List.set_cons_zero, List.set_cons_succ]
  refine wpAnyH_ready (rs := [5, 12]) (by kernel_rfl) (by simp) ?_
  refine AllReadyH.cons rfl (fun K hK => ?_) (AllReadyH.cons rfl (fun K hK => ?_) AllReadyH.nil)
  · simp only [List.getElem_toArray, List.getElem_cons_succ, List.getElem_cons_zero]
    go_simp
    refine (HN1.out w1.drew (show RAt w1.drew g st from HR1.out)).mono ?_
    rintro e w3 ⟨rfl, hod, hr3⟩
    go_wp2_with fail
    have ho3 := hod.undrew
    refine hK.out _ _ ho3 (fun hHeld => ?_)
    clear hK K
    refine wpAnyH_take (i := 11) (v := .agg #[.string xs, .string ys, .string ⟨#[]⟩]) rfl (by kernel_rfl) (by kernel_rfl) (by kernel_rfl) (fun _ _ _ h => h) (Or.inl ⟨by rfl, fun w1' hSw => by (go_simp)⟩) (by assumption) ?_
    simp only [List.getElem_toArray, List.getElem_cons_succ, List.getElem_cons_zero, Act.put, List.setIfInBounds_toArray, List.set_cons_zero, List.set_cons_succ]
    refine wpAnyH_ready (rs := [12]) (by kernel_rfl) (by simp) ?_
    refine AllReadyH.cons rfl (fun K hK => ?_) AllReadyH.nil
    simp only [List.getElem_toArray, List.getElem_cons_succ, List.getElem_cons_zero]
    go_simp
    have hSB := ho3.alloc (.cells #[.string ⟨#[]⟩, .string ⟨#[]⟩, .string ⟨#[]⟩] 46)
    refine hK.out _ _ hSB (fun hHeld => ?_)
    clear hK K
    refine wpAnyH_ready (rs := [13]) (by kernel_rfl) (by simp) ?_
    refine AllReadyH.cons rfl (fun K hK => ?_) AllReadyH.nil
    simp only [List.getElem_toArray, List.getElem_cons_succ, List.getElem_cons_zero]
    go_simp
    have hSC := ho3.alloc (.cells #[.string xs, .string ys, .string ⟨#[]⟩] 46)
    refine hK.out _ _ hSC (fun hHeld => ?_)
    clear hK K
    refine wpAnyH_done (by kernel_rfl) ?_ _
    obtain ⟨w4, ew4⟩ : ∃ w4, w4 = w3.alloc (.cells #[.string xs, .string ys, .string ⟨#[]⟩] 46) := ⟨_, rfl⟩
    obtain ⟨q, eq⟩ : ∃ q, q = w3.heap.size := ⟨_, rfl⟩
    skip
    have hq : q < w4.heap.size ∧ w1.heap.size ≤ q := by rw [ew4, eq]; have := ho3.size; exact ⟨by simp, this⟩
    have hQ : w4.heap[q]? = some (.cells #[.string xs, .string ys, .string ⟨#[]⟩] 46 (0, 0)) := by rw [ew4, eq]; exact heap_alloc_new w3 _
    have hO4 : Only g w1 w4 := by rw [ew4]; exact hSC
    have hR4 : RAt w4 g st1 := by rw [ew4]; exact hr3.kept ((Below.refl _ _).alloc (Nat.le_refl _) _)
    rw [← ew4, ← eq]
    have HQ := Lib.hid hQ
    have HO4 := Lib.hid hO4
    have HR4 := Lib.hid hR4
    have hq1 := hq.1
    have hq2 := hq.2
    have hs4 := hO4.size
    have HX4 := Lib.hid ((hO4.block w.heap.size q1 q2).trans HX1.out)
    have HT4 := Lib.hid ((hO4.block (w.heap.size + 1) hs1 (by omega)).trans HT1.out)
    have HP4 := Lib.hid ((hO4.cell (p := ⟨b, o + 5 + 4, none⟩) q3 q4).trans p4)
    clear hQ hO4 hR4 hq ew4 eq k0 k1 k2 k3 k4 m0 m1 m2 m3 m4 p0 p1 p2 p3 p4 HN1 HW1 HP
    have p4 := HP4.out
    obtain ⟨⟨k0, k1, k2, k3, k4⟩, _, _, _, _, _⟩ := cell5 HX4.out
    obtain ⟨⟨a0, a1, a2⟩, f0, f1, f2⟩ := cell3p HQ.out
    obtain ⟨⟨t0, t1, t2⟩, g0, g1, g2⟩ := cell3p HT4.out
    rcases hn with rfl | rfl
    · rcases agg_words ys.toList with h | h | h | h | ⟨e1, e2, e3, e4⟩
      · have hok : ok = false := by rw [hO.out, if_pos rfl, h]; rfl
        simp only [wSum] at h
        go_wp2_with fail
        refine (refuse_any g st1 12 ya w4 HR4.out).mono ?_
        rintro e w5 ⟨rfl, ho5, hr5⟩
        have HO5 := Lib.hid ho5
        have HR5 := Lib.hid hr5
        have hs5 := ho5.size
        have HX5 := Lib.hid ((ho5.block w.heap.size (by omega) q2).trans HX4.out)
        have HT5 := Lib.hid ((ho5.block (w.heap.size + 1) (by omega) (by omega)).trans HT4.out)
        have HQ5 := Lib.hid ((ho5.block q hq1 (by omega)).trans HQ.out)
        clear ho5 hr5 a0 a1 a2 f0 f1 f2 t0 t1 t2 g0 g1 g2 k0 k1 k2 k3 k4 p4
        obtain ⟨⟨k0, k1, k2, k3, k4⟩, _, _, _, _, _⟩ := cell5 HX5.out
        obtain ⟨⟨a0, a1, a2⟩, f0, f1, f2⟩ := cell3p HQ5.out
        obtain ⟨⟨t0, t1, t2⟩, g0, g1, g2⟩ := cell3p HT5.out
        go_wp2_with fail
        refine bodyPost_ret (results_agg rfl rfl (put3p_block HT5.out)) rfl ?_
        refine ⟨by rw [hV.out]; rfl, ((((((only_of_below HB1.out).trans HO4.out).trans HO5.out).setNew (p := ⟨w.heap.size + 1, 0, none⟩) (Nat.le_succ _) _).setNew (p := ⟨w.heap.size + 1, 1, none⟩) (Nat.le_succ _) _).setNew (p := ⟨w.heap.size + 1, 2, none⟩) (Nat.le_succ _) _), ?_⟩
        rw [hR2.out, hR.out, hok]
        exact (put3p_other (by omega)).trans HR5.out
      · have hok : ok = false := by rw [hO.out, if_pos rfl, h]; rfl
        simp only [wMin] at h
        go_wp2_with fail
        refine (refuse_any g st1 12 ya w4 HR4.out).mono ?_
        rintro e w5 ⟨rfl, ho5, hr5⟩
        have HO5 := Lib.hid ho5
        have HR5 := Lib.hid hr5
        have hs5 := ho5.size
        have HX5 := Lib.hid ((ho5.block w.heap.size (by omega) q2).trans HX4.out)
        have HT5 := Lib.hid ((ho5.block (w.heap.size + 1) (by omega) (by omega)).trans HT4.out)
        have HQ5 := Lib.hid ((ho5.block q hq1 (by omega)).trans HQ.out)
        clear ho5 hr5 a0 a1 a2 f0 f1 f2 t0 t1 t2 g0 g1 g2 k0 k1 k2 k3 k4 p4
        obtain ⟨⟨k0, k1, k2, k3, k4⟩, _, _, _, _, _⟩ := cell5 HX5.out
        obtain ⟨⟨a0, a1, a2⟩, f0, f1, f2⟩ := cell3p HQ5.out
        obtain ⟨⟨t0, t1, t2⟩, g0, g1, g2⟩ := cell3p HT5.out
        go_wp2_with fail
        refine bodyPost_ret (results_agg rfl rfl (put3p_block HT5.out)) rfl ?_
        refine ⟨by rw [hV.out]; rfl, ((((((only_of_below HB1.out).trans HO4.out).trans HO5.out).setNew (p := ⟨w.heap.size + 1, 0, none⟩) (Nat.le_succ _) _).setNew (p := ⟨w.heap.size + 1, 1, none⟩) (Nat.le_succ _) _).setNew (p := ⟨w.heap.size + 1, 2, none⟩) (Nat.le_succ _) _), ?_⟩
        rw [hR2.out, hR.out, hok]
        exact (put3p_other (by omega)).trans HR5.out
      · have hok : ok = false := by rw [hO.out, if_pos rfl, h]; rfl
        simp only [wMax] at h
        go_wp2_with fail
        refine (refuse_any g st1 12 ya w4 HR4.out).mono ?_
        rintro e w5 ⟨rfl, ho5, hr5⟩
        have HO5 := Lib.hid ho5
        have HR5 := Lib.hid hr5
        have hs5 := ho5.size
        have HX5 := Lib.hid ((ho5.block w.heap.size (by omega) q2).trans HX4.out)
        have HT5 := Lib.hid ((ho5.block (w.heap.size + 1) (by omega) (by omega)).trans HT4.out)
        have HQ5 := Lib.hid ((ho5.block q hq1 (by omega)).trans HQ.out)
        clear ho5 hr5 a0 a1 a2 f0 f1 f2 t0 t1 t2 g0 g1 g2 k0 k1 k2 k3 k4 p4
        obtain ⟨⟨k0, k1, k2, k3, k4⟩, _, _, _, _, _⟩ := cell5 HX5.out
        obtain ⟨⟨a0, a1, a2⟩, f0, f1, f2⟩ := cell3p HQ5.out
        obtain ⟨⟨t0, t1, t2⟩, g0, g1, g2⟩ := cell3p HT5.out
        go_wp2_with fail
        refine bodyPost_ret (results_agg rfl rfl (put3p_block HT5.out)) rfl ?_
        refine ⟨by rw [hV.out]; rfl, ((((((only_of_below HB1.out).trans HO4.out).trans HO5.out).setNew (p := ⟨w.heap.size + 1, 0, none⟩) (Nat.le_succ _) _).setNew (p := ⟨w.heap.size + 1, 1, none⟩) (Nat.le_succ _) _).setNew (p := ⟨w.heap.size + 1, 2, none⟩) (Nat.le_succ _) _), ?_⟩
        rw [hR2.out, hR.out, hok]
        exact (put3p_other (by omega)).trans HR5.out
      · have hok : ok = true := by rw [hO.out, if_pos rfl, h]; rfl
        simp only [wCount] at h
        go_wp2_with fail
        refine bodyPost_ret (results_agg rfl rfl (put3p_block HT4.out)) rfl ?_
        refine ⟨by rw [hV.out]; rfl, (((((only_of_below HB1.out).trans HO4.out).setNew (p := ⟨w.heap.size + 1, 0, none⟩) (Nat.le_succ _) _).setNew (p := ⟨w.heap.size + 1, 1, none⟩) (Nat.le_succ _) _).setNew (p := ⟨w.heap.size + 1, 2, none⟩) (Nat.le_succ _) _), ?_⟩
        rw [hR2.out, hR.out, hok]
        exact (put3p_other (by omega)).trans HR4.out
      · have hok : ok = false := by rw [hO.out, if_pos rfl, e4]
        simp only [wSum, wMin, wMax, wCount] at e1 e2 e3 e4
        go_wp2_with fail
        refine (refuse_any g st1 12 ya w4 HR4.out).mono ?_
        rintro e w5 ⟨rfl, ho5, hr5⟩
        have HO5 := Lib.hid ho5
        have HR5 := Lib.hid hr5
        have hs5 := ho5.size
        have HX5 := Lib.hid ((ho5.block w.heap.size (by omega) q2).trans HX4.out)
        have HT5 := Lib.hid ((ho5.block (w.heap.size + 1) (by omega) (by omega)).trans HT4.out)
        have HQ5 := Lib.hid ((ho5.block q hq1 (by omega)).trans HQ.out)
        clear ho5 hr5 a0 a1 a2 f0 f1 f2 t0 t1 t2 g0 g1 g2 k0 k1 k2 k3 k4 p4
        obtain ⟨⟨k0, k1, k2, k3, k4⟩, _, _, _, _, _⟩ := cell5 HX5.out
        obtain ⟨⟨a0, a1, a2⟩, f0, f1, f2⟩ := cell3p HQ5.out
        obtain ⟨⟨t0, t1, t2⟩, g0, g1, g2⟩ := cell3p HT5.out
        go_wp2_with fail
        refine bodyPost_ret (results_agg rfl rfl (put3p_block HT5.out)) rfl ?_
        refine ⟨by rw [hV.out]; rfl, ((((((only_of_below HB1.out).trans HO4.out).trans HO5.out).setNew (p := ⟨w.heap.size + 1, 0, none⟩) (Nat.le_succ _) _).setNew (p := ⟨w.heap.size + 1, 1, none⟩) (Nat.le_succ _) _).setNew (p := ⟨w.heap.size + 1, 2, none⟩) (Nat.le_succ _) _), ?_⟩
        rw [hR2.out, hR.out, hok]
        exact (put3p_other (by omega)).trans HR5.out
    · obtain ⟨z, hz⟩ : ∃ z, l[2]? = some z := ⟨_, List.getElem?_eq_getElem (by rw [HEM.out]; omega)⟩
      obtain ⟨b', o', A3, c3, e9, hbg', z0, z1, z2, z3, z4, hc3, hK3⟩ := HK1.out.at (by omega) hz
      obtain ⟨rfl, rfl⟩ : b = b' ∧ o = o' := by injection e9 with e9; injection e9 with e9 e10; exact ⟨e9, e10⟩
      have hzg := getD_some hz
      have hV' : V = ⟨xs, ys, z.s⟩ := by rw [hV.out, if_pos rfl, hzg]; rfl
      clear hV
      have hV := Lib.hid hV'
      clear hV' e9 hbg' hc3 hK3 hz
      obtain ⟨zk, zs, zn, zl, za⟩ := z
      simp only [T.k, T.s, T.n, T.kids, T.at_] at z0 z1 z2 z3 z4 hV
      rcases agg_words ys.toList with h | h | h | h | ⟨e1, e2, e3, e4⟩
      · have hok : ok = true := by rw [hO.out, if_neg (by decide), h]; rfl
        simp only [wSum] at h
        have hZ := fun (p : Addr) (h1 : p.block < w1.heap.size) (h2 : p.block ≠ g) => (HO4.out).cell (p := p) h1 h2
        have z0' := (hZ ⟨b, o + 2 * 5, none⟩ q3 q4).trans z0
        have z1' := (hZ ⟨b, o + 2 * 5 + 1, none⟩ q3 q4).trans z1
        have z2' := (hZ ⟨b, o + 2 * 5 + 2, none⟩ q3 q4).trans z2
        have z3' := (hZ ⟨b, o + 2 * 5 + 3, none⟩ q3 q4).trans z3
        have z4' := (hZ ⟨b, o + 2 * 5 + 4, none⟩ q3 q4).trans z4
        clear hZ z0 z1 z2 z3 z4
        have HNZ := Lib.hid (rname_any (.mk zk zs zn zl za) A3 c3 g _ w4 HR4.out)
        simp only [T.val, T.k, T.s, T.n, T.kids, T.at_] at HNZ
        generalize zl.length = zm at *
        go_wp2_with fail
        refine (HNZ.out).mono ?_
        rintro e w6 ⟨rfl, ho6, hr6⟩
        have HO6 := Lib.hid ho6
        have HR6 := Lib.hid hr6
        have hs6 := ho6.size
        have HT6 := Lib.hid ((ho6.block (w.heap.size + 1) (by omega) (by omega)).trans HT4.out)
        have HQ6 := Lib.hid ((ho6.block q (by omega) (by omega)).trans HQ.out)
        clear ho6 hr6 a0 a1 a2 f0 f1 f2 t0 t1 t2 g0 g1 g2 k0 k1 k2 k3 k4
        obtain ⟨⟨a0, a1, a2⟩, f0, f1, f2⟩ := cell3p HQ6.out
        obtain ⟨⟨t0, t1, t2⟩, g0, g1, g2⟩ := cell3p HT6.out
        go_wp2_with fail
        refine bodyPost_ret (results_agg rfl rfl (put3p_block ((Below.heap_setCell _ ⟨q, 2, none⟩ _ _ (by show w.heap.size + 1 ≠ q; omega)).trans HT6.out))) rfl ?_
        refine ⟨by rw [hV.out], (((((((only_of_below HB1.out).trans HO4.out).trans HO6.out).setNew (p := ⟨q, 2, none⟩) (by show w.heap.size ≤ q; omega) (.string zs)).setNew (p := ⟨w.heap.size + 1, 0, none⟩) (Nat.le_succ _) _).setNew (p := ⟨w.heap.size + 1, 1, none⟩) (Nat.le_succ _) _).setNew (p := ⟨w.heap.size + 1, 2, none⟩) (Nat.le_succ _) _), ?_⟩
        rw [hR2.out]
        first | rw [if_pos rfl] | rw [if_pos trivial]
        rw [hR.out, hok, hzg]
        exact (put3p_other (by omega)).trans ((Below.heap_setCell _ ⟨q, 2, none⟩ _ _ (by show g ≠ q; omega)).trans HR6.out)
      · have hok : ok = true := by rw [hO.out, if_neg (by decide), h]; rfl
        simp only [wMin] at h
        have hZ := fun (p : Addr) (h1 : p.block < w1.heap.size) (h2 : p.block ≠ g) => (HO4.out).cell (p := p) h1 h2
        have z0' := (hZ ⟨b, o + 2 * 5, none⟩ q3 q4).trans z0
        have z1' := (hZ ⟨b, o + 2 * 5 + 1, none⟩ q3 q4).trans z1
        have z2' := (hZ ⟨b, o + 2 * 5 + 2, none⟩ q3 q4).trans z2
        have z3' := (hZ ⟨b, o + 2 * 5 + 3, none⟩ q3 q4).trans z3
        have z4' := (hZ ⟨b, o + 2 * 5 + 4, none⟩ q3 q4).trans z4
        clear hZ z0 z1 z2 z3 z4
        have HNZ := Lib.hid (rname_any (.mk zk zs zn zl za) A3 c3 g _ w4 HR4.out)
        simp only [T.val, T.k, T.s, T.n, T.kids, T.at_] at HNZ
        generalize zl.length = zm at *
        go_wp2_with fail
        refine (HNZ.out).mono ?_
        rintro e w6 ⟨rfl, ho6, hr6⟩
        have HO6 := Lib.hid ho6
        have HR6 := Lib.hid hr6
        have hs6 := ho6.size
        have HT6 := Lib.hid ((ho6.block (w.heap.size + 1) (by omega) (by omega)).trans HT4.out)
        have HQ6 := Lib.hid ((ho6.block q (by omega) (by omega)).trans HQ.out)
        clear ho6 hr6 a0 a1 a2 f0 f1 f2 t0 t1 t2 g0 g1 g2 k0 k1 k2 k3 k4
        obtain ⟨⟨a0, a1, a2⟩, f0, f1, f2⟩ := cell3p HQ6.out
        obtain ⟨⟨t0, t1, t2⟩, g0, g1, g2⟩ := cell3p HT6.out
        go_wp2_with fail
        refine bodyPost_ret (results_agg rfl rfl (put3p_block ((Below.heap_setCell _ ⟨q, 2, none⟩ _ _ (by show w.heap.size + 1 ≠ q; omega)).trans HT6.out))) rfl ?_
        refine ⟨by rw [hV.out], (((((((only_of_below HB1.out).trans HO4.out).trans HO6.out).setNew (p := ⟨q, 2, none⟩) (by show w.heap.size ≤ q; omega) (.string zs)).setNew (p := ⟨w.heap.size + 1, 0, none⟩) (Nat.le_succ _) _).setNew (p := ⟨w.heap.size + 1, 1, none⟩) (Nat.le_succ _) _).setNew (p := ⟨w.heap.size + 1, 2, none⟩) (Nat.le_succ _) _), ?_⟩
        rw [hR2.out]
        first | rw [if_pos rfl] | rw [if_pos trivial]
        rw [hR.out, hok, hzg]
        exact (put3p_other (by omega)).trans ((Below.heap_setCell _ ⟨q, 2, none⟩ _ _ (by show g ≠ q; omega)).trans HR6.out)
      · have hok : ok = true := by rw [hO.out, if_neg (by decide), h]; rfl
        simp only [wMax] at h
        have hZ := fun (p : Addr) (h1 : p.block < w1.heap.size) (h2 : p.block ≠ g) => (HO4.out).cell (p := p) h1 h2
        have z0' := (hZ ⟨b, o + 2 * 5, none⟩ q3 q4).trans z0
        have z1' := (hZ ⟨b, o + 2 * 5 + 1, none⟩ q3 q4).trans z1
        have z2' := (hZ ⟨b, o + 2 * 5 + 2, none⟩ q3 q4).trans z2
        have z3' := (hZ ⟨b, o + 2 * 5 + 3, none⟩ q3 q4).trans z3
        have z4' := (hZ ⟨b, o + 2 * 5 + 4, none⟩ q3 q4).trans z4
        clear hZ z0 z1 z2 z3 z4
        have HNZ := Lib.hid (rname_any (.mk zk zs zn zl za) A3 c3 g _ w4 HR4.out)
        simp only [T.val, T.k, T.s, T.n, T.kids, T.at_] at HNZ
        generalize zl.length = zm at *
        go_wp2_with fail
        refine (HNZ.out).mono ?_
        rintro e w6 ⟨rfl, ho6, hr6⟩
        have HO6 := Lib.hid ho6
        have HR6 := Lib.hid hr6
        have hs6 := ho6.size
        have HT6 := Lib.hid ((ho6.block (w.heap.size + 1) (by omega) (by omega)).trans HT4.out)
        have HQ6 := Lib.hid ((ho6.block q (by omega) (by omega)).trans HQ.out)
        clear ho6 hr6 a0 a1 a2 f0 f1 f2 t0 t1 t2 g0 g1 g2 k0 k1 k2 k3 k4
        obtain ⟨⟨a0, a1, a2⟩, f0, f1, f2⟩ := cell3p HQ6.out
        obtain ⟨⟨t0, t1, t2⟩, g0, g1, g2⟩ := cell3p HT6.out
        go_wp2_with fail
        refine bodyPost_ret (results_agg rfl rfl (put3p_block ((Below.heap_setCell _ ⟨q, 2, none⟩ _ _ (by show w.heap.size + 1 ≠ q; omega)).trans HT6.out))) rfl ?_
        refine ⟨by rw [hV.out], (((((((only_of_below HB1.out).trans HO4.out).trans HO6.out).setNew (p := ⟨q, 2, none⟩) (by show w.heap.size ≤ q; omega) (.string zs)).setNew (p := ⟨w.heap.size + 1, 0, none⟩) (Nat.le_succ _) _).setNew (p := ⟨w.heap.size + 1, 1, none⟩) (Nat.le_succ _) _).setNew (p := ⟨w.heap.size + 1, 2, none⟩) (Nat.le_succ _) _), ?_⟩
        rw [hR2.out]
        first | rw [if_pos rfl] | rw [if_pos trivial]
        rw [hR.out, hok, hzg]
        exact (put3p_other (by omega)).trans ((Below.heap_setCell _ ⟨q, 2, none⟩ _ _ (by show g ≠ q; omega)).trans HR6.out)
      · have hok : ok = false := by rw [hO.out, if_neg (by decide), h]; rfl
        simp only [wCount] at h
        go_wp2_with fail
        refine (refuse_any g st1 12 ya w4 HR4.out).mono ?_
        rintro e w5 ⟨rfl, ho5, hr5⟩
        have HO5 := Lib.hid ho5
        have HR5 := Lib.hid hr5
        have hs5 := ho5.size
        have HX5 := Lib.hid ((ho5.block w.heap.size (by omega) q2).trans HX4.out)
        have HT5 := Lib.hid ((ho5.block (w.heap.size + 1) (by omega) (by omega)).trans HT4.out)
        have HQ5 := Lib.hid ((ho5.block q hq1 (by omega)).trans HQ.out)
        clear ho5 hr5 a0 a1 a2 f0 f1 f2 t0 t1 t2 g0 g1 g2 k0 k1 k2 k3 k4 p4
        obtain ⟨⟨k0, k1, k2, k3, k4⟩, _, _, _, _, _⟩ := cell5 HX5.out
        obtain ⟨⟨a0, a1, a2⟩, f0, f1, f2⟩ := cell3p HQ5.out
        obtain ⟨⟨t0, t1, t2⟩, g0, g1, g2⟩ := cell3p HT5.out
        have hZ := fun (p : Addr) (h1 : p.block < w1.heap.size) (h2 : p.block ≠ g) => ((HO4.out.trans HO5.out)).cell (p := p) h1 h2
        have z0' := (hZ ⟨b, o + 2 * 5, none⟩ q3 q4).trans z0
        have z1' := (hZ ⟨b, o + 2 * 5 + 1, none⟩ q3 q4).trans z1
        have z2' := (hZ ⟨b, o + 2 * 5 + 2, none⟩ q3 q4).trans z2
        have z3' := (hZ ⟨b, o + 2 * 5 + 3, none⟩ q3 q4).trans z3
        have z4' := (hZ ⟨b, o + 2 * 5 + 4, none⟩ q3 q4).trans z4
        clear hZ z0 z1 z2 z3 z4
        have HNZ := Lib.hid (rname_any (.mk zk zs zn zl za) A3 c3 g _ w5 HR5.out)
        simp only [T.val, T.k, T.s, T.n, T.kids, T.at_] at HNZ
        generalize zl.length = zm at *
        go_wp2_with fail
        refine (HNZ.out).mono ?_
        rintro e w6 ⟨rfl, ho6, hr6⟩
        have HO6 := Lib.hid ho6
        have HR6 := Lib.hid hr6
        have hs6 := ho6.size
        have HT6 := Lib.hid ((ho6.block (w.heap.size + 1) (by omega) (by omega)).trans HT5.out)
        have HQ6 := Lib.hid ((ho6.block q (by omega) (by omega)).trans HQ5.out)
        clear ho6 hr6 a0 a1 a2 f0 f1 f2 t0 t1 t2 g0 g1 g2 k0 k1 k2 k3 k4
        obtain ⟨⟨a0, a1, a2⟩, f0, f1, f2⟩ := cell3p HQ6.out
        obtain ⟨⟨t0, t1, t2⟩, g0, g1, g2⟩ := cell3p HT6.out
        go_wp2_with fail
        refine bodyPost_ret (results_agg rfl rfl (put3p_block ((Below.heap_setCell _ ⟨q, 2, none⟩ _ _ (by show w.heap.size + 1 ≠ q; omega)).trans HT6.out))) rfl ?_
        refine ⟨by rw [hV.out], ((((((((only_of_below HB1.out).trans HO4.out).trans HO5.out).trans HO6.out).setNew (p := ⟨q, 2, none⟩) (by show w.heap.size ≤ q; omega) (.string zs)).setNew (p := ⟨w.heap.size + 1, 0, none⟩) (Nat.le_succ _) _).setNew (p := ⟨w.heap.size + 1, 1, none⟩) (Nat.le_succ _) _).setNew (p := ⟨w.heap.size + 1, 2, none⟩) (Nat.le_succ _) _), ?_⟩
        rw [hR2.out]
        first | rw [if_pos rfl] | rw [if_pos trivial]
        rw [hR.out, hok, hzg]
        exact (put3p_other (by omega)).trans ((Below.heap_setCell _ ⟨q, 2, none⟩ _ _ (by show g ≠ q; omega)).trans HR6.out)
      · have hok : ok = false := by rw [hO.out, if_neg (by decide), e1, e2, e3]; rfl
        simp only [wSum, wMin, wMax, wCount] at e1 e2 e3 e4
        go_wp2_with fail
        refine (refuse_any g st1 12 ya w4 HR4.out).mono ?_
        rintro e w5 ⟨rfl, ho5, hr5⟩
        have HO5 := Lib.hid ho5
        have HR5 := Lib.hid hr5
        have hs5 := ho5.size
        have HX5 := Lib.hid ((ho5.block w.heap.size (by omega) q2).trans HX4.out)
        have HT5 := Lib.hid ((ho5.block (w.heap.size + 1) (by omega) (by omega)).trans HT4.out)
        have HQ5 := Lib.hid ((ho5.block q hq1 (by omega)).trans HQ.out)
        clear ho5 hr5 a0 a1 a2 f0 f1 f2 t0 t1 t2 g0 g1 g2 k0 k1 k2 k3 k4 p4
        obtain ⟨⟨k0, k1, k2, k3, k4⟩, _, _, _, _, _⟩ := cell5 HX5.out
        obtain ⟨⟨a0, a1, a2⟩, f0, f1, f2⟩ := cell3p HQ5.out
        obtain ⟨⟨t0, t1, t2⟩, g0, g1, g2⟩ := cell3p HT5.out
        have hZ := fun (p : Addr) (h1 : p.block < w1.heap.size) (h2 : p.block ≠ g) => ((HO4.out.trans HO5.out)).cell (p := p) h1 h2
        have z0' := (hZ ⟨b, o + 2 * 5, none⟩ q3 q4).trans z0
        have z1' := (hZ ⟨b, o + 2 * 5 + 1, none⟩ q3 q4).trans z1
        have z2' := (hZ ⟨b, o + 2 * 5 + 2, none⟩ q3 q4).trans z2
        have z3' := (hZ ⟨b, o + 2 * 5 + 3, none⟩ q3 q4).trans z3
        have z4' := (hZ ⟨b, o + 2 * 5 + 4, none⟩ q3 q4).trans z4
        clear hZ z0 z1 z2 z3 z4
        have HNZ := Lib.hid (rname_any (.mk zk zs zn zl za) A3 c3 g _ w5 HR5.out)
        simp only [T.val, T.k, T.s, T.n, T.kids, T.at_] at HNZ
        generalize zl.length = zm at *
        go_wp2_with fail
        refine (HNZ.out).mono ?_
        rintro e w6 ⟨rfl, ho6, hr6⟩
        have HO6 := Lib.hid ho6
        have HR6 := Lib.hid hr6
        have hs6 := ho6.size
        have HT6 := Lib.hid ((ho6.block (w.heap.size + 1) (by omega) (by omega)).trans HT5.out)
        have HQ6 := Lib.hid ((ho6.block q (by omega) (by omega)).trans HQ5.out)
        clear ho6 hr6 a0 a1 a2 f0 f1 f2 t0 t1 t2 g0 g1 g2 k0 k1 k2 k3 k4
        obtain ⟨⟨a0, a1, a2⟩, f0, f1, f2⟩ := cell3p HQ6.out
        obtain ⟨⟨t0, t1, t2⟩, g0, g1, g2⟩ := cell3p HT6.out
        go_wp2_with fail
        refine bodyPost_ret (results_agg rfl rfl (put3p_block ((Below.heap_setCell _ ⟨q, 2, none⟩ _ _ (by show w.heap.size + 1 ≠ q; omega)).trans HT6.out))) rfl ?_
        refine ⟨by rw [hV.out], ((((((((only_of_below HB1.out).trans HO4.out).trans HO5.out).trans HO6.out).setNew (p := ⟨q, 2, none⟩) (by show w.heap.size ≤ q; omega) (.string zs)).setNew (p := ⟨w.heap.size + 1, 0, none⟩) (Nat.le_succ _) _).setNew (p := ⟨w.heap.size + 1, 1, none⟩) (Nat.le_succ _) _).setNew (p := ⟨w.heap.size + 1, 2, none⟩) (Nat.le_succ _) _), ?_⟩
        rw [hR2.out]
        first | rw [if_pos rfl] | rw [if_pos trivial]
        rw [hR.out, hok, hzg]
        exact (put3p_other (by omega)).trans ((Below.heap_setCell _ ⟨q, 2, none⟩ _ _ (by show g ≠ q; omega)).trans HR6.out)
  · simp only [List.getElem_toArray, List.getElem_cons_succ, List.getElem_cons_zero]
    go_simp
    have hSA := (Only.refl g w1).drew.alloc (.cells #[.string ⟨#[]⟩, .string ⟨#[]⟩, .string ⟨#[]⟩] 46)
    refine hK.out _ _ hSA (fun hHeld => ?_)
    clear hK K
    refine wpAnyH_ready (rs := [5]) (by kernel_rfl) (by simp) ?_
    refine AllReadyH.cons rfl (fun K hK => ?_) AllReadyH.nil
    simp only [List.getElem_toArray, List.getElem_cons_succ, List.getElem_cons_zero]
    go_simp
    refine (HN1.out (w1.drew.alloc (.cells #[.string ⟨#[]⟩, .string ⟨#[]⟩, .string ⟨#[]⟩] 46)) (show RAt (w1.drew.alloc (.cells #[.string ⟨#[]⟩, .string ⟨#[]⟩, .string ⟨#[]⟩] 46)) g st from HR1.out.kept ((Below.refl _ _).drew.alloc (Nat.le_refl _) _))).mono ?_
    rintro e w3 ⟨rfl, hod, hr3⟩
    go_wp2_with fail
    have ho3 := hSA.trans hod
    refine hK.out _ _ ho3 (fun hHeld => ?_)
    clear hK K
    have hz3 : w3.heap[w1.heap.size]? = some (.cells #[.string ⟨#[]⟩, .string ⟨#[]⟩, .string ⟨#[]⟩] 46 (0, 0)) := (hod.block w1.heap.size (by simp) (by omega)).trans (heap_alloc_new w1.drew _)
    obtain ⟨⟨a0, a1, a2⟩, f0, f1, f2⟩ := cell3p hz3
    have hs3 : w1.heap.size < w3.heap.size := (Array.getElem?_eq_some_iff.1 hz3).1
    refine wpAnyH_take (i := 11) (v := .agg #[.string xs, .string ys, .string ⟨#[]⟩]) rfl (by kernel_rfl) (by kernel_rfl) (by kernel_rfl) (fun _ _ _ h => h) (Or.inl ⟨by rfl, fun w1' hSw => by (go_simp)⟩) (by assumption) ?_
    simp only [List.getElem_toArray, List.getElem_cons_succ, List.getElem_cons_zero, Act.put, List.setIfInBounds_toArray, List.set_cons_zero, List.set_cons_succ]
    refine wpAnyH_ready (rs := [13]) (by kernel_rfl) (by simp) ?_
    refine AllReadyH.cons rfl (fun K hK => ?_) AllReadyH.nil
    simp only [List.getElem_toArray, List.getElem_cons_succ, List.getElem_cons_zero]
    go_simp
    have hSC := ((ho3.setNew (p := ⟨w1.heap.size, 0, none⟩) (Nat.le_refl _) (.string xs)).setNew (p := ⟨w1.heap.size, 1, none⟩) (Nat.le_refl _) (.string ys)).setNew (p := ⟨w1.heap.size, 2, none⟩) (Nat.le_refl _) (.string ⟨#[]⟩)
    refine hK.out _ _ hSC (fun hHeld => ?_)
    clear hK K
    refine wpAnyH_done (by kernel_rfl) ?_ _
    obtain ⟨w4, ew4⟩ : ∃ w4, w4 = put3p w3 w1.heap.size (.string xs) (.string ys) (.string ⟨#[]⟩) := ⟨_, rfl⟩
    obtain ⟨q, eq⟩ : ∃ q, q = w1.heap.size := ⟨_, rfl⟩
    skip
    have hq : q < w4.heap.size ∧ w1.heap.size ≤ q := by rw [ew4, eq]; exact ⟨by rw [put3p_size]; exact hs3, Nat.le_refl _⟩
    have hQ : w4.heap[q]? = some (.cells #[.string xs, .string ys, .string ⟨#[]⟩] 46 (0, 0)) := by rw [ew4, eq]; exact put3p_block hz3
    have hO4 : Only g w1 w4 := by rw [ew4]; exact hSC
    have hR4 : RAt w4 g st1 := by rw [ew4]; exact (put3p_other (by omega)).trans hr3
    clear a0 a1 a2 f0 f1 f2
    unfold put3p at ew4
    rw [← ew4, ← eq]
    have HQ := Lib.hid hQ
    have HO4 := Lib.hid hO4
    have HR4 := Lib.hid hR4
    have hq1 := hq.1
    have hq2 := hq.2
    have hs4 := hO4.size
    have HX4 := Lib.hid ((hO4.block w.heap.size q1 q2).trans HX1.out)
    have HT4 := Lib.hid ((hO4.block (w.heap.size + 1) hs1 (by omega)).trans HT1.out)
    have HP4 := Lib.hid ((hO4.cell (p := ⟨b, o + 5 + 4, none⟩) q3 q4).trans p4)
    clear hQ hO4 hR4 hq ew4 eq k0 k1 k2 k3 k4 m0 m1 m2 m3 m4 p0 p1 p2 p3 p4 HN1 HW1 HP
    have p4 := HP4.out
    obtain ⟨⟨k0, k1, k2, k3, k4⟩, _, _, _, _, _⟩ := cell5 HX4.out
    obtain ⟨⟨a0, a1, a2⟩, f0, f1, f2⟩ := cell3p HQ.out
    obtain ⟨⟨t0, t1, t2⟩, g0, g1, g2⟩ := cell3p HT4.out
    rcases hn with rfl | rfl
    · rcases agg_words ys.toList with h | h | h | h | ⟨e1, e2, e3, e4⟩
      · have hok : ok = false := by rw [hO.out, if_pos rfl, h]; rfl
        simp only [wSum] at h
        go_wp2_with fail
        refine (refuse_any g st1 12 ya w4 HR4.out).mono ?_
        rintro e w5 ⟨rfl, ho5, hr5⟩
        have HO5 := Lib.hid ho5
        have HR5 := Lib.hid hr5
        have hs5 := ho5.size
        have HX5 := Lib.hid ((ho5.block w.heap.size (by omega) q2).trans HX4.out)
        have HT5 := Lib.hid ((ho5.block (w.heap.size + 1) (by omega) (by omega)).trans HT4.out)
        have HQ5 := Lib.hid ((ho5.block q hq1 (by omega)).trans HQ.out)
        clear ho5 hr5 a0 a1 a2 f0 f1 f2 t0 t1 t2 g0 g1 g2 k0 k1 k2 k3 k4 p4
        obtain ⟨⟨k0, k1, k2, k3, k4⟩, _, _, _, _, _⟩ := cell5 HX5.out
        obtain ⟨⟨a0, a1, a2⟩, f0, f1, f2⟩ := cell3p HQ5.out
        obtain ⟨⟨t0, t1, t2⟩, g0, g1, g2⟩ := cell3p HT5.out
        go_wp2_with fail
        refine bodyPost_ret (results_agg rfl rfl (put3p_block HT5.out)) rfl ?_
        refine ⟨by rw [hV.out]; rfl, ((((((only_of_below HB1.out).trans HO4.out).trans HO5.out).setNew (p := ⟨w.heap.size + 1, 0, none⟩) (Nat.le_succ _) _).setNew (p := ⟨w.heap.size + 1, 1, none⟩) (Nat.le_succ _) _).setNew (p := ⟨w.heap.size + 1, 2, none⟩) (Nat.le_succ _) _), ?_⟩
        rw [hR2.out, hR.out, hok]
        exact (put3p_other (by omega)).trans HR5.out
      · have hok : ok = false := by rw [hO.out, if_pos rfl, h]; rfl
        simp only [wMin] at h
        go_wp2_with fail
        refine (refuse_any g st1 12 ya w4 HR4.out).mono ?_
        rintro e w5 ⟨rfl, ho5, hr5⟩
        have HO5 := Lib.hid ho5
        have HR5 := Lib.hid hr5
        have hs5 := ho5.size
        have HX5 := Lib.hid ((ho5.block w.heap.size (by omega) q2).trans HX4.out)
        have HT5 := Lib.hid ((ho5.block (w.heap.size + 1) (by omega) (by omega)).trans HT4.out)
        have HQ5 := Lib.hid ((ho5.block q hq1 (by omega)).trans HQ.out)
        clear ho5 hr5 a0 a1 a2 f0 f1 f2 t0 t1 t2 g0 g1 g2 k0 k1 k2 k3 k4 p4
        obtain ⟨⟨k0, k1, k2, k3, k4⟩, _, _, _, _, _⟩ := cell5 HX5.out
        obtain ⟨⟨a0, a1, a2⟩, f0, f1, f2⟩ := cell3p HQ5.out
        obtain ⟨⟨t0, t1, t2⟩, g0, g1, g2⟩ := cell3p HT5.out
        go_wp2_with fail
        refine bodyPost_ret (results_agg rfl rfl (put3p_block HT5.out)) rfl ?_
        refine ⟨by rw [hV.out]; rfl, ((((((only_of_below HB1.out).trans HO4.out).trans HO5.out).setNew (p := ⟨w.heap.size + 1, 0, none⟩) (Nat.le_succ _) _).setNew (p := ⟨w.heap.size + 1, 1, none⟩) (Nat.le_succ _) _).setNew (p := ⟨w.heap.size + 1, 2, none⟩) (Nat.le_succ _) _), ?_⟩
        rw [hR2.out, hR.out, hok]
        exact (put3p_other (by omega)).trans HR5.out
      · have hok : ok = false := by rw [hO.out, if_pos rfl, h]; rfl
        simp only [wMax] at h
        go_wp2_with fail
        refine (refuse_any g st1 12 ya w4 HR4.out).mono ?_
        rintro e w5 ⟨rfl, ho5, hr5⟩
        have HO5 := Lib.hid ho5
        have HR5 := Lib.hid hr5
        have hs5 := ho5.size
        have HX5 := Lib.hid ((ho5.block w.heap.size (by omega) q2).trans HX4.out)
        have HT5 := Lib.hid ((ho5.block (w.heap.size + 1) (by omega) (by omega)).trans HT4.out)
        have HQ5 := Lib.hid ((ho5.block q hq1 (by omega)).trans HQ.out)
        clear ho5 hr5 a0 a1 a2 f0 f1 f2 t0 t1 t2 g0 g1 g2 k0 k1 k2 k3 k4 p4
        obtain ⟨⟨k0, k1, k2, k3, k4⟩, _, _, _, _, _⟩ := cell5 HX5.out
        obtain ⟨⟨a0, a1, a2⟩, f0, f1, f2⟩ := cell3p HQ5.out
        obtain ⟨⟨t0, t1, t2⟩, g0, g1, g2⟩ := cell3p HT5.out
        go_wp2_with fail
        refine bodyPost_ret (results_agg rfl rfl (put3p_block HT5.out)) rfl ?_
        refine ⟨by rw [hV.out]; rfl, ((((((only_of_below HB1.out).trans HO4.out).trans HO5.out).setNew (p := ⟨w.heap.size + 1, 0, none⟩) (Nat.le_succ _) _).setNew (p := ⟨w.heap.size + 1, 1, none⟩) (Nat.le_succ _) _).setNew (p := ⟨w.heap.size + 1, 2, none⟩) (Nat.le_succ _) _), ?_⟩
        rw [hR2.out, hR.out, hok]
        exact (put3p_other (by omega)).trans HR5.out
      · have hok : ok = true := by rw [hO.out, if_pos rfl, h]; rfl
        simp only [wCount] at h
        go_wp2_with fail
        refine bodyPost_ret (results_agg rfl rfl (put3p_block HT4.out)) rfl ?_
        refine ⟨by rw [hV.out]; rfl, (((((only_of_below HB1.out).trans HO4.out).setNew (p := ⟨w.heap.size + 1, 0, none⟩) (Nat.le_succ _) _).setNew (p := ⟨w.heap.size + 1, 1, none⟩) (Nat.le_succ _) _).setNew (p := ⟨w.heap.size + 1, 2, none⟩) (Nat.le_succ _) _), ?_⟩
        rw [hR2.out, hR.out, hok]
        exact (put3p_other (by omega)).trans HR4.out
      · have hok : ok = false := by rw [hO.out, if_pos rfl, e4]
        simp only [wSum, wMin, wMax, wCount] at e1 e2 e3 e4
        go_wp2_with fail
        refine (refuse_any g st1 12 ya w4 HR4.out).mono ?_
        rintro e w5 ⟨rfl, ho5, hr5⟩
        have HO5 := Lib.hid ho5
        have HR5 := Lib.hid hr5
        have hs5 := ho5.size
        have HX5 := Lib.hid ((ho5.block w.heap.size (by omega) q2).trans HX4.out)
        have HT5 := Lib.hid ((ho5.block (w.heap.size + 1) (by omega) (by omega)).trans HT4.out)
        have HQ5 := Lib.hid ((ho5.block q hq1 (by omega)).trans HQ.out)
        clear ho5 hr5 a0 a1 a2 f0 f1 f2 t0 t1 t2 g0 g1 g2 k0 k1 k2 k3 k4 p4
        obtain ⟨⟨k0, k1, k2, k3, k4⟩, _, _, _, _, _⟩ := cell5 HX5.out
        obtain ⟨⟨a0, a1, a2⟩, f0, f1, f2⟩ := cell3p HQ5.out
        obtain ⟨⟨t0, t1, t2⟩, g0, g1, g2⟩ := cell3p HT5.out
        go_wp2_with fail
        refine bodyPost_ret (results_agg rfl rfl (put3p_block HT5.out)) rfl ?_
        refine ⟨by rw [hV.out]; rfl, ((((((only_of_below HB1.out).trans HO4.out).trans HO5.out).setNew (p := ⟨w.heap.size + 1, 0, none⟩) (Nat.le_succ _) _).setNew (p := ⟨w.heap.size + 1, 1, none⟩) (Nat.le_succ _) _).setNew (p := ⟨w.heap.size + 1, 2, none⟩) (Nat.le_succ _) _), ?_⟩
        rw [hR2.out, hR.out, hok]
        exact (put3p_other (by omega)).trans HR5.out
    · obtain ⟨z, hz⟩ : ∃ z, l[2]? = some z := ⟨_, List.getElem?_eq_getElem (by rw [HEM.out]; omega)⟩
      obtain ⟨b', o', A3, c3, e9, hbg', z0, z1, z2, z3, z4, hc3, hK3⟩ := HK1.out.at (by omega) hz
      obtain ⟨rfl, rfl⟩ : b = b' ∧ o = o' := by injection e9 with e9; injection e9 with e9 e10; exact ⟨e9, e10⟩
      have hzg := getD_some hz
      have hV' : V = ⟨xs, ys, z.s⟩ := by rw [hV.out, if_pos rfl, hzg]; rfl
      clear hV
      have hV := Lib.hid hV'
      clear hV' e9 hbg' hc3 hK3 hz
      obtain ⟨zk, zs, zn, zl, za⟩ := z
      simp only [T.k, T.s, T.n, T.kids, T.at_] at z0 z1 z2 z3 z4 hV
      rcases agg_words ys.toList with h | h | h | h | ⟨e1, e2, e3, e4⟩
      · have hok : ok = true := by rw [hO.out, if_neg (by decide), h]; rfl
        simp only [wSum] at h
        have hZ := fun (p : Addr) (h1 : p.block < w1.heap.size) (h2 : p.block ≠ g) => (HO4.out).cell (p := p) h1 h2
        have z0' := (hZ ⟨b, o + 2 * 5, none⟩ q3 q4).trans z0
        have z1' := (hZ ⟨b, o + 2 * 5 + 1, none⟩ q3 q4).trans z1
        have z2' := (hZ ⟨b, o + 2 * 5 + 2, none⟩ q3 q4).trans z2
        have z3' := (hZ ⟨b, o + 2 * 5 + 3, none⟩ q3 q4).trans z3
        have z4' := (hZ ⟨b, o + 2 * 5 + 4, none⟩ q3 q4).trans z4
        clear hZ z0 z1 z2 z3 z4
        have HNZ := Lib.hid (rname_any (.mk zk zs zn zl za) A3 c3 g _ w4 HR4.out)
        simp only [T.val, T.k, T.s, T.n, T.kids, T.at_] at HNZ
        generalize zl.length = zm at *
        go_wp2_with fail
        refine (HNZ.out).mono ?_
        rintro e w6 ⟨rfl, ho6, hr6⟩
        have HO6 := Lib.hid ho6
        have HR6 := Lib.hid hr6
        have hs6 := ho6.size
        have HT6 := Lib.hid ((ho6.block (w.heap.size + 1) (by omega) (by omega)).trans HT4.out)
        have HQ6 := Lib.hid ((ho6.block q (by omega) (by omega)).trans HQ.out)
        clear ho6 hr6 a0 a1 a2 f0 f1 f2 t0 t1 t2 g0 g1 g2 k0 k1 k2 k3 k4
        obtain ⟨⟨a0, a1, a2⟩, f0, f1, f2⟩ := cell3p HQ6.out
        obtain ⟨⟨t0, t1, t2⟩, g0, g1, g2⟩ := cell3p HT6.out
        go_wp2_with fail
        refine bodyPost_ret (results_agg rfl rfl (put3p_block ((Below.heap_setCell _ ⟨q, 2, none⟩ _ _ (by show w.heap.size + 1 ≠ q; omega)).trans HT6.out))) rfl ?_
        refine ⟨by rw [hV.out], (((((((only_of_below HB1.out).trans HO4.out).trans HO6.out).setNew (p := ⟨q, 2, none⟩) (by show w.heap.size ≤ q; omega) (.string zs)).setNew (p := ⟨w.heap.size + 1, 0, none⟩) (Nat.le_succ _) _).setNew (p := ⟨w.heap.size + 1, 1, none⟩) (Nat.le_succ _) _).setNew (p := ⟨w.heap.size + 1, 2, none⟩) (Nat.le_succ _) _), ?_⟩
        rw [hR2.out]
        first | rw [if_pos rfl] | rw [if_pos trivial]
        rw [hR.out, hok, hzg]
        exact (put3p_other (by omega)).trans ((Below.heap_setCell _ ⟨q, 2, none⟩ _ _ (by show g ≠ q; omega)).trans HR6.out)
      · have hok : ok = true := by rw [hO.out, if_neg (by decide), h]; rfl
        simp only [wMin] at h
        have hZ := fun (p : Addr) (h1 : p.block < w1.heap.size) (h2 : p.block ≠ g) => (HO4.out).cell (p := p) h1 h2
        have z0' := (hZ ⟨b, o + 2 * 5, none⟩ q3 q4).trans z0
        have z1' := (hZ ⟨b, o + 2 * 5 + 1, none⟩ q3 q4).trans z1
        have z2' := (hZ ⟨b, o + 2 * 5 + 2, none⟩ q3 q4).trans z2
        have z3' := (hZ ⟨b, o + 2 * 5 + 3, none⟩ q3 q4).trans z3
        have z4' := (hZ ⟨b, o + 2 * 5 + 4, none⟩ q3 q4).trans z4
        clear hZ z0 z1 z2 z3 z4
        have HNZ := Lib.hid (rname_any (.mk zk zs zn zl za) A3 c3 g _ w4 HR4.out)
        simp only [T.val, T.k, T.s, T.n, T.kids, T.at_] at HNZ
        generalize zl.length = zm at *
        go_wp2_with fail
        refine (HNZ.out).mono ?_
        rintro e w6 ⟨rfl, ho6, hr6⟩
        have HO6 := Lib.hid ho6
        have HR6 := Lib.hid hr6
        have hs6 := ho6.size
        have HT6 := Lib.hid ((ho6.block (w.heap.size + 1) (by omega) (by omega)).trans HT4.out)
        have HQ6 := Lib.hid ((ho6.block q (by omega) (by omega)).trans HQ.out)
        clear ho6 hr6 a0 a1 a2 f0 f1 f2 t0 t1 t2 g0 g1 g2 k0 k1 k2 k3 k4
        obtain ⟨⟨a0, a1, a2⟩, f0, f1, f2⟩ := cell3p HQ6.out
        obtain ⟨⟨t0, t1, t2⟩, g0, g1, g2⟩ := cell3p HT6.out
        go_wp2_with fail
        refine bodyPost_ret (results_agg rfl rfl (put3p_block ((Below.heap_setCell _ ⟨q, 2, none⟩ _ _ (by show w.heap.size + 1 ≠ q; omega)).trans HT6.out))) rfl ?_
        refine ⟨by rw [hV.out], (((((((only_of_below HB1.out).trans HO4.out).trans HO6.out).setNew (p := ⟨q, 2, none⟩) (by show w.heap.size ≤ q; omega) (.string zs)).setNew (p := ⟨w.heap.size + 1, 0, none⟩) (Nat.le_succ _) _).setNew (p := ⟨w.heap.size + 1, 1, none⟩) (Nat.le_succ _) _).setNew (p := ⟨w.heap.size + 1, 2, none⟩) (Nat.le_succ _) _), ?_⟩
        rw [hR2.out]
        first | rw [if_pos rfl] | rw [if_pos trivial]
        rw [hR.out, hok, hzg]
        exact (put3p_other (by omega)).trans ((Below.heap_setCell _ ⟨q, 2, none⟩ _ _ (by show g ≠ q; omega)).trans HR6.out)
      · have hok : ok = true := by rw [hO.out, if_neg (by decide), h]; rfl
        simp only [wMax] at h
        have hZ := fun (p : Addr) (h1 : p.block < w1.heap.size) (h2 : p.block ≠ g) => (HO4.out).cell (p := p) h1 h2
        have z0' := (hZ ⟨b, o + 2 * 5, none⟩ q3 q4).trans z0
        have z1' := (hZ ⟨b, o + 2 * 5 + 1, none⟩ q3 q4).trans z1
        have z2' := (hZ ⟨b, o + 2 * 5 + 2, none⟩ q3 q4).trans z2
        have z3' := (hZ ⟨b, o + 2 * 5 + 3, none⟩ q3 q4).trans z3
        have z4' := (hZ ⟨b, o + 2 * 5 + 4, none⟩ q3 q4).trans z4
        clear hZ z0 z1 z2 z3 z4
        have HNZ := Lib.hid (rname_any (.mk zk zs zn zl za) A3 c3 g _ w4 HR4.out)
        simp only [T.val, T.k, T.s, T.n, T.kids, T.at_] at HNZ
        generalize zl.length = zm at *
        go_wp2_with fail
        refine (HNZ.out).mono ?_
        rintro e w6 ⟨rfl, ho6, hr6⟩
        have HO6 := Lib.hid ho6
        have HR6 := Lib.hid hr6
        have hs6 := ho6.size
        have HT6 := Lib.hid ((ho6.block (w.heap.size + 1) (by omega) (by omega)).trans HT4.out)
        have HQ6 := Lib.hid ((ho6.block q (by omega) (by omega)).trans HQ.out)
        clear ho6 hr6 a0 a1 a2 f0 f1 f2 t0 t1 t2 g0 g1 g2 k0 k1 k2 k3 k4
        obtain ⟨⟨a0, a1, a2⟩, f0, f1, f2⟩ := cell3p HQ6.out
        obtain ⟨⟨t0, t1, t2⟩, g0, g1, g2⟩ := cell3p HT6.out
        go_wp2_with fail
        refine bodyPost_ret (results_agg rfl rfl (put3p_block ((Below.heap_setCell _ ⟨q, 2, none⟩ _ _ (by show w.heap.size + 1 ≠ q; omega)).trans HT6.out))) rfl ?_
        refine ⟨by rw [hV.out], (((((((only_of_below HB1.out).trans HO4.out).trans HO6.out).setNew (p := ⟨q, 2, none⟩) (by show w.heap.size ≤ q; omega) (.string zs)).setNew (p := ⟨w.heap.size + 1, 0, none⟩) (Nat.le_succ _) _).setNew (p := ⟨w.heap.size + 1, 1, none⟩) (Nat.le_succ _) _).setNew (p := ⟨w.heap.size + 1, 2, none⟩) (Nat.le_succ _) _), ?_⟩
        rw [hR2.out]
        first | rw [if_pos rfl] | rw [if_pos trivial]
        rw [hR.out, hok, hzg]
        exact (put3p_other (by omega)).trans ((Below.heap_setCell _ ⟨q, 2, none⟩ _ _ (by show g ≠ q; omega)).trans HR6.out)
      · have hok : ok = false := by rw [hO.out, if_neg (by decide), h]; rfl
        simp only [wCount] at h
        go_wp2_with fail
        refine (refuse_any g st1 12 ya w4 HR4.out).mono ?_
        rintro e w5 ⟨rfl, ho5, hr5⟩
        have HO5 := Lib.hid ho5
        have HR5 := Lib.hid hr5
        have hs5 := ho5.size
        have HX5 := Lib.hid ((ho5.block w.heap.size (by omega) q2).trans HX4.out)
        have HT5 := Lib.hid ((ho5.block (w.heap.size + 1) (by omega) (by omega)).trans HT4.out)
        have HQ5 := Lib.hid ((ho5.block q hq1 (by omega)).trans HQ.out)
        clear ho5 hr5 a0 a1 a2 f0 f1 f2 t0 t1 t2 g0 g1 g2 k0 k1 k2 k3 k4 p4
        obtain ⟨⟨k0, k1, k2, k3, k4⟩, _, _, _, _, _⟩ := cell5 HX5.out
        obtain ⟨⟨a0, a1, a2⟩, f0, f1, f2⟩ := cell3p HQ5.out
        obtain ⟨⟨t0, t1, t2⟩, g0, g1, g2⟩ := cell3p HT5.out
        have hZ := fun (p : Addr) (h1 : p.block < w1.heap.size) (h2 : p.block ≠ g) => ((HO4.out.trans HO5.out)).cell (p := p) h1 h2
        have z0' := (hZ ⟨b, o + 2 * 5, none⟩ q3 q4).trans z0
        have z1' := (hZ ⟨b, o + 2 * 5 + 1, none⟩ q3 q4).trans z1
        have z2' := (hZ ⟨b, o + 2 * 5 + 2, none⟩ q3 q4).trans z2
        have z3' := (hZ ⟨b, o + 2 * 5 + 3, none⟩ q3 q4).trans z3
        have z4' := (hZ ⟨b, o + 2 * 5 + 4, none⟩ q3 q4).trans z4
        clear hZ z0 z1 z2 z3 z4
        have HNZ := Lib.hid (rname_any (.mk zk zs zn zl za) A3 c3 g _ w5 HR5.out)
        simp only [T.val, T.k, T.s, T.n, T.kids, T.at_] at HNZ
        generalize zl.length = zm at *
        go_wp2_with fail
        refine (HNZ.out).mono ?_
        rintro e w6 ⟨rfl, ho6, hr6⟩
        have HO6 := Lib.hid ho6
        have HR6 := Lib.hid hr6
        have hs6 := ho6.size
        have HT6 := Lib.hid ((ho6.block (w.heap.size + 1) (by omega) (by omega)).trans HT5.out)
        have HQ6 := Lib.hid ((ho6.block q (by omega) (by omega)).trans HQ5.out)
        clear ho6 hr6 a0 a1 a2 f0 f1 f2 t0 t1 t2 g0 g1 g2 k0 k1 k2 k3 k4
        obtain ⟨⟨a0, a1, a2⟩, f0, f1, f2⟩ := cell3p HQ6.out
        obtain ⟨⟨t0, t1, t2⟩, g0, g1, g2⟩ := cell3p HT6.out
        go_wp2_with fail
        refine bodyPost_ret (results_agg rfl rfl (put3p_block ((Below.heap_setCell _ ⟨q, 2, none⟩ _ _ (by show w.heap.size + 1 ≠ q; omega)).trans HT6.out))) rfl ?_
        refine ⟨by rw [hV.out], ((((((((only_of_below HB1.out).trans HO4.out).trans HO5.out).trans HO6.out).setNew (p := ⟨q, 2, none⟩) (by show w.heap.size ≤ q; omega) (.string zs)).setNew (p := ⟨w.heap.size + 1, 0, none⟩) (Nat.le_succ _) _).setNew (p := ⟨w.heap.size + 1, 1, none⟩) (Nat.le_succ _) _).setNew (p := ⟨w.heap.size + 1, 2, none⟩) (Nat.le_succ _) _), ?_⟩
        rw [hR2.out]
        first | rw [if_pos rfl] | rw [if_pos trivial]
        rw [hR.out, hok, hzg]
        exact (put3p_other (by omega)).trans ((Below.heap_setCell _ ⟨q, 2, none⟩ _ _ (by show g ≠ q; omega)).trans HR6.out)
      · have hok : ok = false := by rw [hO.out, if_neg (by decide), e1, e2, e3]; rfl
        simp only [wSum, wMin, wMax, wCount] at e1 e2 e3 e4
        go_wp2_with fail
        refine (refuse_any g st1 12 ya w4 HR4.out).mono ?_
        rintro e w5 ⟨rfl, ho5, hr5⟩
        have HO5 := Lib.hid ho5
        have HR5 := Lib.hid hr5
        have hs5 := ho5.size
        have HX5 := Lib.hid ((ho5.block w.heap.size (by omega) q2).trans HX4.out)
        have HT5 := Lib.hid ((ho5.block (w.heap.size + 1) (by omega) (by omega)).trans HT4.out)
        have HQ5 := Lib.hid ((ho5.block q hq1 (by omega)).trans HQ.out)
        clear ho5 hr5 a0 a1 a2 f0 f1 f2 t0 t1 t2 g0 g1 g2 k0 k1 k2 k3 k4 p4
        obtain ⟨⟨k0, k1, k2, k3, k4⟩, _, _, _, _, _⟩ := cell5 HX5.out
        obtain ⟨⟨a0, a1, a2⟩, f0, f1, f2⟩ := cell3p HQ5.out
        obtain ⟨⟨t0, t1, t2⟩, g0, g1, g2⟩ := cell3p HT5.out
        have hZ := fun (p : Addr) (h1 : p.block < w1.heap.size) (h2 : p.block ≠ g) => ((HO4.out.trans HO5.out)).cell (p := p) h1 h2
        have z0' := (hZ ⟨b, o + 2 * 5, none⟩ q3 q4).trans z0
        have z1' := (hZ ⟨b, o + 2 * 5 + 1, none⟩ q3 q4).trans z1
        have z2' := (hZ ⟨b, o + 2 * 5 + 2, none⟩ q3 q4).trans z2
        have z3' := (hZ ⟨b, o + 2 * 5 + 3, none⟩ q3 q4).trans z3
        have z4' := (hZ ⟨b, o + 2 * 5 + 4, none⟩ q3 q4).trans z4
        clear hZ z0 z1 z2 z3 z4
        have HNZ := Lib.hid (rname_any (.mk zk zs zn zl za) A3 c3 g _ w5 HR5.out)
        simp only [T.val, T.k, T.s, T.n, T.kids, T.at_] at HNZ
        generalize zl.length = zm at *
        go_wp2_with fail
        refine (HNZ.out).mono ?_
        rintro e w6 ⟨rfl, ho6, hr6⟩
        have HO6 := Lib.hid ho6
        have HR6 := Lib.hid hr6
        have hs6 := ho6.size
        have HT6 := Lib.hid ((ho6.block (w.heap.size + 1) (by omega) (by omega)).trans HT5.out)
        have HQ6 := Lib.hid ((ho6.block q (by omega) (by omega)).trans HQ5.out)
        clear ho6 hr6 a0 a1 a2 f0 f1 f2 t0 t1 t2 g0 g1 g2 k0 k1 k2 k3 k4
        obtain ⟨⟨a0, a1, a2⟩, f0, f1, f2⟩ := cell3p HQ6.out
        obtain ⟨⟨t0, t1, t2⟩, g0, g1, g2⟩ := cell3p HT6.out
        go_wp2_with fail
        refine bodyPost_ret (results_agg rfl rfl (put3p_block ((Below.heap_setCell _ ⟨q, 2, none⟩ _ _ (by show w.heap.size + 1 ≠ q; omega)).trans HT6.out))) rfl ?_
        refine ⟨by rw [hV.out], ((((((((only_of_below HB1.out).trans HO4.out).trans HO5.out).trans HO6.out).setNew (p := ⟨q, 2, none⟩) (by show w.heap.size ≤ q; omega) (.string zs)).setNew (p := ⟨w.heap.size + 1, 0, none⟩) (Nat.le_succ _) _).setNew (p := ⟨w.heap.size + 1, 1, none⟩) (Nat.le_succ _) _).setNew (p := ⟨w.heap.size + 1, 2, none⟩) (Nat.le_succ _) _), ?_⟩
        rw [hR2.out]
        first | rw [if_pos rfl] | rw [if_pos trivial]
        rw [hR.out, hok, hzg]
        exact (put3p_other (by omega)).trans ((Below.heap_setCell _ ⟨q, 2, none⟩ _ _ (by show g ≠ q; omega)).trans HR6.out)
end Go.Proofs.YtjhkihkiebnpaaaGreatDoor
/-
  Plans as they lie in memory; rows of plans that grow. No program in sight but the types.
-/
namespace Go.Proofs.YtjhkihkiebnpaaaGreatDoor
open Go.RowKit
set_option linter.unusedVariables false
set_option linter.unusedSimpArgs false
def Ag.cs (g : Ag) : List Value := [.string g.nm, .string g.fn, .string g.col]
def flatG (l : List Ag) : List Value := l.flatMap Ag.cs
theorem flatG_len (l : List Ag) : (flatG l).length = l.length * 3 := by
  induction l with
  | nil => rfl
  | cons v l ih => show ((Ag.cs v) ++ flatG l).length = _; simp [ih, Ag.cs]; omega
theorem flatG_append (a b : List Ag) : flatG (a ++ b) = flatG a ++ flatG b := by simp [flatG]
theorem flatG_one (v : Ag) : flatG [v] = Ag.cs v := by simp [flatG]
/-- where the six slices of a plan lie, and how many each may hold -/
structure PA where
  ea : Option Addr
  ec : Nat
  ca : Option Addr
  cc : Nat
  la : Option Addr
  lc : Nat
  ra : Option Addr
  rc : Nat
  ga : Option Addr
  gc : Nat
  ka : Option Addr
  kc : Nat
def P.cs (p : P) (a : PA) : List Value := [.int .i64 p.k, .string p.nm, .slice a.ea p.ex.length a.ec, .slice a.ca p.cols.length a.cc, .slice a.la p.left.length a.lc, .slice a.ra p.right.length a.rc, .slice a.ga p.ag.length a.gc, .slice a.ka p.kids.length a.kc]
def P.val (p : P) (a : PA) : Value := .agg #[.int .i64 p.k, .string p.nm, .slice a.ea p.ex.length a.ec, .slice a.ca p.cols.length a.cc, .slice a.la p.left.length a.lc, .slice a.ra p.right.length a.rc, .slice a.ga p.ag.length a.gc, .slice a.ka p.kids.length a.kc]
/-- all but the kids -/
structure PParts (w : World) (S : Nat → Prop) (p : P) (a : PA) : Prop where
  ex : XKids w S a.ea p.ex
  cols : Lies w S a.ca (strs p.cols)
  left : Lies w S a.la (strs p.left)
  right : Lies w S a.ra (strs p.right)
  ag : Lies w S a.ga (flatG p.ag)
  l1 : p.ex.length ≤ 9223372036854775807
  l2 : p.cols.length ≤ 9223372036854775807
  l3 : p.left.length ≤ 9223372036854775807
  l4 : p.right.length ≤ 9223372036854775807
  l5 : p.ag.length ≤ 9223372036854775807
theorem PParts.kept {w w' : World} {S : Nat → Prop} {p : P} {a : PA} (h : PParts w S p a) (hw : ∀ k, S k → w'.heap[k]? = w.heap[k]?) : PParts w' S p a :=
  ⟨h.ex.kept hw, h.cols.kept hw, h.left.kept hw, h.right.kept hw, h.ag.kept hw, h.l1, h.l2, h.l3, h.l4, h.l5⟩
theorem PParts.mono {w : World} {S S' : Nat → Prop} {p : P} {a : PA} (h : PParts w S p a) (hS : ∀ k, S k → S' k) : PParts w S' p a :=
  ⟨h.ex.mono hS, h.cols.mono hS, h.left.mono hS, h.right.mono hS, h.ag.mono hS, h.l1, h.l2, h.l3, h.l4, h.l5⟩
/-- a slice at an address holds the plans l, all its blocks in S, and so on downwards -/
inductive XPK (w : World) (S : Nat → Prop) : Option Addr → List P → Prop
  | nil (A : Option Addr) : XPK w S A []
  | mk (b off : Nat) (l : List P) (hn : l.length ≤ 9223372036854775807) (hb : S b) (F : Nat → PA)
      (h : ∀ i p, l[i]? = some p → ∀ j u, (p.cs (F i))[j]? = some u → w.cell? ⟨b, off + i * 8 + j, none⟩ = some u)
      (hp : ∀ i p, l[i]? = some p → PParts w S p (F i))
      (hk : ∀ i p, l[i]? = some p → XPK w S (F i).ka p.kids) : XPK w S (some ⟨b, off, none⟩) l
theorem XPK.kept {w w' : World} {S : Nat → Prop} {A : Option Addr} {l : List P} (h : XPK w S A l) (hw : ∀ k, S k → w'.heap[k]? = w.heap[k]?) : XPK w' S A l := by
  induction h with
  | nil A => exact .nil A
  | mk b off l hn hlt F h hp hk ih =>
    exact .mk b off l hn hlt F (fun i p hi j u hj => (World.cell?_of_block (hw b hlt)).trans (h i p hi j u hj)) (fun i p hi => (hp i p hi).kept hw) (fun i p hi => ih i p hi)
theorem XPK.mono {w : World} {S S' : Nat → Prop} {A : Option Addr} {l : List P} (h : XPK w S A l) (hS : ∀ k, S k → S' k) : XPK w S' A l := by
  induction h with
  | nil A => exact .nil A
  | mk b off l hn hlt F h hp hk ih => exact .mk b off l hn (hS b hlt) F h (fun i p hi => (hp i p hi).mono hS) (fun i p hi => ih i p hi)
theorem XPK.len {w : World} {S : Nat → Prop} {A : Option Addr} {l : List P} (h : XPK w S A l) : l.length ≤ 9223372036854775807 := by
  cases h with
  | nil A => simp
  | mk b off l hn hlt F h hp hk => exact hn
/-- a plan whose parts lie at a -/
structure PAt (w : World) (S : Nat → Prop) (p : P) (a : PA) : Prop where
  parts : PParts w S p a
  kids : XPK w S a.ka p.kids
theorem PAt.kept {w w' : World} {S : Nat → Prop} {p : P} {a : PA} (h : PAt w S p a) (hw : ∀ k, S k → w'.heap[k]? = w.heap[k]?) : PAt w' S p a := ⟨h.parts.kept hw, h.kids.kept hw⟩
theorem PAt.mono {w : World} {S S' : Nat → Prop} {p : P} {a : PA} (h : PAt w S p a) (hS : ∀ k, S k → S' k) : PAt w S' p a := ⟨h.parts.mono hS, h.kids.mono hS⟩
theorem XPK.at {w : World} {S : Nat → Prop} {A : Option Addr} {l : List P} (h : XPK w S A l) {i : Nat} {p : P} (hx : l[i]? = some p) :
    ∃ b o a, A = some ⟨b, o, none⟩ ∧ S b ∧ (∀ j u, (p.cs a)[j]? = some u → w.cell? ⟨b, o + i * 8 + j, none⟩ = some u) ∧ PAt w S p a := by
  cases h with
  | nil A => simp at hx
  | mk b off l hn hlt F h hp hk => exact ⟨b, off, F i, rfl, hlt, h i p hx, hp i p hx, hk i p hx⟩
abbrev QP := P × PA
def QP.cs (x : QP) : List Value := x.1.cs x.2
def flatQ (l : List QP) : List Value := l.flatMap QP.cs
theorem flatQ_len (l : List QP) : (flatQ l).length = l.length * 8 := by
  induction l with
  | nil => rfl
  | cons v l ih => show ((QP.cs v) ++ flatQ l).length = _; simp [ih, QP.cs, P.cs]; omega
theorem flatQ_one (v : QP) : flatQ [v] = QP.cs v := by simp [flatQ]
theorem flatQ_append (a b : List QP) : flatQ (a ++ b) = flatQ a ++ flatQ b := by simp [flatQ]
theorem flatQ_get (l : List QP) : ∀ (i : Nat) (v : QP), l[i]? = some v → ∀ j u, (QP.cs v)[j]? = some u → (flatQ l)[i * 8 + j]? = some u := by
  induction l with
  | nil => intro i v h; simp at h
  | cons x l ih =>
    intro i v h j u hj
    have e : flatQ (x :: l) = QP.cs x ++ flatQ l := rfl
    have hl : ∀ y : QP, (QP.cs y).length = 8 := fun _ => rfl
    have hj8 : j < 8 := by have := (List.getElem?_eq_some_iff.1 hj).1; rw [hl] at this; exact this
    rw [e]
    cases i with
    | zero =>
      obtain rfl : x = v := by simpa using h
      rw [Nat.zero_mul, Nat.zero_add, List.getElem?_append_left (by rw [hl]; exact hj8)]
      exact hj
    | succ i =>
      rw [List.getElem?_append_right (by rw [hl]; omega), hl, show (i + 1) * 8 + j - 8 = i * 8 + j by omega]
      exact ih i v (by simpa using h) j u hj
theorem flatQ_ones (l : List QP) : ∀ u ∈ flatQ l, u.oneCell' = true := by
  intro u hu
  obtain ⟨v, _, hv⟩ := List.mem_flatMap.1 hu
  simp only [QP.cs, P.cs, List.mem_cons, List.not_mem_nil, or_false] at hv
  rcases hv with rfl | rfl | rfl | rfl | rfl | rfl | rfl | rfl <;> rfl
/-- what is owned is a row of plans -/
theorem own_plans {w : World} {base : Nat} {e : TypeId} {v : Value} {l : List QP} (h : w.ownsRow base e 8 v l.length (flatQ l)) (hn : l.length ≤ 9223372036854775807) {S : Nat → Prop} (hS : ∀ g, base ≤ g → g < w.heap.size → S g) (hk : ∀ x ∈ l, PAt w S x.1 x.2) :
    ∃ A c, v = .slice A (l.map Prod.fst).length c ∧ (l.map Prod.fst).length ≤ c ∧ XPK w S A (l.map Prod.fst) := by
  obtain ⟨_, hcase⟩ := id h
  rcases hcase with ⟨rfl, h0⟩ | ⟨g, cap, cur, rfl, hg, hh, hc, hcap, hsz, htake⟩
  · have e0 : l = [] := List.eq_nil_of_length_eq_zero h0
    subst e0
    exact ⟨none, 0, rfl, Nat.le_refl _, .nil _⟩
  · have hget : ∀ i x, (l.map Prod.fst)[i]? = some x → ∃ y : QP, l[i]? = some y ∧ y.1 = x := fun i x hx => by
      rw [List.getElem?_map] at hx
      cases hl : l[i]? with
      | none => rw [hl] at hx; cases hx
      | some y => rw [hl] at hx; exact ⟨y, hl, by simpa using hx⟩
    refine ⟨some ⟨g, 0, none⟩, cap, by rw [List.length_map], by rw [List.length_map]; exact hc, .mk g 0 _ (by rw [List.length_map]; exact hn) ?_ (fun i => ((l[i]?).map Prod.snd).getD ⟨none, 0, none, 0, none, 0, none, 0, none, 0, none, 0⟩) (fun i x hx j u hj => ?_) (fun i x hx => ?_) (fun i x hx => ?_)⟩
    · refine hS g hg ?_
      rcases Nat.lt_or_ge g w.heap.size with hlt | hge
      · exact hlt
      · rw [Array.getElem?_eq_none hge] at hh; cases hh
    · obtain ⟨y, hl, rfl⟩ := hget i x hx
      rw [hl] at hj
      have hi : i < l.length := (List.getElem?_eq_some_iff.1 hl).1
      have hj8 : j < 8 := by have := (List.getElem?_eq_some_iff.1 hj).1; exact this
      rw [Nat.zero_add, h.cellAt _ (by omega)]
      exact flatQ_get l i y hl j u hj
    · obtain ⟨y, hl, rfl⟩ := hget i x hx
      simp only [hl, Option.map_some, Option.getD_some]
      exact (hk y (List.mem_of_getElem? hl)).parts
    · obtain ⟨y, hl, rfl⟩ := hget i x hx
      simp only [hl, Option.map_some, Option.getD_some]
      exact (hk y (List.mem_of_getElem? hl)).kids
/-- a round of a loop that appends a plan -/
theorem xq_round {wr w3 w6 : World} {v v' : Value} {base : Nat} {ps : List QP} {x : QP}
    (hxk : ∀ p ∈ ps, PAt wr (fun k => base ≤ k ∧ k < wr.heap.size ∧ v.ownBlock ≠ some k) p.1 p.2)
    (hx : PAt w3 (fun k => wr.heap.size ≤ k ∧ k < w3.heap.size) x.1 x.2) (hbase : base ≤ wr.heap.size)
    (h1 : ∀ k, base ≤ k → k < wr.heap.size → v.ownBlock ≠ some k → w6.heap[k]? = wr.heap[k]?) (h2 : ∀ k, wr.heap.size ≤ k → k < w3.heap.size → w6.heap[k]? = w3.heap[k]?)
    (hs : wr.heap.size ≤ w3.heap.size) (hs6 : w3.heap.size ≤ w6.heap.size) (hv1 : ∀ k, v.ownBlock = some k → k < wr.heap.size) (hv : v'.ownBlock = v.ownBlock ∨ ∃ n, v'.ownBlock = some n ∧ w3.heap.size ≤ n) :
    ∀ p ∈ ps ++ [x], PAt w6 (fun k => base ≤ k ∧ k < w6.heap.size ∧ v'.ownBlock ≠ some k) p.1 p.2 := by
  intro p hp
  rcases List.mem_append.1 hp with hp | hp
  · refine ((hxk p hp).kept fun k hk => h1 k hk.1 hk.2.1 hk.2.2).mono fun k hk => ⟨hk.1, by have := hk.2.1; omega, ?_⟩
    rcases hv with hv | ⟨n, hv, hn⟩
    · rw [hv]; exact hk.2.2
    · rw [hv]; intro e; have := Option.some.inj e; have := hk.2.1; omega
  · obtain rfl : p = x := by simpa using hp
    refine (hx.kept fun k hk => h2 k hk.1 hk.2).mono fun k hk => ⟨by have := hk.1; omega, by have := hk.2; omega, ?_⟩
    rcases hv with hv | ⟨n, hv, hn⟩
    · rw [hv]; intro e; have := hv1 k e; have := hk.1; omega
    · rw [hv]; intro e; have := Option.some.inj e; have := hk.2; omega
theorem setNc {w : World} {g k : Nat} {cs : Array Value} {u : Value} {t : TypeId} (h : w.heap[g]? = some (.cells cs t (0, 0))) : (w.setCell ⟨g, k, none⟩ u).heap[g]? = some (.cells (cs.set! k u) t (0, 0)) := by
  show (w.heap.modify g _)[g]? = _
  rw [Array.getElem?_modify]
  simp [h]
def put8 (w : World) (p : Nat) (x0 x1 x2 x3 x4 x5 x6 x7 : Value) : World := (((((((w.setCell ⟨p, 0, none⟩ x0).setCell ⟨p, 1, none⟩ x1).setCell ⟨p, 2, none⟩ x2).setCell ⟨p, 3, none⟩ x3).setCell ⟨p, 4, none⟩ x4).setCell ⟨p, 5, none⟩ x5).setCell ⟨p, 6, none⟩ x6).setCell ⟨p, 7, none⟩ x7
theorem put8_block {w : World} {p : Nat} {a b c d e f g h x0 x1 x2 x3 x4 x5 x6 x7 : Value} {t : TypeId} (hb : w.heap[p]? = some (.cells #[a, b, c, d, e, f, g, h] t (0, 0))) : (put8 w p x0 x1 x2 x3 x4 x5 x6 x7).heap[p]? = some (.cells #[x0, x1, x2, x3, x4, x5, x6, x7] t (0, 0)) := by
  have h0 : (w.setCell ⟨p, 0, none⟩ x0).heap[p]? = some (.cells #[x0, b, c, d, e, f, g, h] t (0, 0)) := by simpa using setNc (k := 0) (u := x0) hb
  have h1 : ((w.setCell ⟨p, 0, none⟩ x0).setCell ⟨p, 1, none⟩ x1).heap[p]? = some (.cells #[x0, x1, c, d, e, f, g, h] t (0, 0)) := by simpa using setNc (k := 1) (u := x1) h0
  have h2 : (((w.setCell ⟨p, 0, none⟩ x0).setCell ⟨p, 1, none⟩ x1).setCell ⟨p, 2, none⟩ x2).heap[p]? = some (.cells #[x0, x1, x2, d, e, f, g, h] t (0, 0)) := by simpa using setNc (k := 2) (u := x2) h1
  have h3 : ((((w.setCell ⟨p, 0, none⟩ x0).setCell ⟨p, 1, none⟩ x1).setCell ⟨p, 2, none⟩ x2).setCell ⟨p, 3, none⟩ x3).heap[p]? = some (.cells #[x0, x1, x2, x3, e, f, g, h] t (0, 0)) := by simpa using setNc (k := 3) (u := x3) h2
  have h4 : (((((w.setCell ⟨p, 0, none⟩ x0).setCell ⟨p, 1, none⟩ x1).setCell ⟨p, 2, none⟩ x2).setCell ⟨p, 3, none⟩ x3).setCell ⟨p, 4, none⟩ x4).heap[p]? = some (.cells #[x0, x1, x2, x3, x4, f, g, h] t (0, 0)) := by simpa using setNc (k := 4) (u := x4) h3
  have h5 : ((((((w.setCell ⟨p, 0, none⟩ x0).setCell ⟨p, 1, none⟩ x1).setCell ⟨p, 2, none⟩ x2).setCell ⟨p, 3, none⟩ x3).setCell ⟨p, 4, none⟩ x4).setCell ⟨p, 5, none⟩ x5).heap[p]? = some (.cells #[x0, x1, x2, x3, x4, x5, g, h] t (0, 0)) := by simpa using setNc (k := 5) (u := x5) h4
  have h6 : (((((((w.setCell ⟨p, 0, none⟩ x0).setCell ⟨p, 1, none⟩ x1).setCell ⟨p, 2, none⟩ x2).setCell ⟨p, 3, none⟩ x3).setCell ⟨p, 4, none⟩ x4).setCell ⟨p, 5, none⟩ x5).setCell ⟨p, 6, none⟩ x6).heap[p]? = some (.cells #[x0, x1, x2, x3, x4, x5, x6, h] t (0, 0)) := by simpa using setNc (k := 6) (u := x6) h5
  have h7 : ((((((((w.setCell ⟨p, 0, none⟩ x0).setCell ⟨p, 1, none⟩ x1).setCell ⟨p, 2, none⟩ x2).setCell ⟨p, 3, none⟩ x3).setCell ⟨p, 4, none⟩ x4).setCell ⟨p, 5, none⟩ x5).setCell ⟨p, 6, none⟩ x6).setCell ⟨p, 7, none⟩ x7).heap[p]? = some (.cells #[x0, x1, x2, x3, x4, x5, x6, x7] t (0, 0)) := by simpa using setNc (k := 7) (u := x7) h6
  exact h7
theorem put8_other {w : World} {p k : Nat} {x0 x1 x2 x3 x4 x5 x6 x7 : Value} (h : k ≠ p) : (put8 w p x0 x1 x2 x3 x4 x5 x6 x7).heap[k]? = w.heap[k]? := by
  simp only [put8, World.setCell, Array.getElem?_modify]
  rw [if_neg (by omega), if_neg (by omega), if_neg (by omega), if_neg (by omega), if_neg (by omega), if_neg (by omega), if_neg (by omega), if_neg (by omega)]
theorem put8_size {w : World} {p : Nat} {x0 x1 x2 x3 x4 x5 x6 x7 : Value} : (put8 w p x0 x1 x2 x3 x4 x5 x6 x7).heap.size = w.heap.size := by simp [put8, World.setCell]
theorem put8_only {w w' : World} {g p : Nat} {x0 x1 x2 x3 x4 x5 x6 x7 : Value} (h : Only g w w') (hp : w.heap.size ≤ p) : Only g w (put8 w' p x0 x1 x2 x3 x4 x5 x6 x7) :=
  (((((((h.setNew (p := ⟨p, 0, none⟩) hp x0).setNew (p := ⟨p, 1, none⟩) hp x1).setNew (p := ⟨p, 2, none⟩) hp x2).setNew (p := ⟨p, 3, none⟩) hp x3).setNew (p := ⟨p, 4, none⟩) hp x4).setNew (p := ⟨p, 5, none⟩) hp x5).setNew (p := ⟨p, 6, none⟩) hp x6).setNew (p := ⟨p, 7, none⟩) hp x7
theorem put8_below {w a : World} {B p : Nat} {x0 x1 x2 x3 x4 x5 x6 x7 : Value} (h : Below B a w) (hp : B ≤ p) : Below B a (put8 w p x0 x1 x2 x3 x4 x5 x6 x7) :=
  (((((((h.setCell (p := ⟨p, 0, none⟩) hp x0).setCell (p := ⟨p, 1, none⟩) hp x1).setCell (p := ⟨p, 2, none⟩) hp x2).setCell (p := ⟨p, 3, none⟩) hp x3).setCell (p := ⟨p, 4, none⟩) hp x4).setCell (p := ⟨p, 5, none⟩) hp x5).setCell (p := ⟨p, 6, none⟩) hp x6).setCell (p := ⟨p, 7, none⟩) hp x7
/-- a block of eight cells -/
structure C8 (w : World) (g : Nat) (x0 x1 x2 x3 x4 x5 x6 x7 : Value) : Prop where
  c0 : w.cell? ⟨g, 0, none⟩ = some x0
  c1 : w.cell? ⟨g, 1, none⟩ = some x1
  c2 : w.cell? ⟨g, 2, none⟩ = some x2
  c3 : w.cell? ⟨g, 3, none⟩ = some x3
  c4 : w.cell? ⟨g, 4, none⟩ = some x4
  c5 : w.cell? ⟨g, 5, none⟩ = some x5
  c6 : w.cell? ⟨g, 6, none⟩ = some x6
  c7 : w.cell? ⟨g, 7, none⟩ = some x7
  f0 : w.frozen? ⟨g, 0, none⟩ = false
  f1 : w.frozen? ⟨g, 1, none⟩ = false
  f2 : w.frozen? ⟨g, 2, none⟩ = false
  f3 : w.frozen? ⟨g, 3, none⟩ = false
  f4 : w.frozen? ⟨g, 4, none⟩ = false
  f5 : w.frozen? ⟨g, 5, none⟩ = false
  f6 : w.frozen? ⟨g, 6, none⟩ = false
  f7 : w.frozen? ⟨g, 7, none⟩ = false
theorem cell8 {w : World} {g : Nat} {x0 x1 x2 x3 x4 x5 x6 x7 : Value} {t : TypeId} (h : w.heap[g]? = some (.cells #[x0, x1, x2, x3, x4, x5, x6, x7] t (0, 0))) : C8 w g x0 x1 x2 x3 x4 x5 x6 x7 := by
  constructor <;> simp [World.cell?, World.frozen?, h]
theorem results_plan {fn : Func} {p : Tmp} (h : fn.results = #[.cell p 27]) {tmps : Array Value} {w : World} {g : Nat} {x0 x1 x2 x3 x4 x5 x6 x7 : Value} {t : TypeId}
    (hp : tmps.getD p undef = .pointer (some ⟨g, 0, none⟩)) (hg : w.heap[g]? = some (.cells #[x0, x1, x2, x3, x4, x5, x6, x7] t (0, 0))) : (results fn tmps).run Tryz.prog w = .ok (.agg #[x0, x1, x2, x3, x4, x5, x6, x7]) w := by
  have hp' : tmps[p]?.getD undef = .pointer (some ⟨g, 0, none⟩) := by simpa using hp
  have hl := run_loadVar_row (P := Tryz.prog) w g t 27 #[x0, x1, x2, x3, x4, x5, x6, x7] (0, 0) _ hg Tryz.underlying27 rfl (by show _ = some 8; kernel_rfl)
  simp [results, h, hp', asAddr, hl]
theorem plan_info : (Tryz.prog.info? 27).map (fun i => (i.zero, i.size, i.bytes)) = some (some (.agg #[.int .i64 0, .string ByteArray.empty, .slice none 0 0, .slice none 0 0, .slice none 0 0, .slice none 0 0, .slice none 0 0, .slice none 0 0]), 8, 168) := by kernel_rfl
end Go.Proofs.YtjhkihkiebnpaaaGreatDoor
/-
  ExprBack: an expression that was read, as a tree, and read again. No program in sight.
-/
namespace Go.Proofs.YtjhkihkiebnpaaaGreatDoor
open Go.RowKit
/- what printing looks at -/
mutual
def canT : T → T
  | .mk k s n l _ => if k = 2 then .mk 2 s 0 [] 0 else if k = 3 then .mk 3 ⟨#[]⟩ n [] 0 else if k = 4 then .mk 4 s 0 [] 0 else .mk 1 ⟨#[]⟩ 0 (canL l) 0
def canL : List T → List T
  | [] => []
  | x :: l => canT x :: canL l
end
/- an expression as a tree -/
mutual
def treeE : E → T
  | .mk k s n l => if k = 1 then .mk 2 s 0 [] 0 else if k = 2 then .mk 3 ⟨#[]⟩ n [] 0 else if k = 3 then .mk 4 s 0 [] 0 else .mk 1 ⟨#[]⟩ 0 (.mk 2 s 0 [] 0 :: treeL l) 0
def treeL : List E → List T
  | [] => []
  | x :: l => treeE x :: treeL l
end
/-- what expr.Made accepts -/
inductive MadeE : E → Prop
  | col (s : ByteArray) (h : nameB s = true) : MadeE (.mk 1 s 0 [])
  | num (n : Int) : MadeE (.mk 2 ⟨#[]⟩ n [])
  | str (s : ByteArray) : MadeE (.mk 3 s 0 [])
  | app (s : ByteArray) (l : List E) (h0 : cntL s.toList ≠ 0) (hl : l.length = cntL s.toList) (hk : ∀ e ∈ l, MadeE e) : MadeE (.mk 4 s 0 l)
theorem treeL_length (l : List E) : (treeL l).length = l.length := by
  induction l with
  | nil => rfl
  | cons x l ih => rw [treeL, List.length_cons, List.length_cons, ih]
def BackT (t : T) : Prop := (readT t).2.1 = 0 → treeE (readT t).1 = canT t ∧ readT (treeE (readT t).1) = ((readT t).1, 0, 0) ∧ MadeE (readT t).1
theorem back_list : ∀ (l : List T), (∀ t ∈ l, BackT t) → (readL l).2.1 = 0 → treeL (readL l).1 = canL l ∧ readL (treeL (readL l).1) = ((readL l).1, 0, 0) ∧ (∀ e ∈ (readL l).1, MadeE e) ∧ (readL l).1.length = l.length
  | [], _, _ => by
    rw [readL]
    exact ⟨by rw [treeL, canL], by rw [treeL, readL], (fun e he => by cases he), rfl⟩
  | x :: l, hM, h => by
    rw [readL] at h ⊢
    by_cases hx : (readT x).2.1 = 0
    · rw [if_pos hx] at h ⊢
      simp only at h ⊢
      obtain ⟨h1, h2, h3⟩ := hM x List.mem_cons_self hx
      obtain ⟨g1, g2, g3, g4⟩ := back_list l (fun t ht => hM t (List.mem_cons_of_mem _ ht)) h
      refine ⟨by rw [treeL, canL, h1, g1], ?_, fun e he => ?_, by rw [List.length_cons, List.length_cons, g4]⟩
      · rw [treeL, readL, h2, if_pos rfl, g2]
      · rcases List.mem_cons.1 he with rfl | he
        · exact h3
        · exact g3 e he
    · rw [if_neg hx] at h
      exact absurd h hx
theorem tree_col (s : ByteArray) (n : Int) (l : List E) : treeE (.mk 1 s n l) = .mk 2 s 0 [] 0 := by unfold treeE; rw [if_pos rfl]
theorem tree_num (s : ByteArray) (n : Int) (l : List E) : treeE (.mk 2 s n l) = .mk 3 ⟨#[]⟩ n [] 0 := by unfold treeE; rw [if_neg (by decide), if_pos rfl]
theorem tree_str (s : ByteArray) (n : Int) (l : List E) : treeE (.mk 3 s n l) = .mk 4 s 0 [] 0 := by unfold treeE; rw [if_neg (by decide), if_neg (by decide), if_pos rfl]
theorem tree_app (s : ByteArray) (n : Int) (l : List E) : treeE (.mk 4 s n l) = .mk 1 ⟨#[]⟩ 0 (.mk 2 s 0 [] 0 :: treeL l) 0 := by unfold treeE; rw [if_neg (by decide), if_neg (by decide), if_neg (by decide)]
theorem read_col (s : ByteArray) (n a : Int) (l : List T) : readT (.mk 2 s n l a) = if nameB s then (.mk 1 s 0 [], 0, 0) else (zeroE, 20, a) := by unfold readT; rw [if_pos rfl]
theorem read_num (s : ByteArray) (n a : Int) (l : List T) : readT (.mk 3 s n l a) = (.mk 2 ⟨#[]⟩ n [], 0, 0) := by unfold readT; rw [if_neg (by decide), if_pos rfl]
theorem read_str (s : ByteArray) (n a : Int) (l : List T) : readT (.mk 4 s n l a) = (.mk 3 s 0 [], 0, 0) := by unfold readT; rw [if_neg (by decide), if_neg (by decide), if_pos rfl]
theorem read_app (s : ByteArray) (n a : Int) (x : T) (ks : List T) : readT (.mk 1 s n (x :: ks) a) = if x.k = 2 ∧ cntL x.s.toList ≠ 0 then
      (if ks.length = cntL x.s.toList then (if (readL ks).2.1 = 0 then (.mk 4 x.s 0 (readL ks).1, 0, 0) else (zeroE, (readL ks).2.1, (readL ks).2.2)) else (zeroE, 23, a)) else (zeroE, 12, a) := by
  unfold readT
  rw [if_neg (by decide), if_neg (by decide), if_neg (by decide), if_pos rfl]
theorem read_app_ok {s : ByteArray} {n a : Int} {x : T} {ks : List T} (h1 : x.k = 2) (h2 : cntL x.s.toList ≠ 0) (h3 : ks.length = cntL x.s.toList) (h4 : (readL ks).2.1 = 0) : readT (.mk 1 s n (x :: ks) a) = (.mk 4 x.s 0 (readL ks).1, 0, 0) := by
  rw [read_app, if_pos ⟨h1, h2⟩, if_pos h3, if_pos h4]
theorem read_none (s : ByteArray) (n a : Int) : readT (.mk 1 s n [] a) = (zeroE, 12, a) := by
  unfold readT
  rw [if_neg (by decide), if_neg (by decide), if_neg (by decide), if_pos rfl]
theorem read_bad {k : Int} (h1 : k ≠ 1) (h2 : k ≠ 2) (h3 : k ≠ 3) (h4 : k ≠ 4) (s : ByteArray) (n a : Int) (l : List T) : readT (.mk k s n l a) = (zeroE, 12, a) := by
  unfold readT
  rw [if_neg h2, if_neg h3, if_neg h4, if_neg h1]
theorem back_any : ∀ t, BackT t := T.ind (fun k s n l a ih => by
  intro h
  by_cases h2 : k = 2
  · subst h2
    by_cases hn : nameB s = true
    · rw [read_col, if_pos hn]
      refine ⟨?_, ?_, .col s hn⟩
      · rw [tree_col]; unfold canT; rw [if_pos rfl]
      · rw [tree_col, read_col, if_pos hn]
    · rw [read_col, if_neg hn] at h
      simp at h
  · by_cases h3 : k = 3
    · subst h3
      rw [read_num]
      refine ⟨?_, ?_, .num n⟩
      · rw [tree_num]; unfold canT; rw [if_neg (by decide), if_pos rfl]
      · rw [tree_num, read_num]
    · by_cases h4 : k = 4
      · subst h4
        rw [read_str]
        refine ⟨?_, ?_, .str s⟩
        · rw [tree_str]; unfold canT; rw [if_neg (by decide), if_neg (by decide), if_pos rfl]
        · rw [tree_str, read_str]
      · by_cases h1 : k = 1
        · subst h1
          cases l with
          | nil => rw [read_none] at h; simp at h
          | cons x ks =>
            rw [read_app] at h
            by_cases hx : x.k = 2 ∧ cntL x.s.toList ≠ 0
            · rw [if_pos hx] at h
              by_cases hl : ks.length = cntL x.s.toList
              · rw [if_pos hl] at h
                by_cases hr : (readL ks).2.1 = 0
                · obtain ⟨g1, g2, g3, g4⟩ := back_list ks (fun t ht => ih t (List.mem_cons_of_mem _ ht)) hr
                  rw [read_app, if_pos hx, if_pos hl, if_pos hr]
                  refine ⟨?_, ?_, .app x.s _ hx.2 (by rw [g4]; exact hl) g3⟩
                  · rw [tree_app]
                    obtain ⟨xk, xs, xn, xl, xa⟩ := x
                    simp only [T.k, T.s] at hx ⊢
                    unfold canT
                    rw [if_neg (by decide), if_neg (by decide), if_neg (by decide)]
                    unfold canL canT
                    rw [if_pos hx.1, g1]
                  · obtain ⟨xk, xs, xn, xl, xa⟩ := x
                    rw [tree_app]
                    have := read_app_ok (s := ⟨#[]⟩) (n := 0) (a := 0) (x := T.mk 2 xs 0 [] 0) (ks := treeL (readL ks).1) rfl hx.2 (by rw [treeL_length, g4]; exact hl) (by rw [g2])
                    rw [g2] at this
                    exact this
                · rw [if_neg hr] at h
                  exact absurd h hr
              · rw [if_neg hl] at h
                simp at h
            · rw [if_neg hx] at h
              simp at h
        · rw [read_bad h1 h2 h3 h4] at h
          simp at h)
end Go.Proofs.YtjhkihkiebnpaaaGreatDoor
/-
  An expression that was read can be made. No program in sight.
-/
namespace Go.Proofs.YtjhkihkiebnpaaaGreatDoor
open Go.RowKit
theorem MadeE.ok {e : E} (h : MadeE e) : madeE e = true := by
  induction h with
  | col s h => rw [madeE, if_pos rfl, h]; rfl
  | num n => rw [madeE, if_neg (by decide), if_pos rfl]; kernel_rfl
  | str s => rw [madeE, if_neg (by decide), if_neg (by decide), if_pos rfl]; rfl
  | app s l h0 hl hk ih =>
    rw [madeE, if_neg (by decide), if_neg (by decide), if_neg (by decide), if_pos rfl, madeL_all l, List.all_eq_true.2 ih]
    have h1 : decide (0 < cntL s.toList) = true := decide_eq_true (by omega)
    rw [h1, hl]
    simp
end Go.Proofs.YtjhkihkiebnpaaaGreatDoor
