/-
  zset.Right at a right set.
-/
import Derived.Test.YtajnnkapgnmoaaaGreatMs7
import Derived.Lib.QuietBelow
import Derived.Test.YtajnnkapgnmoaaaGreatMs0
import Derived.Deep.RegionHeld3
set_option linter.unusedVariables false
set_option linter.unusedSimpArgs false
namespace Go.Proofs.YtajnnkapgnmoaaaGreat
open Go.RowKit Go.Sort

/-- a right set of small nets -/
structure SOk (l : List IM) : Prop where
  set : SetOk (its l)
  vol : vol (its l) ≤ 1125899906842624
theorem SOk.row {l : List IM} (h : SOk l) {x : IM} (hx : x ∈ l) : rowOk x.r = true := h.set.rows x.it (List.mem_map.2 ⟨x, hx, rfl⟩)
theorem SOk.net {l : List IM} (h : SOk l) {x : IM} (hx : x ∈ l) : x.k ≠ 0 := h.set.nets x.it (List.mem_map.2 ⟨x, hx, rfl⟩)
theorem SOk.okN {l : List IM} (h : SOk l) {x : IM} (hx : x ∈ l) : okN x.k := by
  have h1 := vol_le_of hx
  have h2 := h.vol
  unfold Go.Proofs.YtajnnkapgnmoaaaGreat.okN
  omega
theorem SOk.less {l : List IM} (h : SOk l) {i : Nat} {x y : IM} (hx : l[i]? = some x) (hy : l[i + 1]? = some y) : rowLess x.r y.r = true := by
  obtain ⟨h1, e1⟩ := List.getElem?_eq_some_iff.1 hx
  obtain ⟨h2, e2⟩ := List.getElem?_eq_some_iff.1 hy
  have := List.pairwise_iff_getElem.1 h.set.ord i (i + 1) (by rw [its_len]; omega) (by rw [its_len]; exact h2) (by omega)
  simp only [its, List.getElem_map, e1, e2, IM.it] at this
  unfold rowLess
  rw [h.row (List.mem_of_getElem? hx), h.row (List.mem_of_getElem? hy), decide_eq_true this]
  rfl
theorem Calls.regrown_same {P : Program} {f : FuncId} {args : Array Value} {w : World} {d : Nat} {os : Array Obj} {v : Value}
    (h : Calls P f args (grow (redrawn w d) os) fun e w' => e = .returned v ∧ grow (redrawn w d) os = w') : Calls P f args (grow (redrawn w d) os) fun e w'' => e = .returned v ∧ ∃ p : Regrown, w'' = grow (redrawn w p.d) p.os :=
  h.mono fun _ _ ⟨he, hb⟩ => ⟨he, ⟨⟨d, os⟩, hb.symm⟩⟩

theorem wpQuiet_skip {P : Program} {ops : Array Oper} {C : World → Prop} {Q : Act → Prop} {a : Act} {o : Oper} {rest : List Oper} (hw : Region.wanted o (yielded ops a.tmps) = false) (h : wpQuiet P ops C Q rest (a.put o.dst undef)) : wpQuiet P ops C Q (o :: rest) a :=
  wpQuiet_step fun K hK => by rw [hw]; exact hK _ h

set_option maxHeartbeats 2000000 in
set_option maxRecDepth 100000 in
theorem zright_any (A : Option Addr) (c : Nat) (l : List IM) (w : World) {S : Nat → Prop} (hA : SRow w S A l) (hS : ∀ k, S k → k < w.heap.size) (hl : l.length ≤ 1073741824) (hk : SOk l) :
    Calls Tryz.prog 41 #[.slice A l.length c] w fun e w' => e = .returned (.bool true) ∧ Below w.heap.size w w' := by
  obtain ⟨n, hn⟩ : ∃ n, l.length = n := ⟨_, rfl⟩
  have HN := Lib.hid hn
  have HA := Lib.hid hA
  have HS := Lib.hid hS
  have HK := Lib.hid hk
  have mixed : Tryz.prog.follows .mixedOrders = true := by kernel_rfl
  rw [hn] at hl ⊢
  clear hA hS hk hn
  go_enter Tryz.func41, Tryz.ntmps41
  go_wp2_with fail
  go_loopw [7] (fun i wr => ∃ k : Nat, k ≤ n ∧ i = .int .i64 k ∧ Below w.heap.size w wr) (fun i _ => n - (intOf i).toNat)
  case atStart => exact ⟨0, Nat.zero_le _, rfl, Below.refl _ _⟩
  case round =>
    obtain ⟨k, hk, rfl, hb⟩ := hrel
    have HB := Lib.hid hb
    have hs := hb.size
    clear hb
    by_cases hlt : k < n
    · obtain ⟨x, hx⟩ : ∃ x, l[k]? = some x := ⟨_, List.getElem?_eq_getElem (by rw [HN.out]; exact hlt)⟩
      obtain ⟨b, off, rfl, hSb, hc1, hc2⟩ := (HA.out.below HB.out HS.out).get hx
      have hm := List.mem_of_getElem? hx
      have HX := Lib.hid hx
      have hok := HK.out.row hm
      have hkN := HK.out.okN hm
      have hk0 := HK.out.net hm
      have HXR := Lib.hid ((HA.out.rows x hm).to HS.out)
      have hq := Lib.hid (fun w1 (hb : Below w.heap.size w w1) => rowRight_any x.A x.c x.r (by have := (rowOk_len hok).2; omega) w1 ((HXR.out.below hb).more hb.size))
      rw [show rowOk x.r = true from hok] at hq
      have ht := Lib.hid (fun w1 => tal_right hkN w1)
      have hrd := Lib.hid (fun w1 => tal_reduce hkN w1)
      have q1 : ∀ w1, (binOp .eql 45 (tal x.k) (.complex .f64 0 0)).run Tryz.prog w1 = .ok (.bool false) w1 := fun w1 => by
        rw [run_eq_zero hkN, decide_eq_false hk0]
      have q2 : ∀ w1, (binOp .neq 45 (tal x.k) (tal x.k)).run Tryz.prog w1 = .ok (.bool false) w1 := fun w1 => by
        rw [run_ne_tal hkN hkN, decide_eq_true rfl]; rfl
      have HLS : Hid (∀ kp, k = kp + 1 → ∃ y, l[kp]? = some y ∧ VRow w w.heap.size y.A y.r ∧ rowLess y.r x.r = true ∧ y.r.length ≤ 6) := Lib.hid (fun kp e => by
        obtain ⟨y, hy⟩ : ∃ y, l[kp]? = some y := ⟨_, List.getElem?_eq_getElem (by rw [HN.out]; omega)⟩
        have hmy := List.mem_of_getElem? hy
        exact ⟨y, hy, (HA.out.rows y hmy).to HS.out, HK.out.less hy (by rw [← e]; exact HX.out), (rowOk_len (HK.out.row hmy)).2⟩)
      have hxl : x.r.length ≤ 6 := (rowOk_len hok).2
      obtain ⟨xA, xc, xr, xk⟩ := x
      dsimp only at hc1 hc2 hq ht hrd q1 q2 HLS HXR hxl
      have hst2 := fun a m w1 => run_store_tal Tryz.prog a xk m w1
      have hgz2 := fun op t x y v => eqGuard_at_tal op t x y xk v
      generalize tal xk = T at hc2 ht hrd q1 q2 hst2 hgz2
      obtain ⟨xn, hxn⟩ : ∃ xn, xr.length = xn := ⟨_, rfl⟩
      rw [hxn] at hc1 hq hxl
      have HXN := Lib.hid hxn
      clear hx hm hok hkN hk0 hSb hxn
      go_wp2_with fail
      have e0 : ∀ d os, (grow (redrawn (wr.alloc (.cells #[.slice xA xn xc, T] 47)) d) os).cell? ⟨wr.heap.size, 0, none⟩ = some (.slice xA xn xc) := fun d os => cell_regrown (by simp) d os
      have e1 : ∀ d os, (grow (redrawn (wr.alloc (.cells #[.slice xA xn xc, T] 47)) d) os).cell? ⟨wr.heap.size, 1, none⟩ = some (T) := fun d os => cell_regrown (by simp) d os
      have HBA : Hid (∀ d os, Below w.heap.size w (grow (redrawn (wr.alloc (.cells #[.slice xA xn xc, T] 47)) d) os)) := Lib.hid (fun d os => (HB.out.alloc hs _).trans ((below_regrown _ d os).mono (by simp; omega)))
      have HSA := (HB.out.alloc hs (.cells #[.slice xA xn xc, T] 47)).size
      by_cases hk0 : k = 0
      · have hkz : decide (0 < (k : Int)) = false := decide_eq_false (by omega)
        generalize wr.alloc (.cells #[.slice xA xn xc, T] 47) = wa at e0 e1 HBA HSA ⊢
        have C1 := Lib.hid (fun d os => Calls.regrown_of (hq.out _ (HBA.out d os)))
        have C2 := Lib.hid (fun d os => Calls.regrown_same (ht.out (grow (redrawn wa d) os)))
        have C3 := Lib.hid (fun d os => Calls.regrown_same (hrd.out (grow (redrawn wa d) os)))
        clear hq ht hrd HLS
        refine wp_region_quiet_below (by assumption) (by kernel_rfl) ?_
        iterate 27 (quiet_step (first | (go_at_call 77; exact C1.out _ _) | (go_at_call 78; exact C2.out _ _) | (go_at_call 85; exact C3.out _ _)))
        iterate 10 (with_reducible (refine wpQuiet_skip ?_ ?_); kernel_rfl; simp only [Act.put, List.setIfInBounds_toArray, List.set_cons_zero, List.set_cons_succ])
        iterate 2 (quiet_step (first | (go_at_call 77; exact C1.out _ _) | (go_at_call 78; exact C2.out _ _) | (go_at_call 85; exact C3.out _ _)))
        refine wpQuiet_nil ?_
        intro _ hw'
        obtain ⟨⟨nq, osq⟩, hw''⟩ := hw'
        subst hw''
        have HB2 := Lib.hid (HBA.out nq osq)
        clear e0 e1 HBA C1 C2 C3
        generalize grow (redrawn wa nq) osq = wb at HB2 ⊢
        go_wp2_with fail
        go_roundw
        case rel => exact ⟨k + 1, by omega, by go_num, HB2.out⟩
        case measure => simp [intOf]; omega
      · obtain ⟨kp, ekp⟩ : ∃ kp, k = kp + 1 := ⟨k - 1, by omega⟩
        have hkn : 0 < k := by omega
        have hkz : (0 : Int) < (k : Int) := by omega
        have ek : (k : Int) - 1 = (kp : Int) := by omega
        have pk : kp < n := by omega
        have rk : IntKind.i64.wrap (kp : Int) = (kp : Int) := by rw [IntKind.wrap_i64]; omega
        have rk2 : IntKind.i64.wrap ((k : Int) - 1) = (kp : Int) := by rw [ek]; exact rk
        obtain ⟨y, hy, hyv, hyl, hy6⟩ := HLS.out kp ekp
        obtain ⟨b2, off2, hb2, _, hd1, hd2⟩ := (HA.out.below HB.out HS.out).get hy
        obtain ⟨rfl, rfl⟩ : b = b2 ∧ off = off2 := by simpa using hb2
        have hqy := Lib.hid (fun w1 (hb : Below w.heap.size w w1) => rowLess_any y.A xA y.c xc y.r xr (by omega) (by rw [HXN.out]; omega) w1 ((hyv.below hb).more hb.size) ((HXR.out.below hb).more hb.size))
        rw [hyl, HXN.out] at hqy
        obtain ⟨yA, yc, yr, yk⟩ := y
        dsimp only at hd1 hqy
        generalize yr.length = yn at hd1 hqy
        have e2 : ∀ d os, (grow (redrawn (wr.alloc (.cells #[.slice xA xn xc, T] 47)) d) os).cell? ⟨b, off + kp * 2, none⟩ = some (.slice yA yn yc) := fun d os => cell_regrown ((World.cell?_alloc_lt wr _ _ (block_lt_of_cell hd1)).trans hd1) d os
        clear hd1 hd2 hb2 hyv hyl hy6 hy
        have hkp : k = kp + 1 := ekp
        clear ekp HLS
        generalize wr.alloc (.cells #[.slice xA xn xc, T] 47) = wa at e0 e1 e2 HBA HSA ⊢
        have C1 := Lib.hid (fun d os => Calls.regrown_of (hq.out _ (HBA.out d os)))
        have C2 := Lib.hid (fun d os => Calls.regrown_same (ht.out (grow (redrawn wa d) os)))
        have C3 := Lib.hid (fun d os => Calls.regrown_same (hrd.out (grow (redrawn wa d) os)))
        have C4 := Lib.hid (fun d os => Calls.regrown_of (hqy.out _ (HBA.out d os)))
        clear hq ht hrd hqy hkp hk0
        refine wp_region_quiet_below (by assumption) (by kernel_rfl) ?_
        repeat (quiet_step (first | (go_at_call 77; exact C1.out _ _) | (go_at_call 78; exact C2.out _ _) | (go_at_call 85; exact C3.out _ _) | (go_at_call 86; exact C4.out _ _)))
        refine wpQuiet_nil ?_
        intro _ hw'
        obtain ⟨⟨nq, osq⟩, hw''⟩ := hw'
        subst hw''
        have HB2 := Lib.hid (HBA.out nq osq)
        clear e0 e1 e2 HBA C1 C2 C3 C4
        generalize grow (redrawn wa nq) osq = wb at HB2 ⊢
        go_wp2_with fail
        go_roundw
        case rel => exact ⟨k + 1, by omega, by go_num, HB2.out⟩
        case measure => simp [intOf]; omega
    · go_wp2_with fail
      go_ret
      exact ⟨rfl, HB.out⟩
end Go.Proofs.YtajnnkapgnmoaaaGreat
/-
  Tables as they lie in memory; batch.full, batch.find.
-/
namespace Go.Proofs.YtajnnkapgnmoaaaGreat
open Go.RowKit

/-- a table: its name, where its columns and rows lie -/
structure TM where
  nm : ByteArray
  cA : Option Addr
  cc : Nat
  cols : List C
  rA : Option Addr
  rc : Nat
  rows : List IM
def TM.cs (t : TM) : List Value := [.string t.nm, .slice t.cA t.cols.length t.cc, .slice t.rA t.rows.length t.rc]
def TAt (w : World) (b off : Nat) (l : List TM) : Prop := ∀ i t, l[i]? = some t → w.cell? ⟨b, off + i * 3, none⟩ = some (.string t.nm) ∧ w.cell? ⟨b, off + i * 3 + 1, none⟩ = some (.slice t.cA t.cols.length t.cc) ∧ w.cell? ⟨b, off + i * 3 + 2, none⟩ = some (.slice t.rA t.rows.length t.rc)
def CRowS (w : World) (S : Nat → Prop) (A : Option Addr) (l : List C) : Prop := l = [] ∨ ∃ b off, A = some ⟨b, off, none⟩ ∧ S b ∧ CAt w b off l
structure TRow (w : World) (S : Nat → Prop) (A : Option Addr) (l : List TM) : Prop where
  at_ : l = [] ∨ ∃ b off, A = some ⟨b, off, none⟩ ∧ S b ∧ TAt w b off l
  cols : ∀ t ∈ l, CRowS w S t.cA t.cols
  rows : ∀ t ∈ l, SRow w S t.rA t.rows
section
variable {w w' : World} {S S' : Nat → Prop} {B b off : Nat} {A : Option Addr} {l : List TM} {m : List C}
theorem TAt.kept (h : TAt w b off l) (hk : w'.heap[b]? = w.heap[b]?) : TAt w' b off l := fun i t ht => by
  obtain ⟨h1, h2, h3⟩ := h i t ht
  have hc : ∀ o, w'.cell? ⟨b, o, none⟩ = w.cell? ⟨b, o, none⟩ := fun o => World.cell?_of_block hk
  exact ⟨(hc _).trans h1, (hc _).trans h2, (hc _).trans h3⟩
theorem CRowS.kept (h : CRowS w S A m) (hk : ∀ k, S k → w'.heap[k]? = w.heap[k]?) : CRowS w' S A m := by
  rcases h with h | ⟨b, o, hA, hS, h⟩
  · exact .inl h
  · refine .inr ⟨b, o, hA, hS, fun i c hc => ?_⟩
    have hcc : ∀ o, w'.cell? ⟨b, o, none⟩ = w.cell? ⟨b, o, none⟩ := fun o => World.cell?_of_block (hk b hS)
    obtain ⟨h1, h2⟩ := h i c hc
    exact ⟨(hcc _).trans h1, (hcc _).trans h2⟩
theorem CRowS.mono (h : CRowS w S A m) (hS : ∀ k, S k → S' k) : CRowS w S' A m := by
  rcases h with h | ⟨b, o, hA, hb, h⟩
  · exact .inl h
  · exact .inr ⟨b, o, hA, hS b hb, h⟩
theorem CRowS.to (h : CRowS w S A m) (hS : ∀ k, S k → k < B) : CRow w B A m := by
  rcases h with h | ⟨b, o, hA, hb, h⟩
  · exact .inl h
  · exact .inr ⟨b, o, hA, hS b hb, h⟩
theorem TRow.kept (h : TRow w S A l) (hk : ∀ k, S k → w'.heap[k]? = w.heap[k]?) : TRow w' S A l :=
  ⟨by
    rcases h.at_ with h | ⟨b, o, hA, hS, h⟩
    · exact .inl h
    · exact .inr ⟨b, o, hA, hS, h.kept (hk b hS)⟩, fun t ht => (h.cols t ht).kept hk, fun t ht => (h.rows t ht).kept hk⟩
theorem TRow.mono (h : TRow w S A l) (hS : ∀ k, S k → S' k) : TRow w S' A l :=
  ⟨by
    rcases h.at_ with h | ⟨b, o, hA, hb, h⟩
    · exact .inl h
    · exact .inr ⟨b, o, hA, hS b hb, h⟩, fun t ht => (h.cols t ht).mono hS, fun t ht => (h.rows t ht).mono hS⟩
theorem TRow.below (h : TRow w S A l) (hb : Below B w w') (hS : ∀ k, S k → k < B) : TRow w' S A l := h.kept fun k hk => hb.block k (hS k hk)
theorem TRow.get {i : Nat} {t : TM} (h : TRow w S A l) (ht : l[i]? = some t) : ∃ b off, A = some ⟨b, off, none⟩ ∧ S b ∧ w.cell? ⟨b, off + i * 3, none⟩ = some (.string t.nm) ∧ w.cell? ⟨b, off + i * 3 + 1, none⟩ = some (.slice t.cA t.cols.length t.cc) ∧ w.cell? ⟨b, off + i * 3 + 2, none⟩ = some (.slice t.rA t.rows.length t.rc) := by
  rcases h.at_ with rfl | ⟨b, off, hA, hS, h⟩
  · simp at ht
  · exact ⟨b, off, hA, hS, h i t ht⟩
end

/-- does the sum reach 64? -/
def fullL : Int → List IM → Bool
  | _, [] => false
  | n, x :: l => if 64 ≤ n + x.k then true else fullL (n + x.k) l
theorem fullL_step {l : List IM} {k : Nat} {x : IM} (hx : l[k]? = some x) (n : Int) : fullL n (l.drop k) = if 64 ≤ n + x.k then true else fullL (n + x.k) (l.drop (k + 1)) := by
  obtain ⟨h1, e1⟩ := List.getElem?_eq_some_iff.1 hx
  rw [List.drop_eq_getElem_cons h1, e1]
  rfl

set_option maxHeartbeats 1000000 in
set_option maxRecDepth 100000 in
theorem bfull_any (A : Option Addr) (c : Nat) (l : List IM) (w : World) {S : Nat → Prop} (hA : SRow w S A l) (hS : ∀ k, S k → k < w.heap.size) (hl : l.length ≤ 1073741824) (hk : SOk l) :
    Calls Tryz.prog 70 #[.slice A l.length c] w fun e w' => e = .returned (.bool (fullL 0 l)) ∧ Below w.heap.size w w' := by
  obtain ⟨n, hn⟩ : ∃ n, l.length = n := ⟨_, rfl⟩
  have HN := Lib.hid hn
  have HA := Lib.hid hA
  have HS := Lib.hid hS
  have HK := Lib.hid hk
  rw [hn] at hl ⊢
  clear hA hS hk hn
  have hst := run_store_tal Tryz.prog
  go_enter Tryz.func70, Tryz.ntmps70
  go_wp2_with fail
  go_loopw [3, 8] (fun s i wr => ∃ (k : Nat) (sum : Int), k ≤ n ∧ i = .int .i64 k ∧ s = .int .i64 sum ∧ Below w.heap.size w wr ∧ Hid (fullL 0 l = fullL sum (l.drop k)) ∧ Hid ((sum.natAbs : Int) + vol (its (l.drop k)) ≤ vol (its l))) (fun _ i _ => n - (intOf i).toNat)
  case atStart => exact ⟨0, 0, Nat.zero_le _, rfl, rfl, Below.refl _ _, Lib.hid (by simp), Lib.hid (by simp)⟩
  case round =>
    obtain ⟨k, sum, hk, rfl, rfl, hb, HL, HV⟩ := hrel
    have HB := Lib.hid hb
    have hs := hb.size
    clear hb
    by_cases hlt : k < n
    · obtain ⟨x, hx⟩ : ∃ x, l[k]? = some x := ⟨_, List.getElem?_eq_getElem (by rw [HN.out]; exact hlt)⟩
      obtain ⟨b, off, rfl, hSb, hc1, hc2⟩ := (HA.out.below HB.out HS.out).get hx
      have ht := Lib.hid (fun w1 => tal_net (HK.out.okN (List.mem_of_getElem? hx)) w1)
      have HD := Lib.hid (HL.out.trans (fullL_step hx sum))
      have hvv := HV.out
      rw [its_get hx] at hvv
      simp only [vol, IM.it] at hvv
      have hv1 := HK.out.vol
      have hv2 := vol_nonneg (its (l.drop (k + 1)))
      have HV2 : Hid (((sum + x.k).natAbs : Int) + vol (its (l.drop (k + 1))) ≤ vol (its l)) := Lib.hid (by omega)
      obtain ⟨s2, es2⟩ : ∃ s2, sum + x.k = s2 := ⟨_, rfl⟩
      have hb1 : -1125899906842624 ≤ s2 ∧ s2 ≤ 1125899906842624 := by omega
      have hb2 : -1125899906842624 ≤ sum ∧ sum ≤ 1125899906842624 := by omega
      have hb3 : -1125899906842624 ≤ x.k ∧ x.k ≤ 1125899906842624 := by omega
      rw [es2] at HD HV2
      obtain ⟨xA, xc, xr, xk⟩ := x
      dsimp only at hc1 hc2 ht es2 hb3
      generalize xr.length = xn at hc1
      clear hx HL hvv hv1 hv2 HV
      by_cases hge : 64 ≤ s2
      · have HF : Hid (fullL 0 l = true) := Lib.hid (by rw [HD.out, if_pos hge])
        clear HD HV2
        go_wp2_with (go_at_call 47; refine (ht.out _).mono ?_; rintro e w' ⟨rfl, rfl⟩)
        go_ret
        exact ⟨by rw [HF.out]; rfl, HB.out.alloc hs _⟩
      · have HF : Hid (fullL 0 l = fullL s2 (l.drop (k + 1))) := Lib.hid (by rw [HD.out, if_neg hge])
        clear HD
        go_wp2_with (go_at_call 47; refine (ht.out _).mono ?_; rintro e w' ⟨rfl, rfl⟩)
        go_roundw
        case rel => exact ⟨k + 1, s2, by omega, by go_num, rfl, HB.out.alloc hs _, HF, HV2⟩
        case measure => simp [intOf]; omega
    · obtain rfl : k = n := by omega
      have HF : Hid (fullL 0 l = false) := Lib.hid (by
        rw [HL.out, List.drop_of_length_le (by rw [HN.out]; exact Nat.le_refl _)]
        rfl)
      go_wp2_with fail
      go_ret
      exact ⟨by rw [HF.out]; rfl, HB.out⟩

/-- a table of that name -/
def TM.isB (nm : ByteArray) (t : TM) : Bool := t.nm.toList == nm.toList
theorem bfind_closure (tn nm : ByteArray) (c1 c2 : Option Addr) (n1 m1 n2 m2 : Nat) (p : Addr) (w : World) (h0 : w.cell? p = some (.string nm)) :
    Calls Tryz.prog 74 #[.agg #[.string tn, .slice c1 n1 m1, .slice c2 n2 m2], .pointer (some p)] w fun e w' => e = .returned (.bool (tn.toList == nm.toList)) ∧ w.alloc (.cells #[.string tn, .slice c1 n1 m1, .slice c2 n2 m2] 44) = w' := by
  have hp := block_lt_of_cell h0
  go_enter Tryz.func74, Tryz.ntmps74
  go_wp2
  go_ret
  exact ⟨rfl, rfl⟩

set_option maxHeartbeats 1000000 in
set_option maxRecDepth 100000 in
theorem indexFunc_tab (A : Option Addr) (c : Nat) (l : List TM) (nm : ByteArray) (pb po : Nat) (w : World) {S : Nat → Prop} (hA : TRow w S A l) (hS : ∀ k, S k → k < w.heap.size) (hl : l.length ≤ 1073741824) (h0 : w.cell? ⟨pb, po, none⟩ = some (.string nm)) :
    Calls Tryz.prog 73 #[.slice A l.length c, .func (.func 74) #[] #[.pointer (some ⟨pb, po, none⟩)]] w fun e w' => e = .returned (.int .i64 (idx (TM.isB nm) l 0)) ∧ Below w.heap.size w w' := by
  obtain ⟨n, hn⟩ : ∃ n, l.length = n := ⟨_, rfl⟩
  have HN := Lib.hid hn
  have HA := Lib.hid hA
  have HS := Lib.hid hS
  have hp := block_lt_of_cell h0
  have H0 := Lib.hid h0
  rw [hn] at hl ⊢
  clear hA hS hn h0
  go_enter Tryz.func73, Tryz.ntmps73
  go_wp2_with fail
  go_loopw [8] (fun i wr => ∃ k : Nat, k ≤ n ∧ i = .int .i64 k ∧ Below w.heap.size w wr ∧ Hid (idx (TM.isB nm) l 0 = idx (TM.isB nm) (l.drop k) k)) (fun i _ => n - (intOf i).toNat)
  case atStart => exact ⟨0, Nat.zero_le _, rfl, Below.refl _ _, Lib.hid (by simp)⟩
  case round =>
    obtain ⟨k, hk, rfl, hb, HL⟩ := hrel
    have HB := Lib.hid hb
    have hs := hb.size
    clear hb
    by_cases hlt : k < n
    · obtain ⟨x, hx⟩ : ∃ x, l[k]? = some x := ⟨_, List.getElem?_eq_getElem (by rw [HN.out]; exact hlt)⟩
      obtain ⟨b1, off1, rfl, _, hc1, hc2, hc3⟩ := (HA.out.below HB.out HS.out).get hx
      have hq := Lib.hid (bfind_closure x.nm nm x.cA x.rA x.cols.length x.cc x.rows.length x.rc ⟨pb, po, none⟩ wr ((HB.out.cell hp).trans H0.out))
      have HD := Lib.hid (HL.out.trans (idx_step (p := TM.isB nm) hx))
      rw [show TM.isB nm x = (x.nm.toList == nm.toList) from rfl] at HD
      generalize (x.nm.toList == nm.toList) = z at hq HD
      obtain ⟨xn, cA, cc, cl, rA, rc, rl⟩ := x
      dsimp only at hc1 hc2 hc3 hq
      generalize cl.length = n1 at hc2 hq
      generalize rl.length = n2 at hc3 hq
      clear hx HL
      cases z
      · go_wp2_with fail
        refine hq.out.mono ?_
        rintro e w3 ⟨rfl, rfl⟩
        have HL4 : Hid (idx (TM.isB nm) l 0 = idx (TM.isB nm) (l.drop (k + 1)) (k + 1)) := Lib.hid (by rw [HD.out]; rfl)
        clear HD
        go_wp2_with fail
        go_roundw
        case rel => exact ⟨k + 1, by omega, by go_num, HB.out.alloc hs _, HL4⟩
        case measure => simp [intOf]; omega
      · go_wp2_with fail
        refine hq.out.mono ?_
        rintro e w3 ⟨rfl, rfl⟩
        have HF : Hid (idx (TM.isB nm) l 0 = (k : Int)) := Lib.hid (by rw [HD.out]; rfl)
        clear HD
        go_wp2_with fail
        go_ret
        exact ⟨by rw [HF.out]; rfl, HB.out.alloc hs _⟩
    · obtain rfl : k = n := by omega
      have HF : Hid (idx (TM.isB nm) l 0 = -1) := Lib.hid (by
        rw [HL.out, List.drop_of_length_le (by rw [HN.out]; exact Nat.le_refl _)]
        rfl)
      go_wp2_with fail
      go_ret
      exact ⟨by rw [HF.out]; rfl, HB.out⟩
theorem bfind_any (A : Option Addr) (c : Nat) (l : List TM) (nm : ByteArray) (w : World) {S : Nat → Prop} (hA : TRow w S A l) (hS : ∀ k, S k → k < w.heap.size) (hl : l.length ≤ 1073741824) :
    Calls Tryz.prog 36 #[.slice A l.length c, .string nm] w fun e w' => e = .returned (.int .i64 (idx (TM.isB nm) l 0)) ∧ Below w.heap.size w w' := by
  have hb0 : Below w.heap.size w (w.alloc (.cells #[.string nm] 9)) := (Below.refl _ _).alloc (Nat.le_refl _) _
  have hc := Lib.hid (indexFunc_tab A c l nm w.heap.size 0 (w.alloc (.cells #[.string nm] 9)) ((hA.below hb0 hS).mono (S' := fun k => k < w.heap.size) hS) (fun k hk => by simp; omega) hl (by simp))
  have HB0 := Lib.hid hb0
  generalize idx (TM.isB nm) l 0 = r at *
  generalize l.length = n at *
  clear hA hS hl hb0
  go_enter Tryz.func36, Tryz.ntmps36
  go_wp2_with fail
  refine (hc.out).mono ?_
  rintro e w' ⟨rfl, hb⟩
  have HB2 := Lib.hid (HB0.out.trans (hb.mono (by simp)))
  clear hb
  go_wp2_with fail
  go_ret
  exact ⟨rfl, HB2.out⟩
end Go.Proofs.YtajnnkapgnmoaaaGreat
/-
  zset.Copy: a set in new memory.
-/
namespace Go.Proofs.YtajnnkapgnmoaaaGreat
open Go.RowKit

/-- an item appended to a row of the call's own: where the rows lie -/
theorem snoc_items {w2 wo wc w4 w5 : World} {u v' : Value} {ol : List IM} {x' : IM} (hor : ∀ x ∈ ol, VRowS wo (fun g => NewS w2 wo g ∧ u.ownBlock ≠ some g) x.A x.r) (hown : ∀ g, u.ownBlock = some g → w2.heap.size ≤ g ∧ g < wo.heap.size)
    (hs : w2.heap.size ≤ wo.heap.size) (hb2 : Below w2.heap.size w2 wo) (hb4 : Below wo.heap.size wo w4) (hcs : wo.heap.size ≤ wc.heap.size) (hx : VRowS w4 (NewS wc w4) x'.A x'.r) (o : Obj) (hgrow : (w4.alloc o).grownBy w5 u.ownBlock) (hat : v'.ownBlock = u.ownBlock ∨ v'.ownBlock = some (w4.heap.size + 1)) :
    (∀ z ∈ ol ++ [x'], VRowS w5 (fun g => NewS w2 w5 g ∧ v'.ownBlock ≠ some g) z.A z.r) ∧ Below w2.heap.size w2 w5 := by
  have hs4 := hb4.size
  have hblk : ∀ g, g < w4.heap.size → u.ownBlock ≠ some g → w5.heap[g]? = w4.heap[g]? := fun g h1 h2 => (hgrow.block g (by simp; omega) (fun e => h2 e.symm)).trans (Below.heap_alloc w4 _ g h1)
  have hbw4 : Below w2.heap.size w2 w4 := hb2.trans (hb4.mono hs)
  have hsz5 : w4.heap.size + 1 ≤ w5.heap.size := by have := hgrow.size; simpa using this
  refine ⟨fun z hz => ?_, (hbw4.alloc hbw4.size _).grown hgrow (by simp; omega) (fun g hg => (hown g hg).1)⟩
  rcases List.mem_append.1 hz with hz | hz
  · have hk : ∀ g, NewS w2 wo g ∧ u.ownBlock ≠ some g → w5.heap[g]? = wo.heap[g]? := fun g hg => (hblk g (by have := hg.1.2.1; omega) hg.2).trans (hb4.block g hg.1.2.1)
    refine ((hor z hz).kept hk).mono fun g hg => ⟨⟨hg.1.1, by have := hg.1.2.1; omega, fun o => (frozen_of_block (hk g hg)).trans (hg.1.2.2 o)⟩, ?_⟩
    rcases hat with h | h
    · rw [h]; exact hg.2
    · rw [h]; intro e; have := Option.some.inj e; have := hg.1.2.1; omega
  · rw [List.mem_singleton.1 hz]
    have hne6 : ∀ g, NewS wc w4 g → u.ownBlock ≠ some g := fun g hg e => by have := (hown g e).2; have := hg.1; omega
    refine (hx.kept (fun g hg => hblk g hg.2.1 (hne6 g hg))).mono fun g hg => ⟨⟨by have := hg.1; omega, by have := hg.2.1; omega, fun o => (frozen_of_block (hblk g hg.2.1 (hne6 g hg))).trans (hg.2.2 o)⟩, ?_⟩
    rcases hat with h | h
    · rw [h]; exact hne6 g hg
    · rw [h]; intro e; have := Option.some.inj e; have := hg.2.1; omega
theorem its_take {l : List IM} {k : Nat} {x : IM} (h : l[k]? = some x) : its (l.take (k + 1)) = its (l.take k) ++ [(x.r, x.k)] := by
  obtain ⟨h1, e1⟩ := List.getElem?_eq_some_iff.1 h
  rw [List.take_succ_eq_append_getElem h1, its_append, e1]
  rfl

/-- a list of items that a call gives, in new memory -/
def ListRet (w : World) (l : List It) (w' : World) (A : Option Addr) (c : Nat) (s : List IM) : Prop := s.length ≤ c ∧ SRow w' (NewS w w') A s ∧ its s = l

set_option maxHeartbeats 2000000 in
set_option maxRecDepth 100000 in
theorem zcopy_any (A : Option Addr) (c : Nat) (l : List IM) (w : World) {S : Nat → Prop} (hA : SRow w S A l) (hS : ∀ k, S k → k < w.heap.size) (hl : l.length ≤ 1073741824) (hr : ∀ x ∈ l, rowOk x.r = true) :
    Calls Tryz.prog 67 #[.slice A l.length c] w fun e w' => (∃ A' c' s, e = .returned (.slice A' s.length c') ∧ ListRet w (its l) w' A' c' s) ∧ Below w.heap.size w w' := by
  obtain ⟨i0, hi, hz0, hz1, hz2⟩ := info_parts item_info
  obtain ⟨n, hn⟩ : ∃ n, l.length = n := ⟨_, rfl⟩
  have HN := Lib.hid hn
  have HA := Lib.hid hA
  have HS := Lib.hid hS
  have HR := Lib.hid hr
  rw [hn] at hl ⊢
  clear hA hS hr hn
  have hst := run_store_tal Tryz.prog
  go_enter Tryz.func67, Tryz.ntmps67
  go_wp2_with fail
  go_loopw [3, 8] (fun v i wr => ∃ (k : Nat) (ol : List IM), k ≤ n ∧ i = .int .i64 k ∧ wr.ownsRow w.heap.size 47 2 v ol.length (flatM ol) ∧ Below w.heap.size w wr ∧ ol.length = k ∧ Hid (∀ x ∈ ol, VRowS wr (fun g => NewS w wr g ∧ v.ownBlock ≠ some g) x.A x.r) ∧ Hid (its ol = its (l.take k))) (fun _ i _ => n - (intOf i).toNat)
  case atStart => exact ⟨0, [], Nat.zero_le _, rfl, World.ownsRow_nil _ _ _ _, Below.refl _ _, rfl, Lib.hid (fun x hx => by simp at hx), Lib.hid rfl⟩
  case round =>
    rename World => wo
    obtain ⟨k, ol, hk, rfl, hown, hb, hlen, HOR, HIT⟩ := hrel
    have HO := Lib.hid hown
    have HB := Lib.hid hb
    have hs := hb.size
    clear hown hb
    by_cases hlt : k < n
    · obtain ⟨x, hx⟩ : ∃ x, l[k]? = some x := ⟨_, List.getElem?_eq_getElem (by rw [HN.out]; exact hlt)⟩
      obtain ⟨b, off, rfl, hSb, hc1, hc2⟩ := (HA.out.below HB.out HS.out).get hx
      have hm := List.mem_of_getElem? hx
      have HIT2 := Lib.hid (its_take hx)
      have hx6 := (rowOk_len (HR.out x hm)).2
      have hit := Lib.hid (fun w3 (hb : Below w.heap.size w w3) => item_any x.A x.c x.r x.k w3 ((((HA.out.rows x hm).to HS.out).below hb).more hb.size) (by omega))
      obtain ⟨xA, xc, xr, xk⟩ := x
      dsimp only at hc1 hc2 hit HIT2 hx6
      obtain ⟨xn, hxn⟩ : ∃ xn, xr.length = xn := ⟨_, rfl⟩
      rw [hxn] at hc1 hit
      clear hx hm hSb hxn
      go_wp2_with fail
      refine (hit.out _ (HB.out.alloc hs _)).mono ?_
      rintro e w4 ⟨x', rfl, hxr, hxk, _, hxS, _, hb4⟩
      have HB4 := Lib.hid (((Below.refl wo.heap.size wo).alloc (Nat.le_refl _) _).trans (hb4.mono (by simp)))
      have HXS := Lib.hid hxS
      have HO4 := Lib.hid ((ownM_below HO.out HB4.out).alloc (.cells x'.cs.toArray 47))
      have hs4 := HB4.out.size
      obtain ⟨xA', xc', xr', xk'⟩ := x'
      have HXR := Lib.hid hxr
      have HXK := Lib.hid hxk
      simp only [IM.val]
      simp only [IM.cs] at HO4
      clear hxr hxk hxS hb4 hit
      go_wp2_with (at_builtin; refine wpList_append_any _ rfl _ _ 42 rfl w.heap.size 47 i0 _ 2 40 Tryz.underlying42 hi hz0 hz1 hz2 rfl (by decide) _ _ _ rfl HO4.out (w4.heap.size + 1) _ _ _ (IM.cs ⟨xA', xc', xr', xk'⟩) rfl ⟨rfl, fun _ => ⟨_, rfl, Nat.lt_succ_self _, World.news_of_block (heap_alloc_new w4 _)⟩⟩ ?c1 ?c2 ?c3 ?c4 ?_)
      case c1 => rw [← flatM_one]; exact flatM_ones _
      case c2 => unfold maxLen; omega
      case c3 => omega
      case c4 => first | omega | (simp; omega)
      intro v' w5 hown' hgrow hat
      obtain ⟨hor5, hb5⟩ := snoc_items (x' := ⟨xA', xc', xr', xk'⟩) HOR.out (fun g hg => HO.out.lt g hg) hs HB.out HB4.out (wc := wo.alloc (.cells #[.slice xA xn xc, tal xk] 47)) (by simp) (by rw [HXR.out] at *; exact HXS.out) _ hgrow hat
      have HO5 : Hid (w5.ownsRow w.heap.size 47 2 v' (ol ++ [(⟨xA', xc', xr', xk'⟩ : IM)]).length (flatM (ol ++ [(⟨xA', xc', xr', xk'⟩ : IM)]))) := Lib.hid (by rw [flatM_append, flatM_one, List.length_append, hlen]; exact hown')
      have HIT5 : Hid (its (ol ++ [(⟨xA', xc', xr', xk'⟩ : IM)]) = its (l.take (k + 1))) := Lib.hid (by
        rw [its_append, HIT.out, HIT2.out]
        show _ ++ [(xr', xk')] = _
        rw [show xr' = xr from HXR.out, show xk' = xk from HXK.out])
      have hol5 : (ol ++ [(⟨xA', xc', xr', xk'⟩ : IM)]).length = k + 1 := by rw [List.length_append, hlen]; rfl
      have HOR5 := Lib.hid hor5
      have HB5 := Lib.hid hb5
      generalize ol ++ [(⟨xA', xc', xr', xk'⟩ : IM)] = ol5 at HO5 HOR5 HIT5 hol5
      clear hown' hgrow hat hor5 hb5 HO HOR HO4 HXS HB4 HB HXR HXK HIT HIT2
      go_wp2_with fail
      go_roundw
      case rel => exact ⟨k + 1, ol5, by omega, by go_num, HO5.out, HB5.out, hol5, HOR5, HIT5⟩
      case measure => simp [intOf]; omega
    · obtain rfl : k = n := by omega
      obtain ⟨A3, c3, rfl, hc3, hS3⟩ := own_items (S := NewS w wo) HO.out (fun g h1 h2 h3 => ⟨h1, h2, h3⟩) (fun x hx => (HOR.out x hx).mono fun g hg => hg.1)
      have HS3 := Lib.hid hS3
      clear hS3
      go_wp2_with fail
      go_ret
      refine ⟨⟨A3, c3, ol, rfl, hc3, HS3.out, ?_⟩, HB.out⟩
      rw [HIT.out, List.take_of_length_le (by rw [HN.out]; exact Nat.le_refl _)]
end Go.Proofs.YtajnnkapgnmoaaaGreat
/-
  Columns cloned; rows of tables of the call's own.
-/
namespace Go.Proofs.YtajnnkapgnmoaaaGreat
open Go.RowKit

def C.cs (c : C) : List Value := [.string c.nm, .int .i64 c.k]
def flatC (l : List C) : List Value := l.flatMap C.cs
theorem flatC_len (l : List C) : (flatC l).length = l.length * 2 := by
  induction l with
  | nil => rfl
  | cons v l ih => show ((C.cs v) ++ flatC l).length = _; simp [ih, C.cs]; omega
theorem flatC_get (l : List C) : ∀ (i : Nat) (v : C), l[i]? = some v → (flatC l)[i * 2]? = some (.string v.nm) ∧ (flatC l)[i * 2 + 1]? = some (.int .i64 v.k) := by
  induction l with
  | nil => intro i v h; simp at h
  | cons x l ih =>
    intro i v h
    have e : flatC (x :: l) = C.cs x ++ flatC l := rfl
    rw [e]
    cases i with
    | zero =>
      obtain rfl : x = v := by simpa using h
      exact ⟨rfl, rfl⟩
    | succ i =>
      have := ih i v (by simpa using h)
      have hl : (C.cs x).length = 2 := rfl
      rw [List.getElem?_append_right (by omega), List.getElem?_append_right (by omega), hl]
      rw [show (i + 1) * 2 - 2 = i * 2 from by omega, show (i + 1) * 2 + 1 - 2 = i * 2 + 1 from by omega]
      exact this
theorem flatC_ones (l : List C) : ∀ u ∈ flatC l, u.oneCell' = true := by
  intro u hu
  obtain ⟨v, _, hv⟩ := List.mem_flatMap.1 hu
  simp only [C.cs, List.mem_cons, List.not_mem_nil, or_false] at hv
  rcases hv with rfl | rfl <;> rfl
theorem flatC_split (l : List C) (j : Nat) (u : Value) (h : (flatC l)[j]? = some u) : ∃ v : C, l[j / 2]? = some v ∧ (flatC l)[j / 2 * 2 + j % 2]? = some u := by
  have hj : j < (flatC l).length := (List.getElem?_eq_some_iff.1 h).1
  rw [flatC_len] at hj
  exact ⟨l[j / 2]'(by omega), List.getElem?_eq_getElem (by omega), by rw [show j / 2 * 2 + j % 2 = j from by omega]; exact h⟩
theorem CAt.news {w : World} {b off : Nat} {l : List C} (h : CAt w b off l) (j : Nat) (u : Value) (hu : (flatC l)[j]? = some u) : w.cell? ((⟨b, off, none⟩ : Addr).add j) = some u := by
  obtain ⟨v, hv, hf⟩ := flatC_split l j u hu
  obtain ⟨f1, f2⟩ := flatC_get l _ v hv
  obtain ⟨c1, c2⟩ := h _ v hv
  have e : (⟨b, off, none⟩ : Addr).add j = ⟨b, off + (j / 2 * 2 + j % 2), none⟩ := by
    unfold Addr.add
    split
    · subst_vars; rfl
    · rw [show j / 2 * 2 + j % 2 = j from by omega]
  rw [e]
  have : j % 2 = 0 ∨ j % 2 = 1 := by omega
  rcases this with h3 | h3 <;> rw [h3] at hf ⊢
  · rw [Nat.add_zero] at hf ⊢; rw [f1] at hf; rw [c1]; exact hf
  · rw [f2] at hf; rw [← Nat.add_assoc, c2]; exact hf
theorem CRowS.reads {w : World} {S : Nat → Prop} {A : Option Addr} {l : List C} {B : Nat} (h : CRowS w S A l) (hS : ∀ k, S k → k < B) : Reads w B 2 A l.length (flatC l) := by
  refine ⟨flatC_len l, fun hn => ?_⟩
  rcases h with rfl | ⟨b, off, hA, hb, h⟩
  · simp at hn
  · exact ⟨_, hA, hS b hb, h.news⟩
theorem own_cols {w : World} {S : Nat → Prop} {base : Nat} {e : TypeId} {v : Value} {l : List C} (h : w.ownsRow base e 2 v l.length (flatC l)) (hS : ∀ g, base ≤ g → g < w.heap.size → (∀ o, w.frozen? ⟨g, o, none⟩ = false) → S g) :
    ∃ A c, v = .slice A l.length c ∧ l.length ≤ c ∧ CRowS w S A l := by
  obtain ⟨_, hcase⟩ := id h
  rcases hcase with ⟨rfl, h0⟩ | ⟨g, cap, cur, rfl, hg, hh, hn, hcap, hsz, htake⟩
  · exact ⟨none, 0, by rw [h0], by omega, .inl (List.eq_nil_of_length_eq_zero h0)⟩
  · have hlt : g < w.heap.size := (Array.getElem?_eq_some_iff.1 hh).1
    refine ⟨some ⟨g, 0, none⟩, cap, rfl, hn, .inr ⟨g, 0, rfl, hS g hg hlt (fun o => h.frozenAt o), ?_⟩⟩
    intro i x hx
    obtain ⟨f1, f2⟩ := flatC_get l i x hx
    have hi : i < l.length := (List.getElem?_eq_some_iff.1 hx).1
    rw [Nat.zero_add, h.cellAt _ (by omega), h.cellAt _ (by omega)]
    exact ⟨f1, f2⟩
theorem col_info : (Tryz.prog.info? 100).map (fun i => (i.zero, i.size, i.bytes)) = some (some (.agg #[.string ByteArray.empty, .int .i64 0]), 2, 24) := by kernel_rfl
theorem table_info : (Tryz.prog.info? 44).map (fun i => (i.zero, i.size, i.bytes)) = some (some (.agg #[.string ByteArray.empty, .slice none 0 0, .slice none 0 0]), 3, 64) := by kernel_rfl

def flatB (l : List TM) : List Value := l.flatMap TM.cs
theorem flatB_len (l : List TM) : (flatB l).length = l.length * 3 := by
  induction l with
  | nil => rfl
  | cons v l ih => show ((TM.cs v) ++ flatB l).length = _; simp [ih, TM.cs]; omega
theorem flatB_get (l : List TM) : ∀ (i : Nat) (t : TM), l[i]? = some t → (flatB l)[i * 3]? = some (.string t.nm) ∧ (flatB l)[i * 3 + 1]? = some (.slice t.cA t.cols.length t.cc) ∧ (flatB l)[i * 3 + 2]? = some (.slice t.rA t.rows.length t.rc) := by
  induction l with
  | nil => intro i v h; simp at h
  | cons x l ih =>
    intro i v h
    have e : flatB (x :: l) = TM.cs x ++ flatB l := rfl
    rw [e]
    cases i with
    | zero =>
      obtain rfl : x = v := by simpa using h
      exact ⟨rfl, rfl, rfl⟩
    | succ i =>
      have := ih i v (by simpa using h)
      have hl : (TM.cs x).length = 3 := rfl
      rw [List.getElem?_append_right (by omega), List.getElem?_append_right (by omega), List.getElem?_append_right (by omega), hl]
      rw [show (i + 1) * 3 - 3 = i * 3 from by omega, show (i + 1) * 3 + 1 - 3 = i * 3 + 1 from by omega, show (i + 1) * 3 + 2 - 3 = i * 3 + 2 from by omega]
      exact this
theorem flatB_one (t : TM) : flatB [t] = TM.cs t := by simp [flatB]
theorem flatB_append (a b : List TM) : flatB (a ++ b) = flatB a ++ flatB b := by simp [flatB]
theorem flatB_ones (l : List TM) : ∀ u ∈ flatB l, u.oneCell' = true := by
  intro u hu
  obtain ⟨v, _, hv⟩ := List.mem_flatMap.1 hu
  simp only [TM.cs, List.mem_cons, List.not_mem_nil, or_false] at hv
  rcases hv with rfl | rfl | rfl <;> rfl
theorem own_tabs {w : World} {S : Nat → Prop} {base : Nat} {e : TypeId} {v : Value} {l : List TM} (h : w.ownsRow base e 3 v l.length (flatB l)) (hS : ∀ g, base ≤ g → g < w.heap.size → (∀ o, w.frozen? ⟨g, o, none⟩ = false) → S g) (hc : ∀ t ∈ l, CRowS w S t.cA t.cols) (hr : ∀ t ∈ l, SRow w S t.rA t.rows) :
    ∃ A c, v = .slice A l.length c ∧ l.length ≤ c ∧ TRow w S A l := by
  obtain ⟨_, hcase⟩ := id h
  rcases hcase with ⟨rfl, h0⟩ | ⟨g, cap, cur, rfl, hg, hh, hn, hcap, hsz, htake⟩
  · exact ⟨none, 0, by rw [h0], by omega, .inl (List.eq_nil_of_length_eq_zero h0), hc, hr⟩
  · have hlt : g < w.heap.size := (Array.getElem?_eq_some_iff.1 hh).1
    refine ⟨some ⟨g, 0, none⟩, cap, rfl, hn, .inr ⟨g, 0, rfl, hS g hg hlt (fun o => h.frozenAt o), ?_⟩, hc, hr⟩
    intro i x hx
    obtain ⟨f1, f2, f3⟩ := flatB_get l i x hx
    have hi : i < l.length := (List.getElem?_eq_some_iff.1 hx).1
    rw [Nat.zero_add, h.cellAt _ (by omega), h.cellAt _ (by omega), h.cellAt _ (by omega)]
    exact ⟨f1, f2, f3⟩

set_option maxHeartbeats 1000000 in
set_option maxRecDepth 100000 in
theorem cloneCols (A : Option Addr) (c : Nat) (l : List C) (w : World) {S : Nat → Prop} (hA : CRowS w S A l) (hS : ∀ k, S k → k < w.heap.size) (hl : l.length ≤ 1099511627776) :
    Calls Tryz.prog 66 #[.slice A l.length c] w fun e w' => (∃ v', e = .returned v' ∧ w'.ownsRow w.heap.size 100 2 v' l.length (flatC l)) ∧ Below w.heap.size w w' := by
  obtain ⟨i0, hi, hz0, hz1, hz2⟩ := info_parts col_info
  have HR := Lib.hid (hA.reads hS)
  have q22 : ∀ (w : World) (a : Option Addr) (n c n' c' : Nat), (binOp .eql 40 (.slice a n c) (.slice none n' c')).run Tryz.prog w = .ok (.bool a.isNone) w := fun w a n c n' c' => Lib.run_eql_slice_nil w 40 100 a n c n' c' Tryz.underlying40
  obtain ⟨n, hn⟩ : ∃ n, l.length = n := ⟨_, rfl⟩
  have HN := Lib.hid hn
  rw [hn] at hl ⊢
  rw [hn] at HR
  clear hA hn
  rcases A with _ | ad
  · have hn0 : n = 0 := by
      rcases Nat.eq_zero_or_pos n with h | h
      · exact h
      · obtain ⟨ad, h, _⟩ := HR.out.2 h; cases h
    subst hn0
    have hl0 : l = [] := List.eq_nil_of_length_eq_zero HN.out
    subst hl0
    go_enter Tryz.func66, Tryz.ntmps66
    go_wp2
    go_ret
    exact ⟨⟨_, rfl, World.ownsRow_nil _ _ _ _⟩, Below.refl _ _⟩
  · go_enter Tryz.func66, Tryz.ntmps66
    go_wp2_with (at_builtin; refine wpList_append_any _ rfl _ _ 40 rfl w.heap.size 100 i0 _ 2 24 Tryz.underlying40 hi hz0 hz1 hz2 rfl (by decide) _ _ _ rfl (own_empty_z w 100 (Nat.le_refl _) 2) w.heap.size _ _ _ (flatC l) rfl (HR.out.alloc (Nat.le_refl _) _) ?c1 ?c2 ?c3 ?c4 ?_)
    case c1 => exact flatC_ones _
    case c2 => unfold maxLen; omega
    case c3 => omega
    case c4 => simp
    intro v' w1 hown hgrow _
    have hb := Lib.hid (((Below.refl w.heap.size w).alloc (Nat.le_refl _) _).grown hgrow (by simp) (fun k e => by have := Option.some.inj e; simp at this; omega))
    have ho := Lib.hid hown
    clear hown hgrow
    go_wp2_with fail
    go_ret
    exact ⟨⟨_, rfl, by simpa using ho.out⟩, hb.out⟩
end Go.Proofs.YtajnnkapgnmoaaaGreat
/-
  batch.copied: tables in new memory.
-/
namespace Go.Proofs.YtajnnkapgnmoaaaGreat
open Go.RowKit

/-- what stays, where something is appended to a row of the call's own -/
theorem snoc_blocks {w2 wo w4 w5 : World} {u v' : Value} (hown : ∀ g, u.ownBlock = some g → w2.heap.size ≤ g ∧ g < wo.heap.size)
    (hs : w2.heap.size ≤ wo.heap.size) (hb2 : Below w2.heap.size w2 wo) (hb4 : Below wo.heap.size wo w4) (o : Obj) (hgrow : (w4.alloc o).grownBy w5 u.ownBlock) (hat : v'.ownBlock = u.ownBlock ∨ v'.ownBlock = some (w4.heap.size + 1)) :
    (∀ g, NewS w2 wo g ∧ u.ownBlock ≠ some g → w5.heap[g]? = wo.heap[g]? ∧ NewS w2 w5 g ∧ v'.ownBlock ≠ some g) ∧ (∀ g, NewS wo w4 g → w5.heap[g]? = w4.heap[g]? ∧ NewS w2 w5 g ∧ v'.ownBlock ≠ some g) ∧ Below w2.heap.size w2 w5 := by
  have hs4 := hb4.size
  have hblk : ∀ g, g < w4.heap.size → u.ownBlock ≠ some g → w5.heap[g]? = w4.heap[g]? := fun g h1 h2 => (hgrow.block g (by simp; omega) (fun e => h2 e.symm)).trans (Below.heap_alloc w4 _ g h1)
  have hbw4 : Below w2.heap.size w2 w4 := hb2.trans (hb4.mono hs)
  have hsz5 : w4.heap.size + 1 ≤ w5.heap.size := by have := hgrow.size; simpa using this
  refine ⟨fun g hg => ?_, fun g hg => ?_, (hbw4.alloc hbw4.size _).grown hgrow (by simp; omega) (fun g hg => (hown g hg).1)⟩
  · have hk : w5.heap[g]? = wo.heap[g]? := (hblk g (by have := hg.1.2.1; omega) hg.2).trans (hb4.block g hg.1.2.1)
    refine ⟨hk, ⟨hg.1.1, by have := hg.1.2.1; omega, fun o => (frozen_of_block hk).trans (hg.1.2.2 o)⟩, ?_⟩
    rcases hat with h | h
    · rw [h]; exact hg.2
    · rw [h]; intro e; have := Option.some.inj e; have := hg.1.2.1; omega
  · have hne6 : u.ownBlock ≠ some g := fun e => by have := (hown g e).2; have := hg.1; omega
    have hk := hblk g hg.2.1 hne6
    refine ⟨hk, ⟨by have := hg.1; omega, by have := hg.2.1; omega, fun o => (frozen_of_block hk).trans (hg.2.2 o)⟩, ?_⟩
    rcases hat with h | h
    · rw [h]; exact hne6
    · rw [h]; intro e; have := Option.some.inj e; have := hg.2.1; omega

/-- what a table is, wherever it lies -/
def TM.key (t : TM) : ByteArray × List C × List It := (t.nm, t.cols, its t.rows)
theorem key_take {l : List TM} {k : Nat} {x : TM} (h : l[k]? = some x) : (l.take (k + 1)).map TM.key = (l.take k).map TM.key ++ [x.key] := by
  obtain ⟨h1, e1⟩ := List.getElem?_eq_some_iff.1 h
  rw [List.take_succ_eq_append_getElem h1, List.map_append, e1]
  rfl
/-- tables that a call gives: in new memory, the row of tables the call's own, and apart from what they hold -/
structure TabRet (w : World) (l : List TM) (w' : World) (v : Value) (s : List TM) : Prop where
  own : w'.ownsRow w.heap.size 44 3 v s.length (flatB s)
  cols : ∀ t ∈ s, CRowS w' (fun g => NewS w w' g ∧ v.ownBlock ≠ some g) t.cA t.cols
  rows : ∀ t ∈ s, SRow w' (fun g => NewS w w' g ∧ v.ownBlock ≠ some g) t.rA t.rows
  key : s.map TM.key = l.map TM.key

set_option maxHeartbeats 2000000 in
set_option maxRecDepth 100000 in
theorem bcopied_any (A : Option Addr) (c : Nat) (l : List TM) (w : World) {S : Nat → Prop} (hA : TRow w S A l) (hS : ∀ k, S k → k < w.heap.size) (hl : l.length ≤ 1000000) (hcl : ∀ t ∈ l, t.cols.length ≤ 1000000) (hrl : ∀ t ∈ l, t.rows.length ≤ 1000000) (hr : ∀ t ∈ l, ∀ x ∈ t.rows, rowOk x.r = true) :
    Calls Tryz.prog 32 #[.slice A l.length c] w fun e w' => (∃ v s, e = .returned v ∧ TabRet w l w' v s) ∧ Below w.heap.size w w' := by
  obtain ⟨i0, hi, hz0, hz1, hz2⟩ := info_parts table_info
  obtain ⟨n, hn⟩ : ∃ n, l.length = n := ⟨_, rfl⟩
  have HN := Lib.hid hn
  have HA := Lib.hid hA
  have HS := Lib.hid hS
  have HCL := Lib.hid hcl
  have HRL := Lib.hid hrl
  have HR := Lib.hid hr
  rw [hn] at hl ⊢
  clear hA hS hcl hrl hr hn
  go_enter Tryz.func32, Tryz.ntmps32
  go_wp2_with fail
  go_loopw [3, 8] (fun v i wr => ∃ (k : Nat) (ol : List TM), k ≤ n ∧ i = .int .i64 k ∧ wr.ownsRow w.heap.size 44 3 v ol.length (flatB ol) ∧ Below w.heap.size w wr ∧ ol.length = k ∧ Hid (∀ t ∈ ol, CRowS wr (fun g => NewS w wr g ∧ v.ownBlock ≠ some g) t.cA t.cols) ∧ Hid (∀ t ∈ ol, SRow wr (fun g => NewS w wr g ∧ v.ownBlock ≠ some g) t.rA t.rows) ∧ Hid (ol.map TM.key = (l.take k).map TM.key)) (fun _ i _ => n - (intOf i).toNat)
  case atStart => exact ⟨0, [], Nat.zero_le _, rfl, World.ownsRow_nil _ _ _ _, Below.refl _ _, rfl, Lib.hid (fun x hx => by simp at hx), Lib.hid (fun x hx => by simp at hx), Lib.hid rfl⟩
  case round =>
    rename World => wo
    obtain ⟨k, ol, hk, rfl, hown, hb, hlen, HOC, HOR, HIT⟩ := hrel
    have HO := Lib.hid hown
    have HB := Lib.hid hb
    have hs := hb.size
    clear hown hb
    by_cases hlt : k < n
    · obtain ⟨x, hx⟩ : ∃ x, l[k]? = some x := ⟨_, List.getElem?_eq_getElem (by rw [HN.out]; exact hlt)⟩
      obtain ⟨b, off, rfl, hSb, hc1, hc2, hc3⟩ := (HA.out.below HB.out HS.out).get hx
      have hm := List.mem_of_getElem? hx
      have HIT2 := Lib.hid (key_take hx)
      have hcc := Lib.hid (fun w3 (hb : Below w.heap.size w w3) => cloneCols x.cA x.cc x.cols w3 (S := fun k => k < w3.heap.size) (((HA.out.cols x hm).kept fun k hk => hb.block k (HS.out k hk)).mono fun k hk => Nat.lt_of_lt_of_le (HS.out k hk) hb.size) (fun k hk => hk) (by have := HCL.out x hm; omega))
      have hrc := Lib.hid (fun w3 (hb : Below w.heap.size w w3) => zcopy_any x.rA x.rc x.rows w3 (S := fun k => k < w3.heap.size) (((HA.out.rows x hm).below hb HS.out).mono fun k hk => Nat.lt_of_lt_of_le (HS.out k hk) hb.size) (fun k hk => hk) (by have := HRL.out x hm; omega) (HR.out x hm))
      obtain ⟨xnm, xcA, xcc, xcl, xrA, xrc, xrl⟩ := x
      dsimp only at hc1 hc2 hc3 hcc hrc HIT2
      obtain ⟨xn, hxn⟩ : ∃ xn, xcl.length = xn := ⟨_, rfl⟩
      obtain ⟨xm, hxm⟩ : ∃ xm, xrl.length = xm := ⟨_, rfl⟩
      rw [hxn] at hc2 hcc
      rw [hxm] at hc3 hrc
      have HXN := Lib.hid hxn
      clear hx hm hSb hxn hxm
      go_wp2_with fail
      have HBA : Hid (Below w.heap.size w (wo.alloc (.cells #[.string xnm, .slice xcA xn xcc, .slice xrA xm xrc] 44))) := Lib.hid (HB.out.alloc hs _)
      have HGA : Hid ((wo.alloc (.cells #[.string xnm, .slice xcA xn xcc, .slice xrA xm xrc] 44)).heap[wo.heap.size]? = some (.cells #[.string xnm, .slice xcA xn xcc, .slice xrA xm xrc] 44 (0, 0))) := Lib.hid (heap_alloc_new wo _)
      have HBO : Hid (Below wo.heap.size wo (wo.alloc (.cells #[.string xnm, .slice xcA xn xcc, .slice xrA xm xrc] 44))) := Lib.hid ((Below.refl wo.heap.size wo).alloc (Nat.le_refl _) _)
      have hsa : wo.heap.size < (wo.alloc (.cells #[.string xnm, .slice xcA xn xcc, .slice xrA xm xrc] 44)).heap.size := by simp
      generalize wo.alloc (.cells #[.string xnm, .slice xcA xn xcc, .slice xrA xm xrc] 44) = wa at HBA HGA HBO hsa ⊢
      have hno : some wo.heap.size ≠ u3.ownBlock := fun e => by have := (HO.out.lt _ e.symm).2; omega
      clear hc1 hc2 hc3
      refine wp_region_held_drew (S := fun w' => wa.grownBy w' u3.ownBlock) (by kernel_rfl) ⟨rfl, rfl, rfl, Nat.le_refl _, fun _ _ _ => rfl⟩ (fun hHeld => ?_)
      refine wpAnyH_take (i := 0) (v := u3) rfl (by kernel_rfl) (by kernel_rfl) (by kernel_rfl) (fun _ _ _ h => h) (Or.inl ⟨by rfl, fun w1 hSw => by (go_simp)⟩) (by assumption) ?_
      simp only [List.getElem_toArray, List.getElem_cons_zero, Act.put, List.setIfInBounds_toArray, List.set_cons_zero, List.set_cons_succ]
      refine wpAnyH_take (i := 1) (v := .pointer (some ⟨wo.heap.size, 0, none⟩)) rfl (by kernel_rfl) (by kernel_rfl) (by kernel_rfl) (fun _ _ _ h => h) (Or.inl ⟨by rfl, fun w1 hSw => by (go_simp)⟩) (by assumption) ?_
      simp only [List.getElem_toArray, List.getElem_cons_succ, List.getElem_cons_zero, Act.put, List.setIfInBounds_toArray, List.set_cons_zero, List.set_cons_succ]
      refine wpAnyH_take (i := 2) (v := .string xnm) rfl (by kernel_rfl) (by kernel_rfl) (by kernel_rfl) (fun _ _ _ h => h) (Or.inl ⟨by rfl, fun w1 hSw => by (have hcl := Blk.cell ((hSw.block _ hsa hno).trans HGA.out) 0; simp only [List.getElem?_toArray, List.getElem?_cons_zero] at hcl; go_simp)⟩) (by assumption) ?_
      simp only [List.getElem_toArray, List.getElem_cons_succ, List.getElem_cons_zero, Act.put, List.setIfInBounds_toArray, List.set_cons_zero, List.set_cons_succ]
      refine wpAnyH_take (i := 3) (v := .pointer (some ⟨wo.heap.size, 1, none⟩)) rfl (by kernel_rfl) (by kernel_rfl) (by kernel_rfl) (fun _ _ _ h => h) (Or.inl ⟨by rfl, fun w1 hSw => by (go_simp)⟩) (by assumption) ?_
      simp only [List.getElem_toArray, List.getElem_cons_succ, List.getElem_cons_zero, Act.put, List.setIfInBounds_toArray, List.set_cons_zero, List.set_cons_succ]
      refine wpAnyH_take (i := 4) (v := .slice xcA xn xcc) rfl (by kernel_rfl) (by kernel_rfl) (by kernel_rfl) (fun _ _ _ h => h) (Or.inl ⟨by rfl, fun w1 hSw => by (have hcl := Blk.cell ((hSw.block _ hsa hno).trans HGA.out) 1; simp only [List.getElem?_toArray, List.getElem?_cons_zero, List.getElem?_cons_succ] at hcl; go_simp)⟩) (by assumption) ?_
      simp only [List.getElem_toArray, List.getElem_cons_succ, List.getElem_cons_zero, Act.put, List.setIfInBounds_toArray, List.set_cons_zero, List.set_cons_succ]
      refine wpAnyH_take (i := 6) (v := .pointer (some ⟨wo.heap.size, 2, none⟩)) rfl (by kernel_rfl) (by kernel_rfl) (by kernel_rfl) (fun _ _ _ h => h) (Or.inl ⟨by rfl, fun w1 hSw => by (go_simp)⟩) (by assumption) ?_
      simp only [List.getElem_toArray, List.getElem_cons_succ, List.getElem_cons_zero, Act.put, List.setIfInBounds_toArray, List.set_cons_zero, List.set_cons_succ]
      refine wpAnyH_take (i := 7) (v := .slice xrA xm xrc) rfl (by kernel_rfl) (by kernel_rfl) (by kernel_rfl) (fun _ _ _ h => h) (Or.inl ⟨by rfl, fun w1 hSw => by (have hcl := Blk.cell ((hSw.block _ hsa hno).trans HGA.out) 2; simp only [List.getElem?_toArray, List.getElem?_cons_zero, List.getElem?_cons_succ] at hcl; go_simp)⟩) (by assumption) ?_
      simp only [List.getElem_toArray, List.getElem_cons_succ, List.getElem_cons_zero, Act.put, List.setIfInBounds_toArray, List.set_cons_zero, List.set_cons_succ]
      refine wpAnyH_ready (rs := [5]) (by kernel_rfl) (by simp) ?_
      refine AllReadyH.cons rfl (fun K hK => ?_) AllReadyH.nil
      simp only [List.getElem_toArray, List.getElem_cons_succ, List.getElem_cons_zero]
      go_simp
      refine (hcc.out _ (HBA.out.drew)).mono ?_
      rintro e w3 ⟨⟨vc, rfl, hoc⟩, hb3⟩
      have HB3 := Lib.hid (HBA.out.drew.trans (hb3.mono HBA.out.size))
      have HB3o := Lib.hid (HBO.out.drew.trans (hb3.mono (B' := wo.heap.size) (Nat.le_of_lt hsa)))
      have HB3a : Hid (Below wa.heap.size wa w3) := Lib.hid ⟨hb3.os, hb3.tape, hb3.output, hb3.size, hb3.block⟩
      rw [← HXN.out] at hoc
      obtain ⟨cA', cc', rfl, hcc', hCS⟩ := own_cols (S := NewS wa w3) hoc (fun g h1 h2 h3 => ⟨h1, h2, h3⟩)
      have HCS := Lib.hid hCS
      clear hoc hb3 hCS hcc hcc'
      go_wp2_with fail
      refine hK.out _ _ ⟨HB3a.out.os, HB3a.out.tape, HB3a.out.output, HB3a.out.size, fun k hk _ => HB3a.out.block k hk⟩ (fun hHeld => ?_)
      clear hK K
      refine wpAnyH_ready (rs := [8]) (by kernel_rfl) (by simp) ?_
      refine AllReadyH.cons rfl (fun K hK => ?_) AllReadyH.nil
      simp only [List.getElem_toArray, List.getElem_cons_succ, List.getElem_cons_zero]
      go_simp
      refine (hrc.out _ HB3.out).mono ?_
      rintro e w4 ⟨⟨rA', rc', rs', rfl, hrc1, hrc2, hrc3⟩, hb4⟩
      have hs3 : wa.heap.size ≤ w3.heap.size := HB3a.out.size
      have HB4 := Lib.hid (HB3o.out.trans (hb4.mono (B' := wo.heap.size) (by omega)))
      have HB4b : Hid (Below wa.heap.size wa w4) := Lib.hid (HB3a.out.trans (hb4.mono hs3))
      have HB4a : Hid (wa.grownBy w4 u3.ownBlock) := Lib.hid ⟨HB4b.out.os, HB4b.out.tape, HB4b.out.output, HB4b.out.size, fun k hk _ => HB4b.out.block k hk⟩
      have hs4 : wa.heap.size ≤ w4.heap.size := HB4b.out.size
      have HCS4 : Hid (CRowS w4 (NewS wo w4) cA' xcl) := Lib.hid ((HCS.out.kept fun k hk => hb4.block k hk.2.1).mono fun k hk => (hk.below hb4).lower (Nat.le_of_lt hsa))
      have HRS4 : Hid (SRow w4 (NewS wo w4) rA' rs') := Lib.hid (hrc2.mono fun k hk => hk.lower (by omega))
      have HRK := Lib.hid hrc3
      obtain ⟨x', ex'⟩ : ∃ x' : TM, x' = ⟨xnm, cA', cc', xcl, rA', rc', rs'⟩ := ⟨_, rfl⟩
      have HO4 := Lib.hid ((ownM_below HO.out HB4.out).alloc (.cells #[.string xnm, .slice cA' xn cc', .slice rA' rs'.length rc'] 44))
      rw [HXN.out]
      clear hrc1 hrc2 hrc3 hb4 hrc HCS
      go_wp2_with fail
      refine hK.out _ _ HB4a.out (fun hHeld => ?_)
      clear hK K
      refine wpAnyH_take (i := 9) (v := .agg #[.string xnm, .slice cA' xn cc', .slice rA' rs'.length rc']) rfl (by kernel_rfl) (by kernel_rfl) (by kernel_rfl) (fun _ _ _ h => h) (Or.inl ⟨by rfl, fun w1 hSw => by (go_simp)⟩) (by assumption) ?_
      simp only [List.getElem_toArray, List.getElem_cons_succ, List.getElem_cons_zero, Act.put, List.setIfInBounds_toArray, List.set_cons_zero, List.set_cons_succ]
      refine wpAnyH_ready (rs := [10]) (by kernel_rfl) (by simp) ?_
      refine AllReadyH.cons rfl (fun K hK => ?_) AllReadyH.nil
      simp only [List.getElem_toArray, List.getElem_cons_succ, List.getElem_cons_zero]
      go_simp
      refine hK.out _ _ ⟨HB4a.out.os, HB4a.out.tape, HB4a.out.output, by have := HB4a.out.size; simp; omega, fun k hk hne => (Below.heap_alloc w4 _ k (by omega)).trans (HB4a.out.block k hk hne)⟩ (fun hHeld => ?_)
      clear hK K
      refine wpAnyH_ready (rs := [11]) (by kernel_rfl) (by simp) ?_
      refine AllReadyH.cons rfl (fun K hK => ?_) AllReadyH.nil
      simp only [List.getElem_toArray, List.getElem_cons_succ, List.getElem_cons_zero]
      refine Eq.mpr (if_pos rfl) ?_
      refine wp_append_any _ _ _ 30 rfl w.heap.size 44 i0 _ 3 64 Tryz.underlying30 hi hz0 hz1 hz2 rfl (by decide) _ _ _ rfl HO4.out (w4.heap.size + 1) _ _ _ [.string xnm, .slice cA' xn cc', .slice rA' rs'.length rc'] rfl ⟨rfl, fun _ => ⟨_, rfl, Nat.lt_succ_self _, World.news_of_block (heap_alloc_new w4 _)⟩⟩ ?c1 ?c2 ?c3 ?c4 ?_
      case c1 => intro u hu; simp only [List.mem_cons, List.not_mem_nil, or_false] at hu; rcases hu with rfl | rfl | rfl <;> rfl
      case c2 => unfold maxLen; omega
      case c3 => omega
      case c4 => first | omega | (simp; omega)
      intro v' w5 hown' hgrow hat
      replace hat : v'.ownBlock = u3.ownBlock ∨ v'.ownBlock = some (w4.heap.size + 1) := by
        rcases hat with h | h
        · exact .inl h
        · exact .inr (by simpa using h)
      obtain ⟨hk1, hk2, hb5⟩ := snoc_blocks (v' := v') (fun g hg => HO.out.lt g hg) hs HB.out HB4.out _ hgrow hat
      have hg5 : wa.grownBy w5 u3.ownBlock := ⟨hgrow.os.trans HB4a.out.os, hgrow.tape.trans HB4a.out.tape, hgrow.output.trans HB4a.out.output, by have h1 := HB4a.out.size; have h2 := hgrow.size; simp at h2; omega, fun k hk hne => (hgrow.block k (by simp; omega) hne).trans ((Below.heap_alloc w4 _ k (by omega)).trans (HB4a.out.block k hk hne))⟩
      have HO5 : Hid (w5.ownsRow w.heap.size 44 3 v' (ol ++ [x']).length (flatB (ol ++ [x']))) := Lib.hid (by rw [flatB_append, flatB_one, List.length_append, ex']; simp only [TM.cs, HXN.out]; exact hown')
      have HOC5 : Hid (∀ t ∈ ol ++ [x'], CRowS w5 (fun g => NewS w w5 g ∧ v'.ownBlock ≠ some g) t.cA t.cols) := Lib.hid (fun t ht => by
        rcases List.mem_append.1 ht with ht | ht
        · exact ((HOC.out t ht).kept fun g hg => (hk1 g hg).1).mono fun g hg => (hk1 g hg).2
        · rw [List.mem_singleton.1 ht, ex']
          exact (HCS4.out.kept fun g hg => (hk2 g hg).1).mono fun g hg => (hk2 g hg).2)
      have HOR5 : Hid (∀ t ∈ ol ++ [x'], SRow w5 (fun g => NewS w w5 g ∧ v'.ownBlock ≠ some g) t.rA t.rows) := Lib.hid (fun t ht => by
        rcases List.mem_append.1 ht with ht | ht
        · exact ((HOR.out t ht).kept fun g hg => (hk1 g hg).1).mono fun g hg => (hk1 g hg).2
        · rw [List.mem_singleton.1 ht, ex']
          exact (HRS4.out.kept fun g hg => (hk2 g hg).1).mono fun g hg => (hk2 g hg).2)
      have HIT5 : Hid ((ol ++ [x']).map TM.key = (l.take (k + 1)).map TM.key) := Lib.hid (by
        rw [List.map_append, HIT.out, HIT2.out, ex']
        simp only [List.map_cons, List.map_nil, TM.key, HRK.out])
      have hol5 : (ol ++ [x']).length = k + 1 := by rw [List.length_append, hlen]; rfl
      have HB5 := Lib.hid hb5
      refine hK.out _ _ hg5 (fun hHeld => ?_)
      clear hK K
      simp only [Act.put, List.setIfInBounds_toArray, List.set_cons_zero, List.set_cons_succ]
      refine wpAnyH_take (i := 12) (v := v') rfl (by kernel_rfl) (by kernel_rfl) (by kernel_rfl) (fun _ _ _ h => h) (Or.inl ⟨by rfl, fun w1 hSw => by (go_simp)⟩) (by assumption) ?_
      simp only [List.getElem_toArray, List.getElem_cons_succ, List.getElem_cons_zero, Act.put, List.setIfInBounds_toArray, List.set_cons_zero, List.set_cons_succ]
      refine wpAnyH_done (by kernel_rfl) ?_ _
      generalize ol ++ [x'] = ol5 at HO5 HOC5 HOR5 HIT5 hol5
      clear hown' hgrow hat hk1 hk2 hb5 hg5 HO HOC HOR HO4 HCS4 HRS4 HB4 HB HIT HIT2 hHeld HB4a HB4b HB3 HB3a HB3o HBA HGA HBO hno HRK ex'
      go_wp2_with fail
      go_roundw
      case rel => exact ⟨k + 1, ol5, by omega, by go_num, HO5.out, HB5.out, hol5, HOC5, HOR5, HIT5⟩
      case measure => simp [intOf]; omega
    · obtain rfl : k = n := by omega
      go_wp2_with fail
      go_ret
      exact ⟨⟨_, ol, rfl, ⟨HO.out, HOC.out, HOR.out, by rw [HIT.out, List.take_of_length_le (by rw [HN.out]; exact Nat.le_refl _)]⟩⟩, HB.out⟩
end Go.Proofs.YtajnnkapgnmoaaaGreat
