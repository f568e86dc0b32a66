/-
  The walk of RowTells.
-/
import Derived.Test.YtabhkfpglhfiiaaRefRowGet
import Derived.Test.YtabhkfpglhfiiaaRef5c
import Derived.Test.YtabhkfpglhfiiaaRefCols
import Derived.Test.YtabhkfpglhfiiaaKnown5
import Derived.Test.YtabhkfpglhfiiaaRowPut
import Derived.Test.YtabhkfpglhfiiaaRowOrder
import Derived.Deep.DeepCutAuto
import Derived.Test.YtabhkfpglhfiiaaEach
namespace Go.Proofs.Ytabhkfpglhfiiaa
open Go.RowKit EachKit
theorem VRow.take {w : World} {B : Nat} {A : Option Addr} {l : List V} (h : VRow w B A l) (k : Nat) : VRow w B A (l.take k) := by
  rcases h with rfl | ⟨b, o, rfl, hb, hv⟩
  · exact .inl (by simp)
  · exact .inr ⟨b, o, rfl, hb, fun i v hi => hv i v (by
      rw [List.getElem?_take] at hi
      split at hi
      · exact hi
      · cases hi)⟩
theorem CRow.take {w : World} {B : Nat} {A : Option Addr} {l : List C} (h : CRow w B A l) (k : Nat) : CRow w B A (l.take k) := by
  rcases h with rfl | ⟨b, o, rfl, hb, hv⟩
  · exact .inl (by simp)
  · exact .inr ⟨b, o, rfl, hb, hv.take k⟩
theorem CRow.kept {w w' : World} {A : Option Addr} {l : List C} (h : CRow w w.heap.size A l) (hw : Below w.heap.size w w') : CRow w' w'.heap.size A l := (h.below hw).more hw.size
theorem VRow.some_ {w : World} {B : Nat} {A : Option Addr} {l : List V} (h : VRow w B A l) (hl : 0 < l.length) : ∃ b o, A = some ⟨b, o, none⟩ := by
  rcases h with rfl | ⟨b, o, rfl, _⟩
  · simp at hl
  · exact ⟨b, o, rfl⟩
theorem CRow.some_ {w : World} {B : Nat} {A : Option Addr} {l : List C} (h : CRow w B A l) (hl : 0 < l.length) : ∃ b o, A = some ⟨b, o, none⟩ := by
  rcases h with rfl | ⟨b, o, rfl, _⟩
  · simp at hl
  · exact ⟨b, o, rfl⟩
theorem VRow.srcS {w w' : World} {A : Option Addr} {l : List V} (h : VRow w w.heap.size A l) (hw : Below w.heap.size w w') : Src w' (fun k => w.heap.size ≤ k) A l := by
  rcases h with h | ⟨b, o, rfl, hb, hv⟩
  · exact .inl h
  · exact .inr ⟨b, o, rfl, by have := hw.size; omega, by omega, hv.below hw hb⟩
theorem RRd.other {w w' : World} {S : Nat → Prop} {g g2 : Nat} {R : RS} (h : RRd w S g R) (ho : Only g2 w w') (hS : S g2) (hne : g ≠ g2) : RRd w' S g R := by
  obtain ⟨h1, h2, h3, v, hg, hv⟩ := h
  exact ⟨h1, h2, h3, v, (ho.block g (lt_of_block hg) hne).trans hg, hv.only hS ho⟩
theorem Rd.other {w w' : World} {S : Nat → Prop} {g g2 : Nat} {R : RS} (h : Rd w S g R) (ho : Only g2 w w') (hS : S g2) (hne : g ≠ g2) : Rd w' S g R := by
  obtain ⟨h1, h2, h3, v, hg, hv⟩ := h
  exact ⟨h1, h2, h3, v, (ho.block g (lt_of_block hg) hne).trans hg, hv.only hS ho⟩
theorem own_form9 {w : World} {B n : Nat} {e : TypeId} {z : Nat} {v : Value} {xs : List Value} (h : w.ownsRow B e z v n xs) : ∃ A m c, v = .slice A m c := by
  rcases h.2 with ⟨rfl, _⟩ | ⟨g, cap, cur, rfl, _⟩
  · exact ⟨_, _, _, rfl⟩
  · exact ⟨_, _, _, rfl⟩
theorem own_row3 {w : World} {B n c : Nat} {A : Option Addr} {l : List V} (h : w.ownsRow B 49 3 (.slice A n c) l.length (flat l)) : n = l.length ∧ VRow w w.heap.size A l := by
  obtain ⟨A', c', e, hv⟩ := own_row2 h
  injection e with e1 e2 e3
  subst e1 e2
  exact ⟨rfl, hv⟩
theorem getRows_len : ∀ (k : Nat) (R : RS), (getRows k R).1.length = k
  | 0, _ => rfl
  | k + 1, R => by rw [getRows, List.length_cons, getRows_len k]
theorem getRow_le (R : RS) : R.getRow.length ≤ 6 := by
  unfold RS.getRow
  split
  · exact Nat.zero_le _
  · rw [RS.rowRaw, getRows_len]
    have := few_le R
    omega
theorem keep_same {A D : Option Addr} {n m c d : Nat} {r : List V} {w : World} (hn : n = r.length) (hm : m = r.length) (hr : r.length ≤ 9223372036854775807) (hA : VRow w w.heap.size A r) (hD : VRow w w.heap.size D r) :
    Calls Try.prog 39 #[.slice A n c, .slice D m d] w fun e w' => e = .returned (.bool true) ∧ Below w.heap.size w w' := by
  subst hn
  subst hm
  have := keepRow_any A D c d r r hr hr w hA hD
  rwa [(eqR_iff r r).2 rfl] at this
theorem rowB_bound (M : Nat) : ∀ a : List V, (∀ v ∈ a, v.s.size ≤ M) → (a.flatMap vB).length ≤ (M + 9) * a.length
  | [], _ => by simp
  | v :: l, h => by
    rw [List.flatMap_cons, List.length_append, List.length_cons, Nat.mul_succ]
    have h1 := rowB_bound M l fun x hx => h x (List.mem_cons_of_mem _ hx)
    have h2 := vB_len v
    have h3 := h v List.mem_cons_self
    omega

def rtDs : List (Option Tmp) := [some 83, some 84, some 85, some 86, some 87, some 88, some 89, some 90, some 91, some 92, some 93, some 94, some 95, some 96, some 97, some 98, some 99, some 100, some 101, some 102, some 103, some 104, some 105, some 106, some 107, some 108, some 109, some 110, some 111, some 112, some 113, some 114, some 115, some 116, some 117, some 118, some 119, some 120, some 121, some 122, some 123, some 124, some 125, some 126, some 127, some 128, some 129, some 130, some 131, some 132, some 133, some 134, some 135, some 136, some 137, some 138, some 139, some 140, some 141, some 142, some 143, some 144, some 145, some 146, some 147, some 148, some 149, some 150, some 151, some 152, some 153, some 154, some 155, some 156, some 157, some 158, some 159, some 160, some 161, some 162, some 163, some 164, some 165, some 10]
def rtMs : List Nat := [0, 1, 0, 7, 15, 31, 63, 63, 255, 63, 63, 2047, 4095, 8191, 16383, 32767, 32767, 131071, 32767, 32767, 1048575, 2097151, 4194303, 8388607, 16777215, 16777215, 67108863, 16777215, 16777215, 536870911, 1073741823, 2147483647, 4294967295, 8589934591, 17179869183, 8589934591, 68719476735, 137438953471, 274877906943, 549755813887, 1099511627775, 2199023255551, 1099511627775, 8796093022207, 17592186044415, 35184372088831, 70368744177663, 140737488355327, 140737488355327, 562949953421311, 1125899906842623, 2251799813685247, 4503599627370495, 4503599627370495, 18014398509481983, 36028797018963967, 72057594037927935, 144115188075855871, 288230376151711743, 576460752303423487, 144115188075855871, 1729382256910270463, 4035225266123964415, 9223372036854775807, 18446744073709551615, 36893488147419103231, 73786976294838206463, 73786976294838206463, 295147905179352825855, 590295810358705651711, 1180591620717411303423, 2361183241434822606847, 2361183241434822606847, 9444732965739290427391, 18889465931478580854783, 37778931862957161709567, 75557863725914323419135, 75557863725914323419135, 302231454903657293676543, 604462909807314587353087, 1208925819614629174706175, 2417851639229258349412351, 4835703278458516698824703, 9671406556917033397649407]
def rtV (A : Option Addr) (na ca : Nat) (D : Option Addr) (nb cb : Nat) (E : Option Addr) (nl cl : Nat) (s : ByteArray) (g : Nat) (vRa vL vS vF vN vFb : Bool) (vC vFn eE eA : Int) (A9 : Option Addr) (n9 c9 : Nat) (A10 : Option Addr) (n10 c10 : Nat) (a : List V) : List Value := [.slice A na ca, .bool vRa, .slice A na ca, .bool vRa, .bool true, .bool true, .slice A na ca, .slice D nb cb, .bool vL, .slice A na ca, .slice D nb cb, .bool vL, .bool true, .bool true, .bool true, .slice A na ca, .slice D nb cb, .bool vS, .slice A na ca, .slice D nb cb, .bool vS, .bool true, .bool true, .bool true, .slice E nl cl, .slice A na ca, .bool vF, .slice E nl cl, .slice A na ca, .bool vF, .bool true, .bool true, .bool true, .slice E nl cl, .int .i64 vC, .slice E nl cl, .int .i64 vC, .bool true, .bool true, .bool true, .string s, .bool vN, .string s, .bool vN, .bool true, .bool true, .bool true, .int .i64 vFn, .int .i64 vFn, .bool true, .bool true, .bool true, .bool vFb, .bool vFb, .bool true, .bool true, .bool true, .pointer (some ⟨g, 0, none⟩), undef, .string ⟨(rowB a).toArray⟩, .slice A na ca, undef, .string ⟨(rowB a).toArray⟩, .bool true, .bool true, .bool true, .slice A9 n9 c9, .slice A10 n10 c10, .bool true, .bool true, .bool true, .int .i64 eE, .int .i64 eE, .bool true, .bool true, .bool true, .int .i64 eA, .int .i64 eA, .bool true, .bool true, .bool true, .bool true, .bool true, .bool true]
def rtR (A : Option Addr) (na ca : Nat) (D : Option Addr) (nb cb : Nat) (E : Option Addr) (nl cl : Nat) (s : ByteArray) (g : Nat) (vRa vL vS vF vN vFb : Bool) (vC vFn eE eA : Int) (A9 : Option Addr) (n9 c9 : Nat) (A10 : Option Addr) (n10 c10 : Nat) (a : List V) (i : Nat) (v : Value) (w : World) : Prop := match i with
  | 58 => ∃ B, OwnB B w v (rowB a)
  | 61 => ∃ B, OwnB B w v ([] ++ rowB a)
  | i => v = (rtV A na ca D nb cb E nl cl s g vRa vL vS vF vN vFb vC vFn eE eA A9 n9 c9 A10 n10 c10 a).getD i undef
theorem rtR_mono (A : Option Addr) (na ca : Nat) (D : Option Addr) (nb cb : Nat) (E : Option Addr) (nl cl : Nat) (s : ByteArray) (g : Nat) (vRa vL vS vF vN vFb : Bool) (vC vFn eE eA : Int) (A9 : Option Addr) (n9 c9 : Nat) (A10 : Option Addr) (n10 c10 : Nat) (a : List V) : ∀ i v w w', Below w.heap.size w w' → rtR A na ca D nb cb E nl cl s g vRa vL vS vF vN vFb vC vFn eE eA A9 n9 c9 A10 n10 c10 a i v w → rtR A na ca D nb cb E nl cl s g vRa vL vS vF vN vFb vC vFn eE eA A9 n9 c9 A10 n10 c10 a i v w' := by
  intro i v w w' hb h
  unfold rtR at h ⊢
  split at h
  · obtain ⟨B, h⟩ := h; exact ⟨B, own_kept h hb⟩
  · obtain ⟨B, h⟩ := h; exact ⟨B, own_kept h hb⟩
  · exact h
set_option maxRecDepth 100000 in
set_option maxHeartbeats 20000000 in
theorem rowTells_main (A D E G : Option Addr) (ca cb cl cc : Nat) (l0 l1 : List V) (l2 : List C) (s : ByteArray) (l4 : List UInt8)
    (k0 : l0.length ≤ ca) (k1 : l1.length ≤ cb) (k2 : l2.length ≤ cl) (k4 : l4.length ≤ 1048576) (m0 : ca ≤ 1048576) (m1 : cb ≤ 1048576) (m2 : cl ≤ 1048576) (hs : s.size ≤ 1048576)
    (t0 : ∀ v ∈ l0, v.s.size ≤ 1048576) (t2 : ∀ x ∈ l2, x.nm.size ≤ 1048576) (w : World)
    (hA : VRow w w.heap.size A l0) (hD : VRow w w.heap.size D l1) (hE : CRow w w.heap.size E l2) (hG : BR w G l4) :
    Calls Try.prog 9 #[.slice A l0.length ca, .slice D l1.length cb, .slice E l2.length cl, .string s, .slice G l4.length cc] w fun e w' => e = .returned (.bool true) ∧ Below w.heap.size w w' := by
  obtain ⟨i0, hi0, hz0, hz1, hz2⟩ := info_parts u8_info
  obtain ⟨a, ea⟩ : ∃ a, a = l0.take 8 := ⟨_, rfl⟩
  obtain ⟨b, eb⟩ : ∃ b, b = l1.take 8 := ⟨_, rfl⟩
  obtain ⟨l, el⟩ : ∃ l, l = l2.take 9 := ⟨_, rfl⟩
  have hAa : VRow w w.heap.size A a := by rw [ea]; exact hA.take 8
  have hDb : VRow w w.heap.size D b := by rw [eb]; exact hD.take 8
  have hEl : CRow w w.heap.size E l := by rw [el]; exact hE.take 9
  have ra : a.length ≤ 8 ∧ a.length ≤ ca := by rw [ea, List.length_take]; omega
  have rb : b.length ≤ 8 := by rw [eb, List.length_take]; omega
  have rl : l.length ≤ 9 ∧ l.length ≤ cl := by rw [el, List.length_take]; omega
  have tl : ∀ x ∈ l, x.nm.size ≤ 9223372036854775807 := fun x hx => by have := t2 x (List.mem_of_mem_take (by rw [← el]; exact hx)); omega
  have ta : ∀ v ∈ a, v.s.size ≤ 1048576 := fun v hv => t0 v (List.mem_of_mem_take (by rw [← ea]; exact hv))
  have hbnd : (rowB a).length ≤ 16777216 := by
    have h1 := rowB_bound 1048576 a ta
    have h2 : (1048576 + 9) * a.length ≤ (1048576 + 9) * 8 := Nat.mul_le_mul_left _ ra.1
    rw [rowB, List.length_append, leI_len]
    omega
  have hRa := Lib.hid (fun w1 (h1 : Below w.heap.size w w1) => rowRight_any A ca a (by omega) w1 (hAa.kept h1))
  have hRa2 := Lib.hid (fun w1 (h1 : Below w.heap.size w w1) => ref5_right A ca a (by omega) w1 (hAa.kept h1))
  have hL := Lib.hid (fun w1 (h1 : Below w.heap.size w w1) => rowLess_any A D ca cb a b (by omega) (by omega) w1 (hAa.kept h1) (hDb.kept h1))
  have hL2 := Lib.hid (fun w1 (h1 : Below w.heap.size w w1) => ref5_less_in A D ca cb a b (by omega) (by omega) w1 (hAa.kept h1) (hDb.kept h1))
  have hS := Lib.hid (fun w1 (h1 : Below w.heap.size w w1) => rowSame_any A D ca cb a b (by omega) (by omega) w1 (hAa.kept h1) (hDb.kept h1))
  have hS2 := Lib.hid (fun w1 (h1 : Below w.heap.size w w1) => ref5_same A D ca cb a b (by omega) (by omega) w1 (hAa.kept h1) (hDb.kept h1))
  have hF := Lib.hid (fun w1 (h1 : Below w.heap.size w w1) => fits_any E A cl ca l a (by omega) (by omega) w1 (hEl.kept h1) (hAa.kept h1))
  have hF2 := Lib.hid (fun w1 (h1 : Below w.heap.size w w1) => ref5_fits E A cl ca l a (by omega) (by omega) w1 (hEl.kept h1) (hAa.kept h1))
  have hC := Lib.hid (fun w1 (h1 : Below w.heap.size w w1) => columns_any E cl l (by omega) rl.2 w1 (hEl.kept h1))
  have hC2 := Lib.hid (fun w1 (h1 : Below w.heap.size w w1) => refColumns_any E cl l (by omega) rl.2 tl w1 (hEl.kept h1))
  have hN := Lib.hid (fun w1 => name_any s w1)
  have hN2 := Lib.hid (fun w1 => refName_any s (by omega) w1)
  have hFi := Lib.hid (fun w1 (h1 : Below w.heap.size w w1) => find_any E cl l (by omega) s w1 (hEl.kept h1))
  have hFi2 := Lib.hid (fun w1 (h1 : Below w.heap.size w w1) => refFind_any E cl l (by omega) s w1 (hEl.kept h1))
  have hPut2 := Lib.hid (fun w1 (h1 : Below w.heap.size w w1) => ref5_put none A 0 ca [] a (by rw [List.nil_append]; omega) (fun v hv => by have := ta v hv; omega) (by omega) w1 (BR.nil_ _ _) (hAa.kept h1))
  have hPut := Lib.hid (fun g w1 (h1 : Below w.heap.size w w1) (hw : Wr w1 (fun k => w.heap.size ≤ k) g []) => row_put (fun k => w.heap.size ≤ k) g [] A ca a (by omega) (by rw [List.nil_append]; omega) (fun v hv => by have := ta v hv; omega) w1 hw (fun k hk => by have := h1.size; omega) (hAa.srcS h1))
  have hGk := Lib.hid (fun w1 (h1 : Below w.heap.size w w1) => hG.kept h1)
  have Hbnd := Lib.hid hbnd
  have hX0 : Hid (8 < l0.length → ∃ b o, A = some ⟨b, o, none⟩) := Lib.hid fun h => hA.some_ (by omega)
  have hX1 : Hid (8 < l1.length → ∃ b o, D = some ⟨b, o, none⟩) := Lib.hid fun h => hD.some_ (by omega)
  have hX2 : Hid (9 < l2.length → ∃ b o, E = some ⟨b, o, none⟩) := Lib.hid fun h => hE.some_ (by omega)
  obtain ⟨na, ena⟩ : ∃ n, n = a.length := ⟨_, rfl⟩
  obtain ⟨nb, enb⟩ : ∃ n, n = b.length := ⟨_, rfl⟩
  obtain ⟨nl, enl⟩ : ∃ n, n = l.length := ⟨_, rfl⟩
  have H0 : Hid (na = min 8 l0.length) := Lib.hid (by rw [ena, ea, List.length_take])
  have H1 : Hid (nb = min 8 l1.length) := Lib.hid (by rw [enb, eb, List.length_take])
  have H2 : Hid (nl = min 9 l2.length) := Lib.hid (by rw [enl, el, List.length_take])
  rw [← ena] at hRa hRa2 hL hL2 hS hS2 hF hF2 hPut hPut2
  rw [← enb] at hL hL2 hS hS2
  rw [← enl] at hF hF2 hC hC2 hFi hFi2
  obtain ⟨n0, en0⟩ : ∃ n, n = l0.length := ⟨_, rfl⟩
  obtain ⟨n1, en1⟩ : ∃ n, n = l1.length := ⟨_, rfl⟩
  obtain ⟨n2, en2⟩ : ∃ n, n = l2.length := ⟨_, rfl⟩
  rw [← en0] at H0 hX0 k0 ⊢
  rw [← en1] at H1 hX1 k1 ⊢
  rw [← en2] at H2 hX2 k2 ⊢
  clear hA hD hE hG hAa hDb hEl ra rb rl tl ta hbnd t0 t2 ea eb el ena enb enl en0 en1 en2
  generalize rowOk a = vRa at *
  generalize rowLess a b = vL at *
  generalize rowSame a b = vS at *
  generalize fitsB l a = vF at *
  generalize colsE l = vC at *
  generalize nameB s = vN at *
  generalize findN l s = vFn at *
  generalize findB l s = vFb at *
  go_enter Try.func9, Try.ntmps9
  go_upto_if 27 with (fail)
  go_cut [0] (fun s0 wx => s0 = .slice A na ca ∧ wx = w)
  case first =>
    by_cases h8 : 8 < n0
    · obtain ⟨b, o, rfl⟩ := hX0.out h8
      have hc0 : (8 : Int) ≤ (ca : Int) := by omega
      have e0 : Hid (na = 8) := Lib.hid (by have := H0.out; omega)
      go_wp2
      go_meet
      exact ⟨by rw [e0.out], rfl⟩
    · have e0 : Hid (na = n0) := Lib.hid (by have := H0.out; omega)
      go_wp2
      go_meet
      exact ⟨by rw [e0.out], rfl⟩
  case rest =>
  obtain ⟨rfl, hwc⟩ := hcut
  obtain rfl : w = wc := hwc.symm
  clear hwc
  go_upto_if 32 with (fail)
  go_cut [1] (fun s0 wx => s0 = .slice D nb cb ∧ wx = w)
  case first =>
    by_cases h8 : 8 < n1
    · obtain ⟨b, o, rfl⟩ := hX1.out h8
      have hc0 : (8 : Int) ≤ (cb : Int) := by omega
      have e0 : Hid (nb = 8) := Lib.hid (by have := H1.out; omega)
      go_wp2
      go_meet
      exact ⟨by rw [e0.out], rfl⟩
    · have e0 : Hid (nb = n1) := Lib.hid (by have := H1.out; omega)
      go_wp2
      go_meet
      exact ⟨by rw [e0.out], rfl⟩
  case rest =>
  obtain ⟨rfl, hwc⟩ := hcut
  obtain rfl : w = wc := hwc.symm
  clear hwc
  go_upto_if 37 with (fail)
  go_cut [2] (fun s0 wx => s0 = .slice E nl cl ∧ wx = w)
  case first =>
    by_cases h8 : 9 < n2
    · obtain ⟨b, o, rfl⟩ := hX2.out h8
      have hc0 : (9 : Int) ≤ (cl : Int) := by omega
      have e0 : Hid (nl = 9) := Lib.hid (by have := H2.out; omega)
      go_wp2
      go_meet
      exact ⟨by rw [e0.out], rfl⟩
    · have e0 : Hid (nl = n2) := Lib.hid (by have := H2.out; omega)
      go_wp2
      go_meet
      exact ⟨by rw [e0.out], rfl⟩
  case rest =>
  obtain ⟨rfl, hwc⟩ := hcut
  obtain rfl : w = wc := hwc.symm
  clear hwc
  clear hX0 hX1 hX2 H0 H1 H2
  go_wp2_with fail
  refine (newWriter (fun k => w.heap.size ≤ k) w (Nat.le_refl _)).mono ?_
  rintro e w4 ⟨rfl, hw4, b4⟩
  obtain ⟨g, hg⟩ : ∃ g, g = w.heap.size := ⟨_, rfl⟩
  have W4 : Hid (Wr w4 (fun k => w.heap.size ≤ k) g []) := Lib.hid (by rw [hg]; exact hw4)
  have B4 := Lib.hid b4
  rw [← hg]
  clear hw4 b4 hg
  go_wp2_with fail
  refine (hPut.out g w4 B4.out W4.out).mono ?_
  rintro e w5 ⟨rfl, hw5, o5⟩
  rw [List.nil_append] at hw5
  have W5 := Lib.hid hw5
  have B5 := Lib.hid (B4.out.trans (o5.below fun k h => h))
  have LIFT : Hid (∀ w1, Below w5.heap.size w5 w1 → Below w.heap.size w w1) := Lib.hid fun w1 h => B5.out.trans (h.mono B5.out.size)
  clear hw5 o5 W4 B4 hPut
  go_wp2_with fail
  refine (hPut2.out w5 B5.out).mono ?_
  rintro e w6 ⟨v6, rfl, hown6, b6⟩
  rw [List.nil_append] at hown6
  have O6 := Lib.hid hown6
  have C6 := Lib.hid b6
  clear hown6 b6
  go_wp2_with (at_builtin; refine wpList_append_any _ rfl _ _ 57 rfl w5.heap.size 5 i0 _ 1 1 Try.underlying57 hi0 hz0 hz1 hz2 rfl (by decide) _ _ _ rfl O6.out w6.heap.size G l4.length cc (u8s l4) rfl (hGk.out w6 (LIFT.out w6 C6.out)) (u8s_ones _) ?c1 ?c2 ?c3 ?_)
  case c1 => have := Hbnd.out; unfold maxLen; omega
  case c2 => have := Hbnd.out; omega
  case c3 => exact C6.out.size
  intro v7 w7 hown7 hg7 hat7
  have hx7 : OwnB w5.heap.size w7 v7 (rowB a ++ l4) := ownB_of hown7 (by rw [u8s_append])
  have C7 := Lib.hid (C6.out.grown hg7 C6.out.size (fun k hk => (O6.out.lt k hk).1))
  have O7 := Lib.hid hx7
  clear hown7 hg7 hat7 hx7 O6 C6 hGk
  have HX : Hid ((rowB a ++ l4).length ≤ 33554432) := Lib.hid (by rw [List.length_append]; have := Hbnd.out; omega)
  obtain ⟨x, ex⟩ : ∃ x, x = rowB a ++ l4 := ⟨_, rfl⟩
  rw [← ex] at O7 HX
  clear ex
  obtain ⟨A7, n7, c7, rfl⟩ := OwnB.form O7.out
  go_wp2_with fail
  refine (newReader _ x (by have := HX.out; omega) w7 (own_bts O7.out)).mono ?_
  rintro e w8 ⟨g2, rfl, hg1, hg2, hr8, b8⟩
  have R8 := Lib.hid hr8
  have hs7 := C7.out.size
  have C8 := Lib.hid (C7.out.trans (b8.mono hs7))
  have BR8 : Hid (ByR w8 (fun k => w7.heap.size ≤ k) (.slice A7 n7 c7) x) := Lib.hid (by
    rcases own_bts O7.out with h | ⟨b, o, c, e, h0, h1, h2⟩
    · exact .inl h
    · exact .inr ⟨b, o, c, e, h0, by have := b8.size; omega, by omega, h2.below b8 h1⟩)
  have hs8 := b8.size
  have hA8 : Below w8.heap.size w8 (w8.alloc (.cells #[.slice A7 n7 c7, .int .i64 0, .bool false, .int .i64 0, .int .i64 0] 72)) := (Below.refl _ _).alloc (Nat.le_refl _) _
  have HQ : Hid (RRd (w8.alloc (.cells #[.slice A7 n7 c7, .int .i64 0, .bool false, .int .i64 0, .int .i64 0] 72)) (fun k => w7.heap.size ≤ k) w8.heap.size ⟨x, 0, 0, 0⟩) := Lib.hid
    ⟨hs8, Nat.zero_le _, by have := HX.out; show x.length ≤ _; omega, _, heap_alloc_new w8 _, BR8.out.only hs8 (only_of_below hA8)⟩
  have R8a := Lib.hid (R8.out.kept hA8)
  have C8a := Lib.hid (C8.out.trans (hA8.mono C8.out.size))
  have hsa : (w8.alloc (.cells #[.slice A7 n7 c7, .int .i64 0, .bool false, .int .i64 0, .int .i64 0] 72)).heap.size = w8.heap.size + 1 := by simp
  have HSA := Lib.hid hsa
  clear hr8 b8 O7 BR8 hA8 R8 C8 C7 hsa
  obtain ⟨q, hq⟩ : ∃ q, q = w8.heap.size := ⟨_, rfl⟩
  go_wp2_with fail
  refine (row_get (fun k => k = g2 ∨ w8.heap.size ≤ k) g2 ⟨x, 0, 0, 0⟩ _ (fun k hk => .inr (by have := HSA.out; omega)) R8a.out).mono ?_
  rintro e w9 ⟨⟨v9, rfl, own9⟩, hr9, o9⟩
  have R9 := Lib.hid hr9
  have HQ9 := Lib.hid (HQ.out.other o9 hg1 (by omega))
  have C9 := Lib.hid (C8a.out.trans (o9.below C8a.out.size (by omega)))
  have O9 := Lib.hid own9
  have hs9 := o9.size
  have hs9' : w8.heap.size + 1 ≤ w9.heap.size := by have := HSA.out; omega
  clear hr9 o9 own9 HQ R8a C8a hs9
  obtain ⟨A9, n9, c9, rfl⟩ := own_form9 O9.out
  go_wp2_with fail
  refine (ref5_get (fun k => w7.heap.size ≤ k) w8.heap.size ⟨x, 0, 0, 0⟩ w9 (fun k hk => by omega) HQ9.out).mono ?_
  rintro e w10 ⟨⟨v10, rfl, own10⟩, hq10, o10⟩
  have R10 := Lib.hid (R9.out.other o10 (.inr (Nat.le_refl _)) (by omega))
  have Q10 := Lib.hid hq10
  have C10 := Lib.hid (C9.out.trans (o10.below C9.out.size (by omega)))
  have O10 := Lib.hid own10
  have O9b := Lib.hid (own_only O9.out o10 (by have := HSA.out; omega))
  clear own10 hq10 o10 HQ9 R9 C9 O9
  obtain ⟨A10, n10, c10, rfl⟩ := own_form9 O10.out
  have hV9 : Hid (n9 = (RS.mk x 0 0 0).getRow.length ∧ VRow w10 w10.heap.size A9 (RS.mk x 0 0 0).getRow) := Lib.hid (own_row3 O9b.out)
  have hV10 : Hid (n10 = (RS.mk x 0 0 0).getRow.length ∧ VRow w10 w10.heap.size A10 (RS.mk x 0 0 0).getRow) := Lib.hid (own_row3 O10.out)
  have hKeep : Hid (∀ w1, Below w10.heap.size w10 w1 → Calls Try.prog 39 #[.slice A9 n9 c9, .slice A10 n10 c10] w1 fun e w' => e = .returned (.bool true) ∧ Below w1.heap.size w1 w') := Lib.hid fun w1 h1 => by
    exact keep_same hV9.out.1 hV10.out.1 (by have := getRow_le (RS.mk x 0 0 0); omega) (hV9.out.2.kept h1) (hV10.out.2.kept h1)
  have LIFT5 : Hid (∀ w1, Below w10.heap.size w10 w1 → Below w5.heap.size w5 w1) := Lib.hid fun w1 h => C10.out.trans (h.mono C10.out.size)
  have LIFT10 : Hid (∀ w1, Below w10.heap.size w10 w1 → Below w.heap.size w w1) := Lib.hid fun w1 h => LIFT.out w1 (LIFT5.out w1 h)
  clear O9b O10 hV9 hV10 LIFT C10
  generalize (RS.mk x 0 0 0).rowRaw.2 = RF at *
  go_wp2_with fail
  refine (rEnd _ g2 _ w10 R10.out).mono ?_
  rintro e w11 ⟨rfl, b11⟩
  have T11 := Lib.hid b11
  clear b11 R10
  go_wp2_with fail
  refine (rr_End _ w8.heap.size _ w11 (Q10.out.kept T11.out)).mono ?_
  rintro e w12 ⟨rfl, b12⟩
  have T12 := Lib.hid (T11.out.trans (b12.mono T11.out.size))
  clear b12 T11 Q10
  generalize RF.endE = eE at *
  generalize RF.endA = eA at *
  go_wp2_with fail
  refine (hFi.out _ (LIFT10.out _ T12.out)).mono ?_
  rintro e w13 ⟨rfl, b13⟩
  have T13 := Lib.hid (T12.out.trans (b13.mono T12.out.size))
  clear b13 T12 hFi
  go_wp2_with fail
  refine (hFi2.out _ (LIFT10.out _ T13.out)).mono ?_
  rintro e w14 ⟨rfl, hw14⟩
  obtain rfl : w13 = w14 := hw14.symm
  clear hw14 hFi2
  have hDone : Hid (∀ w1, Below w10.heap.size w10 w1 → Calls Try.prog 37 #[.pointer (some ⟨g, 0, none⟩)] w1 fun e w' => ∃ v', e = .returned v' ∧ w'.ownsRow w1.heap.size 5 1 v' (rowB a).length (u8s (rowB a)) ∧ Below w1.heap.size w1 w') := Lib.hid fun w1 h1 => wDone _ g (rowB a) (by have := Hbnd.out; omega) w1 (W5.out.kept (LIFT5.out _ h1))
  go_wp2_with fail
  have L13 : Hid (∀ w1, Below w13.heap.size w13 w1 → Below w10.heap.size w10 w1) := Lib.hid fun w1 h => T13.out.trans (h.mono T13.out.size)
  clear T13 hi0 hz0 hz1 hz2 k0 k1 k2 k4 m0 m1 m2 hs hs7 hs8 hs9' hg1 hg2 B5 HX HSA
  refine region_each (R := rtR A na ca D nb cb E nl cl s g vRa vL vS vF vN vFb vC vFn eE eA A9 n9 c9 A10 n10 c10 a) (ds := rtDs) (MS := rtMs) (by kernel_rfl) (by kernel_rfl) (by kernel_rfl) (by kernel_rfl) (by kernel_rfl) (rtR_mono _ _ _ _ _ _ _ _ _ _ _ _ _ _ _ _ _ _ _ _ _ _ _ _ _ _ _ _)
    (fun a0 => a0.tmps.getD 0 undef = .slice A na ca ∧ a0.tmps.getD 1 undef = .slice D nb cb ∧ a0.tmps.getD 2 undef = .slice E nl cl ∧ a0.tmps.getD 3 undef = .string s ∧ a0.tmps.getD 11 undef = .pointer (some ⟨g, 0, none⟩) ∧ a0.tmps.getD 15 undef = .slice A9 n9 c9 ∧ a0.tmps.getD 16 undef = .slice A10 n10 c10 ∧ a0.tmps.getD 17 undef = .int .i64 eE ∧ a0.tmps.getD 18 undef = .int .i64 eA ∧ a0.tmps.getD 19 undef = .int .i64 eE ∧ a0.tmps.getD 20 undef = .int .i64 eA ∧ a0.tmps.getD 21 undef = .int .i64 vFn ∧ a0.tmps.getD 22 undef = .bool vFb ∧ a0.tmps.getD 23 undef = .int .i64 vFn ∧ a0.tmps.getD 24 undef = .bool vFb) ⟨rfl, rfl, rfl, rfl, rfl, rfl, rfl, rfl, rfl, rfl, rfl, rfl, rfl, rfl, rfl⟩ ?_ ?_
  · intro hds Q' a0 ⟨g0, g1, g2, g3, g11, g15, g16, g17, g18, g19, g20, g21, g22, g23, g24⟩
    refine Each.cons (OpGoal.free rfl (fun a1 w1 hB hL1 hk K hK => ?_)) ?_
    · have s0 : a1.tmps.getD 0 undef = .slice A na ca := hL1.old rfl g0
      clear hk hL1
      go_simp
      exact hK _ _ (Below.refl _ _) rfl
    refine Each.cons (OpGoal.free rfl (fun a1 w1 hB hL1 hk K hK => ?_)) ?_
    · have s83 : a1.tmps.getD 83 undef = .slice A na ca := (hk 0 rfl).is rfl (fun _ h => h)
      clear hk hL1
      go_simp
      refine (hRa.out _ (LIFT10.out _ (L13.out _ hB))).mono ?_
      rintro e w2 ⟨rfl, b⟩
      exact hK _ _ b rfl
    refine Each.cons (OpGoal.free rfl (fun a1 w1 hB hL1 hk K hK => ?_)) ?_
    · have s0 : a1.tmps.getD 0 undef = .slice A na ca := hL1.old rfl g0
      clear hk hL1
      go_simp
      exact hK _ _ (Below.refl _ _) rfl
    refine Each.cons (OpGoal.free rfl (fun a1 w1 hB hL1 hk K hK => ?_)) ?_
    · have s85 : a1.tmps.getD 85 undef = .slice A na ca := (hk 2 rfl).is rfl (fun _ h => h)
      clear hk hL1
      go_simp
      refine (hRa2.out _ (LIFT10.out _ (L13.out _ hB))).mono ?_
      rintro e w2 ⟨rfl, b⟩
      exact hK _ _ b rfl
    refine Each.cons (OpGoal.free rfl (fun a1 w1 hB hL1 hk K hK => ?_)) ?_
    · have s84 : a1.tmps.getD 84 undef = .bool vRa := (hk 1 rfl).is rfl (fun _ h => h)
      have s86 : a1.tmps.getD 86 undef = .bool vRa := (hk 3 rfl).is rfl (fun _ h => h)
      clear hk hL1
      go_simp
      exact hK _ _ (Below.refl _ _) rfl
    refine Each.cons (OpGoal.free rfl (fun a1 w1 hB hL1 hk K hK => ?_)) ?_
    · have s87 : a1.tmps.getD 87 undef = .bool true := (hk 4 rfl).is rfl (fun _ h => h)
      clear hk hL1
      go_simp
      exact hK _ _ (Below.refl _ _) rfl
    refine Each.cons (OpGoal.guarded (j := 5) (d := 88) hds rfl rfl rfl (fun v _ h => h) (fun a1 w1 hB hL1 hk K hK => ?_)) ?_
    · have s0 : a1.tmps.getD 0 undef = .slice A na ca := hL1.old rfl g0
      clear hk hL1
      go_simp
      exact hK _ _ (Below.refl _ _) rfl
    refine Each.cons (OpGoal.guarded (j := 5) (d := 88) hds rfl rfl rfl (fun v _ h => h) (fun a1 w1 hB hL1 hk K hK => ?_)) ?_
    · have s1 : a1.tmps.getD 1 undef = .slice D nb cb := hL1.old rfl g1
      clear hk hL1
      go_simp
      exact hK _ _ (Below.refl _ _) rfl
    refine Each.cons (OpGoal.guarded (j := 5) (d := 88) hds rfl rfl rfl (fun v _ h => h) (fun a1 w1 hB hL1 hk K hK => ?_)) ?_
    · have s89 : a1.tmps.getD 89 undef = .slice A na ca := (hk 6 rfl).is rfl (fun _ h => h)
      have s90 : a1.tmps.getD 90 undef = .slice D nb cb := (hk 7 rfl).is rfl (fun _ h => h)
      clear hk hL1
      go_simp
      refine (hL.out _ (LIFT10.out _ (L13.out _ hB))).mono ?_
      rintro e w2 ⟨rfl, b⟩
      exact hK _ _ b rfl
    refine Each.cons (OpGoal.guarded (j := 5) (d := 88) hds rfl rfl rfl (fun v _ h => h) (fun a1 w1 hB hL1 hk K hK => ?_)) ?_
    · have s0 : a1.tmps.getD 0 undef = .slice A na ca := hL1.old rfl g0
      clear hk hL1
      go_simp
      exact hK _ _ (Below.refl _ _) rfl
    refine Each.cons (OpGoal.guarded (j := 5) (d := 88) hds rfl rfl rfl (fun v _ h => h) (fun a1 w1 hB hL1 hk K hK => ?_)) ?_
    · have s1 : a1.tmps.getD 1 undef = .slice D nb cb := hL1.old rfl g1
      clear hk hL1
      go_simp
      exact hK _ _ (Below.refl _ _) rfl
    refine Each.cons (OpGoal.guarded (j := 5) (d := 88) hds rfl rfl rfl (fun v _ h => h) (fun a1 w1 hB hL1 hk K hK => ?_)) ?_
    · have s92 : a1.tmps.getD 92 undef = .slice A na ca := (hk 9 rfl).is rfl (fun _ h => h)
      have s93 : a1.tmps.getD 93 undef = .slice D nb cb := (hk 10 rfl).is rfl (fun _ h => h)
      clear hk hL1
      go_simp
      refine (hL2.out _ (LIFT10.out _ (L13.out _ hB))).mono ?_
      rintro e w2 ⟨rfl, b⟩
      exact hK _ _ b rfl
    refine Each.cons (OpGoal.guarded (j := 5) (d := 88) hds rfl rfl rfl (fun v _ h => h) (fun a1 w1 hB hL1 hk K hK => ?_)) ?_
    · have s91 : a1.tmps.getD 91 undef = .bool vL := (hk 8 rfl).is rfl (fun _ h => h)
      have s94 : a1.tmps.getD 94 undef = .bool vL := (hk 11 rfl).is rfl (fun _ h => h)
      clear hk hL1
      go_simp
      exact hK _ _ (Below.refl _ _) rfl
    refine Each.cons (OpGoal.free rfl (fun a1 w1 hB hL1 hk K hK => ?_)) ?_
    · have s88 : a1.tmps.getD 88 undef = .bool true := (hk 5 rfl).is rfl (fun _ h => h)
      have s95 : a1.tmps.getD 95 undef = .bool true := (hk 12 rfl).is rfl (fun _ h => h)
      clear hk hL1
      go_simp
      exact hK _ _ (Below.refl _ _) rfl
    refine Each.cons (OpGoal.free rfl (fun a1 w1 hB hL1 hk K hK => ?_)) ?_
    · have s96 : a1.tmps.getD 96 undef = .bool true := (hk 13 rfl).is rfl (fun _ h => h)
      clear hk hL1
      go_simp
      exact hK _ _ (Below.refl _ _) rfl
    refine Each.cons (OpGoal.guarded (j := 14) (d := 97) hds rfl rfl rfl (fun v _ h => h) (fun a1 w1 hB hL1 hk K hK => ?_)) ?_
    · have s0 : a1.tmps.getD 0 undef = .slice A na ca := hL1.old rfl g0
      clear hk hL1
      go_simp
      exact hK _ _ (Below.refl _ _) rfl
    refine Each.cons (OpGoal.guarded (j := 14) (d := 97) hds rfl rfl rfl (fun v _ h => h) (fun a1 w1 hB hL1 hk K hK => ?_)) ?_
    · have s1 : a1.tmps.getD 1 undef = .slice D nb cb := hL1.old rfl g1
      clear hk hL1
      go_simp
      exact hK _ _ (Below.refl _ _) rfl
    refine Each.cons (OpGoal.guarded (j := 14) (d := 97) hds rfl rfl rfl (fun v _ h => h) (fun a1 w1 hB hL1 hk K hK => ?_)) ?_
    · have s98 : a1.tmps.getD 98 undef = .slice A na ca := (hk 15 rfl).is rfl (fun _ h => h)
      have s99 : a1.tmps.getD 99 undef = .slice D nb cb := (hk 16 rfl).is rfl (fun _ h => h)
      clear hk hL1
      go_simp
      refine (hS.out _ (LIFT10.out _ (L13.out _ hB))).mono ?_
      rintro e w2 ⟨rfl, b⟩
      exact hK _ _ b rfl
    refine Each.cons (OpGoal.guarded (j := 14) (d := 97) hds rfl rfl rfl (fun v _ h => h) (fun a1 w1 hB hL1 hk K hK => ?_)) ?_
    · have s0 : a1.tmps.getD 0 undef = .slice A na ca := hL1.old rfl g0
      clear hk hL1
      go_simp
      exact hK _ _ (Below.refl _ _) rfl
    refine Each.cons (OpGoal.guarded (j := 14) (d := 97) hds rfl rfl rfl (fun v _ h => h) (fun a1 w1 hB hL1 hk K hK => ?_)) ?_
    · have s1 : a1.tmps.getD 1 undef = .slice D nb cb := hL1.old rfl g1
      clear hk hL1
      go_simp
      exact hK _ _ (Below.refl _ _) rfl
    refine Each.cons (OpGoal.guarded (j := 14) (d := 97) hds rfl rfl rfl (fun v _ h => h) (fun a1 w1 hB hL1 hk K hK => ?_)) ?_
    · have s101 : a1.tmps.getD 101 undef = .slice A na ca := (hk 18 rfl).is rfl (fun _ h => h)
      have s102 : a1.tmps.getD 102 undef = .slice D nb cb := (hk 19 rfl).is rfl (fun _ h => h)
      clear hk hL1
      go_simp
      refine (hS2.out _ (LIFT10.out _ (L13.out _ hB))).mono ?_
      rintro e w2 ⟨rfl, b⟩
      exact hK _ _ b rfl
    refine Each.cons (OpGoal.guarded (j := 14) (d := 97) hds rfl rfl rfl (fun v _ h => h) (fun a1 w1 hB hL1 hk K hK => ?_)) ?_
    · have s100 : a1.tmps.getD 100 undef = .bool vS := (hk 17 rfl).is rfl (fun _ h => h)
      have s103 : a1.tmps.getD 103 undef = .bool vS := (hk 20 rfl).is rfl (fun _ h => h)
      clear hk hL1
      go_simp
      exact hK _ _ (Below.refl _ _) rfl
    refine Each.cons (OpGoal.free rfl (fun a1 w1 hB hL1 hk K hK => ?_)) ?_
    · have s97 : a1.tmps.getD 97 undef = .bool true := (hk 14 rfl).is rfl (fun _ h => h)
      have s104 : a1.tmps.getD 104 undef = .bool true := (hk 21 rfl).is rfl (fun _ h => h)
      clear hk hL1
      go_simp
      exact hK _ _ (Below.refl _ _) rfl
    refine Each.cons (OpGoal.free rfl (fun a1 w1 hB hL1 hk K hK => ?_)) ?_
    · have s105 : a1.tmps.getD 105 undef = .bool true := (hk 22 rfl).is rfl (fun _ h => h)
      clear hk hL1
      go_simp
      exact hK _ _ (Below.refl _ _) rfl
    refine Each.cons (OpGoal.guarded (j := 23) (d := 106) hds rfl rfl rfl (fun v _ h => h) (fun a1 w1 hB hL1 hk K hK => ?_)) ?_
    · have s2 : a1.tmps.getD 2 undef = .slice E nl cl := hL1.old rfl g2
      clear hk hL1
      go_simp
      exact hK _ _ (Below.refl _ _) rfl
    refine Each.cons (OpGoal.guarded (j := 23) (d := 106) hds rfl rfl rfl (fun v _ h => h) (fun a1 w1 hB hL1 hk K hK => ?_)) ?_
    · have s0 : a1.tmps.getD 0 undef = .slice A na ca := hL1.old rfl g0
      clear hk hL1
      go_simp
      exact hK _ _ (Below.refl _ _) rfl
    refine Each.cons (OpGoal.guarded (j := 23) (d := 106) hds rfl rfl rfl (fun v _ h => h) (fun a1 w1 hB hL1 hk K hK => ?_)) ?_
    · have s107 : a1.tmps.getD 107 undef = .slice E nl cl := (hk 24 rfl).is rfl (fun _ h => h)
      have s108 : a1.tmps.getD 108 undef = .slice A na ca := (hk 25 rfl).is rfl (fun _ h => h)
      clear hk hL1
      go_simp
      refine (hF.out _ (LIFT10.out _ (L13.out _ hB))).mono ?_
      rintro e w2 ⟨rfl, b⟩
      exact hK _ _ b rfl
    refine Each.cons (OpGoal.guarded (j := 23) (d := 106) hds rfl rfl rfl (fun v _ h => h) (fun a1 w1 hB hL1 hk K hK => ?_)) ?_
    · have s2 : a1.tmps.getD 2 undef = .slice E nl cl := hL1.old rfl g2
      clear hk hL1
      go_simp
      exact hK _ _ (Below.refl _ _) rfl
    refine Each.cons (OpGoal.guarded (j := 23) (d := 106) hds rfl rfl rfl (fun v _ h => h) (fun a1 w1 hB hL1 hk K hK => ?_)) ?_
    · have s0 : a1.tmps.getD 0 undef = .slice A na ca := hL1.old rfl g0
      clear hk hL1
      go_simp
      exact hK _ _ (Below.refl _ _) rfl
    refine Each.cons (OpGoal.guarded (j := 23) (d := 106) hds rfl rfl rfl (fun v _ h => h) (fun a1 w1 hB hL1 hk K hK => ?_)) ?_
    · have s110 : a1.tmps.getD 110 undef = .slice E nl cl := (hk 27 rfl).is rfl (fun _ h => h)
      have s111 : a1.tmps.getD 111 undef = .slice A na ca := (hk 28 rfl).is rfl (fun _ h => h)
      clear hk hL1
      go_simp
      refine (hF2.out _ (LIFT10.out _ (L13.out _ hB))).mono ?_
      rintro e w2 ⟨rfl, b⟩
      exact hK _ _ b rfl
    refine Each.cons (OpGoal.guarded (j := 23) (d := 106) hds rfl rfl rfl (fun v _ h => h) (fun a1 w1 hB hL1 hk K hK => ?_)) ?_
    · have s109 : a1.tmps.getD 109 undef = .bool vF := (hk 26 rfl).is rfl (fun _ h => h)
      have s112 : a1.tmps.getD 112 undef = .bool vF := (hk 29 rfl).is rfl (fun _ h => h)
      clear hk hL1
      go_simp
      exact hK _ _ (Below.refl _ _) rfl
    refine Each.cons (OpGoal.free rfl (fun a1 w1 hB hL1 hk K hK => ?_)) ?_
    · have s106 : a1.tmps.getD 106 undef = .bool true := (hk 23 rfl).is rfl (fun _ h => h)
      have s113 : a1.tmps.getD 113 undef = .bool true := (hk 30 rfl).is rfl (fun _ h => h)
      clear hk hL1
      go_simp
      exact hK _ _ (Below.refl _ _) rfl
    refine Each.cons (OpGoal.free rfl (fun a1 w1 hB hL1 hk K hK => ?_)) ?_
    · have s114 : a1.tmps.getD 114 undef = .bool true := (hk 31 rfl).is rfl (fun _ h => h)
      clear hk hL1
      go_simp
      exact hK _ _ (Below.refl _ _) rfl
    refine Each.cons (OpGoal.guarded (j := 32) (d := 115) hds rfl rfl rfl (fun v _ h => h) (fun a1 w1 hB hL1 hk K hK => ?_)) ?_
    · have s2 : a1.tmps.getD 2 undef = .slice E nl cl := hL1.old rfl g2
      clear hk hL1
      go_simp
      exact hK _ _ (Below.refl _ _) rfl
    refine Each.cons (OpGoal.guarded (j := 32) (d := 115) hds rfl rfl rfl (fun v _ h => h) (fun a1 w1 hB hL1 hk K hK => ?_)) ?_
    · have s116 : a1.tmps.getD 116 undef = .slice E nl cl := (hk 33 rfl).is rfl (fun _ h => h)
      clear hk hL1
      go_simp
      refine (hC.out _ (LIFT10.out _ (L13.out _ hB))).mono ?_
      rintro e w2 ⟨rfl, b⟩
      exact hK _ _ b rfl
    refine Each.cons (OpGoal.guarded (j := 32) (d := 115) hds rfl rfl rfl (fun v _ h => h) (fun a1 w1 hB hL1 hk K hK => ?_)) ?_
    · have s2 : a1.tmps.getD 2 undef = .slice E nl cl := hL1.old rfl g2
      clear hk hL1
      go_simp
      exact hK _ _ (Below.refl _ _) rfl
    refine Each.cons (OpGoal.guarded (j := 32) (d := 115) hds rfl rfl rfl (fun v _ h => h) (fun a1 w1 hB hL1 hk K hK => ?_)) ?_
    · have s118 : a1.tmps.getD 118 undef = .slice E nl cl := (hk 35 rfl).is rfl (fun _ h => h)
      clear hk hL1
      go_simp
      refine (hC2.out _ (LIFT10.out _ (L13.out _ hB))).mono ?_
      rintro e w2 ⟨rfl, b⟩
      exact hK _ _ b rfl
    refine Each.cons (OpGoal.guarded (j := 32) (d := 115) hds rfl rfl rfl (fun v _ h => h) (fun a1 w1 hB hL1 hk K hK => ?_)) ?_
    · have s117 : a1.tmps.getD 117 undef = .int .i64 vC := (hk 34 rfl).is rfl (fun _ h => h)
      have s119 : a1.tmps.getD 119 undef = .int .i64 vC := (hk 36 rfl).is rfl (fun _ h => h)
      clear hk hL1
      go_simp
      exact hK _ _ (Below.refl _ _) rfl
    refine Each.cons (OpGoal.free rfl (fun a1 w1 hB hL1 hk K hK => ?_)) ?_
    · have s115 : a1.tmps.getD 115 undef = .bool true := (hk 32 rfl).is rfl (fun _ h => h)
      have s120 : a1.tmps.getD 120 undef = .bool true := (hk 37 rfl).is rfl (fun _ h => h)
      clear hk hL1
      go_simp
      exact hK _ _ (Below.refl _ _) rfl
    refine Each.cons (OpGoal.free rfl (fun a1 w1 hB hL1 hk K hK => ?_)) ?_
    · have s121 : a1.tmps.getD 121 undef = .bool true := (hk 38 rfl).is rfl (fun _ h => h)
      clear hk hL1
      go_simp
      exact hK _ _ (Below.refl _ _) rfl
    refine Each.cons (OpGoal.guarded (j := 39) (d := 122) hds rfl rfl rfl (fun v _ h => h) (fun a1 w1 hB hL1 hk K hK => ?_)) ?_
    · have s3 : a1.tmps.getD 3 undef = .string s := hL1.old rfl g3
      clear hk hL1
      go_simp
      exact hK _ _ (Below.refl _ _) rfl
    refine Each.cons (OpGoal.guarded (j := 39) (d := 122) hds rfl rfl rfl (fun v _ h => h) (fun a1 w1 hB hL1 hk K hK => ?_)) ?_
    · have s123 : a1.tmps.getD 123 undef = .string s := (hk 40 rfl).is rfl (fun _ h => h)
      clear hk hL1
      go_simp
      refine (hN.out _).mono ?_
      rintro e w2 ⟨rfl, rfl⟩
      exact hK _ _ (Below.refl _ _) rfl
    refine Each.cons (OpGoal.guarded (j := 39) (d := 122) hds rfl rfl rfl (fun v _ h => h) (fun a1 w1 hB hL1 hk K hK => ?_)) ?_
    · have s3 : a1.tmps.getD 3 undef = .string s := hL1.old rfl g3
      clear hk hL1
      go_simp
      exact hK _ _ (Below.refl _ _) rfl
    refine Each.cons (OpGoal.guarded (j := 39) (d := 122) hds rfl rfl rfl (fun v _ h => h) (fun a1 w1 hB hL1 hk K hK => ?_)) ?_
    · have s125 : a1.tmps.getD 125 undef = .string s := (hk 42 rfl).is rfl (fun _ h => h)
      clear hk hL1
      go_simp
      refine (hN2.out _).mono ?_
      rintro e w2 ⟨rfl, b⟩
      exact hK _ _ b rfl
    refine Each.cons (OpGoal.guarded (j := 39) (d := 122) hds rfl rfl rfl (fun v _ h => h) (fun a1 w1 hB hL1 hk K hK => ?_)) ?_
    · have s124 : a1.tmps.getD 124 undef = .bool vN := (hk 41 rfl).is rfl (fun _ h => h)
      have s126 : a1.tmps.getD 126 undef = .bool vN := (hk 43 rfl).is rfl (fun _ h => h)
      clear hk hL1
      go_simp
      exact hK _ _ (Below.refl _ _) rfl
    refine Each.cons (OpGoal.free rfl (fun a1 w1 hB hL1 hk K hK => ?_)) ?_
    · have s122 : a1.tmps.getD 122 undef = .bool true := (hk 39 rfl).is rfl (fun _ h => h)
      have s127 : a1.tmps.getD 127 undef = .bool true := (hk 44 rfl).is rfl (fun _ h => h)
      clear hk hL1
      go_simp
      exact hK _ _ (Below.refl _ _) rfl
    refine Each.cons (OpGoal.free rfl (fun a1 w1 hB hL1 hk K hK => ?_)) ?_
    · have s128 : a1.tmps.getD 128 undef = .bool true := (hk 45 rfl).is rfl (fun _ h => h)
      clear hk hL1
      go_simp
      exact hK _ _ (Below.refl _ _) rfl
    refine Each.cons (OpGoal.guarded (j := 46) (d := 129) hds rfl rfl rfl (fun v _ h => h) (fun a1 w1 hB hL1 hk K hK => ?_)) ?_
    · have s21 : a1.tmps.getD 21 undef = .int .i64 vFn := hL1.old rfl g21
      clear hk hL1
      go_simp
      exact hK _ _ (Below.refl _ _) rfl
    refine Each.cons (OpGoal.guarded (j := 46) (d := 129) hds rfl rfl rfl (fun v _ h => h) (fun a1 w1 hB hL1 hk K hK => ?_)) ?_
    · have s23 : a1.tmps.getD 23 undef = .int .i64 vFn := hL1.old rfl g23
      clear hk hL1
      go_simp
      exact hK _ _ (Below.refl _ _) rfl
    refine Each.cons (OpGoal.guarded (j := 46) (d := 129) hds rfl rfl rfl (fun v _ h => h) (fun a1 w1 hB hL1 hk K hK => ?_)) ?_
    · have s130 : a1.tmps.getD 130 undef = .int .i64 vFn := (hk 47 rfl).is rfl (fun _ h => h)
      have s131 : a1.tmps.getD 131 undef = .int .i64 vFn := (hk 48 rfl).is rfl (fun _ h => h)
      clear hk hL1
      go_simp
      exact hK _ _ (Below.refl _ _) rfl
    refine Each.cons (OpGoal.free rfl (fun a1 w1 hB hL1 hk K hK => ?_)) ?_
    · have s129 : a1.tmps.getD 129 undef = .bool true := (hk 46 rfl).is rfl (fun _ h => h)
      have s132 : a1.tmps.getD 132 undef = .bool true := (hk 49 rfl).is rfl (fun _ h => h)
      clear hk hL1
      go_simp
      exact hK _ _ (Below.refl _ _) rfl
    refine Each.cons (OpGoal.free rfl (fun a1 w1 hB hL1 hk K hK => ?_)) ?_
    · have s133 : a1.tmps.getD 133 undef = .bool true := (hk 50 rfl).is rfl (fun _ h => h)
      clear hk hL1
      go_simp
      exact hK _ _ (Below.refl _ _) rfl
    refine Each.cons (OpGoal.guarded (j := 51) (d := 134) hds rfl rfl rfl (fun v _ h => h) (fun a1 w1 hB hL1 hk K hK => ?_)) ?_
    · have s22 : a1.tmps.getD 22 undef = .bool vFb := hL1.old rfl g22
      clear hk hL1
      go_simp
      exact hK _ _ (Below.refl _ _) rfl
    refine Each.cons (OpGoal.guarded (j := 51) (d := 134) hds rfl rfl rfl (fun v _ h => h) (fun a1 w1 hB hL1 hk K hK => ?_)) ?_
    · have s24 : a1.tmps.getD 24 undef = .bool vFb := hL1.old rfl g24
      clear hk hL1
      go_simp
      exact hK _ _ (Below.refl _ _) rfl
    refine Each.cons (OpGoal.guarded (j := 51) (d := 134) hds rfl rfl rfl (fun v _ h => h) (fun a1 w1 hB hL1 hk K hK => ?_)) ?_
    · have s135 : a1.tmps.getD 135 undef = .bool vFb := (hk 52 rfl).is rfl (fun _ h => h)
      have s136 : a1.tmps.getD 136 undef = .bool vFb := (hk 53 rfl).is rfl (fun _ h => h)
      clear hk hL1
      go_simp
      exact hK _ _ (Below.refl _ _) rfl
    refine Each.cons (OpGoal.free rfl (fun a1 w1 hB hL1 hk K hK => ?_)) ?_
    · have s134 : a1.tmps.getD 134 undef = .bool true := (hk 51 rfl).is rfl (fun _ h => h)
      have s137 : a1.tmps.getD 137 undef = .bool true := (hk 54 rfl).is rfl (fun _ h => h)
      clear hk hL1
      go_simp
      exact hK _ _ (Below.refl _ _) rfl
    refine Each.cons (OpGoal.free rfl (fun a1 w1 hB hL1 hk K hK => ?_)) ?_
    · have s138 : a1.tmps.getD 138 undef = .bool true := (hk 55 rfl).is rfl (fun _ h => h)
      clear hk hL1
      go_simp
      exact hK _ _ (Below.refl _ _) rfl
    refine Each.cons (OpGoal.guarded (j := 56) (d := 139) hds rfl rfl rfl (fun v _ h => h) (fun a1 w1 hB hL1 hk K hK => ?_)) ?_
    · have s11 : a1.tmps.getD 11 undef = .pointer (some ⟨g, 0, none⟩) := hL1.old rfl g11
      clear hk hL1
      go_simp
      exact hK _ _ (Below.refl _ _) rfl
    refine Each.cons (OpGoal.guarded (j := 56) (d := 139) hds rfl rfl rfl (fun v _ h => h) (fun a1 w1 hB hL1 hk K hK => ?_)) ?_
    · have s140 : a1.tmps.getD 140 undef = .pointer (some ⟨g, 0, none⟩) := (hk 57 rfl).is rfl (fun _ h => h)
      clear hk hL1
      go_simp
      refine (hDone.out _ (L13.out _ hB)).mono ?_
      rintro e w2 ⟨vD, rfl, ownD, bD⟩
      exact hK _ _ bD ⟨_, ownB_of ownD rfl⟩
    refine Each.cons (OpGoal.guarded (j := 56) (d := 139) hds rfl rfl rfl (fun v _ h => h) (fun a1 w1 hB hL1 hk K hK => ?_)) ?_
    · obtain ⟨vD, s141, B, hO⟩ := (hk 58 rfl).slot rfl
      have hc := own_conv hO
      clear hk hL1
      go_simp
      exact hK _ _ (Below.refl _ _) rfl
    refine Each.cons (OpGoal.guarded (j := 56) (d := 139) hds rfl rfl rfl (fun v _ h => h) (fun a1 w1 hB hL1 hk K hK => ?_)) ?_
    · have s0 : a1.tmps.getD 0 undef = .slice A na ca := hL1.old rfl g0
      clear hk hL1
      go_simp
      exact hK _ _ (Below.refl _ _) rfl
    refine Each.cons (OpGoal.guarded (j := 56) (d := 139) hds rfl rfl rfl (fun v _ h => h) (fun a1 w1 hB hL1 hk K hK => ?_)) ?_
    · have s143 : a1.tmps.getD 143 undef = .slice A na ca := (hk 60 rfl).is rfl (fun _ h => h)
      clear hk hL1
      go_simp
      refine (hPut2.out _ (LIFT10.out _ (L13.out _ hB))).mono ?_
      rintro e w2 ⟨vP, rfl, ownP, bP⟩
      exact hK _ _ bP ⟨_, ownP⟩
    refine Each.cons (OpGoal.guarded (j := 56) (d := 139) hds rfl rfl rfl (fun v _ h => h) (fun a1 w1 hB hL1 hk K hK => ?_)) ?_
    · obtain ⟨vP, s144, B, hO⟩ := (hk 61 rfl).slot rfl
      have hc := own_conv hO
      clear hk hL1
      go_simp
      exact hK _ _ (Below.refl _ _) rfl
    refine Each.cons (OpGoal.guarded (j := 56) (d := 139) hds rfl rfl rfl (fun v _ h => h) (fun a1 w1 hB hL1 hk K hK => ?_)) ?_
    · have s142 : a1.tmps.getD 142 undef = .string ⟨(rowB a).toArray⟩ := (hk 59 rfl).is rfl (fun _ h => h)
      have s145 : a1.tmps.getD 145 undef = .string ⟨(rowB a).toArray⟩ := (hk 62 rfl).is rfl (fun _ h => h)
      clear hk hL1
      go_simp
      exact hK _ _ (Below.refl _ _) rfl
    refine Each.cons (OpGoal.free rfl (fun a1 w1 hB hL1 hk K hK => ?_)) ?_
    · have s139 : a1.tmps.getD 139 undef = .bool true := (hk 56 rfl).is rfl (fun _ h => h)
      have s146 : a1.tmps.getD 146 undef = .bool true := (hk 63 rfl).is rfl (fun _ h => h)
      clear hk hL1
      go_simp
      exact hK _ _ (Below.refl _ _) rfl
    refine Each.cons (OpGoal.free rfl (fun a1 w1 hB hL1 hk K hK => ?_)) ?_
    · have s147 : a1.tmps.getD 147 undef = .bool true := (hk 64 rfl).is rfl (fun _ h => h)
      clear hk hL1
      go_simp
      exact hK _ _ (Below.refl _ _) rfl
    refine Each.cons (OpGoal.guarded (j := 65) (d := 148) hds rfl rfl rfl (fun v _ h => h) (fun a1 w1 hB hL1 hk K hK => ?_)) ?_
    · have s15 : a1.tmps.getD 15 undef = .slice A9 n9 c9 := hL1.old rfl g15
      clear hk hL1
      go_simp
      exact hK _ _ (Below.refl _ _) rfl
    refine Each.cons (OpGoal.guarded (j := 65) (d := 148) hds rfl rfl rfl (fun v _ h => h) (fun a1 w1 hB hL1 hk K hK => ?_)) ?_
    · have s16 : a1.tmps.getD 16 undef = .slice A10 n10 c10 := hL1.old rfl g16
      clear hk hL1
      go_simp
      exact hK _ _ (Below.refl _ _) rfl
    refine Each.cons (OpGoal.guarded (j := 65) (d := 148) hds rfl rfl rfl (fun v _ h => h) (fun a1 w1 hB hL1 hk K hK => ?_)) ?_
    · have s149 : a1.tmps.getD 149 undef = .slice A9 n9 c9 := (hk 66 rfl).is rfl (fun _ h => h)
      have s150 : a1.tmps.getD 150 undef = .slice A10 n10 c10 := (hk 67 rfl).is rfl (fun _ h => h)
      clear hk hL1
      go_simp
      refine (hKeep.out _ (L13.out _ hB)).mono ?_
      rintro e w2 ⟨rfl, b⟩
      exact hK _ _ b rfl
    refine Each.cons (OpGoal.free rfl (fun a1 w1 hB hL1 hk K hK => ?_)) ?_
    · have s148 : a1.tmps.getD 148 undef = .bool true := (hk 65 rfl).is rfl (fun _ h => h)
      have s151 : a1.tmps.getD 151 undef = .bool true := (hk 68 rfl).is rfl (fun _ h => h)
      clear hk hL1
      go_simp
      exact hK _ _ (Below.refl _ _) rfl
    refine Each.cons (OpGoal.free rfl (fun a1 w1 hB hL1 hk K hK => ?_)) ?_
    · have s152 : a1.tmps.getD 152 undef = .bool true := (hk 69 rfl).is rfl (fun _ h => h)
      clear hk hL1
      go_simp
      exact hK _ _ (Below.refl _ _) rfl
    refine Each.cons (OpGoal.guarded (j := 70) (d := 153) hds rfl rfl rfl (fun v _ h => h) (fun a1 w1 hB hL1 hk K hK => ?_)) ?_
    · have s17 : a1.tmps.getD 17 undef = .int .i64 eE := hL1.old rfl g17
      clear hk hL1
      go_simp
      exact hK _ _ (Below.refl _ _) rfl
    refine Each.cons (OpGoal.guarded (j := 70) (d := 153) hds rfl rfl rfl (fun v _ h => h) (fun a1 w1 hB hL1 hk K hK => ?_)) ?_
    · have s19 : a1.tmps.getD 19 undef = .int .i64 eE := hL1.old rfl g19
      clear hk hL1
      go_simp
      exact hK _ _ (Below.refl _ _) rfl
    refine Each.cons (OpGoal.guarded (j := 70) (d := 153) hds rfl rfl rfl (fun v _ h => h) (fun a1 w1 hB hL1 hk K hK => ?_)) ?_
    · have s154 : a1.tmps.getD 154 undef = .int .i64 eE := (hk 71 rfl).is rfl (fun _ h => h)
      have s155 : a1.tmps.getD 155 undef = .int .i64 eE := (hk 72 rfl).is rfl (fun _ h => h)
      clear hk hL1
      go_simp
      exact hK _ _ (Below.refl _ _) rfl
    refine Each.cons (OpGoal.free rfl (fun a1 w1 hB hL1 hk K hK => ?_)) ?_
    · have s153 : a1.tmps.getD 153 undef = .bool true := (hk 70 rfl).is rfl (fun _ h => h)
      have s156 : a1.tmps.getD 156 undef = .bool true := (hk 73 rfl).is rfl (fun _ h => h)
      clear hk hL1
      go_simp
      exact hK _ _ (Below.refl _ _) rfl
    refine Each.cons (OpGoal.free rfl (fun a1 w1 hB hL1 hk K hK => ?_)) ?_
    · have s157 : a1.tmps.getD 157 undef = .bool true := (hk 74 rfl).is rfl (fun _ h => h)
      clear hk hL1
      go_simp
      exact hK _ _ (Below.refl _ _) rfl
    refine Each.cons (OpGoal.guarded (j := 75) (d := 158) hds rfl rfl rfl (fun v _ h => h) (fun a1 w1 hB hL1 hk K hK => ?_)) ?_
    · have s18 : a1.tmps.getD 18 undef = .int .i64 eA := hL1.old rfl g18
      clear hk hL1
      go_simp
      exact hK _ _ (Below.refl _ _) rfl
    refine Each.cons (OpGoal.guarded (j := 75) (d := 158) hds rfl rfl rfl (fun v _ h => h) (fun a1 w1 hB hL1 hk K hK => ?_)) ?_
    · have s20 : a1.tmps.getD 20 undef = .int .i64 eA := hL1.old rfl g20
      clear hk hL1
      go_simp
      exact hK _ _ (Below.refl _ _) rfl
    refine Each.cons (OpGoal.guarded (j := 75) (d := 158) hds rfl rfl rfl (fun v _ h => h) (fun a1 w1 hB hL1 hk K hK => ?_)) ?_
    · have s159 : a1.tmps.getD 159 undef = .int .i64 eA := (hk 76 rfl).is rfl (fun _ h => h)
      have s160 : a1.tmps.getD 160 undef = .int .i64 eA := (hk 77 rfl).is rfl (fun _ h => h)
      clear hk hL1
      go_simp
      exact hK _ _ (Below.refl _ _) rfl
    refine Each.cons (OpGoal.free rfl (fun a1 w1 hB hL1 hk K hK => ?_)) ?_
    · have s158 : a1.tmps.getD 158 undef = .bool true := (hk 75 rfl).is rfl (fun _ h => h)
      have s161 : a1.tmps.getD 161 undef = .bool true := (hk 78 rfl).is rfl (fun _ h => h)
      clear hk hL1
      go_simp
      exact hK _ _ (Below.refl _ _) rfl
    refine Each.cons (OpGoal.free rfl (fun a1 w1 hB hL1 hk K hK => ?_)) ?_
    · have s162 : a1.tmps.getD 162 undef = .bool true := (hk 79 rfl).is rfl (fun _ h => h)
      clear hk hL1
      go_simp
      exact hK _ _ (Below.refl _ _) rfl
    refine Each.cons (OpGoal.guarded (j := 80) (d := 163) hds rfl rfl rfl (fun v _ h => h) (fun a1 w1 hB hL1 hk K hK => ?_)) ?_
    · clear hk hL1
      go_simp
      refine (known5 _).mono ?_
      rintro e w2 ⟨rfl, b⟩
      exact hK _ _ b rfl
    refine Each.cons (OpGoal.free rfl (fun a1 w1 hB hL1 hk K hK => ?_)) ?_
    · have s163 : a1.tmps.getD 163 undef = .bool true := (hk 80 rfl).is rfl (fun _ h => h)
      have s164 : a1.tmps.getD 164 undef = .bool true := (hk 81 rfl).is rfl (fun _ h => h)
      clear hk hL1
      go_simp
      exact hK _ _ (Below.refl _ _) rfl
    refine Each.cons (OpGoal.free rfl (fun a1 w1 hB hL1 hk K hK => ?_)) ?_
    · have s165 : a1.tmps.getD 165 undef = .bool true := (hk 82 rfl).is rfl (fun _ h => h)
      clear hk hL1
      go_simp
      exact hK _ _ (Below.refl _ _) rfl
    exact trivial
  · rintro ⟨tm, df⟩ w1 hB hL1 hk
    obtain rfl : df = [] := hL1.defers
    have s10 : tm.getD 10 undef = .bool true := (hk 83 (by decide)).is rfl (fun _ h => h)
    clear hk hL1
    go_wp2_with fail
    go_ret
    exact ⟨congrArg Ending.returned s10, LIFT10.out _ (L13.out _ hB)⟩
end Go.Proofs.Ytabhkfpglhfiiaa
