/-
  The statement's own test: what stands where it says is found so.
-/
import Derived.Test.YtldleckgkgeclaaDoorSxL
import Derived.Test.YtldleckgkgeclaaDoorSxW
set_option linter.unusedVariables false
set_option linter.unusedSimpArgs false
namespace Go.Proofs.YtldleckgkgeclaaDoor
open Go.RowKit
def PlacedOk (s : ByteArray) (t : T) : Prop := ∀ (f tp : Nat) (A : Option Addr) (c : Nat) (w : World), PlT s t f tp → t.kids.length ≤ c → TKids w w.heap.size A t.kids →
  Calls Tryd.prog 9 #[t.val A c, .string s, .int .i64 (f : Int), .int .i64 (tp : Int)] w fun e w' => e = .returned (.bool true) ∧ Below w.heap.size w w'
theorem chL_cons {s : ByteArray} {e : T} {r : List T} {f tp : Nat} (h : ChL s (e :: r) f tp) : ChL s r (e.at_.toNat + 1) tp := by unfold ChL at h; exact h.2
theorem chL_one {s : ByteArray} {e : T} {f tp : Nat} (h : ChL s [e] f tp) : PlT s e f tp := by unfold ChL at h; exact h.1
theorem chL_two {s : ByteArray} {e e2 : T} {r : List T} {f tp : Nat} (h : ChL s (e :: e2 :: r) f tp) : PlT s e f e2.at_.toNat ∧ e2.at_.toNat ≤ tp ∧ e2.at_ = (e2.at_.toNat : Int) := by
  have h2 := chL_cons h
  unfold ChL at h
  refine ⟨h.1.1, h.1.2, ?_⟩
  cases r with
  | nil => exact (chL_one h2).parts.1
  | cons e3 r => unfold ChL at h2; exact h2.1.1.parts.1
theorem drop_at {l : List T} {j : Nat} {x : T} (h : l[j]? = some x) : l.drop j = x :: l.drop (j + 1) := by
  obtain ⟨h1, h2⟩ := List.getElem?_eq_some_iff.1 h
  rw [List.drop_eq_getElem_cons h1, h2]
set_option linter.unusedSimpArgs false in
set_option maxRecDepth 100000 in
set_option maxHeartbeats 8000000 in
theorem placed_step (s : ByteArray) (hs : s.size ≤ 600) (k : Int) (x : ByteArray) (n : Int) (l : List T) (a : Int) (hM : ∀ t ∈ l, PlacedOk s t) : PlacedOk s (.mk k x n l a) := by
  intro f tp A c w hp hcap hA
  simp only [T.val, T.k, T.s, T.n, T.kids, T.at_] at hcap hA ⊢
  unfold PlT at hp
  obtain ⟨i, rfl, hfi, hit, hts, hcase⟩ := hp
  have his : i < s.size := by omega
  have HBT := Lib.hid (bt_eq his)
  obtain ⟨ln, eln⟩ : ∃ ln, ln = l.length := ⟨_, rfl⟩
  have hlen : l.length ≤ 9223372036854775807 := hA.len
  rw [← eln] at hcap hlen ⊢
  obtain ⟨w1, ew1⟩ : ∃ w1, w1 = w.alloc (.cells #[.int .i64 k, .string x, .int .i64 n, .slice A ln c, .int .i64 (i : Int)] 24) := ⟨_, rfl⟩
  have hb1 : Below w.heap.size w w1 := by rw [ew1]; exact (Below.refl _ _).alloc (Nat.le_refl _) _
  have hs1 : w1.heap.size = w.heap.size + 1 := by rw [ew1]; simp
  have hx1 : w1.heap[w.heap.size]? = some (.cells #[.int .i64 k, .string x, .int .i64 n, .slice A ln c, .int .i64 (i : Int)] 24 (0, 0)) := by rw [ew1]; exact heap_alloc_new w _
  have HW1 := Lib.hid ew1
  have HB1 := Lib.hid hb1
  have HX1 := Lib.hid hx1
  have HK := Lib.hid hA
  have HM := Lib.hid hM
  have HLN := Lib.hid eln
  obtain ⟨⟨k0, k1, k2, k3, k4⟩, _, _, _, _, _⟩ := cell5 hx1
  have hf0 : decide ((i : Int) < (f : Int)) = false := decide_eq_false (by omega)
  have ht0 : decide ((tp : Int) ≤ (i : Int)) = false := decide_eq_false (by omega)
  have hf0n : decide (i < f) = false := decide_eq_false (by omega)
  have ht0n : decide (tp ≤ i) = false := decide_eq_false (by omega)
  clear ew1 hb1 hx1 hA hM eln hf0 ht0
  rcases hcase with ⟨rfl, h40, hch⟩ | ⟨hl0, hleaf⟩
  · have c40 : ((s[i].toNat : Int) == 40) = true := by rw [← HBT.out]; simpa using h40
    have HCH := Lib.hid hch
    clear h40 hch
    go_enter Tryd.func9, Tryd.ntmps9
    go_upto_region 1 with (fail)
    rw [← HW1.out]
    go_wp2_with fail
    go_loopw [10, 11] (fun u v wr => ∃ (j F : Nat), j ≤ ln ∧ u = .int .i64 (F : Int) ∧ v = .int .i64 (j : Int) ∧ F ≤ 600 ∧ Hid (ChL s (l.drop j) F tp) ∧ Below w1.heap.size w1 wr) (fun _ v _ => ln - (intOf v).toNat)
    case atStart => exact ⟨0, i + 1, Nat.zero_le _, by go_num, rfl, by omega, by simpa using HCH, Below.refl _ _⟩
    case round =>
      obtain ⟨j, F, hj, rfl, rfl, hF6, hCH, hbw⟩ := hrel
      obtain ⟨⟨k0, k1, k2, k3, k4⟩, _, _, _, _, _⟩ := cell5 ((hbw.block _ (by omega)).trans HX1.out)
      have HBW := Lib.hid (HB1.out.trans (hbw.mono (by omega)))
      have HB2 := Lib.hid hbw
      have hsw := hbw.size
      clear hbw
      by_cases hlt : j < ln
      · obtain ⟨e, he⟩ : ∃ e, l[j]? = some e := ⟨_, List.getElem?_eq_getElem (by rw [← HLN.out]; exact hlt)⟩
        have hdr := drop_at he
        have hch := hCH.out
        rw [hdr] at hch
        obtain ⟨b, o, A', c', hAe, hbl, c1, c2, c3, c4, c5, hcx, hKx⟩ := HK.out.get_ wr HBW.out j e he
        subst hAe
        have hMe := HM.out e (List.mem_of_getElem? he)
        have HNX := Lib.hid (chL_cons hch)
        by_cases hl2 : j + 1 < ln
        · obtain ⟨e2, he2⟩ : ∃ e2, l[j + 1]? = some e2 := ⟨_, List.getElem?_eq_getElem (by rw [← HLN.out]; exact hl2)⟩
          rw [drop_at he2] at hch
          obtain ⟨hp1, hp2, hp3⟩ := chL_two hch
          obtain ⟨b2, o2, A2, c2', hAe2, _, _, _, _, _, d5, _, _⟩ := HK.out.get_ wr HBW.out (j + 1) e2 he2
          injection hAe2 with hAe2
          injection hAe2 with hb2 ho2
          subst hb2 ho2
          rw [hp3] at d5
          obtain ⟨E2, hE2⟩ : ∃ E2, E2 = e2.at_.toNat := ⟨_, rfl⟩
          rw [← hE2] at d5 hp1 hp2
          obtain ⟨j1, hj1⟩ : ∃ j1, j1 = j + 1 := ⟨_, rfl⟩
          have ej : ((j : Int) + 1) = (j1 : Int) := by omega
          rw [← hj1] at d5
          have hjl : (j1 : Int) < (ln : Int) := by omega
          have hgt : decide ((tp : Int) < (E2 : Int)) = false := decide_eq_false (by omega)
          have hgtn : ¬ tp < E2 := by omega
          have hgtd : decide (tp < E2) = false := decide_eq_false hgtn
          have hle : E2 ≤ tp := by omega
          have hat := hp1.parts
          have hcl := Lib.hid (hMe F E2 A' c' wr hp1 hcx hKx)
          have HEA := Lib.hid hat.1
          have HJ1 := Lib.hid hj1
          have ha6 : e.at_.toNat + 1 ≤ 600 := by omega
          clear hMe hp1 hp2 hp3 hE2 hat hdr hch he he2 hKx hj1
          obtain ⟨ek, es, en, el, ea⟩ := e
          simp only [T.val, T.k, T.s, T.n, T.kids, T.at_] at c1 c2 c3 c4 c5 hcl HEA HNX ha6
          obtain ⟨ea', hea'⟩ : ∃ ea', ea' = ea.toNat := ⟨_, rfl⟩
          rw [← hea'] at HEA HNX ha6
          rw [HEA.out] at c5 hcl
          clear hea' HEA hcx
          generalize el.length = eln at *
          go_wp2_with fail
          refine (hcl.out).mono ?_
          rintro r w2 ⟨rfl, hb2⟩
          have hs2 := hb2.size
          have d5' := (hb2.cell (p := ⟨b, o + j * 5 + 4, none⟩) (by show b < _; omega)).trans c5
          obtain ⟨⟨k0, k1, k2, k3, k4⟩, _, _, _, _, _⟩ := cell5 ((hb2.block w.heap.size (by omega)).trans ((HB2.out.block _ (by omega)).trans HX1.out))
          have HB3 := Lib.hid (HB2.out.trans (hb2.mono hsw))
          clear hb2
          go_wp2_with fail
          go_roundw
          case rel => exact ⟨j + 1, ea' + 1, by omega, by go_num, by first | go_num | (have := HJ1.out; subst this; go_num) | (rw [HJ1.out]; rfl), ha6, HNX, HB3.out⟩
          case measure => simp [intOf]; have := HJ1.out; omega
        · have e0 : l.drop (j + 1) = [] := List.drop_eq_nil_iff.2 (by rw [← HLN.out]; omega)
          rw [e0] at hch
          have hp1 := chL_one hch
          obtain ⟨j1, hj1⟩ : ∃ j1, j1 = j + 1 := ⟨_, rfl⟩
          have ej : ((j : Int) + 1) = (j1 : Int) := by omega
          have hjl : ¬ j1 < ln := by omega
          have hjd : decide (j1 < ln) = false := decide_eq_false hjl
          have hgtn : ¬ tp < tp := Nat.lt_irrefl _
          have hgtd : decide (tp < tp) = false := decide_eq_false hgtn
          have hat := hp1.parts
          have hcl := Lib.hid (hMe F tp A' c' wr hp1 hcx hKx)
          have HEA := Lib.hid hat.1
          have HJ1 := Lib.hid hj1
          have ha6 : e.at_.toNat + 1 ≤ 600 := by omega
          clear hMe hp1 hat hdr hch he hKx hj1
          obtain ⟨ek, es, en, el, ea⟩ := e
          simp only [T.val, T.k, T.s, T.n, T.kids, T.at_] at c1 c2 c3 c4 c5 hcl HEA HNX ha6
          obtain ⟨ea', hea'⟩ : ∃ ea', ea' = ea.toNat := ⟨_, rfl⟩
          rw [← hea'] at HEA HNX ha6
          rw [HEA.out] at c5 hcl
          clear hea' HEA hcx
          generalize el.length = eln at *
          go_wp2_with fail
          refine (hcl.out).mono ?_
          rintro r w2 ⟨rfl, hb2⟩
          have hs2 := hb2.size
          have d5' := (hb2.cell (p := ⟨b, o + j * 5 + 4, none⟩) (by show b < _; omega)).trans c5
          obtain ⟨⟨k0, k1, k2, k3, k4⟩, _, _, _, _, _⟩ := cell5 ((hb2.block w.heap.size (by omega)).trans ((HB2.out.block _ (by omega)).trans HX1.out))
          have HB3 := Lib.hid (HB2.out.trans (hb2.mono hsw))
          clear hb2
          go_wp2_with fail
          go_roundw
          case rel => exact ⟨j + 1, ea' + 1, by omega, by go_num, by first | go_num | (have := HJ1.out; subst this; go_num) | (rw [HJ1.out]; rfl), ha6, HNX, HB3.out⟩
          case measure => simp [intOf]; have := HJ1.out; omega
      · obtain rfl : j = ln := by omega
        go_wp2_with fail
        (try simp only [Exit.inBlock, Exit.then])
        go_ret
        exact ⟨by first | rfl | (rw [c40]; rfl), HBW.out⟩
  · subst hl0
    rcases hleaf with ⟨rfl, hlet, hxz, hx0⟩ | ⟨rfl, hnum⟩ | ⟨rfl, h34⟩
    · unfold letP at hlet
      simp only [Bool.and_eq_true, decide_eq_true_eq] at hlet
      rw [HBT.out] at hlet hx0
      rw [bt_eq hxz] at hx0
      obtain ⟨g1, g2⟩ := hlet
      have hq : ((x[0].toNat : Int) == (s[i].toNat : Int)) = true := by rw [hx0]; simp
      have q1 : decide (97 ≤ (s[i].toNat : Int)) = true := decide_eq_true g1
      have q2 : decide ((s[i].toNat : Int) ≤ 122) = true := decide_eq_true g2
      have q3 : decide (0 < (x.size : Int)) = true := decide_eq_true (by omega)
      have q4 : decide (0 < x.size) = true := decide_eq_true hxz
      clear hx0
      go_enter Tryd.func9, Tryd.ntmps9
      go_upto_region 1 with (fail)
      rw [← HW1.out]
      go_wp2_with fail
      go_ret
      exact ⟨by first | rfl | (rw [hq]; rfl) | simp [*], HB1.out⟩
    · rcases hnum with ⟨h45, hn0⟩ | ⟨h45, hdg, hn0⟩
      · have q1 : ((s[i].toNat : Int) == 45) = true := by rw [← HBT.out]; simpa using h45
        have q2 : decide (n ≤ 0) = true := decide_eq_true hn0
        clear h45
        go_enter Tryd.func9, Tryd.ntmps9
        go_upto_region 1 with (fail)
        rw [← HW1.out]
        go_wp2_with fail
        go_ret
        exact ⟨by first | rfl | simp [*], HB1.out⟩
      · have q1 : ((s[i].toNat : Int) == 45) = false := by rw [← HBT.out]; simpa using h45
        unfold digP at hdg
        simp only [Bool.and_eq_true, decide_eq_true_eq] at hdg
        rw [HBT.out] at hdg
        obtain ⟨g1, g2⟩ := hdg
        have q2 : decide (0 ≤ n) = true := decide_eq_true hn0
        have q3 : decide (48 ≤ (s[i].toNat : Int)) = true := decide_eq_true g1
        have q4 : decide ((s[i].toNat : Int) ≤ 57) = true := decide_eq_true g2
        clear h45
        go_enter Tryd.func9, Tryd.ntmps9
        go_upto_region 1 with (fail)
        rw [← HW1.out]
        go_wp2_with fail
        go_ret
        exact ⟨by first | rfl | simp [*], HB1.out⟩
    · have q1 : ((s[i].toNat : Int) == 34) = true := by rw [← HBT.out]; simpa using h34
      clear h34
      go_enter Tryd.func9, Tryd.ntmps9
      go_upto_region 1 with (fail)
      rw [← HW1.out]
      go_wp2_with fail
      go_ret
      exact ⟨by first | rfl | (rw [q1]; rfl) | simp [*], HB1.out⟩
theorem placed_any (s : ByteArray) (hs : s.size ≤ 600) : ∀ t, PlacedOk s t := T.ind (fun k x n l a h => placed_step s hs k x n l a h)
end Go.Proofs.YtldleckgkgeclaaDoor
