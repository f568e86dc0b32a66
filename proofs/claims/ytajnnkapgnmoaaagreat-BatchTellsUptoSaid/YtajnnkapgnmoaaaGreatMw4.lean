/-
  Package row's contracts: reserved, Name, Columns.
-/
import Derived.Test.YtajnnkapgnmoaaaGreatMw0
import Derived.Deep.RegionHeld3
import Derived.Test.YtajnnkapgnmoaaaGreatMw3
import Derived.Lib.AppendZeros
set_option linter.unusedVariables false
set_option linter.unusedSimpArgs false
namespace Go.Proofs.YtajnnkapgnmoaaaGreat
open Go.RowKit

/-- the words that are none of names -/
def reservedL : List (List UInt8) := [[116, 97, 98, 108, 101], [102, 105, 108, 116, 101, 114], [112, 114, 111, 106, 101, 99, 116], [106, 111, 105, 110], [117, 110, 105, 111, 110], [100, 105, 115, 116, 105, 110, 99, 116], [103, 114, 111, 117, 112], [99, 111, 117, 110, 116], [115, 117, 109], [109, 105, 110], [109, 97, 120], [97, 100, 100], [115, 117, 98], [109, 117, 108], [110, 101, 103], [101, 113], [108, 116], [97, 110, 100], [111, 114], [110, 111, 116], [99, 97, 116], [108, 101, 110], [105, 102]]
def resB (s : ByteArray) : Bool := reservedL.any fun x => s.toList == x

theorem any_false {α : Type} {l : List α} {p : α → Bool} (h : l.any p = false) : ∀ x ∈ l, p x = false := by
  simpa [List.any_eq_false] using h

set_option maxHeartbeats 4000000 in
theorem reserved_any (s : ByteArray) (w : World) : Calls Tryz.prog 126 #[.string s] w fun e w' => e = .returned (.bool (resB s)) ∧ w = w' := by
  by_cases h : resB s = true
  · rw [h]
    obtain ⟨x, hx, e⟩ := List.any_eq_true.1 h
    have hs : s.toList = x := by simpa using e
    clear h e
    subst hs
    simp only [reservedL, List.mem_cons, List.not_mem_nil, or_false] at hx
    rcases hx with hx | hx | hx | hx | hx | hx | hx | hx | hx | hx | hx | hx | hx | hx | hx | hx | hx | hx | hx | hx | hx | hx | hx
    all_goals
      go_enter Tryz.func126, Tryz.ntmps126
      go_wp2
      go_ret
      exact ⟨rfl, rfl⟩
  · have h' : resB s = false := by simpa using h
    rw [h']
    have hn := any_false h'
    clear h h'
    simp only [reservedL, List.mem_cons, List.not_mem_nil, or_false, forall_eq_or_imp, forall_eq] at hn
    obtain ⟨h0, h1, h2, h3, h4, h5, h6, h7, h8, h9, h10, h11, h12, h13, h14, h15, h16, h17, h18, h19, h20, h21, h22⟩ := hn
    go_enter Tryz.func126, Tryz.ntmps126
    go_wp2
    go_ret
    exact ⟨rfl, rfl⟩

def lowL (l : List UInt8) : Bool := l.all fun c => decide (97 ≤ (c.toNat : Int)) && decide ((c.toNat : Int) ≤ 122)
theorem lowL_step (s : ByteArray) (k : Nat) (h : k < s.size) : lowL (s.data.toList.drop k) = ((decide (97 ≤ (s[k].toNat : Int)) && decide ((s[k].toNat : Int) ≤ 122)) && lowL (s.data.toList.drop (k + 1))) := by
  rw [List.drop_eq_getElem_cons (by simpa using h)]
  rfl
def nameB (s : ByteArray) : Bool := ((!s.toList.isEmpty && decide (s.size ≤ 12)) && !resB s) && lowL s.data.toList

set_option maxHeartbeats 400000 in
theorem name_loop (s : ByteArray) (w : World) (h1 : s.toList.isEmpty = false) (h2 : s.size ≤ 12) (h3 : resB s = false) :
    Calls Tryz.prog 98 #[.string s] w fun e w' => e = .returned (.bool (lowL s.data.toList)) ∧ w = w' := by
  have HR := Lib.hid (reserved_any s)
  rw [h3] at HR
  clear h3
  have hd : decide (12 < (s.size : Int)) = false := by simp; omega
  go_enter Tryz.func98, Tryz.ntmps98
  go_wp2_with fail
  refine (HR.out _).mono ?_
  rintro e w' ⟨rfl, rfl⟩
  go_wp2_with fail
  go_loop [17] (fun i => ∃ k : Nat, k ≤ s.size ∧ i = .int .i64 k ∧ Hid (lowL s.data.toList = lowL (s.data.toList.drop k))) (fun i => s.size - (intOf i).toNat)
  case atStart => exact ⟨0, Nat.zero_le _, rfl, rfl⟩
  case round =>
    obtain ⟨k, hk, rfl, hz⟩ := hrel
    by_cases hlt : k < s.size
    · have hst := Lib.hid (hz.out.trans (lowL_step s k hlt))
      clear hz
      by_cases a1 : 97 ≤ (s[k].toNat : Int)
      · by_cases a2 : (s[k].toNat : Int) ≤ 122
        · rw [decide_eq_true a1, decide_eq_true a2] at hst
          have hst' : Hid (lowL s.data.toList = lowL (s.data.toList.drop (k + 1))) := by
            have := hst.out; rwa [Bool.and_self, Bool.true_and] at this
          clear hst
          go_wp2_with fail
          go_round
          case rel => exact ⟨k + 1, by omega, by go_num, hst'⟩
          case measure => simp [intOf]; omega
        · have hst' : Hid (lowL s.data.toList = false) := by
            have := hst.out; rwa [decide_eq_false a2, Bool.and_false, Bool.false_and] at this
          clear hst
          go_wp2_with fail
          go_ret
          exact ⟨by rw [hst'.out]; rfl, rfl⟩
      · have hst' : Hid (lowL s.data.toList = false) := by
          have := hst.out; rwa [decide_eq_false a1, Bool.false_and, Bool.false_and] at this
        clear hst
        go_wp2_with fail
        go_ret
        exact ⟨by rw [hst'.out]; rfl, rfl⟩
    · go_wp2_with fail
      go_ret
      have e : k = s.size := by omega
      subst e
      exact ⟨by rw [hz.out, List.drop_of_length_le (by simp)]; rfl, rfl⟩

theorem name_any (s : ByteArray) (w : World) : Calls Tryz.prog 98 #[.string s] w fun e w' => e = .returned (.bool (nameB s)) ∧ w = w' := by
  by_cases h1 : s.toList.isEmpty = true
  · have e0 : nameB s = false := by simp [nameB, h1]
    rw [e0]
    clear e0
    go_enter Tryz.func98, Tryz.ntmps98
    go_wp2
    go_ret
    exact ⟨rfl, rfl⟩
  · have h1' : s.toList.isEmpty = false := by simpa using h1
    clear h1
    by_cases h2 : s.size ≤ 12
    · by_cases h3 : resB s = true
      · have e0 : nameB s = false := by simp [nameB, h3]
        rw [e0]
        have HR := Lib.hid (reserved_any s)
        rw [h3] at HR
        clear h3 e0
        go_enter Tryz.func98, Tryz.ntmps98
        go_wp2_with fail
        refine (HR.out _).mono ?_
        rintro e w' ⟨rfl, rfl⟩
        go_wp2_with fail
        go_ret
        exact ⟨rfl, rfl⟩
      · have h3' : resB s = false := by simpa using h3
        have e0 : nameB s = lowL s.data.toList := by simp [nameB, h1', h2, h3']
        rw [e0]
        exact name_loop s w h1' h2 h3'
    · have e0 : nameB s = false := by simp [nameB, h2]
      rw [e0]
      clear e0
      go_enter Tryz.func98, Tryz.ntmps98
      go_wp2
      go_ret
      exact ⟨rfl, rfl⟩

end Go.Proofs.YtajnnkapgnmoaaaGreat
/-
  Package row's contract: Columns.
-/
namespace Go.Proofs.YtajnnkapgnmoaaaGreat
open Go.RowKit

def kindB (k : Int) : Bool := k == 1 || k == 2
/-- why columns may not be: 'pre' are those ahead -/
def colsR (pre : List C) : List C → Int
  | [] => 0
  | c :: r => if (!(nameB c.nm)) || !(kindB c.k) then 20 else if findB pre c.nm then 21 else colsR (pre ++ [c]) r
theorem colsR_step {l : List C} {k : Nat} {c : C} (h : l[k]? = some c) :
    colsR (l.take k) (l.drop k) = if (!(nameB c.nm)) || !(kindB c.k) then 20 else if findB (l.take k) c.nm then 21 else colsR (l.take (k + 1)) (l.drop (k + 1)) := by
  obtain ⟨h1, e1⟩ := List.getElem?_eq_some_iff.1 h
  rw [List.drop_eq_getElem_cons h1, e1, List.take_succ_eq_append_getElem h1, e1]
  rfl
def colsE (l : List C) : Int := if decide (l.length = 0) || decide (6 < l.length) then 23 else colsR [] l

theorem CAt.take {w : World} {b o : Nat} {l : List C} (h : CAt w b o l) (k : Nat) : CAt w b o (l.take k) := fun i c hc => h i c (by
  rw [List.getElem?_take] at hc
  split at hc
  · exact hc
  · cases hc)

set_option maxHeartbeats 1000000 in
theorem columns_full (b o n c : Nat) (l : List C) (hl : l.length = n) (hn : n ≤ 6) (hnc : n ≤ c) (hp : 0 < n) (w : World) (hb : b < w.heap.size) (hL : CAt w b o l) :
    Calls Tryz.prog 101 #[.slice (some ⟨b, o, none⟩) n c] w fun e w' => e = .returned (.int .i64 (colsR [] l)) ∧ Below w.heap.size w w' := by
  have HL := Lib.hid hL
  have Hl := Lib.hid hl
  clear hL hl
  have hg : ((n : Int) == 0) = false := by simp; omega
  have hd : decide (6 < (n : Int)) = false := by simp; omega
  go_enter Tryz.func101, Tryz.ntmps101
  go_wp2_with fail
  go_loopw [17] (fun i wr => ∃ k : Nat, k ≤ n ∧ i = .int .i64 k ∧ Below w.heap.size w wr ∧ Hid (colsR [] l = colsR (l.take k) (l.drop k))) (fun i _ => n - (intOf i).toNat)
  case atStart => exact ⟨0, Nat.zero_le _, rfl, Below.refl _ _, rfl⟩
  case round =>
    obtain ⟨k, hk, rfl, hbl, hz⟩ := hrel
    have hs := hbl.size
    by_cases hlt : k < n
    · obtain ⟨cc, hc⟩ : ∃ c, l[k]? = some c := ⟨_, List.getElem?_eq_getElem (by rw [Hl.out]; exact hlt)⟩
      have hst := Lib.hid (hz.out.trans (colsR_step hc))
      obtain ⟨c1, c2⟩ := HL.out.below hbl hb k cc hc
      clear hc hz
      obtain ⟨cn, ck⟩ := cc
      have hname := Lib.hid (name_any cn)
      have HB := Lib.hid (hbl.alloc hs (.cells #[.string cn, .int .i64 ck] 100))
      have hfind : Hid (∀ w1, Below w.heap.size w w1 → Calls Tryz.prog 128 #[.slice (some ⟨b, o, none⟩) k c, .string cn] w1 fun e w' =>
          e = .returned (.tuple #[.int .i64 (findN (l.take k) cn), .bool (findB (l.take k) cn)]) ∧ Below w1.heap.size w1 w') := Lib.hid fun w1 hw1 => by
        have := find_any (some ⟨b, o, none⟩) c (l.take k) (by simp; omega) cn w1 (.inr ⟨b, o, rfl, by have := hw1.size; omega, (HL.out.below hw1 hb).take k⟩)
        rwa [List.length_take_of_le (by rw [Hl.out]; omega)] at this
      by_cases hnm : nameB cn = true
      · by_cases hkd : kindB ck = true
        · rw [hnm] at hname
          have hst' : Hid (colsR [] l = if findB (l.take k) cn then 21 else colsR (l.take (k + 1)) (l.drop (k + 1))) := Lib.hid (by rw [hst.out, if_neg (by simp [hnm, hkd])])
          clear hst
          have hcases : ck = 1 ∨ ck = 2 := by
            unfold kindB at hkd
            simpa using hkd
          have hk0 : (0 : Int) ≤ (k : Int) := by omega
          have hk1 : (k : Int) ≤ (c : Int) := by omega
          clear hkd hnm
          generalize findN (l.take k) cn = fn at *
          by_cases hfb : findB (l.take k) cn = true
          · rw [hfb] at hfind
            have hst2 : Hid (colsR [] l = 21) := Lib.hid (by rw [hst'.out, if_pos hfb])
            clear hst' hfb
            rcases hcases with rfl | rfl
            all_goals
              go_wp2_with fail
              refine (hname.out _).mono ?_
              rintro e w' ⟨rfl, rfl⟩
              go_wp2_with fail
              go_region_held3 (fun w' => w'.cell? ⟨wr.heap.size, 0, none⟩ = some (.string cn)) (first | go_keep | (exact (hb3.cell (by simp)).trans (by simp)))
                (first | (go_at_call 128; refine (hfind.out _ HB.out.drew).mono ?_; rintro e w3 ⟨rfl, hb3⟩))
              have HB3 := Lib.hid (HB.out.drew.trans (hb3.mono (by simp; omega)))
              clear hb3
              go_wp2_with fail
              go_ret
              exact ⟨by rw [hst2.out]; rfl, HB3.out⟩
          · have hfb' : findB (l.take k) cn = false := by simpa using hfb
            rw [hfb'] at hfind
            have hst2 : Hid (colsR [] l = colsR (l.take (k + 1)) (l.drop (k + 1))) := Lib.hid (by rw [hst'.out, if_neg hfb])
            clear hst' hfb hfb'
            rcases hcases with rfl | rfl
            all_goals
              go_wp2_with fail
              refine (hname.out _).mono ?_
              rintro e w' ⟨rfl, rfl⟩
              go_wp2_with fail
              go_region_held3 (fun w' => w'.cell? ⟨wr.heap.size, 0, none⟩ = some (.string cn)) (first | go_keep | (exact (hb3.cell (by simp)).trans (by simp)))
                (first | (go_at_call 128; refine (hfind.out _ HB.out.drew).mono ?_; rintro e w3 ⟨rfl, hb3⟩))
              have hb4 := HB.out.drew.trans (hb3.mono (by simp; omega))
              clear hb3
              go_wp2_with fail
              go_roundw
              case rel => exact ⟨k + 1, by omega, by go_num, hb4, hst2⟩
              case measure => simp [intOf]; omega
        · rw [hnm] at hname
          have hst' : Hid (colsR [] l = 20) := Lib.hid (by rw [hst.out, if_pos (by simp [hkd])])
          have h1 : (ck != 1) = true := by unfold kindB at hkd; simp at hkd ⊢; omega
          have h2 : (ck != 2) = true := by unfold kindB at hkd; simp at hkd ⊢; omega
          clear hst hkd hnm hfind
          go_wp2_with fail
          refine (hname.out _).mono ?_
          rintro e w' ⟨rfl, rfl⟩
          go_wp2_with fail
          go_ret
          exact ⟨by rw [hst'.out]; rfl, HB.out⟩
      · have hnm' : nameB cn = false := by simpa using hnm
        rw [hnm'] at hname
        have hst' : Hid (colsR [] l = 20) := Lib.hid (by rw [hst.out, if_pos (by simp [hnm'])])
        clear hst hnm hnm' hfind
        go_wp2_with fail
        refine (hname.out _).mono ?_
        rintro e w' ⟨rfl, rfl⟩
        go_wp2_with fail
        go_ret
        exact ⟨by rw [hst'.out]; rfl, HB.out⟩
    · have hst : Hid (colsR [] l = 0) := Lib.hid (by rw [hz.out, List.drop_of_length_le (by rw [Hl.out]; omega)]; rfl)
      clear hz
      go_wp2_with fail
      go_ret
      exact ⟨by rw [hst.out]; rfl, hbl⟩

theorem columns_any (A : Option Addr) (c : Nat) (l : List C) (hl : l.length ≤ 9223372036854775807) (hc : l.length ≤ c) (w : World) (hA : CRow w w.heap.size A l) :
    Calls Tryz.prog 101 #[.slice A l.length c] w fun e w' => e = .returned (.int .i64 (colsE l)) ∧ Below w.heap.size w w' := by
  by_cases h0 : l.length = 0
  · have e0 : colsE l = 23 := by simp [colsE, h0]
    rw [e0, h0]
    clear hA h0 e0
    go_enter Tryz.func101, Tryz.ntmps101
    go_wp2
    go_ret
    exact ⟨rfl, Below.refl _ _⟩
  · by_cases h6 : 6 < l.length
    · have e0 : colsE l = 23 := by simp [colsE, h6]
      have hg : ((l.length : Int) == 0) = false := by simp; intro h; subst h; simp at h0
      rw [e0]
      clear hA h0 e0
      generalize l.length = n at *
      go_enter Tryz.func101, Tryz.ntmps101
      go_wp2
      go_ret
      exact ⟨rfl, Below.refl _ _⟩
    · have e0 : colsE l = colsR [] l := by unfold colsE; rw [if_neg]; simp [h0, h6]
      rw [e0]
      rcases hA with rfl | ⟨b, o, rfl, hb, hL⟩
      · exact absurd rfl h0
      · exact columns_full b o l.length c l rfl (by omega) hc (by omega) w hb hL

end Go.Proofs.YtajnnkapgnmoaaaGreat
/-
  Package row's contracts: Fits.
-/
namespace Go.Proofs.YtajnnkapgnmoaaaGreat
open Go.RowKit
def zipB : List C → List V → Bool
  | c :: l, v :: r => (v.okB && v.k == c.k) && zipB l r
  | _, _ => true
theorem zipB_step {l : List C} {r : List V} {k : Nat} {c : C} {v : V} (hc : l[k]? = some c) (hv : r[k]? = some v) :
    zipB (l.drop k) (r.drop k) = ((v.okB && v.k == c.k) && zipB (l.drop (k + 1)) (r.drop (k + 1))) := by
  obtain ⟨h1, e1⟩ := List.getElem?_eq_some_iff.1 hc
  obtain ⟨h2, e2⟩ := List.getElem?_eq_some_iff.1 hv
  rw [List.drop_eq_getElem_cons h1, List.drop_eq_getElem_cons h2, e1, e2]
  rfl
set_option maxHeartbeats 400000 in
theorem fits_full (bl ol br or_ : Nat) (n c d : Nat) (l : List C) (r : List V) (hl : l.length = n) (hr : r.length = n) (hn : n ≤ 9223372036854775807) (w : World)
    (hbl : bl < w.heap.size) (hbr : br < w.heap.size) (hL : CAt w bl ol l) (hR : VAt w br or_ r) :
    Calls Tryz.prog 65 #[.slice (some ⟨bl, ol, none⟩) n d, .slice (some ⟨br, or_, none⟩) n c] w fun e w' => e = .returned (.bool (zipB l r)) ∧ Below w.heap.size w w' := by
  have HL := Lib.hid hL
  have HR := Lib.hid hR
  have Hl := Lib.hid hl
  have Hr := Lib.hid hr
  clear hL hR hl hr
  go_enter Tryz.func65, Tryz.ntmps65
  go_wp2_with fail
  go_loopw [14] (fun i wr => ∃ k : Nat, k ≤ n ∧ i = .int .i64 k ∧ Below w.heap.size w wr ∧ Hid (zipB l r = zipB (l.drop k) (r.drop k))) (fun i _ => n - (intOf i).toNat)
  case atStart => exact ⟨0, Nat.zero_le _, rfl, Below.refl _ _, rfl⟩
  case round =>
    obtain ⟨k, hk, rfl, hb, hz⟩ := hrel
    by_cases hlt : k < n
    · obtain ⟨v, hv⟩ : ∃ v, r[k]? = some v := ⟨_, List.getElem?_eq_getElem (by rw [Hr.out]; exact hlt)⟩
      obtain ⟨cc, hc⟩ : ∃ c, l[k]? = some c := ⟨_, List.getElem?_eq_getElem (by rw [Hl.out]; exact hlt)⟩
      have hst := Lib.hid (zipB_step hc hv)
      obtain ⟨v1, v2, v3⟩ := HR.out.below hb hbr k v hv
      obtain ⟨_, c2⟩ := HL.out.below hb hbl k cc hc
      clear hv hc
      obtain ⟨vk, vn, vs⟩ := v
      obtain ⟨cn, ck⟩ := cc
      have hs := hb.size
      have hv := Lib.hid (value_right vk vn vs)
      have hcw : (wr.alloc (.cells #[.int .i64 vk, .int .i64 vn, .string vs] 49)).cell? ⟨bl, ol + k * 2 + 1, none⟩ = some (.int .i64 ck) := by
        rw [World.cell?_alloc_lt _ _ _ (by simp; omega)]; exact c2
      have hBk : Below w.heap.size w ((wr.alloc (.cells #[.int .i64 vk, .int .i64 vn, .string vs] 49)).alloc (.cells #[.int .i64 vk, .int .i64 vn, .string vs] 49)).drew :=
        ((hb.alloc hs _).alloc (by simp; omega) _).drew
      by_cases hok : V.okB ⟨vk, vn, vs⟩ = true
      · rw [hok] at hv hst
        by_cases hkk : (vk == ck) = true
        · have hz' : Hid (zipB l r = zipB (l.drop (k + 1)) (r.drop (k + 1))) := by
            have := hz.out.trans hst.out
            rwa [hkk, Bool.true_and, Bool.true_and] at this
          have hne : (vk != ck) = false := by simpa using hkk
          clear hst hz
          go_wp2_with fail
          go_region_held3 (fun w' => w'.cell? ⟨wr.heap.size, 0, none⟩ = some (.int .i64 vk) ∧ w'.cell? ⟨wr.heap.size, 1, none⟩ = some (.int .i64 vn) ∧ w'.cell? ⟨wr.heap.size, 2, none⟩ = some (.string vs) ∧ w'.cell? ⟨bl, ol + k * 2 + 1, none⟩ = some (.int .i64 ck)) (go_keep)
            (first | (go_at_call 102; refine (hv.out _).mono ?_; rintro e w' ⟨rfl, rfl⟩))
          go_wp2_with fail
          go_roundw
          case rel => exact ⟨k + 1, by omega, by go_num, hBk, hz'⟩
          case measure => simp [intOf]; omega
        · have hkk' : (vk == ck) = false := by simpa using hkk
          have hz' : Hid (zipB l r = false) := by
            have := hz.out.trans hst.out
            rwa [hkk', Bool.and_false, Bool.false_and] at this
          have hne : (vk != ck) = true := by simpa using hkk
          clear hst hz hkk
          go_wp2_with fail
          go_region_held3 (fun w' => w'.cell? ⟨wr.heap.size, 0, none⟩ = some (.int .i64 vk) ∧ w'.cell? ⟨wr.heap.size, 1, none⟩ = some (.int .i64 vn) ∧ w'.cell? ⟨wr.heap.size, 2, none⟩ = some (.string vs) ∧ w'.cell? ⟨bl, ol + k * 2 + 1, none⟩ = some (.int .i64 ck)) (go_keep)
            (first | (go_at_call 102; refine (hv.out _).mono ?_; rintro e w' ⟨rfl, rfl⟩))
          go_wp2_with fail
          go_ret
          exact ⟨by rw [hz'.out]; rfl, hBk⟩
      · have hok' : V.okB ⟨vk, vn, vs⟩ = false := by simpa using hok
        rw [hok'] at hv hst
        have hz' : Hid (zipB l r = false) := hz.out.trans hst.out
        clear hst hz hok hok'
        go_wp2_with fail
        refine wp_region_any (by kernel_rfl) ?_
        change wpAny _ _ _ _ _ _ _ (World.drew _)
        refine wpAny_one (i := 0) (by kernel_rfl) rfl (fun K hK => ?_)
        go_simp
        refine hK _ _ ?_
        clear hK K
        refine wpAny_one (i := 1) (by kernel_rfl) rfl (fun K hK => ?_)
        go_simp
        go_wp2_with (go_at_call 102; refine (hv.out _).mono ?_; rintro e w' ⟨rfl, rfl⟩)
        refine wpAny_one (i := 2) (by kernel_rfl) rfl (fun K hK => ?_)
        go_simp
        refine hK _ _ ?_
        clear hK K
        refine wpAny_one (i := 3) (by kernel_rfl) rfl (fun K hK => ?_)
        go_simp
        refine hK _ _ ?_
        clear hK K
        refine wpAny_skip (i := 4) rfl (by kernel_rfl) (by kernel_rfl) (by kernel_rfl) (fun _ _ _ h => h) (by kernel_rfl) ?_
        refine wpAny_skip (i := 5) rfl (by kernel_rfl) (by kernel_rfl) (by kernel_rfl) (fun _ _ _ h => h) (by kernel_rfl) ?_
        refine wpAny_skip (i := 6) rfl (by kernel_rfl) (by kernel_rfl) (by kernel_rfl) (fun _ _ _ h => h) (by kernel_rfl) ?_
        refine wpAny_skip (i := 7) rfl (by kernel_rfl) (by kernel_rfl) (by kernel_rfl) (fun _ _ _ h => h) (by kernel_rfl) ?_
        refine wpAny_skip (i := 8) rfl (by kernel_rfl) (by kernel_rfl) (by kernel_rfl) (fun _ _ _ h => h) (by kernel_rfl) ?_
        refine wpAny_skip (i := 9) rfl (by kernel_rfl) (by kernel_rfl) (by kernel_rfl) (fun _ _ _ h => h) (by kernel_rfl) ?_
        refine wpAny_skip (i := 10) rfl (by kernel_rfl) (by kernel_rfl) (by kernel_rfl) (fun _ _ _ h => h) (by kernel_rfl) ?_
        refine wpAny_skip (i := 11) rfl (by kernel_rfl) (by kernel_rfl) (by kernel_rfl) (fun _ _ _ h => h) (by kernel_rfl) ?_
        refine wpAny_one (i := 12) (by kernel_rfl) rfl (fun K hK => ?_)
        go_simp
        refine hK _ _ ?_
        clear hK K
        refine wpAny_done (by kernel_rfl) ?_ _
        go_wp2_with fail
        go_ret
        exact ⟨by rw [hz'.out]; rfl, hBk⟩
    · go_wp2_with fail
      go_ret
      have e : k = n := by omega
      subst e
      exact ⟨by rw [hz.out, List.drop_of_length_le (by rw [Hl.out]; omega)]; rfl, hb⟩

def fitsB (l : List C) (r : List V) : Bool := decide (l.length = r.length) && zipB l r

theorem fits_any (A D : Option Addr) (c d : Nat) (l : List C) (r : List V) (hl : l.length ≤ 9223372036854775807) (hr : r.length ≤ 9223372036854775807) (w : World)
    (hA : CRow w w.heap.size A l) (hD : VRow w w.heap.size D r) :
    Calls Tryz.prog 65 #[.slice A l.length c, .slice D r.length d] w fun e w' => e = .returned (.bool (fitsB l r)) ∧ Below w.heap.size w w' := by
  by_cases hlen : l.length = r.length
  · have e0 : fitsB l r = zipB l r := by unfold fitsB; rw [decide_eq_true hlen]; rfl
    rw [e0]
    rcases hA with rfl | ⟨bl, ol, rfl, hbl, hL⟩
    · have : r = [] := List.eq_nil_of_length_eq_zero (by simpa using hlen.symm)
      subst this
      clear hD hlen e0 hl hr
      go_enter Tryz.func65, Tryz.ntmps65
      go_wp2
      refine wp_loop_rounds 1 ?_
      rw [rounds_succ]
      go_wp2
      go_ret
      exact ⟨rfl, Below.refl _ _⟩
    · rcases hD with rfl | ⟨br, or_, rfl, hbr, hR⟩
      · have : l = [] := List.eq_nil_of_length_eq_zero (by simpa using hlen)
        subst this
        clear hL hlen e0 hl hr
        go_enter Tryz.func65, Tryz.ntmps65
        go_wp2
        refine wp_loop_rounds 1 ?_
        rw [rounds_succ]
        go_wp2
        go_ret
        exact ⟨rfl, Below.refl _ _⟩
      · have h := fits_full bl ol br or_ r.length d c l r hlen rfl hr w hbl hbr hL hR
        rwa [hlen]
  · have e0 : fitsB l r = false := by unfold fitsB; rw [decide_eq_false hlen]; rfl
    have hne : ((l.length : Int) != (r.length : Int)) = true := by rw [bne_iff_ne]; omega
    rw [e0]
    clear hA hD hlen e0
    go_enter Tryz.func65, Tryz.ntmps65
    go_wp2
    go_ret
    exact ⟨rfl, Below.refl _ _⟩

end Go.Proofs.YtajnnkapgnmoaaaGreat
/-
  Plain laws on rows and columns: no Go in sight.
-/
namespace Go.Proofs.YtajnnkapgnmoaaaGreat
open Go.RowKit

theorem idx_first {α : Type} {p : α → Bool} {l : List α} : ∀ {i : Nat} {x : α} {k : Nat}, l[i]? = some x → p x = true → (k : Int) ≤ idx p l k ∧ idx p l k ≤ (k : Int) + i := by
  induction l with
  | nil => intro i x k h; simp at h
  | cons y l ih =>
    intro i x k h hp
    unfold idx
    by_cases hy : p y = true
    · rw [if_pos hy]; omega
    · rw [if_neg hy]
      cases i with
      | zero =>
        obtain rfl : y = x := by simpa using h
        exact absurd hp hy
      | succ i =>
        have := ih (k := k + 1) (by simpa using h) hp
        omega
theorem idx_at {α : Type} {p : α → Bool} {l : List α} : ∀ {k : Nat}, 0 ≤ idx p l k → ∃ (i : Nat) (x : α), idx p l k = (k : Int) + (i : Nat) ∧ l[i]? = some x ∧ p x = true := by
  induction l with
  | nil => intro k h; simp [idx] at h
  | cons y l ih =>
    intro k h
    unfold idx at h ⊢
    by_cases hy : p y = true
    · rw [if_pos hy]; exact ⟨0, y, by omega, rfl, hy⟩
    · rw [if_neg hy] at h ⊢
      obtain ⟨i, x, e, hx, hp⟩ := ih h
      exact ⟨i + 1, x, by omega, by simpa using hx, hp⟩

theorem find_yes {l : List C} {s : ByteArray} (h : findB l s = true) : ∃ (q : Nat) (x : C), findN l s = (q : Int) ∧ l[q]? = some x ∧ C.isB s x = true ∧ ∀ (i : Nat) (y : C), l[i]? = some y → C.isB s y = true → q ≤ i := by
  unfold findB at h
  have h' : 0 ≤ idx (C.isB s) l 0 := of_decide_eq_true h
  obtain ⟨i, x, e, hx, hp⟩ := idx_at h'
  refine ⟨i, x, ?_, hx, hp, fun j y hy hpy => ?_⟩
  · unfold findN; rw [if_pos h', e]; omega
  · have := (idx_first (p := C.isB s) (k := 0) hy hpy).2
    omega
theorem find_no {l : List C} {s : ByteArray} (h : findB l s = false) : findN l s = 0 ∧ ∀ (i : Nat) (y : C), l[i]? = some y → C.isB s y = false := by
  unfold findB at h
  have h' : ¬ 0 ≤ idx (C.isB s) l 0 := of_decide_eq_false h
  refine ⟨by unfold findN; rw [if_neg h'], fun i y hy => ?_⟩
  cases hp : C.isB s y with
  | false => rfl
  | true => have := (idx_first (p := C.isB s) (k := 0) hy hp).1; omega

theorem cols_len {l : List C} (h : colsE l = 0) : 0 < l.length ∧ l.length ≤ 6 := by
  unfold colsE at h
  split at h
  · omega
  · rename_i h1; simp at h1; have := h1.1; exact ⟨List.length_pos_iff.2 h1.1, h1.2⟩

theorem zipB_get : ∀ {l : List C} {r : List V}, zipB l r = true → ∀ (i : Nat) (c : C) (v : V), l[i]? = some c → r[i]? = some v → V.okB v = true ∧ v.k = c.k := by
  intro l
  induction l with
  | nil => intro r _ i c v h; simp at h
  | cons x l ih =>
    intro r h i c v hc hv
    cases r with
    | nil => simp at hv
    | cons y r =>
      unfold zipB at h
      simp only [Bool.and_eq_true, beq_iff_eq] at h
      cases i with
      | zero =>
        obtain rfl : x = c := by simpa using hc
        obtain rfl : y = v := by simpa using hv
        exact h.1
      | succ i => exact ih h.2 i c v (by simpa using hc) (by simpa using hv)
theorem zipB_of : ∀ {l : List C} {r : List V}, (∀ (i : Nat) (c : C) (v : V), l[i]? = some c → r[i]? = some v → V.okB v = true ∧ v.k = c.k) → zipB l r = true := by
  intro l
  induction l with
  | nil => intro r _; cases r <;> rfl
  | cons x l ih =>
    intro r h
    cases r with
    | nil => rfl
    | cons y r =>
      unfold zipB
      have h0 := h 0 x y rfl rfl
      rw [h0.1, h0.2, beq_self_eq_true, Bool.and_self, Bool.true_and]
      exact ih fun i c v hc hv => h (i + 1) c v (by simpa using hc) (by simpa using hv)
theorem fits_get {l : List C} {r : List V} (h : fitsB l r = true) : l.length = r.length ∧ ∀ (i : Nat) (c : C) (v : V), l[i]? = some c → r[i]? = some v → V.okB v = true ∧ v.k = c.k := by
  unfold fitsB at h
  rw [Bool.and_eq_true, decide_eq_true_eq] at h
  exact ⟨h.1, zipB_get h.2⟩
theorem okB_kind {v : V} (h : V.okB v = true) : v.k = 1 ∨ v.k = 2 := by
  unfold V.okB at h
  simp only [Bool.or_eq_true, Bool.and_eq_true, beq_iff_eq] at h
  rcases h with h | h
  · exact .inl h.1
  · exact .inr h.1
theorem okB_flip {k : Int} (h : k = 1 ∨ k = 2) : V.okB ⟨3 - k, 0, ⟨#[]⟩⟩ = true := by
  rcases h with rfl | rfl <;> decide +kernel
theorem rowOk_of {l : List C} {r : List V} (hc : colsE l = 0) (hf : fitsB l r = true) : rowOk r = true := by
  obtain ⟨h1, h2⟩ := cols_len hc
  obtain ⟨h3, h4⟩ := fits_get hf
  unfold rowOk
  have ha : r.all V.okB = true := by
    rw [List.all_eq_true]
    intro v hv
    obtain ⟨i, hi, rfl⟩ := List.mem_iff_getElem.1 hv
    exact (h4 i l[i] r[i] (List.getElem?_eq_getElem (by omega)) (List.getElem?_eq_getElem hi)).1
  simp [ha, ← h3, h1, h2]
/-- a row with another kind in one place is Right, and fits no more -/
theorem turned {l : List C} {r : List V} {q : Nat} {v : V} (hc : colsE l = 0) (hf : fitsB l r = true) (hv : r[q]? = some v) :
    rowOk (r.set q ⟨3 - v.k, 0, ⟨#[]⟩⟩) = true ∧ fitsB l (r.set q ⟨3 - v.k, 0, ⟨#[]⟩⟩) = false := by
  obtain ⟨h1, h2⟩ := cols_len hc
  obtain ⟨h3, h4⟩ := fits_get hf
  have hq : q < r.length := (List.getElem?_eq_some_iff.1 hv).1
  obtain ⟨c, hcq⟩ : ∃ c, l[q]? = some c := ⟨_, List.getElem?_eq_getElem (by omega)⟩
  obtain ⟨ok, kk⟩ := h4 q c v hcq hv
  constructor
  · unfold rowOk
    have ha : (r.set q ⟨3 - v.k, 0, ⟨#[]⟩⟩).all V.okB = true := by
      rw [List.all_eq_true]
      intro x hx
      rcases List.mem_or_eq_of_mem_set hx with h | h
      · obtain ⟨i, hi, rfl⟩ := List.mem_iff_getElem.1 h
        exact (h4 i l[i] r[i] (List.getElem?_eq_getElem (by omega)) (List.getElem?_eq_getElem hi)).1
      · subst h; exact okB_flip (okB_kind ok)
    simp only [List.length_set, ha, Bool.and_true, ← h3]
    simp [h1, h2]
  · cases hz : fitsB l (r.set q ⟨3 - v.k, 0, ⟨#[]⟩⟩) with
    | false => rfl
    | true =>
      have := ((fits_get hz).2 q c ⟨3 - v.k, 0, ⟨#[]⟩⟩ hcq (by rw [List.getElem?_set_self hq])).2
      have k2 := okB_kind ok
      simp only at this
      omega
theorem CRow.take {w : World} {B : Nat} {A : Option Addr} {l : List C} (h : CRow w B A l) (k : Nat) : CRow w B A (l.take k) := by
  rcases h with rfl | ⟨b, o, hA, hb, h⟩
  · exact .inl (by simp)
  · exact .inr ⟨b, o, hA, hb, h.take k⟩
theorem VRow.take {w : World} {B : Nat} {A : Option Addr} {l : List V} (h : VRow w B A l) (k : Nat) : VRow w B A (l.take k) := by
  rcases h with rfl | ⟨b, o, hA, hb, h⟩
  · exact .inl (by simp)
  · exact .inr ⟨b, o, hA, hb, fun i v hv => h i v (by
      rw [List.getElem?_take] at hv
      split at hv
      · exact hv
      · cases hv)⟩
end Go.Proofs.YtajnnkapgnmoaaaGreat
/-
  slices.Concat of two rows of items; zset.Add.
-/
namespace Go.Proofs.YtajnnkapgnmoaaaGreat
open Go.RowKit

set_option maxHeartbeats 1000000 in
set_option maxRecDepth 100000 in
theorem growNil_any (n : Nat) (hn : n ≤ 2147483648) (w : World) :
    Calls Tryz.prog 84 #[.slice none 0 0, .int .i64 n] w fun e w' => (∃ v, e = .returned v ∧ w'.ownsRow w.heap.size 47 2 v 0 []) ∧ Below w.heap.size w w' := by
  obtain ⟨i0, hi, hz0, hz1, hz2⟩ := info_parts item_info
  rcases Nat.eq_zero_or_pos n with rfl | h0
  · go_enter Tryz.func84, Tryz.ntmps84
    go_wp2
    go_ret
    exact ⟨⟨_, rfl, World.ownsRow_nil _ _ _ _⟩, Below.refl _ _⟩
  · have hz : (0 : Int) < (n : Int) := by omega
    have hge := grownCap_ge w n 0 47
    have hm := grownCap_le_maxLen w n 0 47 (by unfold maxLen; omega)
    have hrun := Lib.run_append_nil_zeros (P := Tryz.prog) w 42 3 42 47 i0 _ .i64 .i64 Tryz.underlying42 Tryz.underlying3 hi hz0 n h0 (by omega) (by omega) (by rw [hz2]; omega)
    obtain ⟨gc, hgc⟩ : ∃ gc, grownCap w n 0 47 = gc := ⟨_, rfl⟩
    rw [hgc] at hge hm hrun
    obtain ⟨cs, hcs⟩ : ∃ cs, Builtin.zeroCells (Value.agg #[.slice none 0 0, .complex .f64 0 0]).cells n ++ Builtin.zeroCells (Value.agg #[.slice none 0 0, .complex .f64 0 0]).cells (gc - n) = cs := ⟨_, rfl⟩
    have hsz : cs.size = gc * 2 := by
      rw [← hcs, Array.size_append, size_zeroCells, size_zeroCells]
      show n * 2 + (gc - n) * 2 = gc * 2
      omega
    rw [hcs] at hrun
    have HC := Lib.hid hgc
    have HSZ := Lib.hid hsz
    have HM := Lib.hid hm
    clear hgc hcs hsz hm
    go_enter Tryz.func84, Tryz.ntmps84
    go_wp2_with (at_builtin; refine Lib.wpList_append_run _ rfl _ _ _ _ rfl _ _ rfl rfl _ _ hrun ?_)
    go_wp2
    go_ret
    exact ⟨⟨_, rfl, ⟨by simp, .inr ⟨w.heap.size, gc, cs, rfl, Nat.le_refl _, heap_alloc_new w.drew _, Nat.zero_le _, HM.out, HSZ.out, by simp⟩⟩⟩, ((Below.refl w.heap.size w).drew).alloc (Nat.le_refl _) _⟩

set_option maxHeartbeats 2000000 in
set_option maxRecDepth 100000 in
theorem concat_two (g0 : Nat) (A B : Option Addr) (c d : Nat) (l1 l2 : List IM) (w : World) {S : Nat → Prop} (h1 : SRow w S A l1) (h2 : SRow w S B l2) (hS : ∀ k, S k → k < w.heap.size) (hl1 : l1.length ≤ 536870912) (hl2 : l2.length ≤ 536870912)
    (c0 : w.cell? ⟨g0, 0, none⟩ = some (.slice A l1.length c)) (c1 : w.cell? ⟨g0, 1, none⟩ = some (.slice B l2.length d)) :
    Calls Tryz.prog 40 #[.slice (some ⟨g0, 0, none⟩) 2 2] w fun e w' => (∃ v, e = .returned v ∧ w'.ownsRow w.heap.size 47 2 v (l1.length + l2.length) (flatM (l1 ++ l2))) ∧ Below w.heap.size w w' := by
  obtain ⟨i0, hi, hz0, hz1, hz2⟩ := info_parts item_info
  have R1 := Lib.hid (h1.reads hS)
  have R2 := Lib.hid (h2.reads hS)
  have hb0 := block_lt_of_cell c0
  obtain ⟨n, hn⟩ : ∃ n, l1.length = n := ⟨_, rfl⟩
  obtain ⟨m, hm⟩ : ∃ m, l2.length = m := ⟨_, rfl⟩
  rw [hn] at c0 R1 hl1 ⊢
  rw [hm] at c1 R2 hl2 ⊢
  have hgr := Lib.hid (growNil_any (n + m) (by omega) w)
  have hnm : ((n + m : Nat) : Int) = (n : Int) + (m : Int) := by omega
  rw [hnm] at hgr
  clear h1 h2 hS hn hm hnm
  go_enter Tryz.func40, Tryz.ntmps40
  go_wp2
  refine wp_loop_rounds 3 ?_
  rw [rounds_succ]
  go_wp2
  rw [rounds_succ]
  go_wp2
  rw [rounds_succ]
  go_wp2_with fail
  refine hgr.out.mono ?_
  rintro e w1 ⟨⟨v, rfl, hown⟩, hb1⟩
  have d0 := (hb1.cell hb0).trans c0
  have d1 := (hb1.cell hb0).trans c1
  have HO := Lib.hid hown
  have HB := Lib.hid hb1
  have hs1 := hb1.size
  clear hown hb1 c0 c1 hgr
  go_wp2
  refine wp_loop_rounds 3 ?_
  rw [rounds_succ]
  go_wp2_with (at_builtin; refine wpList_append_any _ rfl _ _ 42 rfl w.heap.size 47 i0 _ 2 40 Tryz.underlying42 hi hz0 hz1 hz2 rfl (by decide) _ _ _ rfl HO.out w.heap.size _ _ _ (flatM l1) rfl (R1.out.below HB.out) ?c1 ?c2 ?c3 ?c4 ?_)
  case c1 => exact flatM_ones _
  case c2 => unfold maxLen; omega
  case c3 => omega
  case c4 => exact hs1
  intro v2 w2 hown2 hgrow2 _
  have HB2 := Lib.hid (HB.out.grown hgrow2 hs1 (fun k e => (HO.out.lt k e).1))
  have hs2 := HB2.out.size
  have e1 := (HB2.out.cell hb0).trans ((HB.out.cell hb0).symm.trans d1)
  have HO2 := Lib.hid hown2
  clear hown2 hgrow2 d0 d1
  go_wp2
  rw [rounds_succ]
  go_wp2_with (at_builtin; refine wpList_append_any _ rfl _ _ 42 rfl w.heap.size 47 i0 _ 2 40 Tryz.underlying42 hi hz0 hz1 hz2 rfl (by decide) _ _ _ rfl HO2.out w.heap.size _ _ _ (flatM l2) rfl (R2.out.below HB2.out) ?d1 ?d2 ?d3 ?d4 ?_)
  case d1 => exact flatM_ones _
  case d2 => unfold maxLen; omega
  case d3 => omega
  case d4 => exact hs2
  intro v3 w3 hown3 hgrow3 _
  have HB3 := Lib.hid (HB2.out.grown hgrow3 hs2 (fun k e => (HO2.out.lt k e).1))
  have HO3 := Lib.hid hown3
  clear hown3 hgrow3 e1
  go_wp2
  rw [rounds_succ]
  go_wp2
  go_ret
  refine ⟨⟨_, rfl, ?_⟩, HB3.out⟩
  have := HO3.out
  rw [flatM_append]
  simpa using this

theorem its_vol_append (a b : List IM) : vol (its (a ++ b)) = vol (its a) + vol (its b) := by rw [its_append, vol_append]
set_option maxHeartbeats 2000000 in
set_option maxRecDepth 100000 in
/-- the sum of two sets -/
theorem zadd_any (A B : Option Addr) (c d : Nat) (l1 l2 : List IM) (w : World) {S : Nat → Prop} (h1 : SRow w S A l1) (h2 : SRow w S B l2) (hS : ∀ k, S k → k < w.heap.size) (hl1 : l1.length ≤ 536870912) (hl2 : l2.length ≤ 536870912)
    (hr1 : ∀ x ∈ l1, rowOk x.r = true) (hr2 : ∀ x ∈ l2, rowOk x.r = true) (hv : vol (its l1) + vol (its l2) ≤ 1125899906842624) :
    Calls Tryz.prog 16 #[.slice A l1.length c, .slice B l2.length d] w fun e w' => (∃ A' c' s, e = .returned (.tuple #[.slice A' s.length c', .int .i64 0]) ∧ SetRet w (its (l1 ++ l2)) w' A' c' s) ∧ Below w.heap.size w w' := by
  have HS := Lib.hid hS
  have H1 := Lib.hid h1
  have H2 := Lib.hid h2
  have hcc := Lib.hid (fun g0 w1 (hb : Below w.heap.size w w1) (c0 : w1.cell? ⟨g0, 0, none⟩ = some (.slice A l1.length c)) (c1 : w1.cell? ⟨g0, 1, none⟩ = some (.slice B l2.length d)) =>
    concat_two g0 A B c d l1 l2 w1 ((h1.below hb hS).mono (S' := fun k => k < w1.heap.size) fun k hk => Nat.lt_of_lt_of_le (hS k hk) hb.size) ((h2.below hb hS).mono fun k hk => Nat.lt_of_lt_of_le (hS k hk) hb.size) (fun k hk => hk) hl1 hl2 c0 c1)
  have HR : Hid (∀ x ∈ l1 ++ l2, rowOk x.r = true) := Lib.hid (fun x hx => by
    rcases List.mem_append.1 hx with h | h
    · exact hr1 x h
    · exact hr2 x h)
  have HV : Hid (vol (its (l1 ++ l2)) ≤ 1125899906842624) := Lib.hid (by rw [its_vol_append]; exact hv)
  obtain ⟨n, hn⟩ : ∃ n, l1.length = n := ⟨_, rfl⟩
  obtain ⟨m, hm⟩ : ∃ m, l2.length = m := ⟨_, rfl⟩
  rw [hn, hm] at hcc ⊢
  rw [hn] at hl1
  rw [hm] at hl2
  have HN := Lib.hid hn
  have HM := Lib.hid hm
  clear h1 h2 hS hr1 hr2 hv hn hm
  go_enter Tryz.func16, Tryz.ntmps16
  go_wp2_with fail
  refine (hcc.out w.heap.size _ ((Below.refl w.heap.size w).alloc (Nat.le_refl _) _) (by simp) (by simp)).mono ?_
  rintro e w1 ⟨⟨v, rfl, hown⟩, hb1⟩
  obtain ⟨A1, c1, rfl, hc1⟩ := own_slice hown
  have hb1' : Below w.heap.size w w1 := ((Below.refl w.heap.size w).alloc (Nat.le_refl _) _).trans (hb1.mono (by simp))
  have HB1 := Lib.hid hb1'
  have hs1 := hb1'.size
  have hlen : (l1 ++ l2).length = n + m := by rw [List.length_append, HN.out, HM.out]
  have hrows : ∀ x ∈ l1 ++ l2, VRowS w1 (fun k => k < w1.heap.size) x.A x.r := fun x hx => by
    have : VRowS w1 S x.A x.r := by
      rcases List.mem_append.1 hx with h | h
      · exact (H1.out.below hb1' HS.out).rows x h
      · exact (H2.out.below hb1' HS.out).rows x h
    exact this.mono fun k hk => Nat.lt_of_lt_of_le (HS.out k hk) hs1
  obtain ⟨A2, c2, hv2, _, hS1⟩ := own_items (S := fun k => k < w1.heap.size) (l := l1 ++ l2) (by rw [hlen]; exact hown) (fun g _ h2 _ => h2) hrows
  obtain ⟨rfl, rfl⟩ : A1 = A2 ∧ c1 = c2 := by rw [hlen] at hv2; simpa using hv2
  have hmk := Lib.hid (zmake_any A1 c1 (l1 ++ l2) w1 hS1 (fun k hk => hk) (by omega) HR.out HV.out)
  rw [hlen] at hmk
  clear hown hb1 hb1' hlen hrows hv2 hS1 hc1 hcc
  go_wp2_with fail
  refine hmk.out.mono ?_
  rintro e w2 ⟨⟨A', c', s, rfl, h1, h2, h3, h4⟩, hb2⟩
  have HB2 := Lib.hid (HB1.out.trans (hb2.mono hs1))
  have HE : Hid (SetRet w (its (l1 ++ l2)) w2 A' c' s) := Lib.hid ⟨h1, h2.mono fun k hk => hk.lower hs1, h3, h4⟩
  clear h1 h2 h3 h4 hb2 hmk
  go_wp2
  go_ret2
  exact ⟨⟨A', c', s, rfl, HE.out⟩, HB2.out⟩
end Go.Proofs.YtajnnkapgnmoaaaGreat
/-
  zset.Of: how often a row is there.
-/
namespace Go.Proofs.YtajnnkapgnmoaaaGreat
open Go.RowKit

set_option maxHeartbeats 2000000 in
set_option maxRecDepth 100000 in
theorem zof_any (A B : Option Addr) (c d : Nat) (l : List IM) (r : List V) (w : World) {S : Nat → Prop} (hA : SRow w S A l) (hS : ∀ k, S k → k < w.heap.size) (hl : l.length ≤ 1073741824) (hk : SOk l) (hB : VRow w w.heap.size B r) (hr : rowOk r = true) :
    Calls Tryz.prog 69 #[.slice A l.length c, .slice B r.length d] w fun e w' => e = .returned (tal (look (its l) r)) ∧ Below w.heap.size w w' := by
  have hrt := Lib.hid (zright_any A c l w hA hS hl hk)
  obtain ⟨n, hn⟩ : ∃ n, l.length = n := ⟨_, rfl⟩
  have HN := Lib.hid hn
  have HA := Lib.hid hA
  have HS := Lib.hid hS
  have HK := Lib.hid hk
  have HB0 := Lib.hid hB
  have HR := Lib.hid hr
  have hr6 := (rowOk_len hr).2
  obtain ⟨m, hm⟩ : ∃ m, r.length = m := ⟨_, rfl⟩
  have HM := Lib.hid hm
  rw [hn] at hl hrt ⊢
  rw [hm] at hr6 ⊢
  clear hA hS hk hn hB hr hm
  have hst := run_store_tal Tryz.prog
  have htz := tal_zero
  go_enter Tryz.func69, Tryz.ntmps69
  go_wp2_with fail
  refine hrt.out.mono ?_
  rintro e w1 ⟨rfl, hb1⟩
  have HB1 := Lib.hid hb1
  clear hb1 hrt
  go_wp2_with fail
  go_loopw [12] (fun i wr => ∃ k : Nat, k ≤ n ∧ i = .int .i64 k ∧ Below w.heap.size w wr ∧ Hid (look (its l) r = look (its (l.drop k)) r)) (fun i _ => n - (intOf i).toNat)
  case atStart => exact ⟨0, Nat.zero_le _, rfl, HB1.out, Lib.hid (by simp)⟩
  case round =>
    obtain ⟨k, hk, rfl, hb, HL⟩ := hrel
    have HB := Lib.hid hb
    have hs := hb.size
    clear hb
    by_cases hlt : k < n
    · obtain ⟨x, hx⟩ : ∃ x, l[k]? = some x := ⟨_, List.getElem?_eq_getElem (by rw [HN.out]; exact hlt)⟩
      obtain ⟨b, off, rfl, hSb, hc1, hc2⟩ := (HA.out.below HB.out HS.out).get hx
      have hm := List.mem_of_getElem? hx
      have hok := HK.out.row hm
      have hx6 := (rowOk_len hok).2
      have hXR := (HA.out.rows x hm).to HS.out
      have hq := Lib.hid (fun w3 (hb : Below w.heap.size w w3) => rowSame_any x.A B x.c d x.r r (by omega) (by rw [HM.out]; omega) w3 ((hXR.below hb).more hb.size) ((HB0.out.below hb).more hb.size))
      rw [HM.out] at hq
      have HSR : Hid (rowSame x.r r = eqR x.r r) := Lib.hid (by
        have := (order_one hok HR.out).2
        simpa using this)
      rw [HSR.out] at hq
      have hvq := its_get hx
      have HD : Hid (look (its l) r = (if eqR x.r r = true then x.k else 0) + look (its (l.drop (k + 1))) r) := Lib.hid (by rw [HL.out, hvq]; rfl)
      have HE : Hid (eqR x.r r = true → look (its l) r = x.k) := Lib.hid (fun h => by
        have e := (eqR_iff _ _).1 h
        rw [← e]
        exact HK.out.set.toOrd.look_mem (List.mem_map.2 ⟨x, hm, rfl⟩))
      obtain ⟨xA, xc, xr, xk⟩ := x
      dsimp only at hc1 hc2 hq HD HE
      obtain ⟨xn, hxn⟩ : ∃ xn, xr.length = xn := ⟨_, rfl⟩
      rw [hxn] at hc1 hq
      clear hx hm hok hx6 hXR HSR hvq hxn hSb HL
      cases hqb : eqR xr r
      · rw [hqb] at hq HD
        clear hqb HE
        go_wp2_with fail
        refine (hq.out _ (HB.out.alloc hs _)).mono ?_
        rintro e w3 ⟨rfl, hb3⟩
        have HB3 := Lib.hid ((HB.out.alloc hs _).trans (hb3.mono (by simp; omega)))
        have HL3 : Hid (look (its l) r = look (its (l.drop (k + 1))) r) := Lib.hid (by rw [HD.out]; simp)
        clear hb3
        go_wp2_with fail
        go_roundw
        case rel => exact ⟨k + 1, by omega, by go_num, HB3.out, HL3⟩
        case measure => simp [intOf]; omega
      · rw [hqb] at hq
        have HF := Lib.hid (HE.out hqb)
        clear hqb HE HD
        go_wp2_with fail
        refine (hq.out _ (HB.out.alloc hs _)).mono ?_
        rintro e w3 ⟨rfl, hb3⟩
        have e1 : w3.cell? ⟨wr.heap.size, 1, none⟩ = some (tal xk) := (hb3.cell (by simp)).trans (by simp)
        have hlt3 : wr.heap.size < w3.heap.size := by have := hb3.size; simp at this; omega
        have HB3 := Lib.hid ((HB.out.alloc hs _).trans (hb3.mono (by simp; omega)))
        clear hb3
        go_wp2_with fail
        go_ret
        exact ⟨by rw [HF.out]; rfl, HB3.out⟩
    · obtain rfl : k = n := by omega
      have HF : Hid (look (its l) r = 0) := Lib.hid (by
        rw [HL.out, List.drop_of_length_le (by rw [HN.out]; exact Nat.le_refl _)]
        rfl)
      go_wp2_with fail
      go_ret
      exact ⟨by rw [HF.out]; first | rfl | (rw [← tal_zero]; rfl), HB.out⟩
end Go.Proofs.YtajnnkapgnmoaaaGreat
/-
  batch.one: a change applied to tables of the call's own.
-/
namespace Go.Proofs.YtajnnkapgnmoaaaGreat
open Go.RowKit

theorem flatB_set : ∀ (l : List TM) (i : Nat) (t : TM) (A : Option Addr) (c : Nat) (rows : List IM), l[i]? = some t → flatB (l.set i ⟨t.nm, t.cA, t.cc, t.cols, A, c, rows⟩) = (flatB l).set (i * 3 + 2) (.slice A rows.length c)
  | [], i, t, A, c, rows, h => by simp at h
  | x :: l, 0, t, A, c, rows, h => by
    obtain rfl : x = t := by simpa using h
    rfl
  | x :: l, i + 1, t, A, c, rows, h => by
    have ih := flatB_set l i t A c rows (by simpa using h)
    show TM.cs x ++ flatB (l.set i _) = (TM.cs x ++ flatB l).set ((i + 1) * 3 + 2) _
    rw [ih, show (i + 1) * 3 + 2 = i * 3 + 2 + 1 + 1 + 1 by omega]
    rfl
theorem own_set_rows {w : World} {base : Nat} {e : TypeId} {g cap m : Nat} {s : List TM} (h : w.ownsRow base e 3 (.slice (some ⟨g, 0, none⟩) m cap) m (flatB s)) {i : Nat} {t : TM} (hi : s[i]? = some t) (A : Option Addr) (c : Nat) (rows : List IM) :
    (w.setCell ⟨g, i * 3 + 2, none⟩ (.slice A rows.length c)).ownsRow base e 3 (.slice (some ⟨g, 0, none⟩) m cap) m (flatB (s.set i ⟨t.nm, t.cA, t.cc, t.cols, A, c, rows⟩)) := by
  obtain ⟨h1, h2⟩ := h
  have hlen := flatB_len s
  refine ⟨by rw [flatB_len, List.length_set, ← hlen]; exact h1, .inr ?_⟩
  rcases h2 with ⟨h', _⟩ | ⟨g', cap', cur, h', hb, hg, hnc, hcm, hcs, htake⟩
  · simp at h'
  · simp only [Value.slice.injEq, Option.some.injEq, Addr.mk.injEq, and_true, true_and] at h'
    obtain ⟨rfl, rfl⟩ := h'
    refine ⟨g, cap, cur.setIfInBounds (i * 3 + 2) (.slice A rows.length c), rfl, hb, Blk.set_ hg _ _, hnc, hcm, by simpa using hcs, ?_⟩
    rw [Array.toList_setIfInBounds, List.take_set, htake, flatB_set s i t A c rows hi]

/-- what is asked of tables that are changed -/
structure TabOk (s : List TM) : Prop where
  len : s.length ≤ 6
  cols : ∀ t ∈ s, colsE t.cols = 0
  set : ∀ t ∈ s, SOk t.rows
  vol : ∀ t ∈ s, vol (its t.rows) ≤ 1000000
  rlen : ∀ t ∈ s, t.rows.length ≤ 1000000
/-- tables of the call's own, as they stand in a later world -/
structure Now (o : Option Nat) (w0 w : World) (v : Value) (s : List TM) : Prop where
  own : w.ownsRow w0.heap.size 44 3 v s.length (flatB s)
  cols : ∀ t ∈ s, CRowS w (fun g => NewS w0 w g ∧ v.ownBlock ≠ some g ∧ o ≠ some g) t.cA t.cols
  rows : ∀ t ∈ s, SRow w (fun g => NewS w0 w g ∧ v.ownBlock ≠ some g ∧ o ≠ some g) t.rA t.rows
theorem Now.below {o : Option Nat} {w0 w w' : World} {v : Value} {s : List TM} (h : Now o w0 w v s) (hb : Below w.heap.size w w') : Now o w0 w' v s :=
  ⟨ownM_below h.own hb, fun t ht => ((h.cols t ht).kept fun g hg => hb.block g hg.1.2.1).mono fun g hg => ⟨hg.1.below hb, hg.2⟩, fun t ht => ((h.rows t ht).kept fun g hg => hb.block g hg.1.2.1).mono fun g hg => ⟨hg.1.below hb, hg.2⟩⟩
theorem Now.row {o : Option Nat} {w0 w : World} {g cap : Nat} {s : List TM} (h : Now o w0 w (.slice (some ⟨g, 0, none⟩) s.length cap) s) (hg : w0.heap.size ≤ g ∧ g < w.heap.size) : TRow w (fun k => k < w.heap.size) (some ⟨g, 0, none⟩) s := by
  refine ⟨.inr ⟨g, 0, rfl, hg.2, ?_⟩, fun t ht => (h.cols t ht).mono fun k hk => hk.1.2.1, fun t ht => (h.rows t ht).mono fun k hk => hk.1.2.1⟩
  intro i x hx
  obtain ⟨f1, f2, f3⟩ := flatB_get s i x hx
  have hi : i < s.length := (List.getElem?_eq_some_iff.1 hx).1
  have ho := h.own
  rw [Nat.zero_add, ho.cellAt _ (by omega), ho.cellAt _ (by omega), ho.cellAt _ (by omega)]
  exact ⟨f1, f2, f3⟩

set_option maxHeartbeats 2000000 in
set_option maxRecDepth 100000 in
/-- no table of that name -/
theorem bone_name (w : World) (A : Option Addr) (c : Nat) (s : List TM) {S : Nat → Prop} (hA : TRow w S A s) (hS : ∀ k, S k → k < w.heap.size) (hl : s.length ≤ 6) (nm : ByteArray) (rv : Value) (B : Option Addr) (m d : Nat) (hrv : rv = .slice B m d) (rem : Bool) (hi : idx (TM.isB nm) s 0 < 0) :
    Calls Tryz.prog 33 #[.slice A s.length c, .agg #[.string nm, rv, .bool rem]] w fun e w' => e = .returned (.int .i64 20) ∧ Below w.heap.size w w' := by
  subst hrv
  have hf := Lib.hid (fun w1 (hb : Below w.heap.size w w1) => bfind_any A c s nm w1 (S := fun k => k < w1.heap.size) ((hA.below hb hS).mono fun k hk => Nat.lt_of_lt_of_le (hS k hk) hb.size) (fun k hk => hk) (by omega))
  generalize idx (TM.isB nm) s 0 = i at *
  generalize s.length = n at *
  clear hA hS hl
  go_enter Tryz.func33, Tryz.ntmps33
  go_wp2_with fail
  refine (hf.out _ ((Below.refl w.heap.size w).alloc (Nat.le_refl _) _)).mono ?_
  rintro e w1 ⟨rfl, hb1⟩
  have HB1 := Lib.hid (((Below.refl w.heap.size w).alloc (Nat.le_refl _) (.cells #[.string nm, .slice B m d, .bool rem] 28)).trans (hb1.mono (by simp)))
  clear hb1
  go_wp2_with fail
  go_ret
  exact ⟨rfl, HB1.out⟩

/-- what a change of a table that is there comes to -/
def hitE (t : TM) (r : List V) (rem : Bool) : Int := if fitsB t.cols r = false then 22 else if rem = true then (if look (its t.rows) r = 0 then 25 else 0) else (if fullL 0 t.rows = true then 13 else 0)

/-- a change that was made: the tables behind it -/
def HitRet (o : Option Nat) (w0 w w' : World) (g cap n : Nat) (s : List TM) (i : Nat) (t : TM) (r : List V) (rem : Bool) : Prop :=
  w.grownBy w' (some g) ∧ ∃ A' c' rows', Now o w0 w' (.slice (some ⟨g, 0, none⟩) n cap) (s.set i ⟨t.nm, t.cA, t.cc, t.cols, A', c', rows'⟩) ∧ SetOk (its rows') ∧ ∀ q, look (its rows') q = look (its t.rows) q + (if eqR r q = true then (if rem = true then -1 else 1) else 0)

theorem setCell_size (w : World) (p : Addr) (u : Value) : (w.setCell p u).heap.size = w.heap.size := by simp [World.setCell]
/-- the tables behind a store into the rows of one of them -/
theorem hit_end {o : Option Nat} {w0 w w4 w5 : World} {g cap : Nat} {s : List TM} (hN : Now o w0 w (.slice (some ⟨g, 0, none⟩) s.length cap) s) (hg : w0.heap.size ≤ g ∧ g < w.heap.size) (hoo : ∀ k, o = some k → k < w.heap.size) (hb4 : w.heap.size ≤ w4.heap.size) (hb5 : Below w.heap.size w w5) {i : Nat} {t : TM} (ht : s[i]? = some t) {r : List V} {rem : Bool} {kk : Int} (hkk : kk = if rem = true then -1 else 1)
    {A' : Option Addr} {c' : Nat} {s' : List IM} (hS : SetRet w4 (its t.rows ++ [(r, kk)]) w5 A' c' s') : HitRet o w0 w (w5.setCell ⟨g, i * 3 + 2, none⟩ (.slice A' s'.length c')) g cap s.length s i t r rem := by
  obtain ⟨_, hS2, hS3, hS4⟩ := hS
  have hsz := setCell_size w5 ⟨g, i * 3 + 2, none⟩ (.slice A' s'.length c')
  have hN5 := hN.below hb5
  have hkp : ∀ k, k ≠ g → (w5.setCell ⟨g, i * 3 + 2, none⟩ (.slice A' s'.length c')).heap[k]? = w5.heap[k]? := fun k hk => Below.heap_setCell w5 ⟨g, i * 3 + 2, none⟩ _ k hk
  have hnw : ∀ k, NewS w0 w5 k → k ≠ g → NewS w0 (w5.setCell ⟨g, i * 3 + 2, none⟩ (.slice A' s'.length c')) k := fun k hk hne => ⟨hk.1, by rw [hsz]; exact hk.2.1, fun o => (frozen_of_block (hkp k hne)).trans (hk.2.2 o)⟩
  have hne : ∀ k, (Value.slice (some ⟨g, 0, none⟩) s.length cap).ownBlock ≠ some k → k ≠ g := fun k h e => h (by rw [e]; rfl)
  have hset : ∀ x ∈ s.set i ⟨t.nm, t.cA, t.cc, t.cols, A', c', s'⟩, x ∈ s ∨ x = ⟨t.nm, t.cA, t.cc, t.cols, A', c', s'⟩ := fun x hx => List.mem_or_eq_of_mem_set hx
  have hm := List.mem_of_getElem? ht
  refine ⟨⟨hb5.os, hb5.tape, hb5.output, by rw [hsz]; exact hb5.size, fun k hk hn => (hkp k fun e => hn (by rw [e])).trans (hb5.block k hk)⟩, A', c', s', ⟨?_, ?_, ?_⟩, hS3, fun q => ?_⟩
  · have := own_set_rows hN5.own ht A' c' s'
    rw [List.length_set]
    exact this
  · have hc : ∀ x ∈ s, CRowS (w5.setCell ⟨g, i * 3 + 2, none⟩ (.slice A' s'.length c')) (fun k => NewS w0 (w5.setCell ⟨g, i * 3 + 2, none⟩ (.slice A' s'.length c')) k ∧ (Value.slice (some ⟨g, 0, none⟩) s.length cap).ownBlock ≠ some k ∧ o ≠ some k) x.cA x.cols := fun x hx =>
      ((hN5.cols x hx).kept fun k hk => hkp k (hne k hk.2.1)).mono fun k hk => ⟨hnw k hk.1 (hne k hk.2.1), hk.2⟩
    intro x hx
    rcases hset x hx with h | rfl
    · exact hc x h
    · exact hc t hm
  · intro x hx
    rcases hset x hx with h | rfl
    · exact ((hN5.rows x h).kept fun k hk => hkp k (hne k hk.2.1)).mono fun k hk => ⟨hnw k hk.1 (hne k hk.2.1), hk.2⟩
    · have hg4 : ∀ k, NewS w4 w5 k → k ≠ g := fun k hk e => by have := hk.1; omega
      exact (hS2.kept fun k hk => hkp k (hg4 k hk)).mono fun k hk => ⟨hnw k ⟨by have := hk.1; omega, hk.2⟩ (hg4 k hk), fun e => hg4 k hk (by simpa [Value.ownBlock] using e.symm), fun e => by have := hoo k e; have := hk.1; omega⟩
  · rw [hS4, look_append, hkk]
    show _ + ((if eqR r q = true then _ else 0) + 0) = _
    rw [Int.add_zero]

/-- one item more -/
theorem add_one (A B : Option Addr) (c d : Nat) (l : List IM) (r : List V) (kk : Int) (w : World) (g2 : Nat) {S : Nat → Prop} (h1 : SRow w S A l) (hS : ∀ k, S k → k < w.heap.size) (hl : l.length ≤ 1000000) (hk : SOk l) (hv : vol (its l) ≤ 1000000)
    (hB : VRow w w.heap.size B r) (hr : rowOk r = true) (hkk : kk = 1 ∨ kk = -1) (hg2 : g2 < w.heap.size) (c0 : w.cell? ⟨g2, 0, none⟩ = some (.slice B r.length d)) (c1 : w.cell? ⟨g2, 1, none⟩ = some (tal kk)) :
    Calls Tryz.prog 16 #[.slice A l.length c, .slice (some ⟨g2, 0, none⟩) 1 1] w fun e w' => (∃ A' c' s, e = .returned (.tuple #[.slice A' s.length c', .int .i64 0]) ∧ SetRet w (its l ++ [(r, kk)]) w' A' c' s) ∧ Below w.heap.size w w' := by
  have h2 : SRow w (fun k => k < w.heap.size) (some ⟨g2, 0, none⟩) [(⟨B, d, r, kk⟩ : IM)] := by
    refine ⟨.inr ⟨g2, 0, rfl, hg2, ?_⟩, ?_⟩
    · intro i x hx
      cases i with
      | zero =>
        obtain rfl : (⟨B, d, r, kk⟩ : IM) = x := by simpa using hx
        exact ⟨c0, c1⟩
      | succ i => simp at hx
    · intro x hx
      obtain rfl : x = (⟨B, d, r, kk⟩ : IM) := by simpa using hx
      rcases hB with h | ⟨b, o, h, hb, hv⟩
      · exact .inl h
      · exact .inr ⟨b, o, h, hb, hv⟩
  have := zadd_any A (some ⟨g2, 0, none⟩) c 1 l [(⟨B, d, r, kk⟩ : IM)] w (h1.mono hS) h2 (fun k hk => hk) (by omega) (by simp) (fun x hx => hk.row hx) (fun x hx => by
    obtain rfl : x = (⟨B, d, r, kk⟩ : IM) := by simpa using hx
    exact hr) (by
      have : vol (its [(⟨B, d, r, kk⟩ : IM)]) = (kk.natAbs : Int) + 0 := rfl
      rw [this]
      have : kk.natAbs = 1 := by rcases hkk with rfl | rfl <;> rfl
      omega)
  rw [its_append] at this
  exact this

set_option maxHeartbeats 2000000 in
set_option maxRecDepth 100000 in
theorem bone_hit (o : Option Nat) (w0 w : World) (g cap : Nat) (s : List TM) (hN : Now o w0 w (.slice (some ⟨g, 0, none⟩) s.length cap) s) (hg : w0.heap.size ≤ g ∧ g < w.heap.size) (hoo : ∀ k, o = some k → k < w.heap.size) (hok : TabOk s) (nm : ByteArray) (r : List V) (B : Option Addr) (d : Nat) (hB : VRow w w.heap.size B r) (hrl : r.length ≤ 1000) (rem : Bool) (i : Nat) (t : TM) (hi : idx (TM.isB nm) s 0 = (i : Int)) (ht : s[i]? = some t) :
    Calls Tryz.prog 33 #[.slice (some ⟨g, 0, none⟩) s.length cap, .agg #[.string nm, .slice B r.length d, .bool rem]] w fun e w' => ∃ why : Int, e = .returned (.int .i64 why) ∧ why = hitE t r rem ∧ (why ≠ 0 → Below w.heap.size w w') ∧
      (why = 0 → HitRet o w0 w w' g cap s.length s i t r rem) := by
  have mixed : Tryz.prog.follows .mixedOrders = true := by kernel_rfl
  have hm := List.mem_of_getElem? ht
  have hA := hN.row hg
  have hil : i < s.length := (List.getElem?_eq_some_iff.1 ht).1
  have hs6 := hok.len
  have hf := Lib.hid (fun w1 (hb : Below w.heap.size w w1) => bfind_any (some ⟨g, 0, none⟩) cap s nm w1 (S := fun k => k < w1.heap.size) ((hA.below hb (fun k hk => hk)).mono fun k hk => Nat.lt_of_lt_of_le hk hb.size) (fun k hk => hk) (by omega))
  rw [hi] at hf
  obtain ⟨b0, off0, hb0, _, hc1, hc2, hc3⟩ := hA.get ht
  obtain ⟨rfl, rfl⟩ : g = b0 ∧ 0 = off0 := by simpa using hb0
  have hCR := (hA.cols t hm).to (B := w.heap.size) (fun k hk => hk)
  have hcl := cols_len (hok.cols t hm)
  have hfit := Lib.hid (fun w1 (hb : Below w.heap.size w w1) => fits_any t.cA B t.cc d t.cols r (by omega) (by omega) w1 ((hCR.below hb).more hb.size) ((hB.below hb).more hb.size))
  have hSR := hA.rows t hm
  have hSO := hok.set t hm
  have hVO := hok.vol t hm
  have hRL := hok.rlen t hm
  have HFU := Lib.hid (fun w1 (hb : Below w.heap.size w w1) => bfull_any t.rA t.rc t.rows w1 (S := fun k => k < w1.heap.size) ((hSR.below hb (fun k hk => hk)).mono fun k hk => Nat.lt_of_lt_of_le hk hb.size) (fun k hk => hk) (by omega) hSO)
  have HZO := Lib.hid (fun (hr : rowOk r = true) w1 (hb : Below w.heap.size w w1) => zof_any t.rA B t.rc d t.rows r w1 (S := fun k => k < w1.heap.size) ((hSR.below hb (fun k hk => hk)).mono fun k hk => Nat.lt_of_lt_of_le hk hb.size) (fun k hk => hk) (by omega) hSO ((hB.below hb).more hb.size) hr)
  have HAD := Lib.hid (fun (hr : rowOk r = true) (kk : Int) (hkk : kk = 1 ∨ kk = -1) w1 (hb : Below w.heap.size w w1) (g2 : Nat) (hg2 : g2 < w1.heap.size) c0 c1 => add_one t.rA B t.rc d t.rows r kk w1 g2 (S := fun k => k < w1.heap.size) ((hSR.below hb (fun k hk => hk)).mono fun k hk => Nat.lt_of_lt_of_le hk hb.size) (fun k hk => hk) hRL hSO hVO ((hB.below hb).more hb.size) hr hkk hg2 c0 c1)
  have HLB := Lib.hid (look_bd (its t.rows) r)
  have HVO := Lib.hid hVO
  have HM := Lib.hid hm
  have HOK := Lib.hid hok
  have HN := Lib.hid hN
  have HB := Lib.hid hB
  have HT := Lib.hid ht
  have HCK := Lib.hid (hok.cols t hm)
  have hglt := hg.2
  have HG := Lib.hid hg
  have HOO := Lib.hid hoo
  rw [Nat.zero_add] at hc2 hc3
  obtain ⟨sn, hsn⟩ : ∃ sn, s.length = sn := ⟨_, rfl⟩
  obtain ⟨rn, hrn⟩ : ∃ rn, r.length = rn := ⟨_, rfl⟩
  obtain ⟨cn, hcn⟩ : ∃ cn, t.cols.length = cn := ⟨_, rfl⟩
  obtain ⟨tn, htn⟩ : ∃ tn, t.rows.length = tn := ⟨_, rfl⟩
  have HSN := Lib.hid hsn
  have HRN := Lib.hid hrn
  have HTN := Lib.hid htn
  rw [hsn] at hf hil hs6 ⊢
  rw [hrn] at hfit hrl HZO HAD ⊢
  rw [hcn] at hc2 hfit
  rw [htn] at hc3 HFU HZO HAD
  have HFR : Hid (fitsB t.cols r = true → rowOk r = true) := Lib.hid (fun h => rowOk_of (hok.cols t hm) h)
  have h1 := Lib.hid (fun w1 => tal_of 1 0 w1 (.inl ⟨by omega, rfl⟩))
  have h2 := Lib.hid (fun w1 => tal_of 0 1 w1 (.inr ⟨rfl, by omega⟩))
  clear hN hg hoo hok hB hi ht hm hA hb0 hc1 hCR hcl hsn hrn hcn htn hSR hSO hVO hRL
  go_enter Tryz.func33, Tryz.ntmps33
  go_wp2_with fail
  refine (hf.out _ ((Below.refl w.heap.size w).alloc (Nat.le_refl _) _)).mono ?_
  rintro e w1 ⟨rfl, hb1⟩
  have x1 : w1.cell? ⟨w.heap.size, 1, none⟩ = some (.slice B rn d) := (hb1.cell (by simp)).trans (by simp)
  have x2 : w1.cell? ⟨w.heap.size, 2, none⟩ = some (.bool rem) := (hb1.cell (by simp)).trans (by simp)
  have hx1 : w.heap.size < w1.heap.size := by have := hb1.size; simp at this; omega
  have HB1 := Lib.hid (((Below.refl w.heap.size w).alloc (Nat.le_refl _) (.cells #[.string nm, .slice B rn d, .bool rem] 28)).trans (hb1.mono (by simp)))
  have t2 := (HB1.out.cell hglt).trans hc2
  have t3 := (HB1.out.cell hglt).trans hc3
  clear hb1 hf
  go_wp2_with (go_at_call 68; refine (h1.out _).mono ?_; rintro e w' ⟨rfl, rfl⟩)
  have e1 := fun d os => cell_regrown (w := w1) t2 d os
  have e2 := fun d os => cell_regrown (w := w1) x1 d os
  have C1 := Lib.hid (fun d os => Calls.regrown_of (hfit.out _ (HB1.out.trans ((below_regrown w1 d os).mono HB1.out.size))))
  clear hfit
  refine wp_region_quiet_below (by assumption) (by kernel_rfl) ?_
  repeat (quiet_step (first | (go_at_call 65; exact C1.out _ _)))
  refine wpQuiet_nil ?_
  intro _ hw'
  obtain ⟨⟨nq, osq⟩, hw''⟩ := hw'
  subst hw''
  have HB2 := Lib.hid (HB1.out.trans ((below_regrown w1 nq osq).mono HB1.out.size))
  have HW12 := Lib.hid (below_regrown w1 nq osq)
  clear e1 e2 C1
  generalize Sort.grow (redrawn w1 nq) osq = w2 at HB2 HW12 ⊢
  have x1' := (HW12.out.cell hx1).trans x1
  have x2' := (HW12.out.cell hx1).trans x2
  have hg1 : g < w1.heap.size := by have := HB1.out.size; omega
  have t3' := (HW12.out.cell hg1).trans t3
  have hx2 : w.heap.size < w2.heap.size := by have := HW12.out.size; omega
  clear x1 x2 t2 t3 hc2 hc3 hx1 HW12
  cases hfb : fitsB t.cols r
  · go_wp2_with fail
    go_ret
    exact ⟨22, rfl, by unfold hitE; rw [hfb]; rfl, fun _ => HB2.out, fun h => by cases h⟩
  · have HFB := Lib.hid hfb
    have HRO := Lib.hid (HFR.out hfb)
    clear hfb HFR HB1 hg1 w1
    cases rem
    · go_wp2_with fail
      have e2 := fun d os => cell_regrown (w := w2) x2' d os
      refine wp_region_quiet_below (by assumption) (by kernel_rfl) ?_
      iterate 3 (quiet_step (first | (fail)))
      iterate 8 (with_reducible (refine wpQuiet_skip ?_ ?_); kernel_rfl; simp only [Act.put, List.setIfInBounds_toArray, List.set_cons_zero, List.set_cons_succ])
      iterate 3 (quiet_step (first | (fail)))
      refine wpQuiet_nil ?_
      intro _ hw'
      obtain ⟨⟨nq, osq⟩, hw''⟩ := hw'
      subst hw''
      have HB3 := Lib.hid (HB2.out.trans ((below_regrown w2 nq osq).mono HB2.out.size))
      have HW := Lib.hid (below_regrown w2 nq osq)
      clear e2
      generalize Sort.grow (redrawn w2 nq) osq = w3 at HB3 HW ⊢
      have x1'' := (HW.out.cell hx2).trans x1'
      have x2'' := (HW.out.cell hx2).trans x2'
      have hg2 : g < w2.heap.size := by have := HB2.out.size; omega
      have t3'' := (HW.out.cell hg2).trans t3'
      have hx3 : w.heap.size < w3.heap.size := by have := HB3.out.size; have := HW.out.size; omega
      have hg3 : g < w3.heap.size := by have := HB3.out.size; omega
      clear x1' x2' t3' HW hg2 hx2
      go_wp2_with fail
      refine (HFU.out _ HB3.out).mono ?_
      rintro e w4 ⟨rfl, hb4⟩
      have HB4 := Lib.hid (HB3.out.trans (hb4.mono HB3.out.size))
      have x1a := (hb4.cell hx3).trans x1''
      have t3a := (hb4.cell hg3).trans t3''
      have hxa : w.heap.size < w4.heap.size := by have := hb4.size; omega
      have hga : g < w4.heap.size := by have := hb4.size; omega
      clear x1'' x2'' t3'' hb4 hx3 hg3
      cases hfu : fullL 0 t.rows
      · have HFF := Lib.hid hfu
        clear hfu HB3 HB2 HFU HZO
        go_wp2_with fail
        have HCA := Lib.hid (fun w1 (hb : Below w4.heap.size w4 w1) => (hb.cell hxa).trans x1a)
        have HCB := Lib.hid (fun w1 (hb : Below w4.heap.size w4 w1) => (hb.cell hga).trans t3a)
        have HA2 := Lib.hid (fun w1 (hb : Below w4.heap.size w4 w1) => HAD.out HRO.out (1) (by omega) w1 (HB4.out.trans (hb.mono HB4.out.size)))
        clear x1a t3a HAD
        refine wp_region_held_drew (S := fun w' => Below w4.heap.size w4 w') (by kernel_rfl) ((Below.refl _ _).drew) (fun hHeld => ?_)
        refine wpAnyH_take (i := 0) (v := .slice (some ⟨g, 0, none⟩) sn cap) rfl (by kernel_rfl) (by kernel_rfl) (by kernel_rfl) (fun _ _ _ h => h) (Or.inl ⟨by rfl, fun w1 hSw => by (go_simp)⟩) (by assumption) ?_
        simp only [List.getElem_toArray, List.getElem_cons_zero, Act.put, List.setIfInBounds_toArray, List.set_cons_zero, List.set_cons_succ]
        refine wpAnyH_take (i := 1) (v := .int .i64 (i : Int)) rfl (by kernel_rfl) (by kernel_rfl) (by kernel_rfl) (fun _ _ _ h => h) (Or.inl ⟨by rfl, fun w1 hSw => by (go_simp)⟩) (by assumption) ?_
        simp only [List.getElem_toArray, List.getElem_cons_succ, List.getElem_cons_zero, Act.put, List.setIfInBounds_toArray, List.set_cons_zero, List.set_cons_succ]
        refine wpAnyH_take (i := 2) (v := .pointer (some ⟨g, i * 3, none⟩)) rfl (by kernel_rfl) (by kernel_rfl) (by kernel_rfl) (fun _ _ _ h => h) (Or.inl ⟨by rfl, fun w1 hSw => by (go_simp)⟩) (by assumption) ?_
        simp only [List.getElem_toArray, List.getElem_cons_succ, List.getElem_cons_zero, Act.put, List.setIfInBounds_toArray, List.set_cons_zero, List.set_cons_succ]
        refine wpAnyH_take (i := 3) (v := .pointer (some ⟨g, i * 3 + 2, none⟩)) rfl (by kernel_rfl) (by kernel_rfl) (by kernel_rfl) (fun _ _ _ h => h) (Or.inl ⟨by rfl, fun w1 hSw => by (go_simp)⟩) (by assumption) ?_
        simp only [List.getElem_toArray, List.getElem_cons_succ, List.getElem_cons_zero, Act.put, List.setIfInBounds_toArray, List.set_cons_zero, List.set_cons_succ]
        refine wpAnyH_take (i := 4) (v := .slice t.rA tn t.rc) rfl (by kernel_rfl) (by kernel_rfl) (by kernel_rfl) (fun _ _ _ h => h) (Or.inl ⟨by rfl, fun w1 hSw => by (have hcl := HCB.out w1 hSw; go_simp)⟩) (by assumption) ?_
        simp only [List.getElem_toArray, List.getElem_cons_succ, List.getElem_cons_zero, Act.put, List.setIfInBounds_toArray, List.set_cons_zero, List.set_cons_succ]
        refine wpAnyH_take (i := 5) (v := .pointer (some ⟨w.heap.size, 1, none⟩)) rfl (by kernel_rfl) (by kernel_rfl) (by kernel_rfl) (fun _ _ _ h => h) (Or.inl ⟨by rfl, fun w1 hSw => by (go_simp)⟩) (by assumption) ?_
        simp only [List.getElem_toArray, List.getElem_cons_succ, List.getElem_cons_zero, Act.put, List.setIfInBounds_toArray, List.set_cons_zero, List.set_cons_succ]
        refine wpAnyH_take (i := 6) (v := .slice B rn d) rfl (by kernel_rfl) (by kernel_rfl) (by kernel_rfl) (fun _ _ _ h => h) (Or.inl ⟨by rfl, fun w1 hSw => by (have hcl := HCA.out w1 hSw; go_simp)⟩) (by assumption) ?_
        simp only [List.getElem_toArray, List.getElem_cons_succ, List.getElem_cons_zero, Act.put, List.setIfInBounds_toArray, List.set_cons_zero, List.set_cons_succ]
        refine wpAnyH_take (i := 7) (v := tal (1)) rfl (by kernel_rfl) (by kernel_rfl) (by kernel_rfl) (fun _ _ _ h => h) (Or.inl ⟨by rfl, fun w1 hSw => by (go_simp)⟩) (by assumption) ?_
        simp only [List.getElem_toArray, List.getElem_cons_succ, List.getElem_cons_zero, Act.put, List.setIfInBounds_toArray, List.set_cons_zero, List.set_cons_succ]
        refine wpAnyH_take (i := 8) (v := .agg #[.slice B rn d, tal (1)]) rfl (by kernel_rfl) (by kernel_rfl) (by kernel_rfl) (fun _ _ _ h => h) (Or.inl ⟨by rfl, fun w1 hSw => by (simp only [tal]; go_simp)⟩) (by assumption) ?_
        simp only [List.getElem_toArray, List.getElem_cons_succ, List.getElem_cons_zero, Act.put, List.setIfInBounds_toArray, List.set_cons_zero, List.set_cons_succ]
        refine wpAnyH_ready (rs := [9]) (by kernel_rfl) (by simp) ?_
        refine AllReadyH.cons rfl (fun K hK => ?_) AllReadyH.nil
        simp only [List.getElem_toArray, List.getElem_cons_succ, List.getElem_cons_zero]
        go_simp
        refine hK.out _ _ (((Below.refl _ _).drew).alloc (Nat.le_refl _) _) (fun hHeld => ?_)
        clear hK K
        refine wpAnyH_ready (rs := [10]) (by kernel_rfl) (by simp) ?_
        refine AllReadyH.cons rfl (fun K hK => ?_) AllReadyH.nil
        simp only [List.getElem_toArray, List.getElem_cons_succ, List.getElem_cons_zero]
        go_simp
        refine (HA2.out _ hHeld w4.heap.size (by simp) (by simp) (by simp)).mono ?_
        rintro e w5 ⟨⟨A', c', s', rfl, hSR⟩, hb5⟩
        have HSR := Lib.hid hSR
        have hH5 : Below w4.heap.size w4 w5 := hHeld.trans (hb5.mono hHeld.size)
        have HH4 := Lib.hid hHeld.size
        clear hSR hb5 hHeld
        obtain ⟨sl, hsl⟩ : ∃ sl, s'.length = sl := ⟨_, rfl⟩
        have HSL := Lib.hid hsl
        rw [hsl]
        clear hsl
        go_wp2_with fail
        refine hK.out _ _ hH5 (fun hHeld => ?_)
        clear hK K
        refine wpAnyH_take (i := 11) (v := .tuple #[.slice A' sl c', .int .i64 0]) rfl (by kernel_rfl) (by kernel_rfl) (by kernel_rfl) (fun _ _ _ h => h) (Or.inl ⟨by rfl, fun w1 hSw => by (go_simp)⟩) (by assumption) ?_
        simp only [List.getElem_toArray, List.getElem_cons_succ, List.getElem_cons_zero, Act.put, List.setIfInBounds_toArray, List.set_cons_zero, List.set_cons_succ]
        refine wpAnyH_take (i := 12) (v := .slice A' sl c') rfl (by kernel_rfl) (by kernel_rfl) (by kernel_rfl) (fun _ _ _ h => h) (Or.inl ⟨by rfl, fun w1 hSw => by (go_simp)⟩) (by assumption) ?_
        simp only [List.getElem_toArray, List.getElem_cons_succ, List.getElem_cons_zero, Act.put, List.setIfInBounds_toArray, List.set_cons_zero, List.set_cons_succ]
        refine wpAnyH_take (i := 13) (v := .int .i64 0) rfl (by kernel_rfl) (by kernel_rfl) (by kernel_rfl) (fun _ _ _ h => h) (Or.inl ⟨by rfl, fun w1 hSw => by (go_simp)⟩) (by assumption) ?_
        simp only [List.getElem_toArray, List.getElem_cons_succ, List.getElem_cons_zero, Act.put, List.setIfInBounds_toArray, List.set_cons_zero, List.set_cons_succ]
        refine wpAnyH_take (i := 14) (v := .slice A' sl c') rfl (by kernel_rfl) (by kernel_rfl) (by kernel_rfl) (fun _ _ _ h => h) (Or.inl ⟨by rfl, fun w1 hSw => by (go_simp)⟩) (by assumption) ?_
        simp only [List.getElem_toArray, List.getElem_cons_succ, List.getElem_cons_zero, Act.put, List.setIfInBounds_toArray, List.set_cons_zero, List.set_cons_succ]
        refine wpAnyH_take (i := 15) (v := .int .i64 0) rfl (by kernel_rfl) (by kernel_rfl) (by kernel_rfl) (fun _ _ _ h => h) (Or.inl ⟨by rfl, fun w1 hSw => by (go_simp)⟩) (by assumption) ?_
        simp only [List.getElem_toArray, List.getElem_cons_succ, List.getElem_cons_zero, Act.put, List.setIfInBounds_toArray, List.set_cons_zero, List.set_cons_succ]
        refine wpAnyH_done (by kernel_rfl) ?_ _
        have HB5 := Lib.hid (HB4.out.trans (hH5.mono HB4.out.size))
        have hc5 := HCB.out w5 hH5
        have hf5 := (HN.out.below HB5.out).own.frozenAt (i * 3 + 2)
        clear hH5 hHeld HCA HA2
        go_wp2_with fail
        go_ret
        refine ⟨0, rfl, by unfold hitE; rw [HFB.out, HFF.out]; rfl, fun h => absurd rfl h, fun _ => ?_⟩
        rw [← HSL.out, ← HSN.out]
        refine hit_end HN.out HG.out HOO.out ?_ HB5.out HT.out (kk := 1) rfl HSR.out
        have := HB4.out.size; have := HH4.out; simp; omega
      · go_wp2_with fail
        go_ret
        exact ⟨13, rfl, by unfold hitE; rw [HFB.out, hfu]; rfl, fun _ => HB4.out, fun h => by cases h⟩
    · obtain ⟨lk, hlk⟩ : ∃ lk, look (its t.rows) r = lk := ⟨_, rfl⟩
      have HLK := Lib.hid hlk
      have hzz := run_eq_zero (a := lk) (by have := HLB.out; have := HVO.out; unfold okN; omega) 45 Tryz.prog
      have hgz := fun op t x y v => eqGuard_at_tal op t x y lk v
      have C0 := HZO.out HRO.out
      rw [hlk] at C0
      have C1 := Lib.hid (fun d os => Calls.regrown_of (C0 _ (HB2.out.trans ((below_regrown w2 d os).mono HB2.out.size))))
      have e1 := fun d os => cell_regrown (w := w2) t3' d os
      have e2 := fun d os => cell_regrown (w := w2) x2' d os
      have e3 := fun d os => cell_regrown (w := w2) x1' d os
      clear C0 hlk
      go_wp2_with fail
      refine wp_region_quiet_below (by assumption) (by kernel_rfl) ?_
      repeat (quiet_step (first | (go_at_call 69; exact C1.out _ _)))
      refine wpQuiet_nil ?_
      intro _ hw'
      obtain ⟨⟨nq, osq⟩, hw''⟩ := hw'
      subst hw''
      have HB3 := Lib.hid (HB2.out.trans ((below_regrown w2 nq osq).mono HB2.out.size))
      have HW := Lib.hid (below_regrown w2 nq osq)
      clear e1 e2 e3 C1
      generalize Sort.grow (redrawn w2 nq) osq = w3 at HB3 HW ⊢
      have x1'' := (HW.out.cell hx2).trans x1'
      have x2'' := (HW.out.cell hx2).trans x2'
      have hg2 : g < w2.heap.size := by have := HB2.out.size; omega
      have t3'' := (HW.out.cell hg2).trans t3'
      have hx3 : w.heap.size < w3.heap.size := by have := HB3.out.size; have := HW.out.size; omega
      have hg3 : g < w3.heap.size := by have := HB3.out.size; omega
      clear x1' x2' t3' HW hg2 hx2
      by_cases hl0 : lk = 0
      · have hld : decide (lk = 0) = true := decide_eq_true hl0
        go_wp2_with fail
        go_ret
        exact ⟨25, rfl, by unfold hitE; rw [HFB.out, HLK.out, hl0]; rfl, fun _ => HB3.out, fun h => by cases h⟩
      · have hld : decide (lk = 0) = false := decide_eq_false hl0
        go_wp2_with (go_at_call 68; refine (h2.out _).mono ?_; rintro e w' ⟨rfl, rfl⟩)
        have HL0 := Lib.hid hl0
        have x1a := x1''
        have t3a := t3''
        have hxa := hx3
        have hga := hg3
        clear hl0 hld hzz hgz HB2 HFU HZO x1'' x2'' t3'' hx3 hg3
        have HCA := Lib.hid (fun w1 (hb : Below w3.heap.size w3 w1) => (hb.cell hxa).trans x1a)
        have HCB := Lib.hid (fun w1 (hb : Below w3.heap.size w3 w1) => (hb.cell hga).trans t3a)
        have HA2 := Lib.hid (fun w1 (hb : Below w3.heap.size w3 w1) => HAD.out HRO.out (-1) (by omega) w1 (HB3.out.trans (hb.mono HB3.out.size)))
        clear x1a t3a HAD
        refine wp_region_held_drew (S := fun w' => Below w3.heap.size w3 w') (by kernel_rfl) ((Below.refl _ _).drew) (fun hHeld => ?_)
        refine wpAnyH_take (i := 0) (v := .slice (some ⟨g, 0, none⟩) sn cap) rfl (by kernel_rfl) (by kernel_rfl) (by kernel_rfl) (fun _ _ _ h => h) (Or.inl ⟨by rfl, fun w1 hSw => by (go_simp)⟩) (by assumption) ?_
        simp only [List.getElem_toArray, List.getElem_cons_zero, Act.put, List.setIfInBounds_toArray, List.set_cons_zero, List.set_cons_succ]
        refine wpAnyH_take (i := 1) (v := .int .i64 (i : Int)) rfl (by kernel_rfl) (by kernel_rfl) (by kernel_rfl) (fun _ _ _ h => h) (Or.inl ⟨by rfl, fun w1 hSw => by (go_simp)⟩) (by assumption) ?_
        simp only [List.getElem_toArray, List.getElem_cons_succ, List.getElem_cons_zero, Act.put, List.setIfInBounds_toArray, List.set_cons_zero, List.set_cons_succ]
        refine wpAnyH_take (i := 2) (v := .pointer (some ⟨g, i * 3, none⟩)) rfl (by kernel_rfl) (by kernel_rfl) (by kernel_rfl) (fun _ _ _ h => h) (Or.inl ⟨by rfl, fun w1 hSw => by (go_simp)⟩) (by assumption) ?_
        simp only [List.getElem_toArray, List.getElem_cons_succ, List.getElem_cons_zero, Act.put, List.setIfInBounds_toArray, List.set_cons_zero, List.set_cons_succ]
        refine wpAnyH_take (i := 3) (v := .pointer (some ⟨g, i * 3 + 2, none⟩)) rfl (by kernel_rfl) (by kernel_rfl) (by kernel_rfl) (fun _ _ _ h => h) (Or.inl ⟨by rfl, fun w1 hSw => by (go_simp)⟩) (by assumption) ?_
        simp only [List.getElem_toArray, List.getElem_cons_succ, List.getElem_cons_zero, Act.put, List.setIfInBounds_toArray, List.set_cons_zero, List.set_cons_succ]
        refine wpAnyH_take (i := 4) (v := .slice t.rA tn t.rc) rfl (by kernel_rfl) (by kernel_rfl) (by kernel_rfl) (fun _ _ _ h => h) (Or.inl ⟨by rfl, fun w1 hSw => by (have hcl := HCB.out w1 hSw; go_simp)⟩) (by assumption) ?_
        simp only [List.getElem_toArray, List.getElem_cons_succ, List.getElem_cons_zero, Act.put, List.setIfInBounds_toArray, List.set_cons_zero, List.set_cons_succ]
        refine wpAnyH_take (i := 5) (v := .pointer (some ⟨w.heap.size, 1, none⟩)) rfl (by kernel_rfl) (by kernel_rfl) (by kernel_rfl) (fun _ _ _ h => h) (Or.inl ⟨by rfl, fun w1 hSw => by (go_simp)⟩) (by assumption) ?_
        simp only [List.getElem_toArray, List.getElem_cons_succ, List.getElem_cons_zero, Act.put, List.setIfInBounds_toArray, List.set_cons_zero, List.set_cons_succ]
        refine wpAnyH_take (i := 6) (v := .slice B rn d) rfl (by kernel_rfl) (by kernel_rfl) (by kernel_rfl) (fun _ _ _ h => h) (Or.inl ⟨by rfl, fun w1 hSw => by (have hcl := HCA.out w1 hSw; go_simp)⟩) (by assumption) ?_
        simp only [List.getElem_toArray, List.getElem_cons_succ, List.getElem_cons_zero, Act.put, List.setIfInBounds_toArray, List.set_cons_zero, List.set_cons_succ]
        refine wpAnyH_take (i := 7) (v := tal (-1)) rfl (by kernel_rfl) (by kernel_rfl) (by kernel_rfl) (fun _ _ _ h => h) (Or.inl ⟨by rfl, fun w1 hSw => by (go_simp)⟩) (by assumption) ?_
        simp only [List.getElem_toArray, List.getElem_cons_succ, List.getElem_cons_zero, Act.put, List.setIfInBounds_toArray, List.set_cons_zero, List.set_cons_succ]
        refine wpAnyH_take (i := 8) (v := .agg #[.slice B rn d, tal (-1)]) rfl (by kernel_rfl) (by kernel_rfl) (by kernel_rfl) (fun _ _ _ h => h) (Or.inl ⟨by rfl, fun w1 hSw => by (simp only [tal]; go_simp)⟩) (by assumption) ?_
        simp only [List.getElem_toArray, List.getElem_cons_succ, List.getElem_cons_zero, Act.put, List.setIfInBounds_toArray, List.set_cons_zero, List.set_cons_succ]
        refine wpAnyH_ready (rs := [9]) (by kernel_rfl) (by simp) ?_
        refine AllReadyH.cons rfl (fun K hK => ?_) AllReadyH.nil
        simp only [List.getElem_toArray, List.getElem_cons_succ, List.getElem_cons_zero]
        go_simp
        refine hK.out _ _ (((Below.refl _ _).drew).alloc (Nat.le_refl _) _) (fun hHeld => ?_)
        clear hK K
        refine wpAnyH_ready (rs := [10]) (by kernel_rfl) (by simp) ?_
        refine AllReadyH.cons rfl (fun K hK => ?_) AllReadyH.nil
        simp only [List.getElem_toArray, List.getElem_cons_succ, List.getElem_cons_zero]
        go_simp
        refine (HA2.out _ hHeld w3.heap.size (by simp) (by simp) (by simp)).mono ?_
        rintro e w5 ⟨⟨A', c', s', rfl, hSR⟩, hb5⟩
        have HSR := Lib.hid hSR
        have hH5 : Below w3.heap.size w3 w5 := hHeld.trans (hb5.mono hHeld.size)
        have HH4 := Lib.hid hHeld.size
        clear hSR hb5 hHeld
        obtain ⟨sl, hsl⟩ : ∃ sl, s'.length = sl := ⟨_, rfl⟩
        have HSL := Lib.hid hsl
        rw [hsl]
        clear hsl
        go_wp2_with fail
        refine hK.out _ _ hH5 (fun hHeld => ?_)
        clear hK K
        refine wpAnyH_take (i := 11) (v := .tuple #[.slice A' sl c', .int .i64 0]) rfl (by kernel_rfl) (by kernel_rfl) (by kernel_rfl) (fun _ _ _ h => h) (Or.inl ⟨by rfl, fun w1 hSw => by (go_simp)⟩) (by assumption) ?_
        simp only [List.getElem_toArray, List.getElem_cons_succ, List.getElem_cons_zero, Act.put, List.setIfInBounds_toArray, List.set_cons_zero, List.set_cons_succ]
        refine wpAnyH_take (i := 12) (v := .slice A' sl c') rfl (by kernel_rfl) (by kernel_rfl) (by kernel_rfl) (fun _ _ _ h => h) (Or.inl ⟨by rfl, fun w1 hSw => by (go_simp)⟩) (by assumption) ?_
        simp only [List.getElem_toArray, List.getElem_cons_succ, List.getElem_cons_zero, Act.put, List.setIfInBounds_toArray, List.set_cons_zero, List.set_cons_succ]
        refine wpAnyH_take (i := 13) (v := .int .i64 0) rfl (by kernel_rfl) (by kernel_rfl) (by kernel_rfl) (fun _ _ _ h => h) (Or.inl ⟨by rfl, fun w1 hSw => by (go_simp)⟩) (by assumption) ?_
        simp only [List.getElem_toArray, List.getElem_cons_succ, List.getElem_cons_zero, Act.put, List.setIfInBounds_toArray, List.set_cons_zero, List.set_cons_succ]
        refine wpAnyH_take (i := 14) (v := .slice A' sl c') rfl (by kernel_rfl) (by kernel_rfl) (by kernel_rfl) (fun _ _ _ h => h) (Or.inl ⟨by rfl, fun w1 hSw => by (go_simp)⟩) (by assumption) ?_
        simp only [List.getElem_toArray, List.getElem_cons_succ, List.getElem_cons_zero, Act.put, List.setIfInBounds_toArray, List.set_cons_zero, List.set_cons_succ]
        refine wpAnyH_take (i := 15) (v := .int .i64 0) rfl (by kernel_rfl) (by kernel_rfl) (by kernel_rfl) (fun _ _ _ h => h) (Or.inl ⟨by rfl, fun w1 hSw => by (go_simp)⟩) (by assumption) ?_
        simp only [List.getElem_toArray, List.getElem_cons_succ, List.getElem_cons_zero, Act.put, List.setIfInBounds_toArray, List.set_cons_zero, List.set_cons_succ]
        refine wpAnyH_done (by kernel_rfl) ?_ _
        have HB5 := Lib.hid (HB3.out.trans (hH5.mono HB3.out.size))
        have hc5 := HCB.out w5 hH5
        have hf5 := (HN.out.below HB5.out).own.frozenAt (i * 3 + 2)
        clear hH5 hHeld HCA HA2
        go_wp2_with fail
        go_ret
        refine ⟨0, rfl, by unfold hitE; rw [HFB.out, HLK.out, if_neg HL0.out]; rfl, fun h => absurd rfl h, fun _ => ?_⟩
        rw [← HSL.out, ← HSN.out]
        refine hit_end HN.out HG.out HOO.out ?_ HB5.out HT.out (kk := -1) rfl HSR.out
        have := HB3.out.size; have := HH4.out; simp; omega
end Go.Proofs.YtajnnkapgnmoaaaGreat
/-
  eval.Defs: tables without rows; check.Defs: may tables be?
-/
namespace Go.Proofs.YtajnnkapgnmoaaaGreat
open Go.RowKit

/-- a table without rows: its name, where its columns lie -/
structure DM where
  nm : ByteArray
  cA : Option Addr
  cc : Nat
  cols : List C
def DM.cs (t : DM) : List Value := [.string t.nm, .slice t.cA t.cols.length t.cc]
def DM.key (t : DM) : ByteArray × List C := (t.nm, t.cols)
def TM.dkey (t : TM) : ByteArray × List C := (t.nm, t.cols)
def DAt (w : World) (b off : Nat) (l : List DM) : Prop := ∀ i t, l[i]? = some t → w.cell? ⟨b, off + i * 2, none⟩ = some (.string t.nm) ∧ w.cell? ⟨b, off + i * 2 + 1, none⟩ = some (.slice t.cA t.cols.length t.cc)
structure DRow (w : World) (S : Nat → Prop) (A : Option Addr) (l : List DM) : Prop where
  at_ : l = [] ∨ ∃ b off, A = some ⟨b, off, none⟩ ∧ S b ∧ DAt w b off l
  cols : ∀ t ∈ l, CRowS w S t.cA t.cols
  cap : ∀ t ∈ l, t.cols.length ≤ t.cc
section
variable {w w' : World} {S S' : Nat → Prop} {B b off : Nat} {A : Option Addr} {l : List DM}
theorem DAt.kept (h : DAt w b off l) (hk : w'.heap[b]? = w.heap[b]?) : DAt w' b off l := fun i t ht => by
  obtain ⟨h1, h2⟩ := h i t ht
  have hc : ∀ o, w'.cell? ⟨b, o, none⟩ = w.cell? ⟨b, o, none⟩ := fun o => World.cell?_of_block hk
  exact ⟨(hc _).trans h1, (hc _).trans h2⟩
theorem DRow.kept (h : DRow w S A l) (hk : ∀ k, S k → w'.heap[k]? = w.heap[k]?) : DRow w' S A l :=
  ⟨by
    rcases h.at_ with h | ⟨b, o, hA, hS, h⟩
    · exact .inl h
    · exact .inr ⟨b, o, hA, hS, h.kept (hk b hS)⟩, fun t ht => (h.cols t ht).kept hk, h.cap⟩
theorem DRow.mono (h : DRow w S A l) (hS : ∀ k, S k → S' k) : DRow w S' A l :=
  ⟨by
    rcases h.at_ with h | ⟨b, o, hA, hb, h⟩
    · exact .inl h
    · exact .inr ⟨b, o, hA, hS b hb, h⟩, fun t ht => (h.cols t ht).mono hS, h.cap⟩
theorem DRow.below (h : DRow w S A l) (hb : Below B w w') (hS : ∀ k, S k → k < B) : DRow w' S A l := h.kept fun k hk => hb.block k (hS k hk)
theorem DRow.get {i : Nat} {t : DM} (h : DRow w S A l) (ht : l[i]? = some t) : ∃ b off, A = some ⟨b, off, none⟩ ∧ S b ∧ w.cell? ⟨b, off + i * 2, none⟩ = some (.string t.nm) ∧ w.cell? ⟨b, off + i * 2 + 1, none⟩ = some (.slice t.cA t.cols.length t.cc) := by
  rcases h.at_ with rfl | ⟨b, off, hA, hS, h⟩
  · simp at ht
  · exact ⟨b, off, hA, hS, h i t ht⟩
theorem DRow.take (h : DRow w S A l) (k : Nat) : DRow w S A (l.take k) :=
  ⟨(by
    rcases h.at_ with rfl | ⟨b, o, hA, hS, h'⟩
    · exact .inl (by simp)
    · refine .inr ⟨b, o, hA, hS, fun i t ht => h' i t ?_⟩
      rw [List.getElem?_take] at ht
      split at ht
      · exact ht
      · cases ht), fun t ht => h.cols t (List.mem_of_mem_take ht), fun t ht => h.cap t (List.mem_of_mem_take ht)⟩
end
def flatD (l : List DM) : List Value := l.flatMap DM.cs
theorem flatD_len (l : List DM) : (flatD l).length = l.length * 2 := by
  induction l with
  | nil => rfl
  | cons v l ih => show ((DM.cs v) ++ flatD l).length = _; simp [ih, DM.cs]; omega
theorem flatD_get (l : List DM) : ∀ (i : Nat) (v : DM), l[i]? = some v → (flatD l)[i * 2]? = some (.string v.nm) ∧ (flatD l)[i * 2 + 1]? = some (.slice v.cA v.cols.length v.cc) := by
  induction l with
  | nil => intro i v h; simp at h
  | cons x l ih =>
    intro i v h
    have e : flatD (x :: l) = DM.cs x ++ flatD l := rfl
    rw [e]
    cases i with
    | zero =>
      obtain rfl : x = v := by simpa using h
      exact ⟨rfl, rfl⟩
    | succ i =>
      have := ih i v (by simpa using h)
      have hl : (DM.cs x).length = 2 := rfl
      rw [List.getElem?_append_right (by omega), List.getElem?_append_right (by omega), hl]
      rw [show (i + 1) * 2 - 2 = i * 2 from by omega, show (i + 1) * 2 + 1 - 2 = i * 2 + 1 from by omega]
      exact this
theorem flatD_one (t : DM) : flatD [t] = DM.cs t := by simp [flatD]
theorem flatD_append (a b : List DM) : flatD (a ++ b) = flatD a ++ flatD b := by simp [flatD]
theorem own_defs {w : World} {S : Nat → Prop} {base : Nat} {e : TypeId} {v : Value} {l : List DM} (h : w.ownsRow base e 2 v l.length (flatD l)) (hS : ∀ g, base ≤ g → g < w.heap.size → (∀ o, w.frozen? ⟨g, o, none⟩ = false) → S g) (hc : ∀ t ∈ l, CRowS w S t.cA t.cols) (hr : ∀ t ∈ l, t.cols.length ≤ t.cc) :
    ∃ A c, v = .slice A l.length c ∧ l.length ≤ c ∧ DRow w S A l := by
  obtain ⟨_, hcase⟩ := id h
  rcases hcase with ⟨rfl, h0⟩ | ⟨g, cap, cur, rfl, hg, hh, hn, hcap, hsz, htake⟩
  · exact ⟨none, 0, by rw [h0], by omega, .inl (List.eq_nil_of_length_eq_zero h0), hc, hr⟩
  · have hlt : g < w.heap.size := (Array.getElem?_eq_some_iff.1 hh).1
    refine ⟨some ⟨g, 0, none⟩, cap, rfl, hn, .inr ⟨g, 0, rfl, hS g hg hlt (fun o => h.frozenAt o), ?_⟩, hc, hr⟩
    intro i x hx
    obtain ⟨f1, f2⟩ := flatD_get l i x hx
    have hi : i < l.length := (List.getElem?_eq_some_iff.1 hx).1
    rw [Nat.zero_add, h.cellAt _ (by omega), h.cellAt _ (by omega)]
    exact ⟨f1, f2⟩
theorem def_info : (Tryz.prog.info? 134).map (fun i => (i.zero, i.size, i.bytes)) = some (some (.agg #[.string ByteArray.empty, .slice none 0 0]), 2, 40) := by kernel_rfl

set_option maxHeartbeats 2000000 in
set_option maxRecDepth 100000 in
theorem edefs_any (A : Option Addr) (c : Nat) (l : List TM) (w : World) {S : Nat → Prop} (hA : TRow w S A l) (hS : ∀ k, S k → k < w.heap.size) (hl : l.length ≤ 1000000) (hcl : ∀ t ∈ l, t.cols.length ≤ 1000000) :
    Calls Tryz.prog 63 #[.slice A l.length c] w fun e w' => (∃ A' c' s, e = .returned (.slice A' s.length c') ∧ s.length ≤ c' ∧ DRow w' (NewS w w') A' s ∧ s.map DM.key = l.map TM.dkey) ∧ Below w.heap.size w w' := by
  obtain ⟨i0, hi, hz0, hz1, hz2⟩ := info_parts def_info
  obtain ⟨n, hn⟩ : ∃ n, l.length = n := ⟨_, rfl⟩
  have HN := Lib.hid hn
  have HA := Lib.hid hA
  have HS := Lib.hid hS
  have HCL := Lib.hid hcl
  rw [hn] at hl ⊢
  clear hA hS hcl hn
  go_enter Tryz.func63, Tryz.ntmps63
  go_wp2_with fail
  go_loopw [3, 8] (fun v i wr => ∃ (k : Nat) (ol : List DM), k ≤ n ∧ i = .int .i64 k ∧ wr.ownsRow w.heap.size 134 2 v ol.length (flatD ol) ∧ Below w.heap.size w wr ∧ ol.length = k ∧ Hid (∀ t ∈ ol, CRowS wr (fun g => NewS w wr g ∧ v.ownBlock ≠ some g) t.cA t.cols) ∧ Hid (∀ t ∈ ol, t.cols.length ≤ t.cc) ∧ Hid (ol.map DM.key = (l.take k).map TM.dkey)) (fun _ i _ => n - (intOf i).toNat)
  case atStart => exact ⟨0, [], Nat.zero_le _, rfl, World.ownsRow_nil _ _ _ _, Below.refl _ _, rfl, Lib.hid (fun x hx => by simp at hx), Lib.hid (fun x hx => by simp at hx), Lib.hid rfl⟩
  case round =>
    rename World => wo
    obtain ⟨k, ol, hk, rfl, hown, hb, hlen, HOC, HOR, HIT⟩ := hrel
    have HO := Lib.hid hown
    have HB := Lib.hid hb
    have hs := hb.size
    clear hown hb
    by_cases hlt : k < n
    · obtain ⟨x, hx⟩ : ∃ x, l[k]? = some x := ⟨_, List.getElem?_eq_getElem (by rw [HN.out]; exact hlt)⟩
      obtain ⟨b, off, rfl, hSb, hc1, hc2, hc3⟩ := (HA.out.below HB.out HS.out).get hx
      have hm := List.mem_of_getElem? hx
      have HIT2 : Hid ((l.take (k + 1)).map TM.dkey = (l.take k).map TM.dkey ++ [x.dkey]) := Lib.hid (by
        obtain ⟨h1, e1⟩ := List.getElem?_eq_some_iff.1 hx
        rw [List.take_succ_eq_append_getElem h1, List.map_append, e1]
        rfl)
      have hcc := Lib.hid (fun w3 (hb : Below w.heap.size w w3) => cloneCols x.cA x.cc x.cols w3 (S := fun k => k < w3.heap.size) (((HA.out.cols x hm).kept fun k hk => hb.block k (HS.out k hk)).mono fun k hk => Nat.lt_of_lt_of_le (HS.out k hk) hb.size) (fun k hk => hk) (by have := HCL.out x hm; omega))
      obtain ⟨xnm, xcA, xcc, xcl, xrA, xrc, xrl⟩ := x
      dsimp only at hc1 hc2 hc3 hcc HIT2
      obtain ⟨xn, hxn⟩ : ∃ xn, xcl.length = xn := ⟨_, rfl⟩
      obtain ⟨xm, hxm⟩ : ∃ xm, xrl.length = xm := ⟨_, rfl⟩
      rw [hxn] at hc2 hcc
      rw [hxm] at hc3
      have HXN := Lib.hid hxn
      clear hx hm hSb hxn hxm
      go_wp2_with fail
      have HBA : Hid (Below w.heap.size w (wo.alloc (.cells #[.string xnm, .slice xcA xn xcc, .slice xrA xm xrc] 44))) := Lib.hid (HB.out.alloc hs _)
      have HGA : Hid ((wo.alloc (.cells #[.string xnm, .slice xcA xn xcc, .slice xrA xm xrc] 44)).heap[wo.heap.size]? = some (.cells #[.string xnm, .slice xcA xn xcc, .slice xrA xm xrc] 44 (0, 0))) := Lib.hid (heap_alloc_new wo _)
      have HBO : Hid (Below wo.heap.size wo (wo.alloc (.cells #[.string xnm, .slice xcA xn xcc, .slice xrA xm xrc] 44))) := Lib.hid ((Below.refl wo.heap.size wo).alloc (Nat.le_refl _) _)
      have hsa : wo.heap.size < (wo.alloc (.cells #[.string xnm, .slice xcA xn xcc, .slice xrA xm xrc] 44)).heap.size := by simp
      generalize wo.alloc (.cells #[.string xnm, .slice xcA xn xcc, .slice xrA xm xrc] 44) = wa at HBA HGA HBO hsa ⊢
      have hno : some wo.heap.size ≠ u3.ownBlock := fun e => by have := (HO.out.lt _ e.symm).2; omega
      clear hc1 hc2 hc3
      refine wp_region_held_drew (S := fun w' => wa.grownBy w' u3.ownBlock) (by kernel_rfl) ⟨rfl, rfl, rfl, Nat.le_refl _, fun _ _ _ => rfl⟩ (fun hHeld => ?_)
      refine wpAnyH_take (i := 0) (v := u3) rfl (by kernel_rfl) (by kernel_rfl) (by kernel_rfl) (fun _ _ _ h => h) (Or.inl ⟨by rfl, fun w1 hSw => by (go_simp)⟩) (by assumption) ?_
      simp only [List.getElem_toArray, List.getElem_cons_zero, Act.put, List.setIfInBounds_toArray, List.set_cons_zero, List.set_cons_succ]
      refine wpAnyH_take (i := 1) (v := .pointer (some ⟨wo.heap.size, 0, none⟩)) rfl (by kernel_rfl) (by kernel_rfl) (by kernel_rfl) (fun _ _ _ h => h) (Or.inl ⟨by rfl, fun w1 hSw => by (go_simp)⟩) (by assumption) ?_
      simp only [List.getElem_toArray, List.getElem_cons_succ, List.getElem_cons_zero, Act.put, List.setIfInBounds_toArray, List.set_cons_zero, List.set_cons_succ]
      refine wpAnyH_take (i := 2) (v := .string xnm) rfl (by kernel_rfl) (by kernel_rfl) (by kernel_rfl) (fun _ _ _ h => h) (Or.inl ⟨by rfl, fun w1 hSw => by (have hcl := Blk.cell ((hSw.block _ hsa hno).trans HGA.out) 0; simp only [List.getElem?_toArray, List.getElem?_cons_zero] at hcl; go_simp)⟩) (by assumption) ?_
      simp only [List.getElem_toArray, List.getElem_cons_succ, List.getElem_cons_zero, Act.put, List.setIfInBounds_toArray, List.set_cons_zero, List.set_cons_succ]
      refine wpAnyH_take (i := 3) (v := .pointer (some ⟨wo.heap.size, 1, none⟩)) rfl (by kernel_rfl) (by kernel_rfl) (by kernel_rfl) (fun _ _ _ h => h) (Or.inl ⟨by rfl, fun w1 hSw => by (go_simp)⟩) (by assumption) ?_
      simp only [List.getElem_toArray, List.getElem_cons_succ, List.getElem_cons_zero, Act.put, List.setIfInBounds_toArray, List.set_cons_zero, List.set_cons_succ]
      refine wpAnyH_take (i := 4) (v := .slice xcA xn xcc) rfl (by kernel_rfl) (by kernel_rfl) (by kernel_rfl) (fun _ _ _ h => h) (Or.inl ⟨by rfl, fun w1 hSw => by (have hcl := Blk.cell ((hSw.block _ hsa hno).trans HGA.out) 1; simp only [List.getElem?_toArray, List.getElem?_cons_zero, List.getElem?_cons_succ] at hcl; go_simp)⟩) (by assumption) ?_
      simp only [List.getElem_toArray, List.getElem_cons_succ, List.getElem_cons_zero, Act.put, List.setIfInBounds_toArray, List.set_cons_zero, List.set_cons_succ]
      refine wpAnyH_ready (rs := [5]) (by kernel_rfl) (by simp) ?_
      refine AllReadyH.cons rfl (fun K hK => ?_) AllReadyH.nil
      simp only [List.getElem_toArray, List.getElem_cons_succ, List.getElem_cons_zero]
      go_simp
      refine (hcc.out _ (HBA.out.drew)).mono ?_
      rintro e w4 ⟨⟨vc, rfl, hoc⟩, hb3⟩
      have HB4 := Lib.hid (HBO.out.drew.trans (hb3.mono (B' := wo.heap.size) (Nat.le_of_lt hsa)))
      have HB4b : Hid (Below wa.heap.size wa w4) := Lib.hid ⟨hb3.os, hb3.tape, hb3.output, hb3.size, hb3.block⟩
      have HB4a : Hid (wa.grownBy w4 u3.ownBlock) := Lib.hid ⟨HB4b.out.os, HB4b.out.tape, HB4b.out.output, HB4b.out.size, fun k hk _ => HB4b.out.block k hk⟩
      have hs4 : wa.heap.size ≤ w4.heap.size := HB4b.out.size
      rw [← HXN.out] at hoc
      obtain ⟨cA', cc', rfl, hcc', hCS⟩ := own_cols (S := NewS wa w4) hoc (fun g h1 h2 h3 => ⟨h1, h2, h3⟩)
      have HCS4 : Hid (CRowS w4 (NewS wo w4) cA' xcl) := Lib.hid (hCS.mono fun k hk => hk.lower (Nat.le_of_lt hsa))
      have HCC := Lib.hid hcc'
      obtain ⟨x', ex'⟩ : ∃ x' : DM, x' = ⟨xnm, cA', cc', xcl⟩ := ⟨_, rfl⟩
      have HO4 := Lib.hid ((ownM_below HO.out HB4.out).alloc (.cells #[.string xnm, .slice cA' xn cc'] 134))
      rw [HXN.out]
      clear hoc hb3 hCS hcc hcc'
      go_wp2_with fail
      refine hK.out _ _ HB4a.out (fun hHeld => ?_)
      clear hK K
      refine wpAnyH_take (i := 6) (v := .agg #[.string xnm, .slice cA' xn cc']) rfl (by kernel_rfl) (by kernel_rfl) (by kernel_rfl) (fun _ _ _ h => h) (Or.inl ⟨by rfl, fun w1 hSw => by (go_simp)⟩) (by assumption) ?_
      simp only [List.getElem_toArray, List.getElem_cons_succ, List.getElem_cons_zero, Act.put, List.setIfInBounds_toArray, List.set_cons_zero, List.set_cons_succ]
      refine wpAnyH_ready (rs := [7]) (by kernel_rfl) (by simp) ?_
      refine AllReadyH.cons rfl (fun K hK => ?_) AllReadyH.nil
      simp only [List.getElem_toArray, List.getElem_cons_succ, List.getElem_cons_zero]
      go_simp
      refine hK.out _ _ ⟨HB4a.out.os, HB4a.out.tape, HB4a.out.output, by have := HB4a.out.size; simp; omega, fun k hk hne => (Below.heap_alloc w4 _ k (by omega)).trans (HB4a.out.block k hk hne)⟩ (fun hHeld => ?_)
      clear hK K
      refine wpAnyH_ready (rs := [8]) (by kernel_rfl) (by simp) ?_
      refine AllReadyH.cons rfl (fun K hK => ?_) AllReadyH.nil
      simp only [List.getElem_toArray, List.getElem_cons_succ, List.getElem_cons_zero]
      refine Eq.mpr (if_pos rfl) ?_
      refine wp_append_any _ _ _ 110 rfl w.heap.size 134 i0 _ 2 40 Tryz.underlying110 hi hz0 hz1 hz2 rfl (by decide) _ _ _ rfl HO4.out (w4.heap.size + 1) _ _ _ [.string xnm, .slice cA' xn cc'] rfl ⟨rfl, fun _ => ⟨_, rfl, Nat.lt_succ_self _, World.news_of_block (heap_alloc_new w4 _)⟩⟩ ?c1 ?c2 ?c3 ?c4 ?_
      case c1 => intro u hu; simp only [List.mem_cons, List.not_mem_nil, or_false] at hu; rcases hu with rfl | rfl <;> rfl
      case c2 => unfold maxLen; omega
      case c3 => omega
      case c4 => first | omega | (simp; omega)
      intro v' w5 hown' hgrow hat
      replace hat : v'.ownBlock = u3.ownBlock ∨ v'.ownBlock = some (w4.heap.size + 1) := by
        rcases hat with h | h
        · exact .inl h
        · exact .inr (by simpa using h)
      obtain ⟨hk1, hk2, hb5⟩ := snoc_blocks (v' := v') (fun g hg => HO.out.lt g hg) hs HB.out HB4.out _ hgrow hat
      have hg5 : wa.grownBy w5 u3.ownBlock := ⟨hgrow.os.trans HB4a.out.os, hgrow.tape.trans HB4a.out.tape, hgrow.output.trans HB4a.out.output, by have h1 := HB4a.out.size; have h2 := hgrow.size; simp at h2; omega, fun k hk hne => (hgrow.block k (by simp; omega) hne).trans ((Below.heap_alloc w4 _ k (by omega)).trans (HB4a.out.block k hk hne))⟩
      have HO5 : Hid (w5.ownsRow w.heap.size 134 2 v' (ol ++ [x']).length (flatD (ol ++ [x']))) := Lib.hid (by rw [flatD_append, flatD_one, List.length_append, ex']; simp only [DM.cs, HXN.out]; exact hown')
      have HOC5 : Hid (∀ t ∈ ol ++ [x'], CRowS w5 (fun g => NewS w w5 g ∧ v'.ownBlock ≠ some g) t.cA t.cols) := Lib.hid (fun t ht => by
        rcases List.mem_append.1 ht with ht | ht
        · exact ((HOC.out t ht).kept fun g hg => (hk1 g hg).1).mono fun g hg => (hk1 g hg).2
        · rw [List.mem_singleton.1 ht, ex']
          exact (HCS4.out.kept fun g hg => (hk2 g hg).1).mono fun g hg => (hk2 g hg).2)
      have HOR5 : Hid (∀ t ∈ ol ++ [x'], t.cols.length ≤ t.cc) := Lib.hid (fun t ht => by
        rcases List.mem_append.1 ht with ht | ht
        · exact HOR.out t ht
        · rw [List.mem_singleton.1 ht, ex']
          exact HCC.out)
      have HIT5 : Hid ((ol ++ [x']).map DM.key = (l.take (k + 1)).map TM.dkey) := Lib.hid (by
        rw [List.map_append, HIT.out, HIT2.out, ex']
        rfl)
      have hol5 : (ol ++ [x']).length = k + 1 := by rw [List.length_append, hlen]; rfl
      have HB5 := Lib.hid hb5
      refine hK.out _ _ hg5 (fun hHeld => ?_)
      clear hK K
      simp only [Act.put, List.setIfInBounds_toArray, List.set_cons_zero, List.set_cons_succ]
      refine wpAnyH_take (i := 9) (v := v') rfl (by kernel_rfl) (by kernel_rfl) (by kernel_rfl) (fun _ _ _ h => h) (Or.inl ⟨by rfl, fun w1 hSw => by (go_simp)⟩) (by assumption) ?_
      simp only [List.getElem_toArray, List.getElem_cons_succ, List.getElem_cons_zero, Act.put, List.setIfInBounds_toArray, List.set_cons_zero, List.set_cons_succ]
      refine wpAnyH_done (by kernel_rfl) ?_ _
      generalize ol ++ [x'] = ol5 at HO5 HOC5 HOR5 HIT5 hol5
      clear hown' hgrow hat hk1 hk2 hb5 hg5 HO HOC HOR HO4 HCS4 HCC HB4 HB HIT HIT2 hHeld HB4a HB4b HBA HGA HBO hno ex'
      go_wp2_with fail
      go_roundw
      case rel => exact ⟨k + 1, ol5, by omega, by go_num, HO5.out, HB5.out, hol5, HOC5, HOR5, HIT5⟩
      case measure => simp [intOf]; omega
    · obtain rfl : k = n := by omega
      obtain ⟨A3, c3, rfl, hc3, hD3⟩ := own_defs (S := NewS w wo) HO.out (fun g h1 h2 h3 => ⟨h1, h2, h3⟩) (fun t ht => (HOC.out t ht).mono fun g hg => hg.1) HOR.out
      have HD3 := Lib.hid hD3
      clear hD3
      go_wp2_with fail
      go_ret
      exact ⟨⟨A3, c3, ol, rfl, hc3, HD3.out, by rw [HIT.out, List.take_of_length_le (by rw [HN.out]; exact Nat.le_refl _)]⟩, HB.out⟩

/-- a table of that name -/
def DM.isB (nm : ByteArray) (t : DM) : Bool := t.nm.toList == nm.toList
theorem cdefs_closure (tn nm : ByteArray) (c1 : Option Addr) (n1 m1 : Nat) (p : Addr) (w : World) (h0 : w.cell? p = some (.string nm)) :
    Calls Tryz.prog 100 #[.agg #[.string tn, .slice c1 n1 m1], .pointer (some p)] w fun e w' => e = .returned (.bool (tn.toList == nm.toList)) ∧ w.alloc (.cells #[.string tn, .slice c1 n1 m1] 134) = w' := by
  have hp := block_lt_of_cell h0
  go_enter Tryz.func100, Tryz.ntmps100
  go_wp2
  go_ret
  exact ⟨rfl, rfl⟩
set_option maxHeartbeats 1000000 in
set_option maxRecDepth 100000 in
theorem indexFunc_def (A : Option Addr) (c : Nat) (l : List DM) (nm : ByteArray) (pb po : Nat) (w : World) {S : Nat → Prop} (hA : DRow w S A l) (hS : ∀ k, S k → k < w.heap.size) (hl : l.length ≤ 1073741824) (h0 : w.cell? ⟨pb, po, none⟩ = some (.string nm)) :
    Calls Tryz.prog 127 #[.slice A l.length c, .func (.func 100) #[] #[.pointer (some ⟨pb, po, none⟩)]] w fun e w' => e = .returned (.int .i64 (idx (DM.isB nm) l 0)) ∧ Below w.heap.size w w' := by
  obtain ⟨n, hn⟩ : ∃ n, l.length = n := ⟨_, rfl⟩
  have HN := Lib.hid hn
  have HA := Lib.hid hA
  have HS := Lib.hid hS
  have hp := block_lt_of_cell h0
  have H0 := Lib.hid h0
  rw [hn] at hl ⊢
  clear hA hS hn h0
  go_enter Tryz.func127, Tryz.ntmps127
  go_wp2_with fail
  go_loopw [8] (fun i wr => ∃ k : Nat, k ≤ n ∧ i = .int .i64 k ∧ Below w.heap.size w wr ∧ Hid (idx (DM.isB nm) l 0 = idx (DM.isB nm) (l.drop k) k)) (fun i _ => n - (intOf i).toNat)
  case atStart => exact ⟨0, Nat.zero_le _, rfl, Below.refl _ _, Lib.hid (by simp)⟩
  case round =>
    obtain ⟨k, hk, rfl, hb, HL⟩ := hrel
    have HB := Lib.hid hb
    have hs := hb.size
    clear hb
    by_cases hlt : k < n
    · obtain ⟨x, hx⟩ : ∃ x, l[k]? = some x := ⟨_, List.getElem?_eq_getElem (by rw [HN.out]; exact hlt)⟩
      obtain ⟨b1, off1, rfl, _, hc1, hc2⟩ := (HA.out.below HB.out HS.out).get hx
      have hq := Lib.hid (cdefs_closure x.nm nm x.cA x.cols.length x.cc ⟨pb, po, none⟩ wr ((HB.out.cell hp).trans H0.out))
      have HD := Lib.hid (HL.out.trans (idx_step (p := DM.isB nm) hx))
      rw [show DM.isB nm x = (x.nm.toList == nm.toList) from rfl] at HD
      generalize (x.nm.toList == nm.toList) = z at hq HD
      obtain ⟨xn, cA, cc, cl⟩ := x
      dsimp only at hc1 hc2 hq
      generalize cl.length = n1 at hc2 hq
      clear hx HL
      cases z
      · go_wp2_with fail
        refine hq.out.mono ?_
        rintro e w3 ⟨rfl, rfl⟩
        have HL4 : Hid (idx (DM.isB nm) l 0 = idx (DM.isB nm) (l.drop (k + 1)) (k + 1)) := Lib.hid (by rw [HD.out]; rfl)
        clear HD
        go_wp2_with fail
        go_roundw
        case rel => exact ⟨k + 1, by omega, by go_num, HB.out.alloc hs _, HL4⟩
        case measure => simp [intOf]; omega
      · go_wp2_with fail
        refine hq.out.mono ?_
        rintro e w3 ⟨rfl, rfl⟩
        have HF : Hid (idx (DM.isB nm) l 0 = (k : Int)) := Lib.hid (by rw [HD.out]; rfl)
        clear HD
        go_wp2_with fail
        go_ret
        exact ⟨by rw [HF.out]; rfl, HB.out.alloc hs _⟩
    · obtain rfl : k = n := by omega
      have HF : Hid (idx (DM.isB nm) l 0 = -1) := Lib.hid (by
        rw [HL.out, List.drop_of_length_le (by rw [HN.out]; exact Nat.le_refl _)]
        rfl)
      go_wp2_with fail
      go_ret
      exact ⟨by rw [HF.out]; rfl, HB.out⟩
theorem idx_nonneg_any {α : Type} (p : α → Bool) (l : List α) : ∀ k : Nat, decide (0 ≤ idx p l k) = l.any p := by
  induction l with
  | nil => intro k; simp [idx]
  | cons x l ih =>
    intro k
    unfold idx
    cases h : p x
    · simp [h, ih]
    · simp [h]
set_option maxHeartbeats 1000000 in
theorem containsFunc_def (A : Option Addr) (c : Nat) (l : List DM) (nm : ByteArray) (pb po : Nat) (w : World) {S : Nat → Prop} (hA : DRow w S A l) (hS : ∀ k, S k → k < w.heap.size) (hl : l.length ≤ 1073741824) (h0 : w.cell? ⟨pb, po, none⟩ = some (.string nm)) :
    Calls Tryz.prog 99 #[.slice A l.length c, .func (.func 100) #[] #[.pointer (some ⟨pb, po, none⟩)]] w fun e w' => e = .returned (.bool (l.any (DM.isB nm))) ∧ Below w.heap.size w w' := by
  have h := Lib.hid (indexFunc_def A c l nm pb po w hA hS hl h0)
  rw [← idx_nonneg_any (DM.isB nm) l 0]
  generalize idx (DM.isB nm) l 0 = z at h
  generalize l.length = n at h
  clear hA hS hl h0
  go_enter Tryz.func99, Tryz.ntmps99
  go_wp2_with fail
  refine h.out.mono ?_
  rintro e w4 ⟨rfl, hb4⟩
  have HB4 := Lib.hid hb4
  clear hb4
  go_wp2
  go_ret
  exact ⟨rfl, HB4.out⟩

/-- why tables may not be -/
def defsR (pre : List (ByteArray × List C)) : List (ByteArray × List C) → Int
  | [] => 0
  | d :: l => if nameB d.1 = false then 20 else if pre.any (fun o => o.1.toList == d.1.toList) = true then 21 else if colsE d.2 = 0 then defsR (pre ++ [d]) l else colsE d.2
def defsE (l : List (ByteArray × List C)) : Int := defsR [] l
theorem defsR_step {l : List DM} {k : Nat} {x : DM} (hx : l[k]? = some x) :
    defsR ((l.take k).map DM.key) ((l.drop k).map DM.key) = if nameB x.nm = false then 20 else if (l.take k).any (DM.isB x.nm) = true then 21 else if colsE x.cols = 0 then defsR ((l.take (k + 1)).map DM.key) ((l.drop (k + 1)).map DM.key) else colsE x.cols := by
  obtain ⟨h1, e1⟩ := List.getElem?_eq_some_iff.1 hx
  rw [List.drop_eq_getElem_cons h1, e1, List.take_succ_eq_append_getElem h1, e1, List.map_append]
  have e : ((l.take k).map DM.key).any (fun o => o.1.toList == x.nm.toList) = (l.take k).any (DM.isB x.nm) := by rw [List.any_map]; rfl
  rw [← e]
  rfl

set_option maxHeartbeats 2000000 in
set_option maxRecDepth 100000 in
theorem cdefs_any (A : Option Addr) (c : Nat) (l : List DM) (w : World) {S : Nat → Prop} (hA : DRow w S A l) (hS : ∀ k, S k → k < w.heap.size) (hl : l.length ≤ 1000000) (hlc : l.length ≤ c) (hcl : ∀ t ∈ l, t.cols.length ≤ 1000000) :
    Calls Tryz.prog 62 #[.slice A l.length c] w fun e w' => e = .returned (.int .i64 (defsE (l.map DM.key))) ∧ Below w.heap.size w w' := by
  obtain ⟨n, hn⟩ : ∃ n, l.length = n := ⟨_, rfl⟩
  have HN := Lib.hid hn
  have HA := Lib.hid hA
  have HS := Lib.hid hS
  have HCL := Lib.hid hcl
  rw [hn] at hl hlc ⊢
  clear hA hS hcl hn
  go_enter Tryz.func62, Tryz.ntmps62
  go_wp2_with fail
  go_loopw [8] (fun i wr => ∃ k : Nat, k ≤ n ∧ i = .int .i64 k ∧ Below w.heap.size w wr ∧ Hid (defsE (l.map DM.key) = defsR ((l.take k).map DM.key) ((l.drop k).map DM.key))) (fun i _ => n - (intOf i).toNat)
  case atStart => exact ⟨0, Nat.zero_le _, rfl, Below.refl _ _, Lib.hid (by simp [defsE])⟩
  case round =>
    rename World => wo
    obtain ⟨k, hk, rfl, hb, HL⟩ := hrel
    have HB := Lib.hid hb
    have hs := hb.size
    clear hb
    by_cases hlt : k < n
    · obtain ⟨x, hx⟩ : ∃ x, l[k]? = some x := ⟨_, List.getElem?_eq_getElem (by rw [HN.out]; exact hlt)⟩
      obtain ⟨b, off, rfl, hSb, hc1, hc2⟩ := (HA.out.below HB.out HS.out).get hx
      have hm := List.mem_of_getElem? hx
      have HD := Lib.hid (HL.out.trans (defsR_step hx))
      have hnm := Lib.hid (fun w1 => name_any x.nm w1)
      have hcf := Lib.hid (fun g0 w1 (hb : Below w.heap.size w w1) (h0 : w1.cell? ⟨g0, 0, none⟩ = some (.string x.nm)) => containsFunc_def (some ⟨b, off, none⟩) c (l.take k) x.nm g0 0 w1 (S := fun k => k < w1.heap.size) (((HA.out.take k).below hb HS.out).mono fun k hk => Nat.lt_of_lt_of_le (HS.out k hk) hb.size) (fun k hk => hk) (by rw [List.length_take]; omega) h0)
      have htk : (l.take k).length = k := by rw [List.length_take, HN.out]; omega
      rw [htk] at hcf
      have hco := Lib.hid (fun w1 (hb : Below w.heap.size w w1) => columns_any x.cA x.cc x.cols (by have := HCL.out x hm; omega) (HA.out.cap x hm) w1 (((HA.out.cols x hm).kept fun k hk => hb.block k (HS.out k hk)).to fun k hk => Nat.lt_of_lt_of_le (HS.out k hk) hb.size))
      obtain ⟨xnm, xcA, xcc, xcl⟩ := x
      dsimp only at hc1 hc2 hnm hcf hco HD
      generalize nameB xnm = q1 at hnm HD
      generalize (l.take k).any (DM.isB xnm) = q2 at hcf HD
      obtain ⟨ce, hce⟩ : ∃ ce, colsE xcl = ce := ⟨_, rfl⟩
      rw [hce] at hco HD
      generalize xcl.length = xn at hc2 hco
      clear hx hm hSb htk HL hce
      go_wp2_with fail
      refine (hnm.out _).mono ?_
      rintro e w' ⟨rfl, rfl⟩
      cases q1
      · go_wp2_with fail
        go_ret
        exact ⟨by rw [HD.out]; rfl, HB.out.alloc hs _⟩
      · go_wp2_with fail
        refine (hcf.out _ _ (HB.out.alloc hs _) (by simp)).mono ?_
        rintro e w1 ⟨rfl, hb1⟩
        have d1 : w1.cell? ⟨wo.heap.size, 1, none⟩ = some (.slice xcA xn xcc) := (hb1.cell (by simp)).trans (by simp)
        have hx1 : wo.heap.size < w1.heap.size := by have := hb1.size; simp at this; omega
        have HB1 := Lib.hid ((HB.out.alloc hs _).trans (hb1.mono (by simp; omega)))
        clear hb1 hnm hcf
        cases q2
        · go_wp2_with fail
          refine (hco.out _ HB1.out).mono ?_
          rintro e w2 ⟨rfl, hb2⟩
          have HB2 := Lib.hid (HB1.out.trans (hb2.mono HB1.out.size))
          clear hb2 hco d1
          by_cases hc0 : ce = 0
          · subst hc0
            have HF : Hid (defsE (l.map DM.key) = defsR ((l.take (k + 1)).map DM.key) ((l.drop (k + 1)).map DM.key)) := Lib.hid (by rw [HD.out]; rfl)
            clear HD
            go_wp2_with fail
            go_roundw
            case rel => exact ⟨k + 1, by omega, by go_num, HB2.out, HF⟩
            case measure => simp [intOf]; omega
          · have HC0 := Lib.hid hc0
            go_wp2_with fail
            go_ret
            exact ⟨by rw [HD.out, if_neg (by decide), if_neg (by decide), if_neg HC0.out]; rfl, HB2.out⟩
        · go_wp2_with fail
          go_ret
          exact ⟨by rw [HD.out]; rfl, HB1.out⟩
    · obtain rfl : k = n := by omega
      have HF : Hid (defsE (l.map DM.key) = 0) := Lib.hid (by
        rw [HL.out, List.drop_of_length_le (by rw [HN.out]; exact Nat.le_refl _)]
        rfl)
      go_wp2_with fail
      go_ret
      exact ⟨by rw [HF.out]; rfl, HB.out⟩
end Go.Proofs.YtajnnkapgnmoaaaGreat
/-
  zset.Plain of a right set: is none below 0?
-/
namespace Go.Proofs.YtajnnkapgnmoaaaGreat
open Go.RowKit

def neg1 (x : IM) : Bool := decide (x.k < 0)
set_option maxHeartbeats 1000000 in
theorem plain_closure (x : IM) (w : World) (kx : okN x.k) :
    Calls Tryz.prog 46 #[x.val] w fun e w' => e = .returned (.bool (neg1 x)) ∧ Below w.heap.size w w' := by
  obtain ⟨A1, c1, r1, k1⟩ := x
  have hc := Lib.hid (fun w1 => tal_net kx w1)
  simp only [IM.val, neg1]
  dsimp only at hc
  generalize r1.length = n1
  generalize tal k1 = T1 at hc
  clear kx
  go_enter Tryz.func46, Tryz.ntmps46
  go_wp2_with (go_at_call 47; refine (hc.out _).mono ?_; rintro e w' ⟨rfl, rfl⟩)
  go_ret
  exact ⟨rfl, (Below.refl w.heap.size w).alloc (Nat.le_refl _) _⟩

set_option maxHeartbeats 1000000 in
set_option maxRecDepth 100000 in
theorem indexFunc_item (A : Option Addr) (c : Nat) (l : List IM) (w : World) {S : Nat → Prop} (hA : SRow w S A l) (hS : ∀ k, S k → k < w.heap.size) (hl : l.length ≤ 1073741824) (hk : SOk l) :
    Calls Tryz.prog 87 #[.slice A l.length c, .func (.func 46) #[] #[]] w fun e w' => e = .returned (.int .i64 (idx neg1 l 0)) ∧ Below w.heap.size w w' := by
  obtain ⟨n, hn⟩ : ∃ n, l.length = n := ⟨_, rfl⟩
  have HN := Lib.hid hn
  have HA := Lib.hid hA
  have HS := Lib.hid hS
  have HK := Lib.hid hk
  rw [hn] at hl ⊢
  clear hA hS hk hn
  go_enter Tryz.func87, Tryz.ntmps87
  go_wp2_with fail
  go_loopw [8] (fun i wr => ∃ k : Nat, k ≤ n ∧ i = .int .i64 k ∧ Below w.heap.size w wr ∧ Hid (idx neg1 l 0 = idx neg1 (l.drop k) k)) (fun i _ => n - (intOf i).toNat)
  case atStart => exact ⟨0, Nat.zero_le _, rfl, Below.refl _ _, Lib.hid (by simp)⟩
  case round =>
    obtain ⟨k, hk, rfl, hb, HL⟩ := hrel
    have HB := Lib.hid hb
    have hs := hb.size
    clear hb
    by_cases hlt : k < n
    · obtain ⟨x, hx⟩ : ∃ x, l[k]? = some x := ⟨_, List.getElem?_eq_getElem (by rw [HN.out]; exact hlt)⟩
      obtain ⟨b1, off1, rfl, _, hc1, hc2⟩ := (HA.out.below HB.out HS.out).get hx
      have hq := Lib.hid (fun w3 => plain_closure x w3 (HK.out.okN (List.mem_of_getElem? hx)))
      have HD := Lib.hid (HL.out.trans (idx_step (p := neg1) hx))
      generalize neg1 x = z at hq HD
      obtain ⟨xA, xc, xr, xk⟩ := x
      simp only [IM.val] at hq
      dsimp only at hc1 hc2
      generalize xr.length = xn at hc1 hq
      clear hx HL
      cases z
      · go_wp2_with fail
        refine (hq.out _).mono ?_
        rintro e w3 ⟨rfl, hb3⟩
        have HB4 := Lib.hid (HB.out.trans (hb3.mono hs))
        have HL4 : Hid (idx neg1 l 0 = idx neg1 (l.drop (k + 1)) (k + 1)) := Lib.hid (by rw [HD.out]; rfl)
        clear hb3 HD
        go_wp2_with fail
        go_roundw
        case rel => exact ⟨k + 1, by omega, by go_num, HB4.out, HL4⟩
        case measure => simp [intOf]; omega
      · go_wp2_with fail
        refine (hq.out _).mono ?_
        rintro e w3 ⟨rfl, hb3⟩
        have HB4 := Lib.hid (HB.out.trans (hb3.mono hs))
        have HF : Hid (idx neg1 l 0 = (k : Int)) := Lib.hid (by rw [HD.out]; rfl)
        clear hb3 HD
        go_wp2_with fail
        go_ret
        exact ⟨by rw [HF.out]; rfl, HB4.out⟩
    · obtain rfl : k = n := by omega
      have HF : Hid (idx neg1 l 0 = -1) := Lib.hid (by
        rw [HL.out, List.drop_of_length_le (by rw [HN.out]; exact Nat.le_refl _)]
        rfl)
      go_wp2_with fail
      go_ret
      exact ⟨by rw [HF.out]; rfl, HB.out⟩
theorem idx_any {α : Type} (p : α → Bool) (l : List α) : ∀ k, decide (0 ≤ idx p l k) = l.any p := by
  induction l with
  | nil => intro k; simp [idx]
  | cons x l ih =>
    intro k
    unfold idx
    cases h : p x
    · simp [h, ih]
    · simp [h]

set_option maxHeartbeats 1000000 in
set_option maxRecDepth 100000 in
theorem zplain_any (A : Option Addr) (c : Nat) (l : List IM) (w : World) {S : Nat → Prop} (hA : SRow w S A l) (hS : ∀ k, S k → k < w.heap.size) (hl : l.length ≤ 1073741824) (hk : SOk l) :
    Calls Tryz.prog 18 #[.slice A l.length c] w fun e w' => e = .returned (.bool (!l.any neg1)) ∧ Below w.heap.size w w' := by
  have h1 := Lib.hid (zright_any A c l w hA hS hl hk)
  have h2 := Lib.hid (fun w3 (h : Below w.heap.size w w3) => indexFunc_item A c l w3 ((hA.below h hS).mono (S' := fun k => k < w3.heap.size) fun k hk => Nat.lt_of_lt_of_le (hS k hk) h.size) (fun k hk => hk) hl hk)
  have h3 : Hid (∀ w3, Below w.heap.size w w3 → Calls Tryz.prog 45 #[.slice A l.length c, .func (.func 46) #[] #[]] w3 fun e w' => e = .returned (.bool (l.any neg1)) ∧ Below w3.heap.size w3 w') := Lib.hid (by
    intro w3 hb
    have h := Lib.hid (h2.out w3 hb)
    rw [← idx_any neg1 l 0]
    generalize idx neg1 l 0 = z at h
    generalize l.length = n at h
    clear h1 h2 hA hS hl hk hb
    go_enter Tryz.func45, Tryz.ntmps45
    go_wp2_with fail
    refine h.out.mono ?_
    rintro e w4 ⟨rfl, hb4⟩
    have HB4 := Lib.hid hb4
    clear hb4
    go_wp2
    go_ret
    exact ⟨rfl, HB4.out⟩)
  generalize l.any neg1 = q at h3 ⊢
  generalize l.length = n at *
  clear hA hS hl hk h2
  go_enter Tryz.func18, Tryz.ntmps18
  go_wp2_with fail
  refine h1.out.mono ?_
  rintro e w1 ⟨rfl, hb1⟩
  have HB1 := Lib.hid hb1
  have hs1 := hb1.size
  clear hb1
  go_wp2_with fail
  refine (h3.out _ HB1.out).mono ?_
  rintro e w2 ⟨rfl, hb2⟩
  have HB2 := Lib.hid (HB1.out.trans (hb2.mono hs1))
  clear hb2
  go_wp2_with fail
  go_ret
  exact ⟨rfl, HB2.out⟩
end Go.Proofs.YtajnnkapgnmoaaaGreat
