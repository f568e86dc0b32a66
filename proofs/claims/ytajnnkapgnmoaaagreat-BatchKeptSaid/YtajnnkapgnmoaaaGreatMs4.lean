/-
  Package row's contract: Columns.
-/
import Derived.Test.YtajnnkapgnmoaaaGreatMs3
import Derived.Deep.RegionHeld3
import Derived.Sort.LotA
import Derived.Sort.Lot0
import Derived.Test.YtajnnkapgnmoaaaGreatRows
import Derived.WalkKit
import Derived.WalkSpells
import Derived.Lib.Hide
import Derived.Shelf.SlSortCmp.KitK
import Derived.Deep.LoopGhost
import Derived.BigRegion
import Derived.Test.YtajnnkapgnmoaaaGreatMs2
import Derived.Deep.Onto
import Derived.WalkLawsBesides
set_option linter.unusedVariables false
set_option linter.unusedSimpArgs false
namespace Go.Proofs.YtajnnkapgnmoaaaGreat
open Go.RowKit

def kindB (k : Int) : Bool := k == 1 || k == 2
/-- why columns may not be: 'pre' are those ahead -/
def colsR (pre : List C) : List C → Int
  | [] => 0
  | c :: r => if (!(nameB c.nm)) || !(kindB c.k) then 20 else if findB pre c.nm then 21 else colsR (pre ++ [c]) r
theorem colsR_step {l : List C} {k : Nat} {c : C} (h : l[k]? = some c) :
    colsR (l.take k) (l.drop k) = if (!(nameB c.nm)) || !(kindB c.k) then 20 else if findB (l.take k) c.nm then 21 else colsR (l.take (k + 1)) (l.drop (k + 1)) := by
  obtain ⟨h1, e1⟩ := List.getElem?_eq_some_iff.1 h
  rw [List.drop_eq_getElem_cons h1, e1, List.take_succ_eq_append_getElem h1, e1]
  rfl
def colsE (l : List C) : Int := if decide (l.length = 0) || decide (6 < l.length) then 23 else colsR [] l

theorem CAt.take {w : World} {b o : Nat} {l : List C} (h : CAt w b o l) (k : Nat) : CAt w b o (l.take k) := fun i c hc => h i c (by
  rw [List.getElem?_take] at hc
  split at hc
  · exact hc
  · cases hc)

set_option maxHeartbeats 1000000 in
theorem columns_full (b o n c : Nat) (l : List C) (hl : l.length = n) (hn : n ≤ 6) (hnc : n ≤ c) (hp : 0 < n) (w : World) (hb : b < w.heap.size) (hL : CAt w b o l) :
    Calls Tryz.prog 101 #[.slice (some ⟨b, o, none⟩) n c] w fun e w' => e = .returned (.int .i64 (colsR [] l)) ∧ Below w.heap.size w w' := by
  have HL := Lib.hid hL
  have Hl := Lib.hid hl
  clear hL hl
  have hg : ((n : Int) == 0) = false := by simp; omega
  have hd : decide (6 < (n : Int)) = false := by simp; omega
  go_enter Tryz.func101, Tryz.ntmps101
  go_wp2_with fail
  go_loopw [17] (fun i wr => ∃ k : Nat, k ≤ n ∧ i = .int .i64 k ∧ Below w.heap.size w wr ∧ Hid (colsR [] l = colsR (l.take k) (l.drop k))) (fun i _ => n - (intOf i).toNat)
  case atStart => exact ⟨0, Nat.zero_le _, rfl, Below.refl _ _, rfl⟩
  case round =>
    obtain ⟨k, hk, rfl, hbl, hz⟩ := hrel
    have hs := hbl.size
    by_cases hlt : k < n
    · obtain ⟨cc, hc⟩ : ∃ c, l[k]? = some c := ⟨_, List.getElem?_eq_getElem (by rw [Hl.out]; exact hlt)⟩
      have hst := Lib.hid (hz.out.trans (colsR_step hc))
      obtain ⟨c1, c2⟩ := HL.out.below hbl hb k cc hc
      clear hc hz
      obtain ⟨cn, ck⟩ := cc
      have hname := Lib.hid (name_any cn)
      have HB := Lib.hid (hbl.alloc hs (.cells #[.string cn, .int .i64 ck] 100))
      have hfind : Hid (∀ w1, Below w.heap.size w w1 → Calls Tryz.prog 128 #[.slice (some ⟨b, o, none⟩) k c, .string cn] w1 fun e w' =>
          e = .returned (.tuple #[.int .i64 (findN (l.take k) cn), .bool (findB (l.take k) cn)]) ∧ Below w1.heap.size w1 w') := Lib.hid fun w1 hw1 => by
        have := find_any (some ⟨b, o, none⟩) c (l.take k) (by simp; omega) cn w1 (.inr ⟨b, o, rfl, by have := hw1.size; omega, (HL.out.below hw1 hb).take k⟩)
        rwa [List.length_take_of_le (by rw [Hl.out]; omega)] at this
      by_cases hnm : nameB cn = true
      · by_cases hkd : kindB ck = true
        · rw [hnm] at hname
          have hst' : Hid (colsR [] l = if findB (l.take k) cn then 21 else colsR (l.take (k + 1)) (l.drop (k + 1))) := Lib.hid (by rw [hst.out, if_neg (by simp [hnm, hkd])])
          clear hst
          have hcases : ck = 1 ∨ ck = 2 := by
            unfold kindB at hkd
            simpa using hkd
          have hk0 : (0 : Int) ≤ (k : Int) := by omega
          have hk1 : (k : Int) ≤ (c : Int) := by omega
          clear hkd hnm
          generalize findN (l.take k) cn = fn at *
          by_cases hfb : findB (l.take k) cn = true
          · rw [hfb] at hfind
            have hst2 : Hid (colsR [] l = 21) := Lib.hid (by rw [hst'.out, if_pos hfb])
            clear hst' hfb
            rcases hcases with rfl | rfl
            all_goals
              go_wp2_with fail
              refine (hname.out _).mono ?_
              rintro e w' ⟨rfl, rfl⟩
              go_wp2_with fail
              go_region_held3 (fun w' => w'.cell? ⟨wr.heap.size, 0, none⟩ = some (.string cn)) (first | go_keep | (exact (hb3.cell (by simp)).trans (by simp)))
                (first | (go_at_call 128; refine (hfind.out _ HB.out.drew).mono ?_; rintro e w3 ⟨rfl, hb3⟩))
              have HB3 := Lib.hid (HB.out.drew.trans (hb3.mono (by simp; omega)))
              clear hb3
              go_wp2_with fail
              go_ret
              exact ⟨by rw [hst2.out]; rfl, HB3.out⟩
          · have hfb' : findB (l.take k) cn = false := by simpa using hfb
            rw [hfb'] at hfind
            have hst2 : Hid (colsR [] l = colsR (l.take (k + 1)) (l.drop (k + 1))) := Lib.hid (by rw [hst'.out, if_neg hfb])
            clear hst' hfb hfb'
            rcases hcases with rfl | rfl
            all_goals
              go_wp2_with fail
              refine (hname.out _).mono ?_
              rintro e w' ⟨rfl, rfl⟩
              go_wp2_with fail
              go_region_held3 (fun w' => w'.cell? ⟨wr.heap.size, 0, none⟩ = some (.string cn)) (first | go_keep | (exact (hb3.cell (by simp)).trans (by simp)))
                (first | (go_at_call 128; refine (hfind.out _ HB.out.drew).mono ?_; rintro e w3 ⟨rfl, hb3⟩))
              have hb4 := HB.out.drew.trans (hb3.mono (by simp; omega))
              clear hb3
              go_wp2_with fail
              go_roundw
              case rel => exact ⟨k + 1, by omega, by go_num, hb4, hst2⟩
              case measure => simp [intOf]; omega
        · rw [hnm] at hname
          have hst' : Hid (colsR [] l = 20) := Lib.hid (by rw [hst.out, if_pos (by simp [hkd])])
          have h1 : (ck != 1) = true := by unfold kindB at hkd; simp at hkd ⊢; omega
          have h2 : (ck != 2) = true := by unfold kindB at hkd; simp at hkd ⊢; omega
          clear hst hkd hnm hfind
          go_wp2_with fail
          refine (hname.out _).mono ?_
          rintro e w' ⟨rfl, rfl⟩
          go_wp2_with fail
          go_ret
          exact ⟨by rw [hst'.out]; rfl, HB.out⟩
      · have hnm' : nameB cn = false := by simpa using hnm
        rw [hnm'] at hname
        have hst' : Hid (colsR [] l = 20) := Lib.hid (by rw [hst.out, if_pos (by simp [hnm'])])
        clear hst hnm hnm' hfind
        go_wp2_with fail
        refine (hname.out _).mono ?_
        rintro e w' ⟨rfl, rfl⟩
        go_wp2_with fail
        go_ret
        exact ⟨by rw [hst'.out]; rfl, HB.out⟩
    · have hst : Hid (colsR [] l = 0) := Lib.hid (by rw [hz.out, List.drop_of_length_le (by rw [Hl.out]; omega)]; rfl)
      clear hz
      go_wp2_with fail
      go_ret
      exact ⟨by rw [hst.out]; rfl, hbl⟩

theorem columns_any (A : Option Addr) (c : Nat) (l : List C) (hl : l.length ≤ 9223372036854775807) (hc : l.length ≤ c) (w : World) (hA : CRow w w.heap.size A l) :
    Calls Tryz.prog 101 #[.slice A l.length c] w fun e w' => e = .returned (.int .i64 (colsE l)) ∧ Below w.heap.size w w' := by
  by_cases h0 : l.length = 0
  · have e0 : colsE l = 23 := by simp [colsE, h0]
    rw [e0, h0]
    clear hA h0 e0
    go_enter Tryz.func101, Tryz.ntmps101
    go_wp2
    go_ret
    exact ⟨rfl, Below.refl _ _⟩
  · by_cases h6 : 6 < l.length
    · have e0 : colsE l = 23 := by simp [colsE, h6]
      have hg : ((l.length : Int) == 0) = false := by simp; intro h; subst h; simp at h0
      rw [e0]
      clear hA h0 e0
      generalize l.length = n at *
      go_enter Tryz.func101, Tryz.ntmps101
      go_wp2
      go_ret
      exact ⟨rfl, Below.refl _ _⟩
    · have e0 : colsE l = colsR [] l := by unfold colsE; rw [if_neg]; simp [h0, h6]
      rw [e0]
      rcases hA with rfl | ⟨b, o, rfl, hb, hL⟩
      · exact absurd rfl h0
      · exact columns_full b o l.length c l rfl (by omega) hc (by omega) w hb hL

end Go.Proofs.YtajnnkapgnmoaaaGreat
/-
  Package confluencekeep: Tame, whole; changes of t and u that fit.
-/
set_option linter.unusedVariables false
set_option linter.unusedSimpArgs false
namespace Go.Proofs.YtajnnkapgnmoaaaGreat
open Go.RowKit

/-- what Tame gives -/
def TameRet (nm : ByteArray) (r : List V) (rem : Bool) (w : World) (e : Ending) (w' : World) : Prop :=
  ∃ g, e = .returned (.agg #[.string (tameK nm r).1, .slice (some ⟨g, 0, none⟩) (tameK nm r).2.length (tameK nm r).2.length, .bool rem]) ∧ w.heap.size ≤ g ∧ w'.heap[g]? = some (.cells (flat (tameK nm r).2).toArray 49 (0, 0)) ∧ Below w.heap.size w w'
theorem TameEnd.ret {nm : ByteArray} {r : List V} {rem : Bool} {w w' : World} {e : Ending} {par : Bool} {a b : Int} {s : ByteArray} (hpar : ((nm.size : Int) % 2 == 0) = par) (ha : tame0 r = a) (hb : tame1 r = b) (hs : tame2 r = s) (h : TameEnd par a b s rem w e w') : TameRet nm r rem w e w' := by
  subst ha hb hs hpar
  obtain ⟨⟨g, h1, h2, h3⟩, h4⟩ := h
  by_cases hp : nm.size % 2 = 0
  · have hq : ((nm.size : Int) % 2 == 0) = true := by rw [beq_iff_eq]; omega
    rw [hq] at h1 h3
    have ek : tameK nm r = (nmT, [numV (tame0 r), numV (tame1 r), tS (tame2 r)]) := by unfold tameK; rw [if_pos hp]
    refine ⟨g, ?_, h2, ?_, h4⟩
    · rw [h1, ek]; rfl
    · rw [h3, ek]; rfl
  · have hq : ((nm.size : Int) % 2 == 0) = false := by rw [beq_eq_false_iff_ne]; omega
    rw [hq] at h1 h3
    have ek : tameK nm r = (nmU, [numV (tame0 r), numV (tame1 r)]) := by unfold tameK; rw [if_neg hp]
    refine ⟨g, ?_, h2, ?_, h4⟩
    · rw [h1, ek]; rfl
    · rw [h3, ek]; rfl
theorem tame_any (nm : ByteArray) (A : Option Addr) (c : Nat) (r : List V) (rem : Bool) (w : World) (hA : VRow w w.heap.size A r) (hn : nm.size ≤ 9223372036854775807) (hs : ∀ x ∈ r, x.s.size ≤ 9223372036854775807) :
    Calls Tryz.prog 9 #[.agg #[.string nm, .slice A r.length c, .bool rem]] w (TameRet nm r rem w) := by
  rcases r with _ | ⟨x, _ | ⟨y, r⟩⟩
  · exact (tame_nil nm A c 0 rem _ w rfl hn rfl).mono fun e w' h => h.ret rfl rfl rfl rfl
  · rcases hA with h | ⟨b, off, rfl, hb, hv⟩
    · cases h
    · exact (tame_one nm b off c 1 _ x.n rem _ w rfl hb rfl (by have := (hv 0 x rfl).2.1; simpa using this) hn rfl).mono fun e w' h => h.ret rfl rfl rfl rfl
  · rcases hA with h | ⟨b, off, rfl, hb, hv⟩
    · cases h
    · have c1 : w.cell? ⟨b, off + 1, none⟩ = some (.int .i64 x.n) := by have := (hv 0 x rfl).2.1; simpa using this
      obtain ⟨_, c2, c3⟩ := hv 1 y rfl
      by_cases h2 : (2 : Int) < (y.s.size : Int)
      · exact (tame_big nm b off c _ _ x.n y.n y.s rem _ w rfl hb (by simp) c1 c2 c3 h2 (hs y (by simp)) hn rfl).mono fun e w' h => h.ret rfl rfl rfl (by unfold tame2; dsimp only; rw [if_pos (by omega)])
      · exact (tame_small nm b off c _ _ x.n y.n y.s rem _ w rfl hb (by simp) c1 c2 c3 h2 (hs y (by simp)) hn rfl).mono fun e w' h => h.ret rfl rfl rfl (by unfold tame2; dsimp only; rw [if_neg (by omega)])
/-- a change of t or of u that fits its table -/
def GoodT (nm : ByteArray) (r : List V) : Prop := (nm = nmT ∧ fitsB tC r = true) ∨ (nm = nmU ∧ fitsB uC r = true)
theorem tame2_size (r : List V) : (tame2 r).size ≤ 2 := by
  unfold tame2
  split
  · split
    · simp; omega
    · omega
  · decide
theorem tame_good (nm : ByteArray) (r : List V) : GoodT (tameK nm r).1 (tameK nm r).2 := by
  unfold tameK
  split
  · refine .inl ⟨rfl, ?_⟩
    have h2 := tame2_size r
    unfold fitsB
    simp only [zipB, numV, tS, tC, V.okB, List.length_cons, List.length_nil]
    simp
    omega
  · refine .inr ⟨rfl, ?_⟩
    unfold fitsB
    simp only [zipB, numV, uC, V.okB, List.length_cons, List.length_nil]
    simp
theorem nmTU : nmT ≠ nmU := by decide
theorem cols_tC : colsE tC = 0 := by decide +kernel
theorem cols_uC : colsE uC = 0 := by decide +kernel
end Go.Proofs.YtajnnkapgnmoaaaGreat
/-
  The plain theory of slices' stable merge: blocks exchanged, rotations, and why two sorted runs become one. No Go in sight.
-/
namespace Go.Proofs.YtajnnkapgnmoaaaGreat
open Go.Sort
set_option linter.unusedSectionVars false
set_option linter.unusedVariables false
variable {α : Type} [Inhabited α] {lt : α → α → Bool}

/-- n places from a on and from b on, exchanged -/
def Xch (d d' : Array α) (a b n : Nat) : Prop := d'.size = d.size ∧ ∀ k, d'[k]! = if a ≤ k ∧ k < a + n then d[k - a + b]! else if b ≤ k ∧ k < b + n then d[k - b + a]! else d[k]!
theorem Xch.zero (d : Array α) (a b : Nat) : Xch d d a b 0 := ⟨rfl, fun k => by rw [if_neg (by omega), if_neg (by omega)]⟩
theorem Xch.step {d dk : Array α} {a b n i : Nat} (h : Xch d dk a b i) (hi : i < n) (hab : a + n ≤ b) (hb : b + n ≤ d.size) : Xch d (swp dk (a + i) (b + i)) a b (i + 1) := by
  refine ⟨(size_swp _ _ _).trans h.1, fun k => ?_⟩
  have h1 : a + i < dk.size := by rw [h.1]; omega
  have h2 : b + i < dk.size := by rw [h.1]; omega
  rw [swp_get dk h1 h2]
  by_cases c1 : k = b + i
  · subst c1
    rw [if_pos rfl, h.2, if_neg (by omega), if_neg (by omega), if_neg (by omega), if_pos (by omega)]
    congr 1; omega
  · rw [if_neg c1]
    by_cases c2 : k = a + i
    · subst c2
      rw [if_pos rfl, h.2, if_neg (by omega), if_neg (by omega), if_pos (by omega)]
      congr 1; omega
    · rw [if_neg c2, h.2]
      repeat' split
      all_goals first | rfl | (exfalso; omega)
theorem Xch.perm {d dk : Array α} {a b n i lo hi : Nat} (h : PermIn lo hi d dk) (hi' : i < n) (hab : a + n ≤ b) (hb : b + n ≤ hi) (hlo : lo ≤ a) (hs : hi ≤ d.size) : PermIn lo hi d (swp dk (a + i) (b + i)) :=
  permIn_trans d dk _ lo hi h (swp_permIn dk lo hi (a + i) (b + i) (by omega) (by omega) (by omega) (by omega) (by rw [h.1]; exact hs))

/-- the parts [a, m) and [m, b) exchanged -/
def Rot (d d' : Array α) (a m b : Nat) : Prop := d'.size = d.size ∧ ∀ k, d'[k]! = if a ≤ k ∧ k < a + (b - m) then d[k - a + m]! else if a + (b - m) ≤ k ∧ k < b then d[k - (a + (b - m)) + a]! else d[k]!
theorem Rot.noneL (d : Array α) (m b : Nat) (h : m ≤ b) : Rot d d m m b := ⟨rfl, fun k => by
  repeat' split
  all_goals first | rfl | (congr 1; omega)⟩
theorem Rot.noneR (d : Array α) (a m : Nat) (h : a ≤ m) : Rot d d a m m := ⟨rfl, fun k => by
  repeat' split
  all_goals first | rfl | (congr 1; omega)⟩
/-- what is left to do, when a rotation has come so far -/
theorem Rot.more {d d2 f : Array α} {m i j : Nat} (him : i ≤ m) (hij : j < i) (hj : 0 < j) (hx : Xch d d2 (m - i) m j) (h : Rot d2 f (m - (i - j)) m (m + j)) : Rot d f (m - i) m (m + j) := by
  refine ⟨h.1.trans hx.1, fun k => ?_⟩
  rw [h.2]
  simp only [hx.2]
  repeat' split
  all_goals first | rfl | (exfalso; omega) | (congr 1; omega)
theorem Rot.less {d d2 f : Array α} {m i j : Nat} (him : i ≤ m) (hij : i < j) (hi : 0 < i) (hx : Xch d d2 (m - i) (m + j - i) i) (h : Rot d2 f (m - i) m (m + (j - i))) : Rot d f (m - i) m (m + j) := by
  refine ⟨h.1.trans hx.1, fun k => ?_⟩
  rw [h.2]
  simp only [hx.2]
  repeat' split
  all_goals first | rfl | (exfalso; omega) | (congr 1; omega)
theorem Rot.same {d d2 : Array α} {m i : Nat} (him : i ≤ m) (hx : Xch d d2 (m - i) m i) : Rot d d2 (m - i) m (m + i) := by
  refine ⟨hx.1, fun k => ?_⟩
  rw [hx.2]
  repeat' split
  all_goals first | rfl | (exfalso; omega) | (congr 1; omega)

theorem sorted_le (h : SWO lt) {a b : Nat} {d : Array α} (hs : SortedIn lt a b d) {i j : Nat} (h1 : a ≤ i) (h2 : i ≤ j) (h3 : j < b) : lt d[j]! d[i]! = false := by
  rcases Nat.eq_or_lt_of_le h2 with rfl | h4
  · exact h.irrefl _
  · exact hs i j h1 h4 h3
theorem swo_asymm (h : SWO lt) {x y : α} (h1 : lt x y = true) : lt y x = false := by
  cases h2 : lt y x with
  | false => rfl
  | true => have := h.trans x y x h1 h2; rw [h.irrefl] at this; cases this
/-- x is below what is not below y, where x is below y -/
theorem swo_nlt (h : SWO lt) {x y z : α} (h1 : lt x y = true) (h2 : lt x z = false) : lt y z = false := by
  cases h3 : lt y z with
  | false => rfl
  | true => rw [h.trans x y z h1 h3] at h2; cases h2
theorem swo_ltn (h : SWO lt) {x y z : α} (h1 : lt x y = true) (h2 : lt z y = false) : lt z x = false := by
  cases h3 : lt z x with
  | false => rfl
  | true => rw [h.trans z x y h3 h1] at h2; cases h2

/-- an element moved up: what stands where -/
def UpTo (d d' : Array α) (a k : Nat) : Prop := d'.size = d.size ∧ ∀ t, d'[t]! = if a ≤ t ∧ t < k then d[t + 1]! else if t = k then d[a]! else d[t]!
theorem UpTo.zero (d : Array α) (a : Nat) : UpTo d d a a := ⟨rfl, fun t => by
  repeat' split
  all_goals first | rfl | (exfalso; omega) | (congr 1)⟩
theorem UpTo.step {d dk : Array α} {a k : Nat} (h : UpTo d dk a k) (hak : a ≤ k) (hk : k + 1 < d.size) : UpTo d (swp dk k (k + 1)) a (k + 1) := by
  refine ⟨(size_swp _ _ _).trans h.1, fun t => ?_⟩
  have h1 : k < dk.size := by rw [h.1]; omega
  have h2 : k + 1 < dk.size := by rw [h.1]; omega
  rw [swp_get dk h1 h2, h.2, h.2, h.2]
  repeat' split
  all_goals first | rfl | (exfalso; omega) | (congr 1; omega) | (subst_vars; rfl)
def DownTo (d d' : Array α) (m k : Nat) : Prop := d'.size = d.size ∧ ∀ t, d'[t]! = if k < t ∧ t ≤ m then d[t - 1]! else if t = k then d[m]! else d[t]!
theorem DownTo.zero (d : Array α) (m : Nat) : DownTo d d m m := ⟨rfl, fun t => by
  repeat' split
  all_goals first | rfl | (exfalso; omega) | (congr 1)⟩
theorem DownTo.step {d dk : Array α} {m k : Nat} (h : DownTo d dk m (k + 1)) (hkm : k + 1 ≤ m) (hm : m < d.size) : DownTo d (swp dk (k + 1) k) m k := by
  refine ⟨(size_swp _ _ _).trans h.1, fun t => ?_⟩
  have h1 : k < dk.size := by rw [h.1]; omega
  have h2 : k + 1 < dk.size := by rw [h.1]; omega
  rw [swp_get dk h2 h1, h.2, h.2, h.2]
  repeat' split
  all_goals first | rfl | (exfalso; omega) | (congr 1; omega) | (subst_vars; rfl)

theorem up_sorted (h : SWO lt) {d d' : Array α} {a b i : Nat} (hu : UpTo d d' a (i - 1)) (hai : a + 1 ≤ i) (hib : i ≤ b) (hs : SortedIn lt (a + 1) b d)
    (h1 : i = a + 1 ∨ lt d[i - 1]! d[a]! = true) (h2 : i = b ∨ lt d[i]! d[a]! = false) : SortedIn lt a b d' := by
  intro p q hp hpq hq
  rw [hu.2, hu.2]
  by_cases c1 : q < i - 1
  · rw [if_pos (by omega), if_pos (by omega)]
    exact hs _ _ (by omega) (by omega) (by omega)
  · by_cases c2 : q = i - 1
    · rw [if_neg (by omega), if_pos c2, if_pos (by omega)]
      have h1 := h1.resolve_left (by omega)
      exact swo_nlt h h1 (sorted_le h hs (by omega) (by omega) (by omega))
    · rw [if_neg (by omega), if_neg c2]
      by_cases c3 : p < i - 1
      · rw [if_pos (by omega)]
        exact hs _ _ (by omega) (by omega) (by omega)
      · by_cases c4 : p = i - 1
        · rw [if_neg (by omega), if_pos c4]
          have h2 := h2.resolve_left (by omega)
          exact h.ntrans _ _ _ (sorted_le h hs (by omega) (show i ≤ q by omega) (by omega)) h2
        · rw [if_neg (by omega), if_neg c4]
          exact hs _ _ (by omega) (by omega) (by omega)
theorem down_sorted (h : SWO lt) {d d' : Array α} {a m i : Nat} (hu : DownTo d d' m i) (hai : a ≤ i) (him : i ≤ m) (hs : SortedIn lt a m d)
    (h1 : i = a ∨ lt d[m]! d[i - 1]! = false) (h2 : i = m ∨ lt d[m]! d[i]! = true) : SortedIn lt a (m + 1) d' := by
  intro p q hp hpq hq
  rw [hu.2, hu.2]
  by_cases c1 : q < i
  · rw [if_neg (by omega), if_neg (by omega), if_neg (by omega), if_neg (by omega)]
    exact hs _ _ (by omega) (by omega) (by omega)
  · by_cases c2 : q = i
    · rw [if_neg (by omega), if_pos c2, if_neg (by omega), if_neg (by omega)]
      have h1 := h1.resolve_left (by omega)
      exact h.ntrans _ _ _ h1 (sorted_le h hs (by omega) (by omega) (by omega))
    · rw [if_pos (show i < q ∧ q ≤ m by omega)]
      by_cases c3 : p < i
      · rw [if_neg (by omega), if_neg (by omega)]
        exact hs _ _ (by omega) (by omega) (by omega)
      · by_cases c4 : p = i
        · rw [if_neg (by omega), if_pos c4]
          have h2 := h2.resolve_left (by omega)
          exact swo_ltn h h2 (sorted_le h hs (by omega) (by omega) (by omega))
        · rw [if_pos (by omega)]
          exact hs _ _ (by omega) (by omega) (by omega)

/-- behind the rotation: four sorted runs, those ahead of mid not above those behind -/
theorem rot_runs (h : SWO lt) {d dr : Array α} {a m b mid start e lo hi : Nat} (hr : Rot d dr start m e) (ham : a ≤ m) (hmb : m ≤ b)
    (h0 : a ≤ start) (hsm : start ≤ m) (hme : m ≤ e) (heb : e ≤ b) (hse : start + e = mid + m) (hl : a ≤ lo) (hlo : lo = a ∨ lo + b = mid + m) (hhi : hi = m ∨ hi = mid)
    (s1 : SortedIn lt a m d) (s2 : SortedIn lt m b d) (c1 : start = lo ∨ lt d[e]! d[start - 1]! = false) (c2 : start = hi ∨ lt d[e - 1]! d[start]! = true) :
    SortedIn lt a start dr ∧ SortedIn lt start mid dr ∧ SortedIn lt mid e dr ∧ SortedIn lt e b dr ∧ ∀ x y, a ≤ x → x < mid → mid ≤ y → y < b → lt dr[y]! dr[x]! = false := by
  have hmid : start + (e - m) = mid := by omega
  have g1 : ∀ k, k < start → dr[k]! = d[k]! := fun k hk => by rw [hr.2, if_neg (by omega), if_neg (by omega)]
  have g2 : ∀ k, start ≤ k → k < mid → dr[k]! = d[k - start + m]! := fun k h1 h2 => by rw [hr.2, if_pos (by omega)]
  have g3 : ∀ k, mid ≤ k → k < e → dr[k]! = d[k - mid + start]! := fun k h1 h2 => by rw [hr.2, if_neg (by omega), if_pos (by omega), hmid]
  have g4 : ∀ k, e ≤ k → dr[k]! = d[k]! := fun k hk => by rw [hr.2, if_neg (by omega), if_neg (by omega)]
  refine ⟨?_, ?_, ?_, ?_, ?_⟩
  · intro p q hp hpq hq
    rw [g1 _ hq, g1 _ (by omega)]
    exact s1 _ _ hp hpq (by omega)
  · intro p q hp hpq hq
    rw [g2 q (by omega) hq, g2 p hp (by omega)]
    exact s2 _ _ (by omega) (by omega) (by omega)
  · intro p q hp hpq hq
    rw [g3 q (by omega) hq, g3 p hp (by omega)]
    exact s1 _ _ (by omega) (by omega) (by omega)
  · intro p q hp hpq hq
    rw [g4 q (by omega), g4 p hp]
    exact s2 _ _ (by omega) (by omega) hq
  · intro x y hx hxm hmy hyb
    by_cases cx : x < start
    · rw [g1 x cx]
      by_cases cy : y < e
      · rw [g3 y hmy cy]
        exact sorted_le h s1 hx (by omega) (by omega)
      · rw [g4 y (by omega)]
        have c1 := c1.resolve_left (by omega)
        exact h.ntrans _ _ _ (sorted_le h s2 hme (show e ≤ y by omega) hyb) (h.ntrans _ _ _ c1 (sorted_le h s1 hx (by omega) (by omega)))
    · rw [g2 x (by omega) hxm]
      by_cases cy : y < e
      · rw [g3 y hmy cy]
        have c2 := c2.resolve_left (by omega)
        exact h.ntrans _ _ _ (sorted_le h s1 h0 (show start ≤ y - mid + start by omega) (by omega)) (swo_nlt h c2 (sorted_le h s2 (show m ≤ x - start + m by omega) (show x - start + m ≤ e - 1 by omega) (by omega)))
      · rw [g4 y (by omega)]
        exact sorted_le h s2 (by omega) (by omega) hyb

/-- both halves sorted, and none of the first above one of the second -/
theorem join_sorted {d d1 d2 : Array α} {a b mid : Nat} (ham : a ≤ mid) (hmb : mid ≤ b) (hb : b ≤ d.size) (p1 : PermIn a mid d d1) (p2 : PermIn mid b d1 d2)
    (s1 : SortedIn lt a mid d1) (s2 : SortedIn lt mid b d2) (hx : ∀ x y, a ≤ x → x < mid → mid ≤ y → y < b → lt d[y]! d[x]! = false) : SortedIn lt a b d2 := by
  have e1 : ∀ x, x < mid → d2[x]! = d1[x]! := fun x hx => p2.2.1 x (.inl hx)
  have e2 : ∀ y, mid ≤ y → d1[y]! = d[y]! := fun y hy => p1.2.1 y (.inr hy)
  have f1 : ∀ x, a ≤ x → x < mid → ∀ y, mid ≤ y → y < b → lt d1[y]! d1[x]! = false := permIn_all d d1 a mid (fun z => ∀ y, mid ≤ y → y < b → lt d1[y]! z = false) (by omega) p1 (fun i h1 h2 y h3 h4 => by rw [e2 y h3]; exact hx i y h1 h2 h3 h4)
  have f2 : ∀ x, a ≤ x → x < mid → ∀ y, mid ≤ y → y < b → lt d2[y]! d1[x]! = false := fun x h1 h2 => permIn_all d1 d2 mid b (fun z => lt z d1[x]! = false) (by rw [p1.1]; exact hb) p2 (fun i h3 h4 => f1 x h1 h2 i h3 h4)
  intro p q hp hpq hq
  by_cases c1 : q < mid
  · rw [e1 q c1, e1 p (by omega)]
    exact s1 p q hp hpq c1
  · by_cases c2 : p < mid
    · rw [e1 p c2]
      exact f2 p hp c2 q (by omega) hq
    · exact s2 p q (by omega) hpq hq

/-- what a merge does -/
def Sym (lt : α → α → Bool) (a m b : Nat) (d d' : Array α) : Prop := PermIn a b d d' ∧ (SortedIn lt a m d → SortedIn lt m b d → SortedIn lt a b d')
theorem sym_join (h : SWO lt) {d dr d1 d2 : Array α} {a m b mid start e lo hi : Nat} (hr : Rot d dr start m e) (hp : PermIn a b d dr) (ham : a ≤ m) (hmb : m ≤ b) (hb : b ≤ d.size)
    (h0 : a ≤ start) (hsm : start ≤ m) (hme : m ≤ e) (heb : e ≤ b) (hse : start + e = mid + m) (hl : a ≤ lo) (hlo : lo = a ∨ lo + b = mid + m) (hhi : hi = m ∨ hi = mid)
    (c1 : start = lo ∨ lt d[e]! d[start - 1]! = false) (c2 : start = hi ∨ lt d[e - 1]! d[start]! = true)
    (k1 : Sym lt a start mid dr d1 ∨ ((start = a ∨ start = mid) ∧ d1 = dr)) (k2 : Sym lt mid e b d1 d2 ∨ ((e = mid ∨ e = b) ∧ d2 = d1)) : Sym lt a m b d d2 := by
  have hmid : mid ≤ b := by omega
  have p1 : PermIn a mid dr d1 := by
    rcases k1 with k | ⟨_, rfl⟩
    · exact k.1
    · exact permIn_refl _ _ _
  have p2 : PermIn mid b d1 d2 := by
    rcases k2 with k | ⟨_, rfl⟩
    · exact k.1
    · exact permIn_refl _ _ _
  have hz : b ≤ dr.size := by rw [hr.1]; exact hb
  refine ⟨permIn_trans d dr d2 a b hp (permIn_trans dr d1 d2 a b (permIn_mono dr d1 a mid a b (Nat.le_refl _) hmid hz p1) (permIn_mono d1 d2 mid b a b (by omega) (Nat.le_refl _) (by rw [p1.1]; exact hz) p2)), fun s1 s2 => ?_⟩
  obtain ⟨r1, r2, r3, r4, r5⟩ := rot_runs h hr ham hmb h0 hsm hme heb hse hl hlo hhi s1 s2 c1 c2
  have g : ∀ y, mid ≤ y → d1[y]! = dr[y]! := fun y hy => p1.2.1 y (.inr hy)
  have t1 : SortedIn lt a mid d1 := by
    rcases k1 with k | ⟨hk, rfl⟩
    · exact k.2 r1 r2
    · rcases hk with hk | hk
      · rw [hk] at r2; exact r2
      · rw [hk] at r1; exact r1
  have r3' : SortedIn lt mid e d1 := fun i j h1 h2 h3 => by rw [g i h1, g j (by omega)]; exact r3 i j h1 h2 h3
  have r4' : SortedIn lt e b d1 := fun i j h1 h2 h3 => by rw [g i (by omega), g j (by omega)]; exact r4 i j h1 h2 h3
  have t2 : SortedIn lt mid b d2 := by
    rcases k2 with k | ⟨hk, rfl⟩
    · exact k.2 r3' r4'
    · rcases hk with hk | hk
      · rw [hk] at r4'; exact r4'
      · rw [hk] at r3'; exact r3'
  exact join_sorted (by omega) hmid hz p1 p2 t1 t2 r5

/-- every run of s places is sorted -/
def Runs (lt : α → α → Bool) (s n : Nat) (d : Array α) : Prop := ∀ q, q * s < n → SortedIn lt (q * s) (min (q * s + s) n) d
/-- .. those of 2 * s places ahead of a, and those of s behind -/
def Half (lt : α → α → Bool) (s n t : Nat) (d : Array α) : Prop := (∀ q, q < t → SortedIn lt (q * (2 * s)) (q * (2 * s) + 2 * s) d) ∧ ∀ q, 2 * t ≤ q → q * s < n → SortedIn lt (q * s) (min (q * s + s) n) d
theorem Half.zero {s n : Nat} {d : Array α} (h : Runs lt s n d) : Half lt s n 0 d := ⟨fun q hq => by omega, fun q _ hq => h q hq⟩
theorem Half.step {s n t : Nat} {d d' : Array α} (hs : 0 < s) (h : Half lt s n t d) (hn : t * (2 * s) + 2 * s ≤ n) (hz : n ≤ d.size) (hm : Sym lt (t * (2 * s)) (t * (2 * s) + s) (t * (2 * s) + 2 * s) d d') : Half lt s n (t + 1) d' := by
  have e2 : ∀ q, (2 * q) * s = q * (2 * s) := fun q => by rw [Nat.mul_comm 2 q, Nat.mul_assoc]
  refine ⟨fun q hq => ?_, fun q hq hqn => ?_⟩
  · rcases Nat.lt_or_ge q t with h1 | h1
    · have hle : q * (2 * s) + 2 * s ≤ t * (2 * s) := by
        have := Nat.mul_le_mul_right (2 * s) (show q + 1 ≤ t from h1)
        rwa [Nat.add_mul, Nat.one_mul] at this
      intro i j hi hij hj
      rw [hm.1.2.1 i (.inl (by omega)), hm.1.2.1 j (.inl (by omega))]
      exact h.1 q h1 i j hi hij hj
    · obtain rfl : q = t := by omega
      refine hm.2 ?_ ?_
      · have := h.2 (2 * q) (Nat.le_refl _) (by rw [e2]; omega)
        rw [e2, Nat.min_eq_left (by omega)] at this
        exact this
      · have := h.2 (2 * q + 1) (by omega) (by rw [Nat.add_mul, e2]; omega)
        rw [Nat.add_mul, e2, Nat.one_mul, Nat.min_eq_left (by omega)] at this
        rw [show q * (2 * s) + s + s = q * (2 * s) + 2 * s by omega] at this
        exact this
  · have hge : t * (2 * s) + 2 * s ≤ q * s := by
      have := Nat.mul_le_mul_right s (show 2 * t + 2 ≤ q by omega)
      rw [Nat.add_mul, e2] at this
      exact this
    intro i j hi hij hj
    rw [hm.1.2.1 i (.inr (by omega)), hm.1.2.1 j (.inr (by omega))]
    exact h.2 q (by omega) hqn i j hi hij hj
/-- the last, shorter pair -/
theorem Half.last {s n t : Nat} {d d' : Array α} (hs : 0 < s) (h : Half lt s n t d) (hn : n < t * (2 * s) + 2 * s) (hz : n ≤ d.size)
    (hm : (t * (2 * s) + s < n ∧ Sym lt (t * (2 * s)) (t * (2 * s) + s) n d d') ∨ (n ≤ t * (2 * s) + s ∧ d' = d)) : Runs lt (2 * s) n d' := by
  have e2 : ∀ q, (2 * q) * s = q * (2 * s) := fun q => by rw [Nat.mul_comm 2 q, Nat.mul_assoc]
  intro q hq
  rcases Nat.lt_or_ge q t with h1 | h1
  · have hle : q * (2 * s) + 2 * s ≤ t * (2 * s) := by
      have := Nat.mul_le_mul_right (2 * s) (show q + 1 ≤ t from h1)
      rwa [Nat.add_mul, Nat.one_mul] at this
    have ho := h.1 q h1
    rcases hm with ⟨h2, hm⟩ | ⟨_, rfl⟩
    · intro i j hi hij hj
      have : min (q * (2 * s) + 2 * s) n ≤ q * (2 * s) + 2 * s := Nat.min_le_left _ _
      rw [hm.1.2.1 i (.inl (by omega)), hm.1.2.1 j (.inl (by omega))]
      exact ho i j hi hij (by omega)
    · intro i j hi hij hj
      have : min (q * (2 * s) + 2 * s) n ≤ q * (2 * s) + 2 * s := Nat.min_le_left _ _
      exact ho i j hi hij (by omega)
  · have hqt : q = t := by
      rcases Nat.lt_or_ge t q with h2 | h2
      · have := Nat.mul_le_mul_right (2 * s) (show t + 1 ≤ q from h2)
        rw [Nat.add_mul, Nat.one_mul] at this
        omega
      · omega
    subst hqt
    rw [Nat.min_eq_right (by omega)]
    rcases hm with ⟨h2, hm⟩ | ⟨h2, rfl⟩
    · refine hm.2 ?_ ?_
      · have := h.2 (2 * q) (Nat.le_refl _) (by rw [e2]; omega)
        rw [e2, Nat.min_eq_left (by omega)] at this
        exact this
      · have := h.2 (2 * q + 1) (by omega) (by rw [Nat.add_mul, e2]; omega)
        rw [Nat.add_mul, e2, Nat.one_mul, Nat.min_eq_right (by omega)] at this
        exact this
    · have := h.2 (2 * q) (Nat.le_refl _) (by rw [e2]; exact hq)
      rw [e2, Nat.min_eq_right (by omega)] at this
      exact this
theorem Runs.whole {s n : Nat} {d : Array α} (h : Runs lt s n d) (hn : n ≤ s) : SortedIn lt 0 n d := by
  rcases Nat.eq_zero_or_pos n with rfl | h0
  · intro i j _ _ hj; omega
  · have := h 0 (by rw [Nat.zero_mul]; exact h0)
    rw [Nat.zero_mul, Nat.zero_add, Nat.min_eq_right hn] at this
    exact this
/-- the insertion sorts: runs of s ahead of t * s -/
def First (lt : α → α → Bool) (s t : Nat) (d : Array α) : Prop := ∀ q, q < t → SortedIn lt (q * s) (q * s + s) d
theorem First.step {s t : Nat} {d d' : Array α} (h : First lt s t d) (hp : PermIn (t * s) (t * s + s) d d') (hs : SortedIn lt (t * s) (t * s + s) d') : First lt s (t + 1) d' := by
  intro q hq
  rcases Nat.lt_or_ge q t with h1 | h1
  · have hle : q * s + s ≤ t * s := by
      have := Nat.mul_le_mul_right s (show q + 1 ≤ t from h1)
      rwa [Nat.add_mul, Nat.one_mul] at this
    intro i j hi hij hj
    rw [hp.2.1 i (.inl (by omega)), hp.2.1 j (.inl (by omega))]
    exact h q h1 i j hi hij hj
  · obtain rfl : q = t := by omega
    exact hs
theorem First.last {s n t : Nat} {d d' : Array α} (h : First lt s t d) (hn : n < t * s + s) (hp : PermIn (t * s) n d d') (hs : SortedIn lt (t * s) n d') : Runs lt s n d' := by
  intro q hq
  rcases Nat.lt_or_ge q t with h1 | h1
  · have hle : q * s + s ≤ t * s := by
      have := Nat.mul_le_mul_right s (show q + 1 ≤ t from h1)
      rwa [Nat.add_mul, Nat.one_mul] at this
    intro i j hi hij hj
    have : min (q * s + s) n ≤ q * s + s := Nat.min_le_left _ _
    rw [hp.2.1 i (.inl (by omega)), hp.2.1 j (.inl (by omega))]
    exact h q h1 i j hi hij (by omega)
  · have hqt : q = t := by
      rcases Nat.lt_or_ge t q with h2 | h2
      · have := Nat.mul_le_mul_right s (show t + 1 ≤ q from h2)
        rw [Nat.add_mul, Nat.one_mul] at this
        omega
      · omega
    subst hqt
    rw [Nat.min_eq_right (by omega)]
    exact hs
end Go.Proofs.YtajnnkapgnmoaaaGreat
/-
  slices.swapRangeCmpFunc, slices.rotateCmpFunc at items (two cells each): what stands where behind them.
-/
namespace Go.Proofs.YtajnnkapgnmoaaaGreat
open Go.RowKit Go.Sort
theorem run_store_complex (P : Program) (a : Addr) (k : FloatKind) (x y : Nat) (m : Mode) (w : World) : (store a (.complex k x y) m).run P w = stored P w a (.complex k x y) m := run_store P w a _ m rfl
/-- an item's two cells -/
structure ItemC where
  A : Option Addr
  n : Nat
  c : Nat
  x : Nat
  y : Nat
def ItemC.enc (t : ItemC) : List Value := [.slice t.A t.n t.c, .complex .f64 t.x t.y]
variable {α : Type} [Inhabited α] {f : α → ItemC} {w0 : World} {blk off : Nat} {d0 : Array α}

theorem swk_cells {d : Array α} {w : World} {t : ItemC} {i : Nat} (S : SWK (fun x => (f x).enc) 2 w0 blk off d w) (R : RowK (fun x => (f x).enc) 2 w0 blk off d0) (hs : d.size = d0.size) (hi : i < d.size) (e : f d[i]! = t) :
    (w.cell? ⟨blk, off + i * 2, none⟩ = some (.slice t.A t.n t.c) ∧ w.frozen? ⟨blk, off + i * 2, none⟩ = false) ∧ (w.cell? ⟨blk, off + i * 2 + 1, none⟩ = some (.complex .f64 t.x t.y) ∧ w.frozen? ⟨blk, off + i * 2 + 1, none⟩ = false) := by
  have h := S.holds R.hblk R.hH hs
  have h0 := HoldsK.cell h hi (c := 0) (by omega)
  have h1 := HoldsK.cell h hi (c := 1) (by omega)
  subst e
  exact ⟨h0, h1⟩
set_option maxHeartbeats 4000000 in
set_option maxRecDepth 1000000 in
theorem swapRange_any (R : RowK (fun x => (f x).enc) 2 w0 blk off d0) (cap a b n : Nat) (g : Value) (d : Array α) (hs : d.size = d0.size) (w : World) (S : SWK (fun x => (f x).enc) 2 w0 blk off d w) (hab : a + n ≤ b) (hb : b + n ≤ d.size) (hsz : d.size ≤ 1099511627776) :
    Calls Tryz.prog 150 #[.slice (some ⟨blk, off, none⟩) d.size cap, .int .i64 a, .int .i64 b, .int .i64 n, g] w fun e w' => e = .returned (.tuple #[]) ∧
      ∃ d', Xch d d' a b n ∧ (∀ lo hi, lo ≤ a → b + n ≤ hi → hi ≤ d.size → PermIn lo hi d d') ∧ SWK (fun x => (f x).enc) 2 w0 blk off d' w' := by
  have S0 : Aside (SWK (fun x => (f x).enc) 2 w0 blk off d w) := S
  clear S
  have mixed : Tryz.prog.follows .mixedOrders = true := by kernel_rfl
  go_enter Tryz.func150, Tryz.ntmps150
  go_wp2
  go_loopg [10] n (fun kx s10 wr => ∃ (i : Nat) (dk : Array α), s10 = .int .i64 i ∧ i ≤ n ∧ n - i ≤ kx ∧ Aside (SWK (fun x => (f x).enc) 2 w0 blk off dk wr) ∧ Hid (Xch d dk a b i) ∧ Hid (∀ lo hi, lo ≤ a → b + n ≤ hi → hi ≤ d.size → PermIn lo hi d dk))
  case atStart => exact ⟨0, d, rfl, by omega, by omega, S0, Lib.hid (Xch.zero _ _ _), Lib.hid (fun lo hi _ _ _ => permIn_refl _ _ _)⟩
  case round =>
    clear S0
    obtain ⟨i, dk, rfl, hin, hkx, S1, HX, HP⟩ := hrel
    by_cases hlt : i < n
    · have hltz : (i : Int) < (n : Int) := by omega
      have hds : dk.size = d.size := HX.out.1
      go_wp2_with fail
      have ea44 : ((a : Int) + (i : Int)).toNat = a + i := by omega
      have pa44 : (0 : Int) ≤ (a : Int) + (i : Int) := by omega
      have ba44 : (a : Int) + (i : Int) < (d.size : Int) := by omega
      have ra44 : IntKind.i64.wrap ((a : Int) + (i : Int)) = (a : Int) + (i : Int) := by rw [IntKind.wrap_i64]; omega
      have ec44 : ((b : Int) + (i : Int)).toNat = b + i := by omega
      have pc44 : (0 : Int) ≤ (b : Int) + (i : Int) := by omega
      have bc44 : (b : Int) + (i : Int) < (d.size : Int) := by omega
      have rc44 : IntKind.i64.wrap ((b : Int) + (i : Int)) = (b : Int) + (i : Int) := by rw [IntKind.wrap_i64]; omega
      have S2 : Aside (SWK (fun x => (f x).enc) 2 w0 blk off (swp dk (a + i) (b + i)) ((wr.drew.setCells blk (off + (a + i) * 2) ((f dk[b + i]!).enc)).setCells blk (off + (b + i) * 2) ((f dk[a + i]!).enc))) := S1.out.swapped R (a + i) (b + i) (by omega) (by omega)
      obtain ⟨⟨ci1, fi1⟩, ⟨ci2, fi2⟩⟩ := swk_cells S1.out R (by omega) (show a + i < dk.size by omega) rfl
      obtain ⟨⟨cj1, fj1⟩, ⟨cj2, fj2⟩⟩ := swk_cells S1.out R (by omega) (show b + i < dk.size by omega) rfl
      generalize f dk[a + i]! = I at S2 ci1 fi1 ci2 fi2
      generalize f dk[b + i]! = J at S2 cj1 fj1 cj2 fj2
      obtain ⟨A1, n1, c1, x1, y1⟩ := I
      obtain ⟨A2, n2, c2, x2, y2⟩ := J
      dsimp only [ItemC.enc] at ci1 fi1 ci2 fi2 cj1 fj1 cj2 fj2 S2
      have HX2 := Lib.hid (HX.out.step hlt hab hb)
      have HP2 : Hid (∀ lo hi, lo ≤ a → b + n ≤ hi → hi ≤ d.size → PermIn lo hi d (swp dk (a + i) (b + i))) := Lib.hid (fun lo hi h1 h2 h3 => Xch.perm (HP.out lo hi h1 h2 h3) hlt hab h2 h1 h3)
      clear S1 HX HP
      go_wp2_with fail
      have hsc := run_store_complex Tryz.prog
      go_big_region
      go_wp2
      go_roundg (n - (i + 1))
      case measure => omega
      case rel => exact ⟨i + 1, swp dk (a + i) (b + i), by go_num, by omega, Nat.le_refl _, S2, HX2, HP2⟩
    · obtain rfl : i = n := by omega
      go_wp2
      go_end0
      exact ⟨rfl, dk, HX.out, HP.out, S1.out⟩

set_option maxHeartbeats 4000000 in
set_option maxRecDepth 1000000 in
theorem rotate_any (R : RowK (fun x => (f x).enc) 2 w0 blk off d0) (cap a m b : Nat) (g : Value) (d : Array α) (hs : d.size = d0.size) (w : World) (S : SWK (fun x => (f x).enc) 2 w0 blk off d w) (ham : a < m) (hmb : m < b) (hb : b ≤ d.size) (hsz : d.size ≤ 1099511627776) :
    Calls Tryz.prog 145 #[.slice (some ⟨blk, off, none⟩) d.size cap, .int .i64 a, .int .i64 m, .int .i64 b, g] w fun e w' => e = .returned (.tuple #[]) ∧
      ∃ d', Rot d d' a m b ∧ PermIn a b d d' ∧ SWK (fun x => (f x).enc) 2 w0 blk off d' w' := by
  have S0 : Aside (SWK (fun x => (f x).enc) 2 w0 blk off d w) := S
  have HS : Hid (d.size = d0.size) := hs
  clear S hs
  have em : ((m - a : Nat) : Int) = (m : Int) - (a : Int) := by omega
  have eb : ((b - m : Nat) : Int) = (b : Int) - (m : Int) := by omega
  go_enter Tryz.func145, Tryz.ntmps145
  go_wp2
  go_loopg [10, 11] (m - a + (b - m)) (fun kx s10 s11 wr => ∃ (i j : Nat) (dk : Array α), s10 = .int .i64 i ∧ s11 = .int .i64 j ∧ 0 < i ∧ 0 < j ∧ i ≤ m - a ∧ j ≤ b - m ∧ i + j ≤ kx ∧ Aside (SWK (fun x => (f x).enc) 2 w0 blk off dk wr) ∧ Hid (∀ f, Rot dk f (m - i) m (m + j) → Rot d f a m b) ∧ Hid (PermIn a b d dk))
  case atStart => exact ⟨m - a, b - m, d, by rw [em], by rw [eb], by omega, by omega, Nat.le_refl _, Nat.le_refl _, Nat.le_refl _, S0, Lib.hid (fun f hf => by
    rw [show m - (m - a) = a by omega, show m + (b - m) = b by omega] at hf
    exact hf), Lib.hid (permIn_refl _ _ _)⟩
  case round =>
    clear S0
    obtain ⟨i, j, dk, rfl, rfl, hi, hj, him, hjb, hkx, S1, HR, HP⟩ := hrel
    have hds : dk.size = d.size := HP.out.1
    have eim : ((m - i : Nat) : Int) = (m : Int) - (i : Int) := by omega
    by_cases hij : i = j
    · subst hij
      have b1 : m - i + i ≤ m := by omega
      have b2 : m + i ≤ dk.size := by omega
      have b3 : dk.size ≤ 1099511627776 := by omega
      have hc := Lib.hid (swapRange_any R cap (m - i) m i g dk (hds.trans HS.out) wr S1.out b1 b2 b3)
      rw [hds, eim] at hc
      clear S1 b1 b2 b3
      go_wp2_with (go_at_call 150; refine hc.out.mono ?_; rintro e w2 ⟨rfl, d2, hx, hp, hS⟩)
      go_end0
      refine ⟨rfl, d2, HR.out d2 (Rot.same (by omega) hx), permIn_trans d dk d2 a b HP.out (hp a b (by omega) (by omega) (by omega)), hS⟩
    · have hne : ((i : Int) ≠ (j : Int)) := by omega
      by_cases hlt : j < i
      · have hc := Lib.hid (swapRange_any R cap (m - i) m j g dk (hds.trans HS.out) wr S1.out (by omega) (by omega) (by omega))
        rw [hds, eim] at hc
        have hltz : (j : Int) < (i : Int) := by omega
        clear S1
        go_wp2_with (go_at_call 150; refine hc.out.mono ?_; rintro e w2 ⟨rfl, d2, hx, hp, hS⟩)
        have S2 : Aside (SWK (fun x => (f x).enc) 2 w0 blk off d2 w2) := hS
        have HR2 : Hid (∀ f, Rot d2 f (m - (i - j)) m (m + j) → Rot d f a m b) := Lib.hid (fun f hf => HR.out f (Rot.more (by omega) hlt hj hx hf))
        have HP2 := Lib.hid (permIn_trans d dk d2 a b HP.out (hp a b (by omega) (by omega) (by omega)))
        clear hS hx hp HR HP hc
        go_wp2
        go_roundg (i - j + j)
        case measure => omega
        case rel => exact ⟨i - j, j, d2, by congr 1; omega, rfl, by omega, hj, by omega, hjb, Nat.le_refl _, S2, HR2, HP2⟩
      · have hc := Lib.hid (swapRange_any R cap (m - i) (m + j - i) i g dk (hds.trans HS.out) wr S1.out (by omega) (by omega) (by omega))
        have e2 : ((m + j - i : Nat) : Int) = (m : Int) + (j : Int) - (i : Int) := by omega
        rw [hds, eim, e2] at hc
        have hltz : ¬ (j : Int) < (i : Int) := by omega
        clear S1
        go_wp2_with (go_at_call 150; refine hc.out.mono ?_; rintro e w2 ⟨rfl, d2, hx, hp, hS⟩)
        have S2 : Aside (SWK (fun x => (f x).enc) 2 w0 blk off d2 w2) := hS
        have HR2 : Hid (∀ f, Rot d2 f (m - i) m (m + (j - i)) → Rot d f a m b) := Lib.hid (fun f hf => HR.out f (Rot.less (by omega) (by omega) hi hx hf))
        have HP2 := Lib.hid (permIn_trans d dk d2 a b HP.out (hp a b (by omega) (by omega) (by omega)))
        clear hS hx hp HR HP hc
        go_wp2
        go_roundg (i + (j - i))
        case measure => omega
        case rel => exact ⟨i, j - i, d2, rfl, by congr 1; omega, hi, by omega, him, by omega, Nat.le_refl _, S2, HR2, HP2⟩
end Go.Proofs.YtajnnkapgnmoaaaGreat
/-
  slices.Clone at items and at values; zset.item.
-/
namespace Go.Proofs.YtajnnkapgnmoaaaGreat
open Go.RowKit

theorem item_info : (Tryz.prog.info? 47).map (fun i => (i.zero, i.size, i.bytes)) = some (some (.agg #[.slice none 0 0, .complex .f64 0 0]), 2, 40) := by kernel_rfl
theorem own_empty_z (w0 : World) (e : TypeId) {base : Nat} (h : base ≤ w0.heap.size) (z : Nat) : (w0.alloc (.cells #[] e)).ownsRow base e z (.slice (some ⟨w0.heap.size, 0, none⟩) 0 0) 0 [] :=
  ⟨by simp, .inr ⟨w0.heap.size, 0, #[], rfl, h, heap_alloc_new w0 _, Nat.le_refl _, by decide, by simp, by simp⟩⟩

set_option maxHeartbeats 1000000 in
set_option maxRecDepth 100000 in
theorem cloneItems (A : Option Addr) (c : Nat) (l : List IM) (w : World) {S : Nat → Prop} (hA : SRow w S A l) (hS : ∀ k, S k → k < w.heap.size) (hl : l.length ≤ 1099511627776) :
    Calls Tryz.prog 79 #[.slice A l.length c] w fun e w' => (∃ v', e = .returned v' ∧ w'.ownsRow w.heap.size 47 2 v' l.length (flatM l)) ∧ Below w.heap.size w w' := by
  obtain ⟨i0, hi, hz0, hz1, hz2⟩ := info_parts item_info
  have HR := Lib.hid (hA.reads hS)
  have q22 : ∀ (w : World) (a : Option Addr) (n c n' c' : Nat), (binOp .eql 41 (.slice a n c) (.slice none n' c')).run Tryz.prog w = .ok (.bool a.isNone) w := fun w a n c n' c' => Lib.run_eql_slice_nil w 41 47 a n c n' c' Tryz.underlying41
  obtain ⟨n, hn⟩ : ∃ n, l.length = n := ⟨_, rfl⟩
  have HN := Lib.hid hn
  rw [hn] at hl ⊢
  rw [hn] at HR
  clear hA hn
  rcases A with _ | ad
  · have hn0 : n = 0 := by
      rcases Nat.eq_zero_or_pos n with h | h
      · exact h
      · obtain ⟨ad, h, _⟩ := HR.out.2 h; cases h
    subst hn0
    have hl0 : l = [] := List.eq_nil_of_length_eq_zero HN.out
    subst hl0
    go_enter Tryz.func79, Tryz.ntmps79
    go_wp2
    go_ret
    exact ⟨⟨_, rfl, World.ownsRow_nil _ _ _ _⟩, Below.refl _ _⟩
  · go_enter Tryz.func79, Tryz.ntmps79
    go_wp2_with (at_builtin; refine wpList_append_any _ rfl _ _ 41 rfl w.heap.size 47 i0 _ 2 40 Tryz.underlying41 hi hz0 hz1 hz2 rfl (by decide) _ _ _ rfl (own_empty_z w 47 (Nat.le_refl _) 2) w.heap.size _ _ _ (flatM l) rfl (HR.out.alloc (Nat.le_refl _) _) ?c1 ?c2 ?c3 ?c4 ?_)
    case c1 => exact flatM_ones _
    case c2 => unfold maxLen; omega
    case c3 => omega
    case c4 => simp
    intro v' w1 hown hgrow _
    have hb := Lib.hid (((Below.refl w.heap.size w).alloc (Nat.le_refl _) _).grown hgrow (by simp) (fun k e => by have := Option.some.inj e; simp at this; omega))
    have ho := Lib.hid hown
    clear hown hgrow
    go_wp2_with fail
    go_ret
    exact ⟨⟨_, rfl, by simpa using ho.out⟩, hb.out⟩

set_option maxHeartbeats 1000000 in
set_option maxRecDepth 100000 in
theorem cloneRow (A : Option Addr) (c : Nat) (l : List V) (w : World) (hA : VRow w w.heap.size A l) (hl : l.length ≤ 1099511627776) :
    Calls Tryz.prog 114 #[.slice A l.length c] w fun e w' => (∃ v', e = .returned v' ∧ w'.ownsRow w.heap.size 49 3 v' l.length (flat l)) ∧ Below w.heap.size w w' := by
  obtain ⟨i0, hi, hz0, hz1, hz2⟩ := info_parts value_info
  have HR := Lib.hid hA.reads
  have q22 : ∀ (w : World) (a : Option Addr) (n c n' c' : Nat), (binOp .eql 26 (.slice a n c) (.slice none n' c')).run Tryz.prog w = .ok (.bool a.isNone) w := fun w a n c n' c' => Lib.run_eql_slice_nil w 26 49 a n c n' c' Tryz.underlying26
  obtain ⟨n, hn⟩ : ∃ n, l.length = n := ⟨_, rfl⟩
  have HN := Lib.hid hn
  rw [hn] at hl ⊢
  rw [hn] at HR
  clear hA hn
  rcases A with _ | ad
  · have hn0 : n = 0 := by
      rcases Nat.eq_zero_or_pos n with h | h
      · exact h
      · obtain ⟨ad, h, _⟩ := HR.out.2 h; cases h
    subst hn0
    have hl0 : l = [] := List.eq_nil_of_length_eq_zero HN.out
    subst hl0
    go_enter Tryz.func114, Tryz.ntmps114
    go_wp2
    go_ret
    exact ⟨⟨_, rfl, World.ownsRow_nil _ _ _ _⟩, Below.refl _ _⟩
  · go_enter Tryz.func114, Tryz.ntmps114
    go_wp2_with (at_builtin; refine wpList_append_any _ rfl _ _ 26 rfl w.heap.size 49 i0 _ 3 32 Tryz.underlying26 hi hz0 hz1 hz2 rfl (by decide) _ _ _ rfl (own_empty_z w 49 (Nat.le_refl _) 3) w.heap.size _ _ _ (flat l) rfl (HR.out.alloc (Nat.le_refl _) _) ?c1 ?c2 ?c3 ?c4 ?_)
    case c1 => exact flat_ones _
    case c2 => unfold maxLen; omega
    case c3 => omega
    case c4 => simp
    intro v' w1 hown hgrow _
    have hb := Lib.hid (((Below.refl w.heap.size w).alloc (Nat.le_refl _) _).grown hgrow (by simp) (fun k e => by have := Option.some.inj e; simp at this; omega))
    have ho := Lib.hid hown
    clear hown hgrow
    go_wp2_with fail
    go_ret
    exact ⟨⟨_, rfl, by simpa using ho.out⟩, hb.out⟩

theorem ownM_keep {w w' : World} {B n : Nat} {e : TypeId} {z : Nat} {v : Value} {xs : List Value} (h : w.ownsRow B e z v n xs) (hk : ∀ g, B ≤ g → w'.heap[g]? = w.heap[g]?) : w'.ownsRow B e z v n xs := by
  refine ⟨h.1, ?_⟩
  rcases h.2 with hn | ⟨g, cap, cur, rfl, hg, hgg, rest⟩
  · exact .inl hn
  · exact .inr ⟨g, cap, cur, rfl, hg, by rw [hk g hg]; exact hgg, rest⟩
theorem set2c {w : World} {g k : Nat} {a b u : Value} {t : TypeId} (h : w.heap[g]? = some (.cells #[a, b] t (0, 0))) : (w.setCell ⟨g, k, none⟩ u).heap[g]? = some (.cells (#[a, b].set! k u) t (0, 0)) := by
  show (w.heap.modify g _)[g]? = _
  rw [Array.getElem?_modify]
  simp [h]
/-- an item stored into a box of the call's own -/
def put2 (w : World) (p : Nat) (x0 x1 : Value) : World := (w.setCell ⟨p, 0, none⟩ x0).setCell ⟨p, 1, none⟩ x1
theorem put2_block {w : World} {p : Nat} {a b x0 x1 : Value} {t : TypeId} (h : w.heap[p]? = some (.cells #[a, b] t (0, 0))) : (put2 w p x0 x1).heap[p]? = some (.cells #[x0, x1] t (0, 0)) :=
  set2c (k := 1) (set2c (k := 0) h)
theorem put2_below {w a : World} {p B : Nat} {x0 x1 : Value} (h : Below B a w) (hp : B ≤ p) : Below B a (put2 w p x0 x1) :=
  (h.setCell (p := ⟨p, 0, none⟩) hp x0).setCell (p := ⟨p, 1, none⟩) hp x1
theorem put2_other {w : World} {p k : Nat} {x0 x1 : Value} (h : k ≠ p) : (put2 w p x0 x1).heap[k]? = w.heap[k]? := by
  simp only [put2, World.setCell, Array.getElem?_modify]
  rw [if_neg (by omega), if_neg (by omega)]
theorem put2_size {w : World} {p : Nat} {x0 x1 : Value} : (put2 w p x0 x1).heap.size = w.heap.size := by simp [put2, World.setCell]
/-- an item in a cell: what is returned -/
theorem results_item {fn : Func} {p : Tmp} (h : fn.results = #[.cell p 47]) {tmps : Array Value} {w : World} {g : Nat} {x0 x1 : Value} {t : TypeId}
    (hp : tmps.getD p undef = .pointer (some ⟨g, 0, none⟩)) (hg : w.heap[g]? = some (.cells #[x0, x1] t (0, 0))) : (results fn tmps).run Tryz.prog w = .ok (.agg #[x0, x1]) w := by
  have hp' : tmps[p]?.getD undef = .pointer (some ⟨g, 0, none⟩) := by simpa using hp
  have hl := run_loadVar_row (P := Tryz.prog) w g t 47 #[x0, x1] (0, 0) _ hg Tryz.underlying47 rfl (by show _ = some 2; kernel_rfl)
  simp [results, h, hp', asAddr, hl]

/-- an item of the call's own memory -/
theorem item_any (A : Option Addr) (c : Nat) (r : List V) (k : Int) (w : World) (hA : VRow w w.heap.size A r) (hl : r.length ≤ 1099511627776) :
    Calls Tryz.prog 75 #[.slice A r.length c, tal k] w fun e w' => ∃ x : IM, e = .returned x.val ∧ x.r = r ∧ x.k = k ∧ r.length ≤ x.c ∧ VRowS w' (NewS w w') x.A r ∧
      w'.ownsRow w.heap.size 49 3 (.slice x.A r.length x.c) r.length (flat r) ∧ Below w.heap.size w w' := by
  have hc := Lib.hid (fun w1 (hb : Below w.heap.size w w1) => cloneRow A c r w1 ((hA.below hb).more hb.size) hl)
  obtain ⟨n, hn⟩ : ∃ n, r.length = n := ⟨_, rfl⟩
  have HN := Lib.hid hn
  rw [hn] at hc ⊢
  unfold tal
  obtain ⟨px, hp⟩ : ∃ px, Fl.F (pos k) = px := ⟨_, rfl⟩
  obtain ⟨qx, hq⟩ : ∃ qx, Fl.F (pos (-k)) = qx := ⟨_, rfl⟩
  have HK := Lib.hid (And.intro hp hq)
  rw [hp, hq]
  clear hp hq
  clear hA hl hn
  go_enter Tryz.func75, Tryz.ntmps75
  have hsc := run_store_complex Tryz.prog
  go_wp2_with fail
  refine (hc.out _ ((Below.refl w.heap.size w).alloc (Nat.le_refl _) _)).mono ?_
  rintro e w1 ⟨⟨v, rfl, hown⟩, hb⟩
  have hs : w.heap.size + 1 ≤ w1.heap.size := by have := hb.size; simpa using this
  have hown2 : w1.ownsRow (w.heap.size + 1) 49 3 v r.length (flat r) := by rw [HN.out]; simpa using hown
  obtain ⟨A', c', rfl, hcc, hV⟩ := own_vals (S := fun q => w.heap.size < q ∧ q < w1.heap.size ∧ ∀ o, w1.frozen? ⟨q, o, none⟩ = false) (by rw [HN.out]; exact hown) (fun g h1 h2 h3 => ⟨by simp at h1; omega, h2, h3⟩)
  rw [HN.out] at hown2
  have HO := Lib.hid hown2
  have HV := Lib.hid hV
  have HC := Lib.hid hcc
  have hbw : Hid (w1.heap[w.heap.size]? = some (.cells #[.slice none 0 0, .complex .f64 0 0] 47 (0, 0))) := Lib.hid ((hb.block w.heap.size (by simp)).trans (heap_alloc_new w _))
  have hb1 := Lib.hid (((Below.refl w.heap.size w).alloc (Nat.le_refl _) _).trans (hb.mono (by simp)))
  have k0 := cell_of_row w1 w.heap.size 0 _ _ _ hbw.out
  have k1 := cell_of_row w1 w.heap.size 1 _ _ _ hbw.out
  have f0 : w1.frozen? ⟨w.heap.size, 0, none⟩ = false := Blk.frozen hbw.out 0
  have f1 : w1.frozen? ⟨w.heap.size, 1, none⟩ = false := Blk.frozen hbw.out 1
  simp only [List.getElem?_toArray, List.getElem?_cons_zero, List.getElem?_cons_succ] at k0 k1
  rw [HN.out]
  clear hown hown2 hV hcc hb
  go_wp2
  refine bodyPost_ret (results_item rfl rfl (put2_block hbw.out)) rfl ?_
  refine ⟨⟨A', c', r, k⟩, by simp only [IM.val, tal, HN.out, HK.out.1, HK.out.2], rfl, rfl, by have := HC.out; have := HN.out; show n ≤ c'; omega, ?_, ?_, put2_below hb1.out (Nat.le_refl _)⟩
  · refine (HV.out.kept fun q hq => put2_other (by omega)).mono fun q hq => ⟨by omega, ?_, fun o => ?_⟩
    · show q < (put2 w1 w.heap.size (.slice A' n c') (.complex .f64 px qx)).heap.size
      rw [put2_size]; exact hq.2.1
    · have : (put2 w1 w.heap.size (.slice A' n c') (.complex .f64 px qx)).heap[q]? = w1.heap[q]? := put2_other (by omega)
      exact (frozen_of_block this).trans (hq.2.2 o)
  · have := ownM_keep (w' := put2 w1 w.heap.size (.slice A' n c') (.complex .f64 px qx)) HO.out fun g hg => put2_other (by omega)
    exact this.mono (Nat.le_succ _)
end Go.Proofs.YtajnnkapgnmoaaaGreat
