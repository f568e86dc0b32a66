/-
  Package confluencekeep: Tame.
-/
import Derived.Test.YtajnnkapgnmoaaaGreatMs2
import Derived.Test.YtajnnkapgnmoaaaGreatMs0
set_option linter.unusedVariables false
set_option linter.unusedSimpArgs false
set_option linter.unusedVariables false
set_option linter.unusedSimpArgs false
namespace Go.Proofs.YtajnnkapgnmoaaaGreat
open Go.RowKit
theorem tame_nat (x : Int) : -4 < x.tmod 4 ∧ x.tmod 4 < 4 ∧ IntKind.i64.wrap (x.tmod 4) = x.tmod 4 := by
  have h1 := Int.tmod_lt_of_pos x (b := 4) (by omega)
  have h2 : -4 < x.tmod 4 := by
    rcases Int.lt_or_le x 0 with h | h
    · have h3 : (-x).tmod 4 < 4 := Int.tmod_lt_of_pos (-x) (by omega)
      rw [Int.neg_tmod] at h3
      omega
    · have := Int.tmod_nonneg 4 h
      omega
  refine ⟨h2, h1, ?_⟩
  rw [IntKind.wrap_i64]
  omega
def TameEnd (par : Bool) (a b : Int) (s : ByteArray) (rem : Bool) (w : World) (e : Ending) (w' : World) : Prop :=
  (∃ g, e = .returned (.agg #[.string (if par then nmT else nmU), .slice (some ⟨g, 0, none⟩) (if par then 3 else 2) (if par then 3 else 2), .bool rem]) ∧ w.heap.size ≤ g ∧ w'.heap[g]? = some (.cells (flat (if par then [numV a, numV b, tS s] else [numV a, numV b])).toArray 49 (0, 0))) ∧ Below w.heap.size w w'
theorem heap_alloc_at {w : World} {g : Nat} (h : g = w.heap.size) (o : Obj) : (w.alloc o).heap[g]? = some o := by subst h; exact heap_alloc_new w o
set_option maxHeartbeats 4000000 in
set_option maxRecDepth 100000 in
theorem tame_nil (nm : ByteArray) (A : Option Addr) (c n : Nat) (rem : Bool) (par : Bool) (w : World) (h0 : n = 0) (hn : nm.size ≤ 9223372036854775807) (hpar : ((nm.size : Int) % 2 == 0) = par) :
    Calls Tryz.prog 9 #[.agg #[.string nm, .slice A n c, .bool rem]] w fun e w' => TameEnd par (0) (0) ⟨#[]⟩ rem w e w' := by
  subst h0
  cases par
  · go_enter Tryz.func9, Tryz.ntmps9
    go_wp2_with (first | (go_at_call 14; refine (keep_num _ _).mono ?_; rintro e w' ⟨rfl, rfl⟩) | (go_at_call 20; refine (keep_str _ _).mono ?_; rintro e w' ⟨rfl, rfl⟩))
    refine bodyPost_ret (v := .agg #[.string nmU, .slice (some ⟨w.heap.size + 1 + 1 + 1 + 1, 0, none⟩) 2 2, .bool rem]) (by simp [results, Tryz.results9, go_sem, nmT, nmU]) rfl ?_
    refine ⟨⟨w.heap.size + 1 + 1 + 1 + 1, rfl, by omega, ?_⟩, ((((((Below.refl _ _).alloc (by simp <;> omega) _).alloc (by simp <;> omega) _).alloc (by simp <;> omega) _).alloc (by simp <;> omega) _).alloc (by simp <;> omega) _)⟩
    exact (heap_alloc_at (by simp) _).trans rfl
  · go_enter Tryz.func9, Tryz.ntmps9
    go_wp2_with (first | (go_at_call 14; refine (keep_num _ _).mono ?_; rintro e w' ⟨rfl, rfl⟩) | (go_at_call 20; refine (keep_str _ _).mono ?_; rintro e w' ⟨rfl, rfl⟩))
    refine bodyPost_ret (v := .agg #[.string nmT, .slice (some ⟨w.heap.size + 1 + 1 + 1 + 1 + 1, 0, none⟩) 3 3, .bool rem]) (by simp [results, Tryz.results9, go_sem, nmT, nmU]) rfl ?_
    refine ⟨⟨w.heap.size + 1 + 1 + 1 + 1 + 1, rfl, by omega, ?_⟩, (((((((Below.refl _ _).alloc (by simp <;> omega) _).alloc (by simp <;> omega) _).alloc (by simp <;> omega) _).alloc (by simp <;> omega) _).alloc (by simp <;> omega) _).alloc (by simp <;> omega) _)⟩
    exact (heap_alloc_at (by simp) _).trans rfl
set_option maxHeartbeats 4000000 in
set_option maxRecDepth 100000 in
theorem tame_one (nm : ByteArray) (b off c n : Nat) (A : Option Addr) (xn : Int) (rem : Bool) (par : Bool) (w : World) (hA : A = some ⟨b, off, none⟩) (hb : b < w.heap.size) (h1 : n = 1) (c1 : w.cell? ⟨b, off + 1, none⟩ = some (.int .i64 xn)) (hn : nm.size ≤ 9223372036854775807) (hpar : ((nm.size : Int) % 2 == 0) = par) :
    Calls Tryz.prog 9 #[.agg #[.string nm, .slice A n c, .bool rem]] w fun e w' => TameEnd par (xn.tmod 4) (0) ⟨#[]⟩ rem w e w' := by
  subst hA
  subst h1
  have t1 := (tame_nat xn).2.2
  have t3 := (tame_nat xn).1
  have t4 := (tame_nat xn).2.1
  cases par
  · go_enter Tryz.func9, Tryz.ntmps9
    go_wp2_with (first | (go_at_call 14; refine (keep_num _ _).mono ?_; rintro e w' ⟨rfl, rfl⟩) | (go_at_call 20; refine (keep_str _ _).mono ?_; rintro e w' ⟨rfl, rfl⟩))
    refine bodyPost_ret (v := .agg #[.string nmU, .slice (some ⟨w.heap.size + 1 + 1 + 1 + 1, 0, none⟩) 2 2, .bool rem]) (by simp [results, Tryz.results9, go_sem, nmT, nmU]) rfl ?_
    refine ⟨⟨w.heap.size + 1 + 1 + 1 + 1, rfl, by omega, ?_⟩, ((((((Below.refl _ _).alloc (by simp <;> omega) _).alloc (by simp <;> omega) _).alloc (by simp <;> omega) _).alloc (by simp <;> omega) _).alloc (by simp <;> omega) _)⟩
    exact (heap_alloc_at (by simp) _).trans rfl
  · go_enter Tryz.func9, Tryz.ntmps9
    go_wp2_with (first | (go_at_call 14; refine (keep_num _ _).mono ?_; rintro e w' ⟨rfl, rfl⟩) | (go_at_call 20; refine (keep_str _ _).mono ?_; rintro e w' ⟨rfl, rfl⟩))
    refine bodyPost_ret (v := .agg #[.string nmT, .slice (some ⟨w.heap.size + 1 + 1 + 1 + 1 + 1, 0, none⟩) 3 3, .bool rem]) (by simp [results, Tryz.results9, go_sem, nmT, nmU]) rfl ?_
    refine ⟨⟨w.heap.size + 1 + 1 + 1 + 1 + 1, rfl, by omega, ?_⟩, (((((((Below.refl _ _).alloc (by simp <;> omega) _).alloc (by simp <;> omega) _).alloc (by simp <;> omega) _).alloc (by simp <;> omega) _).alloc (by simp <;> omega) _).alloc (by simp <;> omega) _)⟩
    exact (heap_alloc_at (by simp) _).trans rfl
set_option maxHeartbeats 4000000 in
set_option maxRecDepth 100000 in
theorem tame_small (nm : ByteArray) (b off c n : Nat) (A : Option Addr) (xn yn : Int) (ys : ByteArray) (rem : Bool) (par : Bool) (w : World) (hA : A = some ⟨b, off, none⟩) (hb : b < w.heap.size) (h1 : 1 < n) (c1 : w.cell? ⟨b, off + 1, none⟩ = some (.int .i64 xn)) (c2 : w.cell? ⟨b, off + 1 * 3 + 1, none⟩ = some (.int .i64 yn)) (c3 : w.cell? ⟨b, off + 1 * 3 + 2, none⟩ = some (.string ys)) (hs : ¬ (2 : Int) < (ys.size : Int)) (hy : ys.size ≤ 9223372036854775807) (hn : nm.size ≤ 9223372036854775807) (hpar : ((nm.size : Int) % 2 == 0) = par) :
    Calls Tryz.prog 9 #[.agg #[.string nm, .slice A n c, .bool rem]] w fun e w' => TameEnd par (xn.tmod 4) (yn.tmod 4) ys rem w e w' := by
  subst hA
  have h0 : (0 : Int) < (n : Int) := by omega
  have t1 := (tame_nat xn).2.2
  have t3 := (tame_nat xn).1
  have t4 := (tame_nat xn).2.1
  have h2 : (1 : Int) < (n : Int) := by omega
  have t2 := (tame_nat yn).2.2
  have t5 := (tame_nat yn).1
  have t6 := (tame_nat yn).2.1
  cases par
  · go_enter Tryz.func9, Tryz.ntmps9
    go_wp2_with (first | (go_at_call 14; refine (keep_num _ _).mono ?_; rintro e w' ⟨rfl, rfl⟩) | (go_at_call 20; refine (keep_str _ _).mono ?_; rintro e w' ⟨rfl, rfl⟩))
    refine bodyPost_ret (v := .agg #[.string nmU, .slice (some ⟨w.heap.size + 1 + 1 + 1 + 1, 0, none⟩) 2 2, .bool rem]) (by simp [results, Tryz.results9, go_sem, nmT, nmU]) rfl ?_
    refine ⟨⟨w.heap.size + 1 + 1 + 1 + 1, rfl, by omega, ?_⟩, ((((((Below.refl _ _).alloc (by simp <;> omega) _).alloc (by simp <;> omega) _).alloc (by simp <;> omega) _).alloc (by simp <;> omega) _).alloc (by simp <;> omega) _)⟩
    exact (heap_alloc_at (by simp) _).trans rfl
  · go_enter Tryz.func9, Tryz.ntmps9
    go_wp2_with (first | (go_at_call 14; refine (keep_num _ _).mono ?_; rintro e w' ⟨rfl, rfl⟩) | (go_at_call 20; refine (keep_str _ _).mono ?_; rintro e w' ⟨rfl, rfl⟩))
    refine bodyPost_ret (v := .agg #[.string nmT, .slice (some ⟨w.heap.size + 1 + 1 + 1 + 1 + 1, 0, none⟩) 3 3, .bool rem]) (by simp [results, Tryz.results9, go_sem, nmT, nmU]) rfl ?_
    refine ⟨⟨w.heap.size + 1 + 1 + 1 + 1 + 1, rfl, by omega, ?_⟩, (((((((Below.refl _ _).alloc (by simp <;> omega) _).alloc (by simp <;> omega) _).alloc (by simp <;> omega) _).alloc (by simp <;> omega) _).alloc (by simp <;> omega) _).alloc (by simp <;> omega) _)⟩
    exact (heap_alloc_at (by simp) _).trans rfl
set_option maxHeartbeats 4000000 in
set_option maxRecDepth 100000 in
theorem tame_big (nm : ByteArray) (b off c n : Nat) (A : Option Addr) (xn yn : Int) (ys : ByteArray) (rem : Bool) (par : Bool) (w : World) (hA : A = some ⟨b, off, none⟩) (hb : b < w.heap.size) (h1 : 1 < n) (c1 : w.cell? ⟨b, off + 1, none⟩ = some (.int .i64 xn)) (c2 : w.cell? ⟨b, off + 1 * 3 + 1, none⟩ = some (.int .i64 yn)) (c3 : w.cell? ⟨b, off + 1 * 3 + 2, none⟩ = some (.string ys)) (hs : (2 : Int) < (ys.size : Int)) (hy : ys.size ≤ 9223372036854775807) (hn : nm.size ≤ 9223372036854775807) (hpar : ((nm.size : Int) % 2 == 0) = par) :
    Calls Tryz.prog 9 #[.agg #[.string nm, .slice A n c, .bool rem]] w fun e w' => TameEnd par (xn.tmod 4) (yn.tmod 4) (ys.extract 0 2) rem w e w' := by
  subst hA
  have h0 : (0 : Int) < (n : Int) := by omega
  have t1 := (tame_nat xn).2.2
  have t3 := (tame_nat xn).1
  have t4 := (tame_nat xn).2.1
  have h2 : (1 : Int) < (n : Int) := by omega
  have t2 := (tame_nat yn).2.2
  have t5 := (tame_nat yn).1
  have t6 := (tame_nat yn).2.1
  cases par
  · go_enter Tryz.func9, Tryz.ntmps9
    go_wp2_with (first | (go_at_call 14; refine (keep_num _ _).mono ?_; rintro e w' ⟨rfl, rfl⟩) | (go_at_call 20; refine (keep_str _ _).mono ?_; rintro e w' ⟨rfl, rfl⟩))
    refine bodyPost_ret (v := .agg #[.string nmU, .slice (some ⟨w.heap.size + 1 + 1 + 1 + 1, 0, none⟩) 2 2, .bool rem]) (by simp [results, Tryz.results9, go_sem, nmT, nmU]) rfl ?_
    refine ⟨⟨w.heap.size + 1 + 1 + 1 + 1, rfl, by omega, ?_⟩, ((((((Below.refl _ _).alloc (by simp <;> omega) _).alloc (by simp <;> omega) _).alloc (by simp <;> omega) _).alloc (by simp <;> omega) _).alloc (by simp <;> omega) _)⟩
    exact (heap_alloc_at (by simp) _).trans rfl
  · go_enter Tryz.func9, Tryz.ntmps9
    go_wp2_with (first | (go_at_call 14; refine (keep_num _ _).mono ?_; rintro e w' ⟨rfl, rfl⟩) | (go_at_call 20; refine (keep_str _ _).mono ?_; rintro e w' ⟨rfl, rfl⟩))
    refine bodyPost_ret (v := .agg #[.string nmT, .slice (some ⟨w.heap.size + 1 + 1 + 1 + 1 + 1, 0, none⟩) 3 3, .bool rem]) (by simp [results, Tryz.results9, go_sem, nmT, nmU]) rfl ?_
    refine ⟨⟨w.heap.size + 1 + 1 + 1 + 1 + 1, rfl, by omega, ?_⟩, (((((((Below.refl _ _).alloc (by simp <;> omega) _).alloc (by simp <;> omega) _).alloc (by simp <;> omega) _).alloc (by simp <;> omega) _).alloc (by simp <;> omega) _).alloc (by simp <;> omega) _)⟩
    exact (heap_alloc_at (by simp) _).trans rfl
end Go.Proofs.YtajnnkapgnmoaaaGreat
/-
  Package row's contracts: reserved, Name, Columns.
-/
namespace Go.Proofs.YtajnnkapgnmoaaaGreat
open Go.RowKit

/-- the words that are none of names -/
def reservedL : List (List UInt8) := [[116, 97, 98, 108, 101], [102, 105, 108, 116, 101, 114], [112, 114, 111, 106, 101, 99, 116], [106, 111, 105, 110], [117, 110, 105, 111, 110], [100, 105, 115, 116, 105, 110, 99, 116], [103, 114, 111, 117, 112], [99, 111, 117, 110, 116], [115, 117, 109], [109, 105, 110], [109, 97, 120], [97, 100, 100], [115, 117, 98], [109, 117, 108], [110, 101, 103], [101, 113], [108, 116], [97, 110, 100], [111, 114], [110, 111, 116], [99, 97, 116], [108, 101, 110], [105, 102]]
def resB (s : ByteArray) : Bool := reservedL.any fun x => s.toList == x

theorem any_false {α : Type} {l : List α} {p : α → Bool} (h : l.any p = false) : ∀ x ∈ l, p x = false := by
  simpa [List.any_eq_false] using h

set_option maxHeartbeats 4000000 in
theorem reserved_any (s : ByteArray) (w : World) : Calls Tryz.prog 126 #[.string s] w fun e w' => e = .returned (.bool (resB s)) ∧ w = w' := by
  by_cases h : resB s = true
  · rw [h]
    obtain ⟨x, hx, e⟩ := List.any_eq_true.1 h
    have hs : s.toList = x := by simpa using e
    clear h e
    subst hs
    simp only [reservedL, List.mem_cons, List.not_mem_nil, or_false] at hx
    rcases hx with hx | hx | hx | hx | hx | hx | hx | hx | hx | hx | hx | hx | hx | hx | hx | hx | hx | hx | hx | hx | hx | hx | hx
    all_goals
      go_enter Tryz.func126, Tryz.ntmps126
      go_wp2
      go_ret
      exact ⟨rfl, rfl⟩
  · have h' : resB s = false := by simpa using h
    rw [h']
    have hn := any_false h'
    clear h h'
    simp only [reservedL, List.mem_cons, List.not_mem_nil, or_false, forall_eq_or_imp, forall_eq] at hn
    obtain ⟨h0, h1, h2, h3, h4, h5, h6, h7, h8, h9, h10, h11, h12, h13, h14, h15, h16, h17, h18, h19, h20, h21, h22⟩ := hn
    go_enter Tryz.func126, Tryz.ntmps126
    go_wp2
    go_ret
    exact ⟨rfl, rfl⟩

def lowL (l : List UInt8) : Bool := l.all fun c => decide (97 ≤ (c.toNat : Int)) && decide ((c.toNat : Int) ≤ 122)
theorem lowL_step (s : ByteArray) (k : Nat) (h : k < s.size) : lowL (s.data.toList.drop k) = ((decide (97 ≤ (s[k].toNat : Int)) && decide ((s[k].toNat : Int) ≤ 122)) && lowL (s.data.toList.drop (k + 1))) := by
  rw [List.drop_eq_getElem_cons (by simpa using h)]
  rfl
def nameB (s : ByteArray) : Bool := ((!s.toList.isEmpty && decide (s.size ≤ 12)) && !resB s) && lowL s.data.toList

set_option maxHeartbeats 400000 in
theorem name_loop (s : ByteArray) (w : World) (h1 : s.toList.isEmpty = false) (h2 : s.size ≤ 12) (h3 : resB s = false) :
    Calls Tryz.prog 98 #[.string s] w fun e w' => e = .returned (.bool (lowL s.data.toList)) ∧ w = w' := by
  have HR := Lib.hid (reserved_any s)
  rw [h3] at HR
  clear h3
  have hd : decide (12 < (s.size : Int)) = false := by simp; omega
  go_enter Tryz.func98, Tryz.ntmps98
  go_wp2_with fail
  refine (HR.out _).mono ?_
  rintro e w' ⟨rfl, rfl⟩
  go_wp2_with fail
  go_loop [17] (fun i => ∃ k : Nat, k ≤ s.size ∧ i = .int .i64 k ∧ Hid (lowL s.data.toList = lowL (s.data.toList.drop k))) (fun i => s.size - (intOf i).toNat)
  case atStart => exact ⟨0, Nat.zero_le _, rfl, rfl⟩
  case round =>
    obtain ⟨k, hk, rfl, hz⟩ := hrel
    by_cases hlt : k < s.size
    · have hst := Lib.hid (hz.out.trans (lowL_step s k hlt))
      clear hz
      by_cases a1 : 97 ≤ (s[k].toNat : Int)
      · by_cases a2 : (s[k].toNat : Int) ≤ 122
        · rw [decide_eq_true a1, decide_eq_true a2] at hst
          have hst' : Hid (lowL s.data.toList = lowL (s.data.toList.drop (k + 1))) := by
            have := hst.out; rwa [Bool.and_self, Bool.true_and] at this
          clear hst
          go_wp2_with fail
          go_round
          case rel => exact ⟨k + 1, by omega, by go_num, hst'⟩
          case measure => simp [intOf]; omega
        · have hst' : Hid (lowL s.data.toList = false) := by
            have := hst.out; rwa [decide_eq_false a2, Bool.and_false, Bool.false_and] at this
          clear hst
          go_wp2_with fail
          go_ret
          exact ⟨by rw [hst'.out]; rfl, rfl⟩
      · have hst' : Hid (lowL s.data.toList = false) := by
          have := hst.out; rwa [decide_eq_false a1, Bool.false_and, Bool.false_and] at this
        clear hst
        go_wp2_with fail
        go_ret
        exact ⟨by rw [hst'.out]; rfl, rfl⟩
    · go_wp2_with fail
      go_ret
      have e : k = s.size := by omega
      subst e
      exact ⟨by rw [hz.out, List.drop_of_length_le (by simp)]; rfl, rfl⟩

theorem name_any (s : ByteArray) (w : World) : Calls Tryz.prog 98 #[.string s] w fun e w' => e = .returned (.bool (nameB s)) ∧ w = w' := by
  by_cases h1 : s.toList.isEmpty = true
  · have e0 : nameB s = false := by simp [nameB, h1]
    rw [e0]
    clear e0
    go_enter Tryz.func98, Tryz.ntmps98
    go_wp2
    go_ret
    exact ⟨rfl, rfl⟩
  · have h1' : s.toList.isEmpty = false := by simpa using h1
    clear h1
    by_cases h2 : s.size ≤ 12
    · by_cases h3 : resB s = true
      · have e0 : nameB s = false := by simp [nameB, h3]
        rw [e0]
        have HR := Lib.hid (reserved_any s)
        rw [h3] at HR
        clear h3 e0
        go_enter Tryz.func98, Tryz.ntmps98
        go_wp2_with fail
        refine (HR.out _).mono ?_
        rintro e w' ⟨rfl, rfl⟩
        go_wp2_with fail
        go_ret
        exact ⟨rfl, rfl⟩
      · have h3' : resB s = false := by simpa using h3
        have e0 : nameB s = lowL s.data.toList := by simp [nameB, h1', h2, h3']
        rw [e0]
        exact name_loop s w h1' h2 h3'
    · have e0 : nameB s = false := by simp [nameB, h2]
      rw [e0]
      clear e0
      go_enter Tryz.func98, Tryz.ntmps98
      go_wp2
      go_ret
      exact ⟨rfl, rfl⟩

end Go.Proofs.YtajnnkapgnmoaaaGreat
