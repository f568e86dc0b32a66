/-
  What law 8's texts give as expressions; known; the columns of u; all run by the kernel.
-/
import Derived.Test.YtldleckgkgeclaaMa38
import Derived.Test.YtldleckgkgeclaaChecked
import Derived.Test.YtldleckgkgeclaaMa8
import Derived.Test.YtldleckgkgeclaaMa6
set_option linter.unusedVariables false
set_option linter.unusedSimpArgs false
namespace Go.Proofs.Ytldleckgkgeclaa
open Go.RowKit
instance extNone : ExtOk Try.prog := extOk_none (by kernel_rfl)
def bs (l : List UInt8) : ByteArray := ⟨⟨l⟩⟩
def colE (l : List UInt8) : E := .mk 1 (bs l) 0 []
def numE (n : Int) : E := .mk 2 ⟨#[]⟩ n []
def opE (op : List UInt8) (l : List E) : E := .mk 4 (bs op) 0 l
def chA : List UInt8 := [97]
def chC : List UInt8 := [99]
def chX : List UInt8 := [120]
def chY : List UInt8 := [121]
theorem follows_ : (Try.prog).follows .mixedOrders = true := by kernel_rfl
theorem of_any {s : ByteArray} {x : E} (h : runExpr Try.prog 100000 14 [.string s] = some x) (w : World) :
    Calls Try.prog 14 #[.string s] w fun e w' => (∃ A c, e = .returned (x.val A c) ∧ EKids w' w'.heap.size A x.kids) ∧ Below w.heap.size w w' := expr_run follows_ h w
set_option maxRecDepth 1000000
theorem of_add : runExpr Try.prog 100000 14 [.string ⟨#[40, 97, 100, 100, 32, 97, 32, 99, 41]⟩] = some (opE opAdd [colE chA, colE chC]) := by kernel_rfl
theorem of_sub : runExpr Try.prog 100000 14 [.string ⟨#[40, 115, 117, 98, 32, 97, 32, 99, 41]⟩] = some (opE opSub [colE chA, colE chC]) := by kernel_rfl
theorem of_mul : runExpr Try.prog 100000 14 [.string ⟨#[40, 109, 117, 108, 32, 97, 32, 99, 41]⟩] = some (opE opMul [colE chA, colE chC]) := by kernel_rfl
theorem known8_run : runPlain Try.prog 100000 16 [] [] = some (.bool true) := by kernel_rfl
theorem known8_any (w : World) : Calls Try.prog 16 #[] w fun e w' => e = .returned (.bool true) ∧ Below w.heap.size w w' := plain_run follows_ known8_run w (tabsAt_none w)
end Go.Proofs.Ytldleckgkgeclaa
/-
  What is read of good trees: expressions that Read makes. The columns of t. 
-/
namespace Go.Proofs.Ytldleckgkgeclaa
open Go.RowKit
theorem good_few : ∀ t : T, t.Good → t.Few := T.ind fun k s n l a ih h => by
  obtain ⟨_, _, _, _, _, _, _, _, _, hl, hk⟩ := h
  exact .mk k s n l a (by omega) fun e he => ih e he (hk e he)
theorem good_fine : ∀ t : T, t.Good → t.Fine := T.ind fun k s n l a ih h => by
  obtain ⟨_, _, _, _, _, h1, h2, h3, _, _, hk⟩ := h
  exact .mk k s n l a h1 h2 (by omega) fun e he => ih e he (hk e he)
theorem zeroE_fine : zeroE.Fine := .mk _ _ _ _ (by decide) (by decide) (by decide) (fun e he => by cases he)
theorem zeroE_texts : zeroE.Texts := .mk _ _ _ _ (fun h => by simp at h) (fun e he => by cases he)
def ReadGood (q : E × Int × Int) : Prop := q.1.Fine ∧ q.1.Texts ∧ (q.2.1 = 0 → madeE q.1 = true) ∧ (q.2.1 ≠ 0 → q.1 = zeroE)
theorem readGood_bad (why at_ : Int) (h : why ≠ 0) : ReadGood (zeroE, why, at_) := ⟨zeroE_fine, zeroE_texts, fun e => absurd e h, fun _ => rfl⟩
theorem readL_good : ∀ l : List T, (∀ t ∈ l, ReadGood (readT t)) → (∀ e ∈ (readL l).1, e.Fine ∧ e.Texts) ∧ ((readL l).2.1 = 0 → (readL l).1.length = l.length ∧ madeL (readL l).1 = true)
  | [], _ => ⟨fun e he => by simp [readL] at he, fun _ => by simp [readL, madeL]⟩
  | x :: l, h => by
    obtain ⟨i1, i2⟩ := readL_good l fun t ht => h t (List.mem_cons_of_mem _ ht)
    obtain ⟨x1, x2, x3, _⟩ := h x List.mem_cons_self
    rw [readL]
    by_cases hx : (readT x).2.1 = 0
    · rw [if_pos hx]
      refine ⟨fun e he => ?_, fun h0 => ?_⟩
      · rcases List.mem_cons.1 he with rfl | he
        · exact ⟨x1, x2⟩
        · exact i1 e he
      · obtain ⟨j1, j2⟩ := i2 h0
        refine ⟨by simp only [List.length_cons, j1], ?_⟩
        rw [madeL, x3 hx, j2]; rfl
    · rw [if_neg hx]
      exact ⟨fun e he => absurd (show e ∈ ([] : List E) from he) (by simp), fun h0 => absurd h0 hx⟩
theorem read_good : ∀ t : T, t.Good → ReadGood (readT t) := T.ind fun k s n l a ih h => by
  obtain ⟨_, _, _, _, _, h1, h2, h3, h4, hl, hk⟩ := h
  rw [readT.eq_def]
  simp only
  by_cases k2 : k = 2
  · rw [if_pos k2]
    cases hn : nameB s
    · exact readGood_bad 20 a (by decide)
    · refine ⟨.mk _ _ _ _ (by decide) (by decide) (by show s.size ≤ _; omega) (fun e he => by cases he), .mk _ _ _ _ (fun h => by simp at h) (fun e he => by cases he), fun _ => ?_, fun h => absurd rfl h⟩
      show madeE (.mk 1 s 0 []) = true
      rw [madeE, if_pos rfl, hn]; rfl
  rw [if_neg k2]
  by_cases k3 : k = 3
  · rw [if_pos k3]
    refine ⟨.mk _ _ _ _ h1 h2 (by decide) (fun e he => by cases he), .mk _ _ _ _ (fun h => by simp at h) (fun e he => by cases he), fun _ => ?_, fun h => absurd rfl h⟩
    show madeE (.mk 2 ⟨#[]⟩ n []) = true
    rw [madeE, if_neg (by decide), if_pos rfl, ByteArray.toList_eq]; rfl
  rw [if_neg k3]
  by_cases k4 : k = 4
  · rw [if_pos k4]
    refine ⟨.mk _ _ _ _ (by decide) (by decide) (by show s.size ≤ _; omega) (fun e he => by cases he), .mk _ _ _ _ (fun _ => h4 k4) (fun e he => by cases he), fun _ => ?_, fun h => absurd rfl h⟩
    show madeE (.mk 3 s 0 []) = true
    rw [madeE, if_neg (by decide), if_neg (by decide), if_pos rfl]; rfl
  rw [if_neg k4]
  by_cases k1 : k = 1
  · rw [if_pos k1]
    match l with
    | [] => exact readGood_bad 12 a (by decide)
    | x :: ks =>
      simp only
      by_cases hx : x.k = 2 ∧ cntL x.s.toList ≠ 0
      · rw [if_pos hx]
        by_cases hc : ks.length = cntL x.s.toList
        · rw [if_pos hc]
          obtain ⟨i1, i2⟩ := readL_good ks fun t ht => ih t (List.mem_cons_of_mem _ ht) (hk t (List.mem_cons_of_mem _ ht))
          obtain ⟨_, _, _, _, _, _, _, g3, _⟩ := hk x List.mem_cons_self
          by_cases h0 : (readL ks).2.1 = 0
          · rw [if_pos h0]
            obtain ⟨j1, j2⟩ := i2 h0
            refine ⟨.mk _ _ _ _ (by decide) (by decide) (by show ByteArray.size _ ≤ _; simp only [T.s]; omega) (fun e he => (i1 e he).1), .mk _ _ _ _ (fun h => by simp at h) (fun e he => (i1 e he).2), fun _ => ?_, fun h => absurd rfl h⟩
            show madeE (.mk 4 _ 0 (readL ks).1) = true
            rw [madeE, if_neg (by decide), if_neg (by decide), if_neg (by decide), if_pos rfl, j1, j2, hc]
            simp
            have := hx.2
            omega
          · rw [if_neg h0]; exact readGood_bad _ _ h0
        · rw [if_neg hc]; exact readGood_bad 23 a (by decide)
      · rw [if_neg hx]; exact readGood_bad 12 a (by decide)
  · rw [if_neg k1]; exact readGood_bad 12 a (by decide)

/-! ### the columns of t, and its rows -/
def chB : List UInt8 := [98]
def chS : List UInt8 := [115]
def tCols : List C := [⟨bs chA, 1⟩, ⟨bs chB, 1⟩, ⟨bs chS, 2⟩]
theorem keepT (w : World) : Calls Try.prog 25 #[] w fun e w' => (∃ A c, e = .returned (.slice A 3 c) ∧ CRow w' w'.heap.size A tCols) ∧ Below w.heap.size w w' := by
  go_enter Try.func25, Try.ntmps25
  go_wp2_with fail
  go_ret
  refine ⟨⟨some ⟨w.heap.size, 0, none⟩, 3, rfl, .inr ⟨w.heap.size, 0, rfl, by simp, ?_⟩⟩, (Below.refl _ _).alloc (Nat.le_refl _) _⟩
  intro i x hx
  match i, hx with
  | 0, hx => simp [tCols] at hx; subst hx; simp; rfl
  | 1, hx => simp [tCols] at hx; subst hx; simp; rfl
  | 2, hx => simp [tCols] at hx; subst hx; simp; rfl
theorem tCols_pos : ∀ x ∈ tCols, 0 < x.k := by
  intro x hx
  simp only [tCols, List.mem_cons, List.not_mem_nil, or_false] at hx
  rcases hx with rfl | rfl | rfl <;> decide
theorem rowN_three {a b : Int} (a1 : -9223372036854775808 ≤ a) (a2 : a ≤ 9223372036854775807) (b1 : -9223372036854775808 ≤ b) (b2 : b ≤ 9223372036854775807) (x : ByteArray) : rowN [numV a, numV b, strV x] := by
  intro v hv
  simp only [List.mem_cons, List.not_mem_nil, or_false] at hv
  rcases hv with rfl | rfl | rfl
  · exact ⟨a1, a2⟩
  · exact ⟨b1, b2⟩
  · exact ⟨by show (-9223372036854775808 : Int) ≤ 0; decide, by show (0 : Int) ≤ 9223372036854775807; decide⟩
/-- an expression in a row of its own -/
theorem ekids_one {w : World} {g : Nat} {e : E} {A : Option Addr} {c : Nat} {t : TypeId} {B : Nat} (hg : w.heap[g]? = some (.cells #[.int .i64 e.k, .string e.s, .int .i64 e.n, .slice A e.kids.length c] t (0, 0))) (hB : g < B) (hk : EKids w B A e.kids) : EKids w B (some ⟨g, 0, none⟩) [e] := by
  refine .mk g 0 [e] (by simp) hB (fun _ => A) (fun _ => c) (fun i x hx => ?_) (fun i x hx => ?_)
  · match i, hx with
    | 0, hx =>
      obtain rfl : e = x := by simpa using hx
      simp [World.cell?, hg]
  · match i, hx with
    | 0, hx =>
      obtain rfl : e = x := by simpa using hx
      exact hk
end Go.Proofs.Ytldleckgkgeclaa
