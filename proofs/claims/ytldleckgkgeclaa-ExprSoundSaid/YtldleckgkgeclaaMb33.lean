/-
  What law 8's texts give as expressions; known; the columns of u; all run by the kernel.
-/
import Derived.Test.YtldleckgkgeclaaMb32
import Derived.Test.YtldleckgkgeclaaChecked
import Derived.Test.YtldleckgkgeclaaMb8
import Derived.Test.YtldleckgkgeclaaMb6
import Derived.Shelf.Sort.Plain
import Derived.Shelf.Bits.Mul64
import Derived.Shelf.Slices.CompactS
import Derived.Shelf.Slices.In.SortNone
import Derived.Test.YtldleckgkgeclaaProg
import Derived.Test.YtldleckgkgeclaaMb4
import Derived.Lib.SlicesCompact
set_option linter.unusedVariables false
set_option linter.unusedSimpArgs false
namespace Go.Proofs.Ytldleckgkgeclaa
open Go.RowKit
instance extNone : ExtOk Try.prog := extOk_none (by kernel_rfl)
def bs (l : List UInt8) : ByteArray := ⟨⟨l⟩⟩
def colE (l : List UInt8) : E := .mk 1 (bs l) 0 []
def numE (n : Int) : E := .mk 2 ⟨#[]⟩ n []
def opE (op : List UInt8) (l : List E) : E := .mk 4 (bs op) 0 l
def chA : List UInt8 := [97]
def chC : List UInt8 := [99]
def chX : List UInt8 := [120]
def chY : List UInt8 := [121]
theorem follows_ : (Try.prog).follows .mixedOrders = true := by kernel_rfl
theorem of_any {s : ByteArray} {x : E} (h : runExpr Try.prog 100000 14 [.string s] = some x) (w : World) :
    Calls Try.prog 14 #[.string s] w fun e w' => (∃ A c, e = .returned (x.val A c) ∧ EKids w' w'.heap.size A x.kids) ∧ Below w.heap.size w w' := expr_run follows_ h w
set_option maxRecDepth 1000000
theorem of_add : runExpr Try.prog 100000 14 [.string ⟨#[40, 97, 100, 100, 32, 97, 32, 99, 41]⟩] = some (opE opAdd [colE chA, colE chC]) := by kernel_rfl
theorem of_sub : runExpr Try.prog 100000 14 [.string ⟨#[40, 115, 117, 98, 32, 97, 32, 99, 41]⟩] = some (opE opSub [colE chA, colE chC]) := by kernel_rfl
theorem of_mul : runExpr Try.prog 100000 14 [.string ⟨#[40, 109, 117, 108, 32, 97, 32, 99, 41]⟩] = some (opE opMul [colE chA, colE chC]) := by kernel_rfl
theorem known8_run : runPlain Try.prog 100000 16 [] [] = some (.bool true) := by kernel_rfl
theorem known8_any (w : World) : Calls Try.prog 16 #[] w fun e w' => e = .returned (.bool true) ∧ Below w.heap.size w w' := plain_run follows_ known8_run w (tabsAt_none w)
end Go.Proofs.Ytldleckgkgeclaa
/-
  What is read of good trees: expressions that Read makes. The columns of t. 
-/
namespace Go.Proofs.Ytldleckgkgeclaa
open Go.RowKit
theorem good_few : ∀ t : T, t.Good → t.Few := T.ind fun k s n l a ih h => by
  obtain ⟨_, _, _, _, _, _, _, _, _, hl, hk⟩ := h
  exact .mk k s n l a (by omega) fun e he => ih e he (hk e he)
theorem good_fine : ∀ t : T, t.Good → t.Fine := T.ind fun k s n l a ih h => by
  obtain ⟨_, _, _, _, _, h1, h2, h3, _, _, hk⟩ := h
  exact .mk k s n l a h1 h2 (by omega) fun e he => ih e he (hk e he)
theorem zeroE_fine : zeroE.Fine := .mk _ _ _ _ (by decide) (by decide) (by decide) (fun e he => by cases he)
theorem zeroE_texts : zeroE.Texts := .mk _ _ _ _ (fun h => by simp at h) (fun e he => by cases he)
def ReadGood (q : E × Int × Int) : Prop := q.1.Fine ∧ q.1.Texts ∧ (q.2.1 = 0 → madeE q.1 = true) ∧ (q.2.1 ≠ 0 → q.1 = zeroE)
theorem readGood_bad (why at_ : Int) (h : why ≠ 0) : ReadGood (zeroE, why, at_) := ⟨zeroE_fine, zeroE_texts, fun e => absurd e h, fun _ => rfl⟩
theorem readL_good : ∀ l : List T, (∀ t ∈ l, ReadGood (readT t)) → (∀ e ∈ (readL l).1, e.Fine ∧ e.Texts) ∧ ((readL l).2.1 = 0 → (readL l).1.length = l.length ∧ madeL (readL l).1 = true)
  | [], _ => ⟨fun e he => by simp [readL] at he, fun _ => by simp [readL, madeL]⟩
  | x :: l, h => by
    obtain ⟨i1, i2⟩ := readL_good l fun t ht => h t (List.mem_cons_of_mem _ ht)
    obtain ⟨x1, x2, x3, _⟩ := h x List.mem_cons_self
    rw [readL]
    by_cases hx : (readT x).2.1 = 0
    · rw [if_pos hx]
      refine ⟨fun e he => ?_, fun h0 => ?_⟩
      · rcases List.mem_cons.1 he with rfl | he
        · exact ⟨x1, x2⟩
        · exact i1 e he
      · obtain ⟨j1, j2⟩ := i2 h0
        refine ⟨by simp only [List.length_cons, j1], ?_⟩
        rw [madeL, x3 hx, j2]; rfl
    · rw [if_neg hx]
      exact ⟨fun e he => absurd (show e ∈ ([] : List E) from he) (by simp), fun h0 => absurd h0 hx⟩
theorem read_good : ∀ t : T, t.Good → ReadGood (readT t) := T.ind fun k s n l a ih h => by
  obtain ⟨_, _, _, _, _, h1, h2, h3, h4, hl, hk⟩ := h
  rw [readT.eq_def]
  simp only
  by_cases k2 : k = 2
  · rw [if_pos k2]
    cases hn : nameB s
    · exact readGood_bad 20 a (by decide)
    · refine ⟨.mk _ _ _ _ (by decide) (by decide) (by show s.size ≤ _; omega) (fun e he => by cases he), .mk _ _ _ _ (fun h => by simp at h) (fun e he => by cases he), fun _ => ?_, fun h => absurd rfl h⟩
      show madeE (.mk 1 s 0 []) = true
      rw [madeE, if_pos rfl, hn]; rfl
  rw [if_neg k2]
  by_cases k3 : k = 3
  · rw [if_pos k3]
    refine ⟨.mk _ _ _ _ h1 h2 (by decide) (fun e he => by cases he), .mk _ _ _ _ (fun h => by simp at h) (fun e he => by cases he), fun _ => ?_, fun h => absurd rfl h⟩
    show madeE (.mk 2 ⟨#[]⟩ n []) = true
    rw [madeE, if_neg (by decide), if_pos rfl, ByteArray.toList_eq]; rfl
  rw [if_neg k3]
  by_cases k4 : k = 4
  · rw [if_pos k4]
    refine ⟨.mk _ _ _ _ (by decide) (by decide) (by show s.size ≤ _; omega) (fun e he => by cases he), .mk _ _ _ _ (fun _ => h4 k4) (fun e he => by cases he), fun _ => ?_, fun h => absurd rfl h⟩
    show madeE (.mk 3 s 0 []) = true
    rw [madeE, if_neg (by decide), if_neg (by decide), if_pos rfl]; rfl
  rw [if_neg k4]
  by_cases k1 : k = 1
  · rw [if_pos k1]
    match l with
    | [] => exact readGood_bad 12 a (by decide)
    | x :: ks =>
      simp only
      by_cases hx : x.k = 2 ∧ cntL x.s.toList ≠ 0
      · rw [if_pos hx]
        by_cases hc : ks.length = cntL x.s.toList
        · rw [if_pos hc]
          obtain ⟨i1, i2⟩ := readL_good ks fun t ht => ih t (List.mem_cons_of_mem _ ht) (hk t (List.mem_cons_of_mem _ ht))
          obtain ⟨_, _, _, _, _, _, _, g3, _⟩ := hk x List.mem_cons_self
          by_cases h0 : (readL ks).2.1 = 0
          · rw [if_pos h0]
            obtain ⟨j1, j2⟩ := i2 h0
            refine ⟨.mk _ _ _ _ (by decide) (by decide) (by show ByteArray.size _ ≤ _; simp only [T.s]; omega) (fun e he => (i1 e he).1), .mk _ _ _ _ (fun h => by simp at h) (fun e he => (i1 e he).2), fun _ => ?_, fun h => absurd rfl h⟩
            show madeE (.mk 4 _ 0 (readL ks).1) = true
            rw [madeE, if_neg (by decide), if_neg (by decide), if_neg (by decide), if_pos rfl, j1, j2, hc]
            simp
            have := hx.2
            omega
          · rw [if_neg h0]; exact readGood_bad _ _ h0
        · rw [if_neg hc]; exact readGood_bad 23 a (by decide)
      · rw [if_neg hx]; exact readGood_bad 12 a (by decide)
  · rw [if_neg k1]; exact readGood_bad 12 a (by decide)

/-! ### the columns of t, and its rows -/
def chB : List UInt8 := [98]
def chS : List UInt8 := [115]
def tCols : List C := [⟨bs chA, 1⟩, ⟨bs chB, 1⟩, ⟨bs chS, 2⟩]
theorem keepT (w : World) : Calls Try.prog 25 #[] w fun e w' => (∃ A c, e = .returned (.slice A 3 c) ∧ CRow w' w'.heap.size A tCols) ∧ Below w.heap.size w w' := by
  go_enter Try.func25, Try.ntmps25
  go_wp2_with fail
  go_ret
  refine ⟨⟨some ⟨w.heap.size, 0, none⟩, 3, rfl, .inr ⟨w.heap.size, 0, rfl, by simp, ?_⟩⟩, (Below.refl _ _).alloc (Nat.le_refl _) _⟩
  intro i x hx
  match i, hx with
  | 0, hx => simp [tCols] at hx; subst hx; simp; rfl
  | 1, hx => simp [tCols] at hx; subst hx; simp; rfl
  | 2, hx => simp [tCols] at hx; subst hx; simp; rfl
theorem tCols_pos : ∀ x ∈ tCols, 0 < x.k := by
  intro x hx
  simp only [tCols, List.mem_cons, List.not_mem_nil, or_false] at hx
  rcases hx with rfl | rfl | rfl <;> decide
theorem rowN_three {a b : Int} (a1 : -9223372036854775808 ≤ a) (a2 : a ≤ 9223372036854775807) (b1 : -9223372036854775808 ≤ b) (b2 : b ≤ 9223372036854775807) (x : ByteArray) : rowN [numV a, numV b, strV x] := by
  intro v hv
  simp only [List.mem_cons, List.not_mem_nil, or_false] at hv
  rcases hv with rfl | rfl | rfl
  · exact ⟨a1, a2⟩
  · exact ⟨b1, b2⟩
  · exact ⟨by show (-9223372036854775808 : Int) ≤ 0; decide, by show (0 : Int) ≤ 9223372036854775807; decide⟩
/-- an expression in a row of its own -/
theorem ekids_one {w : World} {g : Nat} {e : E} {A : Option Addr} {c : Nat} {t : TypeId} {B : Nat} (hg : w.heap[g]? = some (.cells #[.int .i64 e.k, .string e.s, .int .i64 e.n, .slice A e.kids.length c] t (0, 0))) (hB : g < B) (hk : EKids w B A e.kids) : EKids w B (some ⟨g, 0, none⟩) [e] := by
  refine .mk g 0 [e] (by simp) hB (fun _ => A) (fun _ => c) (fun i x hx => ?_) (fun i x hx => ?_)
  · match i, hx with
    | 0, hx =>
      obtain rfl : e = x := by simpa using hx
      simp [World.cell?, hg]
  · match i, hx with
    | 0, hx =>
      obtain rfl : e = x := by simpa using hx
      exact hk
end Go.Proofs.Ytldleckgkgeclaa
/-
  What is read of a tree that is not too deep names few columns; the row that is turned where a column is not named. No program in sight.
-/
namespace Go.Proofs.Ytldleckgkgeclaa
open Go.RowKit
theorem cntL_three (op : List UInt8) : cntL op ≤ 3 := by
  unfold cntL
  repeat' split
  all_goals decide
theorem usesL_few (B : Nat) : ∀ l : List T, (∀ t ∈ l, (usesE (readT t).1).length ≤ B) → (usesL (readL l).1).length ≤ l.length * B
  | [], _ => by simp [readL, usesL]
  | x :: l, h => by
    have ih := usesL_few B l fun t ht => h t (List.mem_cons_of_mem _ ht)
    have hx := h x List.mem_cons_self
    rw [readL]
    by_cases hr : (readT x).2.1 = 0
    · rw [if_pos hr]
      show (usesL ((readT x).1 :: (readL l).1)).length ≤ _
      rw [usesL, List.length_append, List.length_cons, Nat.succ_mul]
      omega
    · rw [if_neg hr]
      show (usesL []).length ≤ _
      rw [usesL]
      exact Nat.zero_le _
theorem zero_few (B : Nat) : (usesE zeroE).length ≤ B := by
  unfold zeroE
  rw [usesE, usesL]
  simp
theorem uses_few : ∀ (t : T) (d : Nat), t.Deep d → (usesE (readT t).1).length ≤ 4 ^ d := T.ind fun k s n l a ih d hd => by
  obtain ⟨d, _, _, _, _, _, hk⟩ := hd
  have h1 : 1 ≤ 4 ^ (d + 1) := Nat.pow_pos (by decide)
  rw [readT.eq_def]
  simp only
  by_cases k2 : k = 2
  · rw [if_pos k2]
    cases nameB s
    · exact zero_few _
    · show (usesE (.mk 1 s 0 [])).length ≤ _
      rw [usesE, usesL]
      simpa using h1
  rw [if_neg k2]
  by_cases k3 : k = 3
  · rw [if_pos k3]
    show (usesE (.mk 2 _ n [])).length ≤ _
    rw [usesE, usesL]
    simp
  rw [if_neg k3]
  by_cases k4 : k = 4
  · rw [if_pos k4]
    show (usesE (.mk 3 s 0 [])).length ≤ _
    rw [usesE, usesL]
    simp
  rw [if_neg k4]
  by_cases k1 : k = 1
  · rw [if_pos k1]
    match l with
    | [] => exact zero_few _
    | x :: ks =>
      simp only
      by_cases hx : x.k = 2 ∧ cntL x.s.toList ≠ 0
      · rw [if_pos hx]
        by_cases hc : ks.length = cntL x.s.toList
        · rw [if_pos hc]
          by_cases h0 : (readL ks).2.1 = 0
          · rw [if_pos h0]
            show (usesE (.mk 4 x.s 0 (readL ks).1)).length ≤ _
            rw [usesE]
            have h2 := usesL_few (4 ^ d) ks fun t ht => ih t (List.mem_cons_of_mem _ ht) d (hk t (List.mem_cons_of_mem _ ht))
            have h3 := cntL_three x.s.toList
            have h4 : ks.length * 4 ^ d ≤ 3 * 4 ^ d := Nat.mul_le_mul_right _ (by omega)
            rw [if_neg (by decide), List.nil_append, Nat.pow_succ]
            omega
          · rw [if_neg h0]; exact zero_few _
        · rw [if_neg hc]; exact zero_few _
      · rw [if_neg hx]; exact zero_few _
  · rw [if_neg k1]; exact zero_few _
/-- is a column among these? -/
def hasB (us : List ByteArray) (nm : ByteArray) : Bool := us.any fun u => u.toList == nm.toList
def turned (a b c : Int) (x : ByteArray) (h0 h1 : Bool) : List V := [if h0 then numV a else numV c, if h1 then numV b else numV c, strV x]
theorem fits_turned {a b c : Int} {x : ByteArray} (hx : x.size ≤ 40) (h0 h1 : Bool) : fitsB tCols (turned a b c x h0 h1) = true := by
  have hs := okB_str hx
  have hk : ∀ n, (numV n).k = 1 := fun _ => rfl
  have hk2 : (strV x).k = 2 := rfl
  unfold fitsB turned tCols
  simp only [List.length_cons, List.length_nil, decide_true, Bool.true_and]
  simp only [zipB, Bool.and_true, Bool.and_eq_true, beq_iff_eq]
  cases h0 <;> cases h1 <;> simp [okB_num, hs, hk, hk2]
theorem turned_agree {a b c : Int} {x : ByteArray} {us : List ByteArray} {e : E} (hm : madeE e = true) (ht : (typeE tCols e).2 = 0) (hu : ∀ y ∈ usesE e, y ∈ us) :
    evalE tCols (turned a b c x true true) e = evalE tCols (turned a b c x (hasB us (bs chA)) (hasB us (bs chB))) e := by
  refine eval_agree tCols _ _ e hm ht fun i cc hc ⟨y, hy, hyc⟩ => ?_
  have hin : hasB us cc.nm = true := by
    unfold hasB
    rw [List.any_eq_true]
    refine ⟨y, hu y hy, ?_⟩
    have : y = cc.nm := by
      have h1 := congrArg (fun l : List UInt8 => (⟨l.toArray⟩ : ByteArray)) hyc
      exact ByteArray.ext (by simpa [ByteArray.toList_eq] using h1)
    rw [this]
    exact beq_self_eq_true _
  match i, hc with
  | 0, hc =>
    obtain rfl : (⟨bs chA, 1⟩ : C) = cc := by simpa [tCols] using hc
    simp [turned, hin]
  | 1, hc =>
    obtain rfl : (⟨bs chB, 1⟩ : C) = cc := by simpa [tCols] using hc
    simp [turned, hin]
  | 2, hc => rfl
theorem top_facts {a b c : Int} {x : ByteArray} (hx : x.size ≤ 40) {e : E} (hm : madeE e = true) (htx : e.Texts) :
    ((typeTop tCols e).2 ≠ 0 → evalTop tCols (turned a b c x true true) e = (zeroV, 22)) ∧
    ((typeTop tCols e).2 = 0 → SoundV (evalTop tCols (turned a b c x true true) e) (typeTop tCols e).1 ∧
      ∀ us : List ByteArray, (∀ y ∈ usesE e, y ∈ us) → evalTop tCols (turned a b c x true true) e = evalTop tCols (turned a b c x (hasB us (bs chA)) (hasB us (bs chB))) e) := by
  have h0 : typeTop tCols e = typeE tCols e := by unfold typeTop; rw [if_pos hm]
  have h1 : ∀ p q, (typeE tCols e).2 = 0 → evalTop tCols (turned a b c x p q) e = evalE tCols (turned a b c x p q) e := fun p q h => by
    unfold evalTop
    rw [fits_turned hx, hm, h]
    rfl
  rw [h0]
  refine ⟨fun h => ?_, fun h => ⟨?_, fun us hu => ?_⟩⟩
  · unfold evalTop
    rw [if_neg]
    intro h2
    simp only [Bool.and_eq_true, beq_iff_eq] at h2
    exact h h2.2.2
  · rw [h1 _ _ h]
    exact eval_sound tCols _ (fits_turned hx true true) e hm htx h
  · rw [h1 _ _ h, h1 _ _ h]
    exact turned_agree hm h hu
theorem turned_row (a b c : Int) (x : ByteArray) (p q : Bool) : turned a b c x p q = [numV (if p then a else c), numV (if q then b else c), strV x] := by
  cases p <;> cases q <;> rfl
theorem hasB_take {us : List ByteArray} {nm : ByteArray} {k : Nat} {u : ByteArray} (h : us[k]? = some u) : hasB (us.take (k + 1)) nm = (hasB (us.take k) nm || u.toList == nm.toList) := by
  obtain ⟨h1, h2⟩ := List.getElem?_eq_some_iff.1 h
  unfold hasB
  rw [List.take_succ_eq_append_getElem h1, h2, List.any_append]
  simp
end Go.Proofs.Ytldleckgkgeclaa
/-
  DERIVED: THE SHELF's CONTRACTS AT THIS DUMP, IN PLAIN WORDS (tools/lay-plain.mjs out of 'TryShelf.lean', which tools/lay-shelf.mjs wrote): THE SAME DECLARATIONS UNDER THE SAME NAMES: 'import', 'namespace', 'open', 'def', 'theorem' AND NOTHING ELSE: no command of the shelf's: FOR A HAND-IN. Each laying: the table of numbers ('.._ren') and one theorem, a field a fact of the dump's own or the kernel's comparison; each contract: ONE APPLICATION.
-/
namespace Go.Proofs
open Go.Shelf
def Try.lays190_ren : Go.Shelf.Ren := ⟨fun | 190 => 79 | 125 => 121 | 258 => 120 | 128 => 150 | 129 => 151 | 302 => 141 | 303 => 142 | 304 => 143 | 305 => 144 | 306 => 145 | 307 => 146 | 308 => 147 | 309 => 148 | 310 => 149 | 333 => 160 | 329 => 161 | 330 => 162 | 334 => 163 | 335 => 164 | 336 => 165 | 344 => 172 | n => n, fun | 31 => 84 | 9 => 9 | 3 => 3 | 46 => 37 | 0 => 0 | 51 => 188 | 53 => 38 | 4 => 4 | 183 => 182 | 182 => 181 | 131 => 124 | 5 => 5 | 218 => 195 | 222 => 199 | 228 => 205 | 229 => 63 | n => n, fun | n => n⟩
theorem Try.lays190 : Go.Proofs.Lays.n190 Try.prog Try.lays190_ren := {
  mixed := by kernel_rfl
  f125 := Try.func121.trans (congrArg some (by kernel_rfl))
  f128 := Try.func150.trans (congrArg some (by kernel_rfl))
  f129 := Try.func151.trans (congrArg some (by kernel_rfl))
  f190 := Try.func79.trans (congrArg some (by kernel_rfl))
  f258 := Try.func120.trans (congrArg some (by kernel_rfl))
  f302 := Try.func141.trans (congrArg some (by kernel_rfl))
  f303 := Try.func142.trans (congrArg some (by kernel_rfl))
  f304 := Try.func143.trans (congrArg some (by kernel_rfl))
  f305 := Try.func144.trans (congrArg some (by kernel_rfl))
  f306 := Try.func145.trans (congrArg some (by kernel_rfl))
  f307 := Try.func146.trans (congrArg some (by kernel_rfl))
  f308 := Try.func147.trans (congrArg some (by kernel_rfl))
  f309 := Try.func148.trans (congrArg some (by kernel_rfl))
  f310 := Try.func149.trans (congrArg some (by kernel_rfl))
  f329 := Try.func161.trans (congrArg some (by kernel_rfl))
  f330 := Try.func162.trans (congrArg some (by kernel_rfl))
  f333 := Try.func160.trans (congrArg some (by kernel_rfl))
  f334 := Try.func163.trans (congrArg some (by kernel_rfl))
  f335 := Try.func164.trans (congrArg some (by kernel_rfl))
  f336 := Try.func165.trans (congrArg some (by kernel_rfl))
  f344 := Try.func172.trans (congrArg some (by kernel_rfl))
  t0 := Try.underlying0
  a0 := Try.isAgg0
  z0 := Try.sizeOf0
  v0 := Try.zeroValue0
  t3 := Try.underlying3
  a3 := Try.isAgg3
  z3 := Try.sizeOf3
  v3 := Try.zeroValue3
  t4 := Try.underlying4
  a4 := Try.isAgg4
  z4 := Try.sizeOf4
  v4 := Try.zeroValue4
  t5 := Try.underlying5
  a5 := Try.isAgg5
  z5 := Try.sizeOf5
  v5 := Try.zeroValue5
  t9 := Try.underlying9
  a9 := Try.isAgg9
  z9 := Try.sizeOf9
  v9 := Try.zeroValue9
  t31 := Try.underlying84
  a31 := Try.isAgg84
  z31 := Try.sizeOf84
  v31 := Try.zeroValue84
  t46 := Try.underlying37
  a46 := Try.isAgg37
  z46 := Try.sizeOf37
  v46 := Try.zeroValue37
  t51 := Try.underlying188
  a51 := Try.isAgg188
  z51 := Try.sizeOf188
  v51 := Try.zeroValue188
  t53 := Try.underlying38
  a53 := Try.isAgg38
  z53 := Try.sizeOf38
  v53 := Try.zeroValue38
  t131 := Try.underlying124
  a131 := Try.isAgg124
  z131 := Try.sizeOf124
  v131 := Try.zeroValue124
  t182 := Try.underlying181
  a182 := Try.isAgg181
  z182 := Try.sizeOf181
  v182 := Try.zeroValue181
  t183 := Try.underlying182
  a183 := Try.isAgg182
  z183 := Try.sizeOf182
  v183 := Try.zeroValue182
  t218 := Try.underlying195
  a218 := Try.isAgg195
  z218 := Try.sizeOf195
  v218 := Try.zeroValue195
  t222 := Try.underlying199
  a222 := Try.isAgg199
  z222 := Try.sizeOf199
  v222 := Try.zeroValue199
  t228 := Try.underlying205
  a228 := Try.isAgg205
  z228 := Try.sizeOf205
  v228 := Try.zeroValue205
  t229 := Try.underlying63
  a229 := Try.isAgg63
  z229 := Try.sizeOf63
  v229 := Try.zeroValue63 }
open Go.Sort Go.RowKit in
theorem Try.slices_Sort_string (blk off cap : Nat) (ss : List (List UInt8)) (w : World) (hH : Holds encStr w blk off ss.toArray) (hblk : blk < w.heap.size) (hsz : ss.length < 4611686018427387904) :
    Calls Try.prog 79 #[.slice (some ⟨blk, off, none⟩) ss.length cap] w fun e w' =>
      e = .returned (.tuple #[]) ∧ ∃ n os, w' = grow (putRow encStr (Sort.ahead w n) blk off (ss.mergeSort fun x y => decide (x ≤ y)).toArray) os := Any.slices_Sort_string Try.lays190 blk off cap ss w hH hblk hsz
def Try.lays264_ren : Go.Shelf.Ren := ⟨fun | 264 => 152 | n => n, fun | 53 => 38 | 46 => 37 | n => n, fun | n => n⟩
theorem Try.lays264 : Go.Proofs.Lays.n264 Try.prog Try.lays264_ren := {
  mixed := by kernel_rfl
  f264 := Try.func152.trans (congrArg some (by kernel_rfl))
  t46 := Try.underlying37
  a46 := Try.isAgg37
  z46 := Try.sizeOf37
  v46 := Try.zeroValue37
  t53 := Try.underlying38
  a53 := Try.isAgg38
  z53 := Try.sizeOf38
  v53 := Try.zeroValue38 }
open Go.RowKit Go.Lib in
theorem Try.bits_Mul64 (x y : Nat) (hx : x < 18446744073709551616) (hy : y < 18446744073709551616) (w : World) :
    Calls Try.prog 152 #[.int .u64 x, .int .u64 y] w fun e w' => e = .returned (.tuple #[.int .u64 ((x * y / 18446744073709551616 : Nat) : Int), .int .u64 ((x * y % 18446744073709551616 : Nat) : Int)]) ∧ w' = w := Any.bits_Mul64 Try.lays264 x y hx hy w
def Try.lays194_ren : Go.Shelf.Ren := ⟨fun | 194 => 80 | n => n, fun | 31 => 84 | 9 => 9 | 3 => 3 | 4 => 4 | 0 => 0 | n => n, fun | n => n⟩
theorem Try.lays194 : Go.Proofs.Lays.n194 Try.prog Try.lays194_ren := {
  mixed := by kernel_rfl
  f194 := Try.func80.trans (congrArg some (by kernel_rfl))
  t0 := Try.underlying0
  a0 := Try.isAgg0
  z0 := Try.sizeOf0
  v0 := Try.zeroValue0
  t3 := Try.underlying3
  a3 := Try.isAgg3
  z3 := Try.sizeOf3
  v3 := Try.zeroValue3
  t4 := Try.underlying4
  a4 := Try.isAgg4
  z4 := Try.sizeOf4
  v4 := Try.zeroValue4
  t9 := Try.underlying9
  a9 := Try.isAgg9
  z9 := Try.sizeOf9
  v9 := Try.zeroValue9
  t31 := Try.underlying84
  a31 := Try.isAgg84
  z31 := Try.sizeOf84
  v31 := Try.zeroValue84 }
open Go.RowKit Go.Lib Go.Sort in
/-- slices.Compact at []string, over an array: the library's two loops are walked. (LAID: no walk: one application.) -/
theorem Try.slices_Compact_string_arr (blk off cap : Nat) (d : Array (List UInt8)) (w : World) (hH : Holds encStr w blk off d) (hsz : d.size ≤ 9223372036854775807) (hcap : d.size ≤ cap) :
    Calls Try.prog 80 #[.slice (some ⟨blk, off, none⟩) d.size cap] w fun e w' => e = .returned (.slice (some ⟨blk, off, none⟩) (compactUpTo d d.size).length cap) ∧ ∃ q, w' = putRow encStr (Sort.ahead w q) blk off (compactUpTo d d.size ++ List.replicate (d.size - (compactUpTo d d.size).length) []).toArray := Any.slices_Compact_string_arr Try.lays194 blk off cap d w hH hsz hcap
open Go.RowKit Go.Lib Go.Sort in
/-- slices.Compact at []string: "Compact replaces consecutive runs of equal elements with a single copy. This is like the uniq command found on Unix. Compact modifies the contents of the slice s and returns the modified slice, which may have a smaller length. Compact zeroes the elements between the new length and the original length. The result preserves the nilness of s.": IT RETURNS THE SLICE CUT TO 'Lib.compact zs'; ITS CELLS HOLD 'Lib.compact zs', THEN ZERO VALUES up to the old length; all else is as it was, but for the count of draws. IN THE WORDS OF slices.Sort's CONTRACT ('Holds', 'putRow'): so the everyday 'slices.Sort(xs); xs = slices.Compact(xs)' goes from the one contract to the other. It asks 'zs.length ≤ cap' (every slice's: the reslicing 's[:k]' looks at it). Length 0, nil: '.._empty'. (LAID: no walk: one application.) -/
theorem Try.slices_Compact_string (blk off cap : Nat) (zs : List (List UInt8)) (w : World) (hH : Holds encStr w blk off zs.toArray) (hsz : zs.length ≤ 9223372036854775807) (hcap : zs.length ≤ cap) :
    Calls Try.prog 80 #[.slice (some ⟨blk, off, none⟩) zs.length cap] w fun e w' => e = .returned (.slice (some ⟨blk, off, none⟩) (Lib.compact zs).length cap) ∧ ∃ q, w' = putRow encStr (Sort.ahead w q) blk off (Lib.compact zs ++ List.replicate (zs.length - (Lib.compact zs).length) []).toArray := Any.slices_Compact_string Try.lays194 blk off cap zs w hH hsz hcap
open Go.RowKit Go.Lib Go.Sort in
/-- The same at a slice of length 0, a nil one too: it comes back as it is. (LAID: no walk: one application.) -/
theorem Try.slices_Compact_string_empty (a : Option Addr) (cap : Nat) (w : World) :
    Calls Try.prog 80 #[.slice a 0 cap] w fun e w' => e = .returned (.slice a 0 cap) ∧ w' = w := Any.slices_Compact_string_empty Try.lays194 a cap w
open Go.RowKit Go.Sort in
/-- .. and plain. (LAID: no walk: one application.) -/
theorem Try.slices_Sort_string_none (p : Option Addr) (cap : Nat) (w : World) :
    Calls Try.prog 79 #[.slice p 0 cap] w fun e w' => e = .returned (.tuple #[]) ∧ w' = w := Any.slices_Sort_string_none Try.lays190 p cap w
end Go.Proofs
/-
  expr.uses and expr.Uses: every column that an expression names is among them.
-/
namespace Go.Proofs.Ytldleckgkgeclaa
open Go.RowKit
def strs (l : List ByteArray) : List Value := l.map .string
theorem strs_ones (l : List ByteArray) : ∀ u ∈ strs l, u.oneCell' = true := by
  intro u hu
  obtain ⟨v, _, rfl⟩ := List.mem_map.1 hu
  rfl
theorem string_info : (Try.prog.info? 9).map (fun i => (i.zero, i.size, i.bytes)) = some (some (.string ByteArray.empty), 1, 16) := by kernel_rfl
/-- how many columns are named -/
def UsesE (e : E) : Prop := ∀ (A : Option Addr) (c : Nat) (w : World) (base : Nat) (v : Value) (xs : List ByteArray), base ≤ w.heap.size → EKids w base A e.kids → w.ownsRow base 9 1 v xs.length (strs xs) → xs.length + (usesE e).length ≤ 2000000000000 →
  Calls Try.prog 78 #[e.val A c, v] w fun r w' => ∃ v', r = .returned v' ∧ w'.ownsRow base 9 1 v' (xs ++ usesE e).length (strs (xs ++ usesE e)) ∧ Below base w w'
theorem EKids.at_ {w : World} {B : Nat} {A : Option Addr} {l : List E} (h : EKids w B A l) {i : Nat} {e : E} (he : l[i]? = some e) :
    ∃ b o A' c', A = some ⟨b, o, none⟩ ∧ b < B ∧ w.cell? ⟨b, o + i * 4, none⟩ = some (.int .i64 e.k) ∧ w.cell? ⟨b, o + i * 4 + 1, none⟩ = some (.string e.s) ∧
      w.cell? ⟨b, o + i * 4 + 2, none⟩ = some (.int .i64 e.n) ∧ w.cell? ⟨b, o + i * 4 + 3, none⟩ = some (.slice A' e.kids.length c') ∧ EKids w B A' e.kids := by
  cases h with
  | nil A => simp at he
  | mk b off l hn hlt A c h hk =>
    obtain ⟨h1, h2, h3, h4⟩ := h i e he
    exact ⟨b, off, A i, c i, rfl, hlt, h1, h2, h3, h4, hk i e he⟩
theorem usesL_take (l : List E) : ∀ j, (usesL (l.take j)).length ≤ (usesL l).length := by
  induction l with
  | nil => intro j; simp
  | cons x l ih =>
    intro j
    cases j with
    | zero => simp [usesL]
    | succ j =>
      rw [List.take_succ_cons, usesL, usesL, List.length_append, List.length_append]
      have := ih j
      omega
theorem usesL_append (a b : List E) : usesL (a ++ b) = usesL a ++ usesL b := by
  induction a with
  | nil => simp [usesL]
  | cons x a ih => rw [List.cons_append, usesL, usesL, ih, List.append_assoc]
set_option maxRecDepth 100000 in
set_option maxHeartbeats 2000000 in
theorem uses_step (k : Int) (s : ByteArray) (n : Int) (l : List E) (hM0 : ∀ e ∈ l, UsesE e) : UsesE (.mk k s n l) := by
  intro A c w base v xs hbase hA hown hbd
  simp only [E.val, E.k, E.s, E.n, E.kids] at hA ⊢
  have hu : usesE (.mk k s n l) = (if k = 1 then [s] else []) ++ usesL l := by rw [usesE]
  rw [hu, ← List.append_assoc]
  rw [hu, List.length_append] at hbd
  obtain ⟨ys, hys⟩ : ∃ ys, ys = xs ++ (if k = 1 then [s] else []) := ⟨_, rfl⟩
  rw [← hys]
  have hyl : xs.length ≤ ys.length ∧ ys.length + (usesL l).length ≤ 2000000000000 := by
    rw [hys, List.length_append]; omega
  obtain ⟨i0, hi, hz0, hz1, hz2⟩ := info_parts string_info
  obtain ⟨ln, eln⟩ : ∃ ln, ln = l.length := ⟨_, rfl⟩
  have hlen := hA.len
  rw [← eln] at hlen ⊢
  have HLN := Lib.hid eln
  have HM := Lib.hid hM0
  have HYS := Lib.hid hys
  have HYL := Lib.hid hyl
  obtain ⟨w1, ew1⟩ : ∃ w1, w1 = w.alloc (.cells #[.int .i64 k, .string s, .int .i64 n, .slice A ln c] 35) := ⟨_, rfl⟩
  have hb1 : Below w.heap.size w w1 := by rw [ew1]; exact (Below.refl _ _).alloc (Nat.le_refl _) _
  have hs1 : w1.heap.size = w.heap.size + 1 := by rw [ew1]; simp
  have hx1 : w1.heap[w.heap.size]? = some (.cells #[.int .i64 k, .string s, .int .i64 n, .slice A ln c] 35 (0, 0)) := by rw [ew1]; exact heap_alloc_new w _
  have HX1 := Lib.hid hx1
  have HW1 := Lib.hid ew1
  have HB1 := Lib.hid (hb1.mono hbase)
  have HO1 := Lib.hid (own_below hown hb1)
  have HK := Lib.hid hA
  have hne : ∀ g, v.ownBlock = some g → g ≠ w.heap.size := fun g e => by have := (hown.lt g e).2; omega
  have HNE := Lib.hid hne
  clear hA hM0 eln ew1 hb1 hown hbd hu hys hyl hx1 hne
  go_enter Try.func78, Try.ntmps78
  go_upto_if 9 with (fail)
  rw [← HW1.out]
  go_cut [1] (fun u wx => ∃ v1, u = v1 ∧ wx.ownsRow base 9 1 v1 ys.length (strs ys) ∧ wx.heap[w.heap.size]? = some (.cells #[.int .i64 k, .string s, .int .i64 n, .slice A ln c] 35 (0, 0)) ∧ Below base w wx ∧ w1.heap.size ≤ wx.heap.size)
  case first =>
    obtain ⟨⟨p0, p1, p2, p3⟩, q0, q1, q2, q3⟩ := cell4 HX1.out
    by_cases hk : k = 1
    · subst hk
      have hy : ys = xs ++ [s] := by rw [HYS.out]; simp
      have hyn : ys.length = xs.length + 1 := by rw [hy]; simp
      have hyb := HYL.out
      go_wp2_with (at_builtin; refine wpList_append_own _ rfl _ _ 84 rfl base 9 i0 _ 1 16 Try.underlying84 hi hz0 hz1 hz2 rfl (by decide) _ _ _ rfl (own_below HO1.out ((Below.refl w1.heap.size w1).alloc (Nat.le_refl _) _)) ⟨w.heap.size + 1, 0, none⟩ 1 1 [.string s] rfl rfl ?c1 ?c2 ?c3 ?c4 ?c5 ?_)
      (try case c1 => rw [← hs1]; exact World.news_of_block (heap_alloc_new w1 _))
      case c2 => first | rfl | (intro u hu; simp at hu; subst hu; rfl)
      case c3 => unfold maxLen; omega
      case c4 => omega
      case c5 => first | omega | (simp; omega)
      intro v' w5 hown5 hgrow _
      have hB5 := ((HB1.out.alloc (by omega) (.cells #[.string s] 9)).grown hgrow (by simp; omega) (fun g hg => (HO1.out.lt g hg).1))
      have hX5 : w5.heap[w.heap.size]? = some (.cells #[.int .i64 1, .string s, .int .i64 n, .slice A ln c] 35 (0, 0)) := (hgrow.block w.heap.size (by simp; omega) (fun e => HNE.out _ e.symm rfl)).trans ((Below.heap_alloc w1 _ _ (by omega)).trans HX1.out)
      have hO5 : w5.ownsRow base 9 1 v' ys.length (strs ys) := by rw [hyn, hy]; simpa [strs] using hown5
      have hS5 : w1.heap.size ≤ w5.heap.size := by have := hgrow.size; simp at this; omega
      have HZ5 := Lib.hid (And.intro hO5 (And.intro hX5 (And.intro hB5 hS5)))
      clear hown5 hgrow hB5 hX5 hO5 hS5
      go_wp2_with fail
      go_meet
      exact ⟨v', rfl, HZ5.out⟩
    · have hk' : (k == 1) = false := by simpa using hk
      have hy : ys = xs := by rw [HYS.out, if_neg hk, List.append_nil]
      go_wp2_with fail
      go_meet
      exact ⟨v, rfl, by rw [hy]; exact HO1.out, HX1.out, HB1.out, Nat.le_refl _⟩
  case rest =>
  obtain ⟨v1, rfl, hown, hbx, hb, hsz⟩ := hcut
  have HOC := Lib.hid hown
  have HXC := Lib.hid hbx
  have HBC := Lib.hid hb
  clear hown hbx hb
  obtain ⟨⟨p0, p1, p2, p3⟩, q0, q1, q2, q3⟩ := cell4 HXC.out
  go_wp2_with fail
  go_loopw [1, 18] (fun u i wr => ∃ (j : Nat) (v' : Value), j ≤ ln ∧ i = .int .i64 j ∧ v' = u ∧ wr.ownsRow base 9 1 v' (ys ++ usesL (l.take j)).length (strs (ys ++ usesL (l.take j))) ∧ Below base w wr ∧ w1.heap.size ≤ wr.heap.size) (fun _ i _ => ln - (intOf i).toNat)
  case atStart => exact ⟨0, _, Nat.zero_le _, rfl, rfl, by rw [List.take_zero, usesL, List.append_nil]; exact HOC.out, HBC.out, hsz⟩
  case round =>
    obtain ⟨j, v', hj, rfl, rfl, hown, hb, hsz2⟩ := hrel
    have HO := Lib.hid hown
    have HB := Lib.hid hb
    clear hown hb
    by_cases hlt : j < ln
    · obtain ⟨x, hx⟩ : ∃ x, l[j]? = some x := ⟨_, List.getElem?_eq_getElem (by rw [← HLN.out]; exact hlt)⟩
      obtain ⟨b, o, A', c', rfl, hbl, c0, c1, c2, c3, hKx⟩ := EKids.at_ (HK.out.low HB.out) hx
      have htk : l.take (j + 1) = l.take j ++ [x] := by
        obtain ⟨g1, g2⟩ := List.getElem?_eq_some_iff.1 hx
        rw [List.take_succ_eq_append_getElem g1, g2]
      have hul : usesL (l.take (j + 1)) = usesL (l.take j) ++ usesE x := by rw [htk, usesL_append, usesL, usesL, List.append_nil]
      have hln : (ys ++ usesL (l.take j)).length + (usesE x).length ≤ 2000000000000 := by
        have h1 := usesL_take l (j + 1)
        have h2 := HYL.out
        rw [hul, List.length_append] at h1
        rw [List.length_append]
        omega
      have hwr : base ≤ wr.heap.size := by omega
      have hba : Below base wr (wr.alloc (.cells #[.int .i64 x.k, .string x.s, .int .i64 x.n, .slice A' x.kids.length c'] 35)) := (Below.refl _ _).alloc hwr _
      have hcl := Lib.hid (HM.out x (List.mem_of_getElem? hx) A' c' (wr.alloc (.cells #[.int .i64 x.k, .string x.s, .int .i64 x.n, .slice A' x.kids.length c'] 35)) base v' (ys ++ usesL (l.take j)) (by simp; omega) (hKx.low hba) (own_below HO.out ((Below.refl _ _).alloc (Nat.le_refl _) _)) hln)
      have HBA := Lib.hid (HB.out.trans hba)
      have HUL := Lib.hid hul
      clear hx hKx hba hln hul htk
      obtain ⟨xk, xs', xn, xl⟩ := x
      simp only [E.val, E.k, E.s, E.n, E.kids] at c0 c1 c2 c3 hcl HBA HUL
      generalize xl.length = xm at *
      go_wp2_with fail
      refine (hcl.out).mono ?_
      rintro r w2 ⟨v2, rfl, hown2, hb2⟩
      have HO2 := Lib.hid hown2
      have HB2 := Lib.hid (HBA.out.trans hb2)
      have hs2 := hb2.size
      clear hown2 hb2
      go_wp2_with fail
      go_roundw
      case rel =>
        refine ⟨j + 1, v2, by omega, by go_num, rfl, ?_, HB2.out, by simp at hs2; omega⟩
        rw [HUL.out, ← List.append_assoc]
        exact HO2.out
      case measure => simp [intOf]; omega
    · obtain rfl : j = ln := by omega
      go_wp2_with fail
      go_ret
      refine ⟨v', rfl, ?_, HB.out⟩
      have := HO.out
      rw [HLN.out, List.take_length] at this
      exact this
theorem uses_any : ∀ e : E, UsesE e := E.ind fun k s n l ih => uses_step k s n l ih
end Go.Proofs.Ytldleckgkgeclaa
/-
  expr.Uses: a row of texts in which every column that an expression names is found.
-/
namespace Go.Proofs.Ytldleckgkgeclaa
open Go.RowKit
theorem below_putRow {α : Type} [Inhabited α] {enc : α → Value} {B blk off : Nat} {a w : World} {d : Array α} (h : Below B a w) (hb : B ≤ blk) : Below B a (Sort.putRow enc w blk off d) := by
  refine h.trans ⟨rfl, rfl, rfl, by simp, fun k hk => ?_⟩
  show (w.heap.modify blk _)[k]? = _
  rw [Array.getElem?_modify, if_neg (by omega)]
theorem below_ahead {B n : Nat} {a w : World} (h : Below B a w) : Below B a (Sort.ahead w n) := ⟨h.os, h.tape, h.output, h.size, h.block⟩
theorem below_grow {B : Nat} {a w : World} {os : Array Obj} (h : Below B a w) (hB : B ≤ w.heap.size) : Below B a (Sort.grow w os) :=
  h.trans ⟨rfl, rfl, rfl, by simp, fun k hk => Sort.heap_grow_old w os (by omega)⟩
theorem compactUpTo_mem {α : Type} [Inhabited α] [DecidableEq α] (d : Array α) : ∀ (m j : Nat), j < m → d[j]! ∈ Lib.compactUpTo d m := by
  intro m
  induction m with
  | zero => intro j h; omega
  | succ m ih =>
    intro j h
    rw [Lib.compactUpTo_succ]
    rcases Nat.lt_or_ge j m with h' | h'
    · exact List.mem_append_left _ (ih j h')
    · obtain rfl : j = m := by omega
      cases hk : Lib.keeps d j
      · have h1 : ¬ (j = 0 ∨ d[j]! ≠ d[j - 1]!) := by simpa [Lib.keeps] using hk
        have h0 : j ≠ 0 := fun e => h1 (.inl e)
        have h2 : d[j]! = d[j - 1]! := Decidable.byContradiction fun e => h1 (.inr e)
        rw [h2]
        exact List.mem_append_left _ (ih (j - 1) (by omega))
      · exact List.mem_append_right _ (by simp)
theorem compact_mem {α : Type} [Inhabited α] [DecidableEq α] {zs : List α} {x : α} (h : x ∈ zs) : x ∈ Lib.compact zs := by
  obtain ⟨j, hj, rfl⟩ := List.mem_iff_getElem.1 h
  have := compactUpTo_mem zs.toArray zs.length j hj
  rwa [getElem!_pos zs.toArray j (by simpa using hj), List.getElem_toArray] at this
theorem compact_len {α : Type} [Inhabited α] [DecidableEq α] (zs : List α) : (Lib.compact zs).length ≤ zs.length := by
  unfold Lib.compact Lib.compactUpTo
  rw [List.length_map]
  exact Nat.le_trans (List.length_filter_le _ _) (by simp)
/-- a row of texts -/
def SRow (w : World) (B : Nat) (A : Option Addr) (l : List ByteArray) : Prop := l = [] ∨ ∃ b off, A = some ⟨b, off, none⟩ ∧ b < B ∧ ∀ i s, l[i]? = some s → w.cell? ⟨b, off + i, none⟩ = some (.string s)
theorem SRow.below {w w' : World} {B : Nat} {A : Option Addr} {l : List ByteArray} (h : SRow w B A l) (hb : Below B w w') : SRow w' B A l := by
  rcases h with h | ⟨b, o, hA, hB, h⟩
  · exact .inl h
  · exact .inr ⟨b, o, hA, hB, fun i z hz => (hb.cell hB).trans (h i z hz)⟩
theorem SRow.more {w : World} {B B' : Nat} {A : Option Addr} {l : List ByteArray} (h : SRow w B A l) (hB : B ≤ B') : SRow w B' A l := by
  rcases h with h | ⟨b, o, hA, hb, h⟩
  · exact .inl h
  · exact .inr ⟨b, o, hA, by omega, h⟩
/-- a row of texts in blocks from lo on -/
def URow (w : World) (lo : Nat) (A : Option Addr) (l : List ByteArray) : Prop := l = [] ∨ ∃ b off, A = some ⟨b, off, none⟩ ∧ lo ≤ b ∧ b < w.heap.size ∧ ∀ i s, l[i]? = some s → w.cell? ⟨b, off + i, none⟩ = some (.string s)
theorem URow.kept {w w' : World} {lo : Nat} {A : Option Addr} {l : List ByteArray} (h : URow w lo A l) (hw : ∀ k, lo ≤ k → k < w.heap.size → w'.heap[k]? = w.heap[k]?) (hs : w.heap.size ≤ w'.heap.size) : URow w' lo A l := by
  rcases h with h | ⟨b, o, hA, h1, h2, h⟩
  · exact .inl h
  · exact .inr ⟨b, o, hA, h1, by omega, fun i z hz => (World.cell?_of_block (hw b h1 h2)).trans (h i z hz)⟩
theorem ba_toList (s : ByteArray) : (⟨s.toList.toArray⟩ : ByteArray) = s := by
  rw [ByteArray.toList_eq]
theorem own_holds {w : World} {base g cap : Nat} {l : List ByteArray} (h : w.ownsRow base 9 1 (.slice (some ⟨g, 0, none⟩) l.length cap) l.length (strs l)) : Sort.Holds encStr w g 0 (l.map ByteArray.toList).toArray ∧ base ≤ g ∧ g < w.heap.size ∧ l.length ≤ cap := by
  have hlt := h.lt g rfl
  rcases id h.2 with ⟨h', _⟩ | ⟨g', cap', cur, h', hb, hg, hc, _⟩
  · simp at h'
  · simp only [Value.slice.injEq, Option.some.injEq, Addr.mk.injEq, and_true, true_and] at h'
    obtain ⟨rfl, rfl⟩ := h'
    refine ⟨fun j hj => ⟨?_, ?_⟩, hlt.1, hlt.2, hc⟩
    · have hj' : j < l.length := by simpa using hj
      rw [Nat.zero_add, h.cellAt _ (by omega), getElem!_pos _ j hj, List.getElem_toArray, List.getElem_map]
      rw [strs, List.getElem?_map, List.getElem?_eq_getElem hj']
      show some (Value.string l[j]) = some (Value.string ⟨l[j].toList.toArray⟩)
      rw [ba_toList]
    · exact Blk.frozen hg _
set_option maxRecDepth 100000 in
set_option maxHeartbeats 2000000 in
theorem usesTop_any (e : E) (hu : (usesE e).length ≤ 2000000000000) (A : Option Addr) (c : Nat) (w : World) (hA : EKids w w.heap.size A e.kids) :
    Calls Try.prog 38 #[e.val A c] w fun r w' => (∃ (A' : Option Addr) (c' : Nat) (us : List ByteArray), r = .returned (.slice A' us.length c') ∧ us.length ≤ 2000000000000 ∧ URow w' w.heap.size A' us ∧ ∀ x ∈ usesE e, x ∈ us) ∧ Below w.heap.size w w' := by
  have hcl0 := uses_any e
  obtain ⟨us, hus⟩ : ∃ us, us = usesE e := ⟨_, rfl⟩
  unfold UsesE at hcl0
  rw [← hus] at hu hcl0 ⊢
  clear hus
  obtain ⟨k, s, n, l⟩ := e
  simp only [E.val, E.k, E.s, E.n, E.kids] at hA hcl0 ⊢
  obtain ⟨w1, ew1⟩ : ∃ w1, w1 = w.alloc (.cells #[.int .i64 k, .string s, .int .i64 n, .slice A l.length c] 35) := ⟨_, rfl⟩
  have hb1 : Below w.heap.size w w1 := by rw [ew1]; exact (Below.refl _ _).alloc (Nat.le_refl _) _
  have hs1 : w1.heap.size = w.heap.size + 1 := by rw [ew1]; simp
  have HX1 : Hid (w1.heap[w.heap.size]? = some (.cells #[.int .i64 k, .string s, .int .i64 n, .slice A l.length c] 35 (0, 0))) := Lib.hid (by rw [ew1]; exact heap_alloc_new w _)
  have HCL := Lib.hid (hcl0 A c w1 w1.heap.size (.slice none 0 0) [] (Nat.le_refl _) ((hA.low hb1).more hb1.size) (World.ownsRow_nil _ _ _ _) (by simpa using hu))
  have HW1 := Lib.hid ew1
  have HB1 := Lib.hid hb1
  generalize l.length = ln at *
  clear hA ew1 hb1 hcl0
  go_enter Try.func38, Try.ntmps38
  go_upto_region 1 with (fail)
  rw [← HW1.out]
  obtain ⟨⟨p0, p1, p2, p3⟩, q0, q1, q2, q3⟩ := cell4 HX1.out
  go_wp2_with fail
  refine (HCL.out).mono ?_
  rintro r w2 ⟨v2, rfl, hown, hb2⟩
  rw [List.nil_append] at hown
  have HB2 : Hid (Below w.heap.size w w2) := Lib.hid (HB1.out.trans (hb2.mono (by omega)))
  have hw2 : w.heap.size ≤ w2.heap.size := by have := hb2.size; omega
  rcases Nat.eq_zero_or_pos us.length with h0 | hpos
  · obtain rfl : us = [] := List.eq_nil_of_length_eq_zero h0
    obtain ⟨A2, c2, hv⟩ : ∃ A2 c2, v2 = .slice A2 0 c2 := by
      rcases id hown.2 with ⟨h', _⟩ | ⟨g', cap', cur, h', _⟩
      · exact ⟨none, 0, h'⟩
      · exact ⟨_, _, h'⟩
    subst hv
    clear hown hb2
    go_wp2_with fail
    refine (Try.slices_Sort_string_none A2 c2 w2).mono ?_
    rintro r w3 ⟨rfl, hw3⟩
    obtain rfl : w2 = w3 := hw3.symm
    clear hw3
    go_wp2_with fail
    refine (Try.slices_Compact_string_empty A2 c2 w2).mono ?_
    rintro r w3 ⟨rfl, hw3⟩
    obtain rfl : w2 = w3 := hw3.symm
    clear hw3
    go_wp2_with fail
    go_ret
    exact ⟨⟨A2, c2, [], rfl, Nat.zero_le _, .inl rfl, fun x hx => by cases hx⟩, HB2.out⟩
  · obtain ⟨g, cap, rfl, hg1, hg2⟩ := hown.form hpos
    obtain ⟨hH, hbg, hlt, hcap⟩ := own_holds hown
    clear hown hb2
    obtain ⟨zs, hzs⟩ : ∃ zs, zs = us.map ByteArray.toList := ⟨_, rfl⟩
    have hzl : zs.length = us.length := by rw [hzs, List.length_map]
    rw [← hzs] at hH
    obtain ⟨ss, hss⟩ : ∃ ss, ss = zs.mergeSort (fun x y => decide (x ≤ y)) := ⟨_, rfl⟩
    have hsl : ss.length = zs.length := by rw [hss, List.length_mergeSort]
    have h1 := Lib.hid (Try.slices_Sort_string g 0 cap zs w2 hH hlt (by omega))
    rw [← hss, hzl] at h1
    have HH := Lib.hid hH
    have HSS := Lib.hid hss
    have HZS := Lib.hid hzs
    have HSL := Lib.hid (And.intro hzl hsl)
    clear hH hss hzs hzl hsl
    go_wp2_with fail
    refine (h1.out).mono ?_
    rintro r w3 ⟨rfl, n1, os, hw3⟩
    have hH3 : Sort.Holds encStr w3 g 0 ss.toArray := by
      rw [hw3]
      exact Sort.holds_grow _ _ _ _ _ _ (by simpa using hlt) (Sort.holds_putRow _ _ _ _ _ _ (Sort.holds_ahead _ _ _ _ _ _ HH.out) (by simp [HSL.out.2]))
    have hb3 : Below w.heap.size w w3 := by
      rw [hw3]
      exact below_grow (below_putRow (below_ahead HB2.out) (by omega)) (by simpa using hw2)
    have hs3 : w2.heap.size ≤ w3.heap.size := by rw [hw3]; simp [Sort.ahead]
    have h2 := Lib.hid (Try.slices_Compact_string g 0 cap ss w3 hH3 (by have := HSL.out; omega) (by have := HSL.out; omega))
    rw [HSL.out.2, HSL.out.1] at h2
    have HH3 := Lib.hid hH3
    have HB3 := Lib.hid hb3
    clear hw3 hH3 hb3
    go_wp2_with fail
    refine (h2.out).mono ?_
    rintro r w4 ⟨rfl, q, hw4⟩
    have hcl := compact_len ss
    obtain ⟨cs, hcs⟩ : ∃ cs, cs = Lib.compact ss := ⟨_, rfl⟩
    rw [← hcs] at hcl hw4 ⊢
    have hb4 : Below w.heap.size w w4 := by
      rw [hw4]
      exact below_putRow (below_ahead HB3.out) (by omega)
    have hs4 : w3.heap.size ≤ w4.heap.size := by rw [hw4]; simp [Sort.ahead]
    have hssl : ss.length = us.length := by have := HSL.out; omega
    have hR : URow w4 w.heap.size (some ⟨g, 0, none⟩) (cs.map fun z => (⟨z.toArray⟩ : ByteArray)) := by
      refine .inr ⟨g, 0, rfl, by omega, by omega, fun i s hs => ?_⟩
      rw [List.getElem?_map] at hs
      cases hz : cs[i]? with
      | none => rw [hz] at hs; cases hs
      | some z =>
        rw [hz] at hs
        obtain rfl : (⟨z.toArray⟩ : ByteArray) = s := by simpa using hs
        have hi : i < cs.length := (List.getElem?_eq_some_iff.1 hz).1
        rw [hw4, Sort.cell?_putRow _ _ _ _ ss.toArray _ (Sort.holds_ahead _ _ _ _ _ _ HH3.out) (by simp; omega) i (by simp; omega)]
        have hx : ((cs ++ List.replicate (us.length - cs.length) []).toArray)[i]! = z := by
          rw [getElem!_pos _ i (by simp; omega), List.getElem_toArray, List.getElem_append_left hi]
          exact (List.getElem?_eq_some_iff.1 hz).2
        rw [hx]
    have HR := Lib.hid hR
    have HB4 := Lib.hid hb4
    have HMM : Hid (∀ x ∈ us, x ∈ cs.map fun z => (⟨z.toArray⟩ : ByteArray)) := Lib.hid (fun x hx => by
      refine List.mem_map.2 ⟨x.toList, ?_, ba_toList x⟩
      rw [hcs]
      refine compact_mem ?_
      rw [HSS.out, List.mem_mergeSort, HZS.out]
      exact List.mem_map.2 ⟨x, hx, rfl⟩)
    have hcl2 : cs.length ≤ us.length := by have := HSL.out; omega
    clear hw4 hR hb4 hcl
    go_wp2_with fail
    go_ret
    exact ⟨⟨some ⟨g, 0, none⟩, cap, cs.map fun z => (⟨z.toArray⟩ : ByteArray), by rw [List.length_map, hcs]; rfl, by rw [List.length_map]; omega, HR.out, HMM.out⟩, HB4.out⟩
end Go.Proofs.Ytldleckgkgeclaa
