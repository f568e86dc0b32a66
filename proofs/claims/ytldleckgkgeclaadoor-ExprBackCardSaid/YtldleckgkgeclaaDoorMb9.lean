/-
  sexp.Print: what it writes.
-/
import Derived.Test.YtldleckgkgeclaaDoorMb6
import Derived.Test.YtldleckgkgeclaaDoorMb8
import Derived.Test.YtldleckgkgeclaaDoorMb4
import Derived.BigQuiet
set_option linter.unusedVariables false
set_option linter.unusedSimpArgs false
namespace Go.Proofs.YtldleckgkgeclaaDoor
open Go.RowKit
set_option linter.unusedVariables false
set_option linter.unusedSimpArgs false
def showB (s : ByteArray) : List UInt8 := if V.okB ⟨2, 0, s⟩ then quoteL s.data.toList else [63]
mutual
def prT : T → List UInt8
  | .mk k s n l _ => if k = 1 then 40 :: (Lib.join (prL l) [32] ++ [41]) else if k = 2 then s.data.toList else if k = 3 then Lib.itoa n else if k = 4 then showB s else []
def prL : List T → List (List UInt8)
  | [] => []
  | x :: l => prT x :: prL l
end
theorem ok_text2 {k n : Int} {s : ByteArray} (hok : V.okB ⟨k, n, s⟩ = true) (hk : (k == 1) = false) : (k == 2) = true ∧ s.size ≤ 40 := by
  unfold V.okB at hok
  rw [show ((V.mk k n s).k == 1) = false from hk, Bool.false_and, Bool.false_or] at hok
  simp only [Bool.and_eq_true, decide_eq_true_eq] at hok
  exact ⟨hok.1, by have := hok.2.2; omega⟩
theorem show_str (s : ByteArray) (w : World) : Calls Tryd.prog 36 #[.agg #[.int .i64 2, .int .i64 0, .string s]] w fun e w' => e = .returned (.string ⟨(showB s).toArray⟩) ∧ Below w.heap.size w w' := by
  unfold showB
  have hr := Lib.hid (value_right 2 0 s)
  cases hok : V.okB ⟨2, 0, s⟩
  · rw [hok] at hr
    simp only [Bool.false_eq_true, if_false]
    clear hok
    go_enter Tryd.func36, Tryd.ntmps36
    go_wp2_with fail
    refine (hr.out _).mono ?_
    rintro e w' ⟨rfl, rfl⟩
    go_wp2_with fail
    go_ret
    exact ⟨rfl, ((Below.refl _ _).alloc (Nat.le_refl _) _).alloc (by simp) _⟩
  · exact show_text s (ok_text2 hok rfl).2 0 2 rfl hok w
theorem str_val (s : ByteArray) (w : World) : Calls Tryd.prog 37 #[.string s] w fun e w' => e = .returned (.agg #[.int .i64 2, .int .i64 0, .string s]) ∧ Below w.heap.size w w' := by
  go_enter Tryd.func37, Tryd.ntmps37
  go_wp2
  exact bodyPost_ret (v := .agg #[.int .i64 2, .int .i64 0, .string s]) (by simp [results, Tryd.results37, go_sem]) rfl ⟨rfl, (Below.refl _ _).alloc (Nat.le_refl _) _⟩
/-- a tree that can be printed: what it writes is no longer than so much, and so on downwards -/
inductive Prn : T → Prop
  | mk (k : Int) (s : ByteArray) (n : Int) (l : List T) (a : Int) (h1 : -9223372036854775808 ≤ n) (h2 : n ≤ 9223372036854775807) (hl : k = 1 → 0 < l.length ∧ l.length ≤ 600 ∧ (Lib.join (prL l) [32]).length ≤ 100000000000000) (hk : k = 1 → ∀ e ∈ l, Prn e) : Prn (.mk k s n l a)
abbrev PowTab (w : World) : Prop := Lib.TabIs Tryd.prog w "internal/strconv.uint64pow10" .u64 Lib.pow10Tab
def PrintOk (t : T) : Prop := Prn t → ∀ (A : Option Addr) (c : Nat) (w : World), t.kids.length ≤ c → TKids w w.heap.size A t.kids → (∀ w', Below w.heap.size w w' → PowTab w') →
  Calls Tryd.prog 16 #[t.val A c] w fun e w' => e = .returned (.string ⟨(prT t).toArray⟩) ∧ Below w.heap.size w w'
theorem prL_length (l : List T) : (prL l).length = l.length := by
  induction l with
  | nil => rfl
  | cons x l ih => rw [prL, List.length_cons, List.length_cons, ih]
theorem prL_take {l : List T} {j : Nat} {x : T} (h : l[j]? = some x) : (prL l).take (j + 1) = (prL l).take j ++ [prT x] := by
  induction l generalizing j with
  | nil => simp at h
  | cons y l ih =>
    cases j with
    | zero =>
      obtain rfl : y = x := by simpa using h
      rw [prL]
      rfl
    | succ j =>
      rw [prL, List.take_succ_cons, List.take_succ_cons, ih (by simpa using h)]
      rfl
theorem str_info : (Tryd.prog.info? 9).map (fun i => (i.zero, i.size, i.bytes)) = some (some (.string ByteArray.empty), 1, 16) := by kernel_rfl
def strsL (l : List (List UInt8)) : List Value := l.map fun x => .string ⟨x.toArray⟩
theorem wrap_paren (l : List UInt8) : (⟨#[40]⟩ : ByteArray) ++ ⟨l.toArray⟩ ++ ⟨#[41]⟩ = ⟨(40 :: (l ++ [41])).toArray⟩ := by
  apply ByteArray.ext
  simp [ByteArray.data_append]
set_option maxRecDepth 100000 in
set_option maxHeartbeats 4000000 in
theorem print_step (k : Int) (s : ByteArray) (n : Int) (l : List T) (a : Int) (hM : ∀ e ∈ l, PrintOk e) : PrintOk (.mk k s n l a) := by
  intro hp A c w hc hA hT
  obtain ⟨_, _, _, _, _, n1, n2, hl, hk⟩ := hp
  simp only [T.val, T.k, T.s, T.n, T.kids, T.at_] at hc hA ⊢
  obtain ⟨ln, eln⟩ : ∃ ln, ln = l.length := ⟨_, rfl⟩
  have hlen := hA.len
  obtain ⟨w1, ew1⟩ : ∃ w1, w1 = w.alloc (.cells #[.int .i64 k, .string s, .int .i64 n, .slice A ln c, .int .i64 a] 24) := ⟨_, rfl⟩
  have hb1 : Below w.heap.size w w1 := by rw [ew1]; exact (Below.refl _ _).alloc (Nat.le_refl _) _
  have hs1 : w1.heap.size = w.heap.size + 1 := by rw [ew1]; simp
  have hx1 : w1.heap[w.heap.size]? = some (.cells #[.int .i64 k, .string s, .int .i64 n, .slice A ln c, .int .i64 a] 24 (0, 0)) := by rw [ew1]; exact heap_alloc_new w _
  obtain ⟨⟨k0, k1, k2, k3, k4⟩, _, _, _, _, _⟩ := cell5 hx1
  obtain ⟨pr, hpr⟩ : ∃ pr, pr = prT (.mk k s n l a) := ⟨_, rfl⟩
  rw [← hpr, ← eln]
  have HPR := Lib.hid hpr
  have HW1 := Lib.hid ew1
  have HB1 := Lib.hid hb1
  have HX1 := Lib.hid hx1
  have HK := Lib.hid hA
  have HM := Lib.hid hM
  have HLN := Lib.hid eln
  have HT := Lib.hid hT
  clear hpr ew1 hb1 hx1 hA hM hT eln
  by_cases h1 : k = 1
  · subst h1
    obtain ⟨hl0, hl6, hlj⟩ := hl rfl
    have HKD := Lib.hid (hk rfl)
    have HLJ := Lib.hid hlj
    obtain ⟨i0, hi, hz0, hz1, hz2⟩ := info_parts str_info
    have hln6 : ln ≤ 600 := by have := HLN.out; omega
    have hln0 : 0 < ln := by have := HLN.out; omega
    clear hk hl hlj hl0 hl6
    go_enter Tryd.func16, Tryd.ntmps16
    go_upto_region 1 with (fail)
    rw [← HW1.out]
    go_wp2_with fail
    go_loopw [3, 13] (fun v i wr => ∃ (j : Nat) (A' : Option Addr) (c' : Nat), j ≤ ln ∧ i = .int .i64 j ∧ v = .slice A' j c' ∧ wr.ownsRow w1.heap.size 9 1 (.slice A' j c') j (strsL ((prL l).take j)) ∧ Below w1.heap.size w1 wr) (fun _ i _ => ln - (intOf i).toNat)
    case atStart => exact ⟨0, none, 0, Nat.zero_le _, rfl, rfl, ⟨rfl, .inl ⟨rfl, rfl⟩⟩, Below.refl _ _⟩
    case round =>
      obtain ⟨j, A', c', hj, rfl, rfl, hown, hb⟩ := hrel
      have HO := Lib.hid hown
      have HB := Lib.hid hb
      have hs := hb.size
      have HBW := Lib.hid (HB1.out.trans (hb.mono (by omega)))
      clear hown hb
      by_cases hlt : j < ln
      · obtain ⟨x, hx⟩ : ∃ x, l[j]? = some x := ⟨_, List.getElem?_eq_getElem (by rw [← HLN.out]; exact hlt)⟩
        obtain ⟨b, o, A2, c2, rfl, hbl, m1, m2, m3, m4, m5, hcx, hKx⟩ := HK.out.get_ wr HBW.out j x hx
        have htk := Lib.hid (prL_take hx)
        have hMx := HM.out x (List.mem_of_getElem? hx) (HKD.out x (List.mem_of_getElem? hx))
        obtain ⟨wx, ewx⟩ : ∃ wx, wx = wr.alloc (.cells #[.int .i64 x.k, .string x.s, .int .i64 x.n, .slice A2 x.kids.length c2, .int .i64 x.at_] 24) := ⟨_, rfl⟩
        have hbx : Below wr.heap.size wr wx := by rw [ewx]; exact (Below.refl _ _).alloc (Nat.le_refl _) _
        have hnx : wx.heap[wr.heap.size]? = some (.cells #[.int .i64 x.k, .string x.s, .int .i64 x.n, .slice A2 x.kids.length c2, .int .i64 x.at_] 24 (0, 0)) := by rw [ewx]; exact heap_alloc_new wr _
        have hbwx : Below w.heap.size w wx := HBW.out.trans (hbx.mono (by have := HBW.out.size; omega))
        have hcl := Lib.hid (hMx A2 c2 wx hcx ((hKx.low hbx).more hbx.size) (fun w' h => HT.out w' (hbwx.trans (h.mono hbwx.size))))
        have HBX := Lib.hid (HB.out.trans (hbx.mono hs))
        have HWX := Lib.hid ewx
        obtain ⟨⟨n0, n1', n2', n3, n4⟩, _, _, _, _, _⟩ := cell5 hnx
        have HOX := Lib.hid (own_below HO.out hbx)
        obtain ⟨pt, hpt⟩ : ∃ pt, pt = prT x := ⟨_, rfl⟩
        rw [← hpt] at hcl htk
        clear hx hKx hMx hcx ewx hbx hnx hbwx hpt
        obtain ⟨xk, xs, xn, xl, xa⟩ := x
        simp only [T.val, T.k, T.s, T.n, T.kids, T.at_] at m1 m2 m3 m4 m5 hcl HWX n0 n1' n2' n3 n4
        generalize xl.length = xm at *
        go_upto_region 7 with (fail)
        rw [← HWX.out]
        go_wp2_with fail
        refine (hcl.out).mono ?_
        rintro e w2 ⟨rfl, hb2⟩
        have HB2 := Lib.hid (HBX.out.trans (hb2.mono HBX.out.size))
        have HO2 := Lib.hid (own_below HOX.out hb2)
        have hs2 := HB2.out.size
        clear hb2
        go_wp2_with (at_builtin; refine wpList_append_own _ rfl _ _ 46 rfl w1.heap.size 9 i0 _ 1 16 Tryd.underlying46 hi hz0 hz1 hz2 rfl (by decide) (.slice A' j c') j (strsL ((prL l).take j)) rfl (own_below HO2.out ((Below.refl w2.heap.size w2).alloc (Nat.le_refl _) _)) ⟨w2.heap.size, 0, none⟩ 1 1 [.string ⟨pt.toArray⟩] rfl rfl ?c1 ?c2 ?c3 ?c4 ?c5 ?_)
        case c1 => exact World.news_of_block (heap_alloc_new w2 _)
        case c2 => first | rfl | (intro u hu; simp at hu; subst hu; rfl)
        case c3 => unfold maxLen; omega
        case c4 => omega
        case c5 => first | omega | (simp; omega)
        intro v' w5 hown5 hgrow _
        have hB5 := ((HB2.out.alloc (by omega) (.cells #[.string ⟨pt.toArray⟩] 9)).grown hgrow (by simp; omega) (fun g hg => (HO2.out.lt g hg).1))
        obtain ⟨g5, cap5, ev5, _⟩ := hown5.form (by omega)
        subst ev5
        have HO5 : Hid (w5.ownsRow w1.heap.size 9 1 (.slice (some ⟨g5, 0, none⟩) (j + 1) cap5) (j + 1) (strsL ((prL l).take (j + 1)))) := Lib.hid (by
          have e : strsL ((prL l).take (j + 1)) = strsL ((prL l).take j) ++ [.string ⟨pt.toArray⟩] := by rw [htk.out]; simp [strsL]
          rw [e, hs1]
          exact hown5)
        have HB5 := Lib.hid hB5
        clear hown5 hgrow hB5
        go_wp2_with fail
        go_roundw
        case rel => exact ⟨j + 1, _, cap5, by omega, by go_num, rfl, HO5.out, HB5.out⟩
        case measure => simp [intOf]; omega
      · obtain rfl : j = ln := by omega
        have hpl : (prL l).length = j := by rw [prL_length]; exact HLN.out.symm
        have hown := HO.out
        rw [List.take_of_length_le (by omega)] at hown
        obtain ⟨g, cap, hv, _, hgl⟩ := hown.form hln0
        have hA' : A' = some ⟨g, 0, none⟩ := by injection hv
        have hcap : j ≤ c' := by
          rcases hown.2 with ⟨h, h0⟩ | ⟨_, cap2, _, h, _, _, h2, _⟩
          · omega
          · injection h with _ _ h; omega
        subst hA'
        have hcells : ∀ (i : Nat) x, ((prL l).map fun x => (⟨x.toArray⟩ : ByteArray))[i]? = some x → wr.cell? ⟨g, 0 + i, none⟩ = some (.string x) := fun i x hx => by
          have hi2 : i < j := by have := (List.getElem?_eq_some_iff.1 hx).1; rw [List.length_map, hpl] at this; exact this
          rw [Nat.zero_add, hown.cellAt i (by omega)]
          rw [List.getElem?_map] at hx
          unfold strsL
          rw [List.getElem?_map]
          cases hq : (prL l)[i]? with
          | none => rw [hq] at hx; cases hx
          | some y => rw [hq] at hx; simp at hx; subst hx; rfl
        have hmm : ((prL l).map fun x => (⟨x.toArray⟩ : ByteArray)).map (·.data.toList) = prL l := by
          rw [List.map_map]
          conv => rhs; rw [← List.map_id (prL l)]
          apply List.map_congr_left
          intro x _
          simp
        have hjoin := Tryd.strings_Join g 0 c' ((prL l).map fun x => (⟨x.toArray⟩ : ByteArray)) ⟨#[32]⟩ wr hcells hgl (by rw [List.length_map, hpl]; omega) (by rw [List.length_map, hpl]; exact hcap) (by rw [hmm]; have := HLJ.out; show (Lib.join (prL l) [32]).length ≤ _; omega)
        rw [List.length_map, hpl, hmm] at hjoin
        have HJ : Hid (Calls Tryd.prog 34 #[.slice (some ⟨g, 0, none⟩) j c', .string ⟨#[32]⟩] wr fun e w' => e = .returned (.string ⟨(Lib.join (prL l) [32]).toArray⟩) ∧ Below wr.heap.size wr w') := Lib.hid hjoin
        have HPE : Hid (pr = 40 :: (Lib.join (prL l) [32] ++ [41])) := Lib.hid (by rw [HPR.out, prT, if_pos rfl])
        have HSZ := HLJ.out
        generalize Lib.join (prL l) [32] = jn at *
        have hz1' : (⟨jn.toArray⟩ : ByteArray).size = jn.length := rfl
        have hz2' : (⟨#[40]⟩ ++ (⟨jn.toArray⟩ : ByteArray)).size = 1 + jn.length := by rw [ByteArray.size_append]; rfl
        clear hcells hmm hjoin hown hv
        go_wp2_with fail
        refine (HJ.out).mono ?_
        rintro e w2 ⟨rfl, hb2⟩
        have HB2 := Lib.hid (HBW.out.trans (hb2.mono HBW.out.size))
        clear hb2
        go_wp2_with fail
        go_ret
        exact ⟨by rw [HPE.out, ← wrap_paren]; rfl, HB2.out⟩
  · have hkk1 : (k == 1) = false := by simpa using h1
    by_cases h2 : k = 2
    · subst h2
      have HPE : Hid (pr = s.data.toList) := Lib.hid (by rw [HPR.out, prT, if_neg (by decide), if_pos rfl])
      clear hkk1 hl hk h1
      go_enter Tryd.func16, Tryd.ntmps16
      go_upto_region 1 with (fail)
      rw [← HW1.out]
      go_wp2_with fail
      go_ret
      exact ⟨by rw [HPE.out]; rfl, HB1.out⟩
    · by_cases h3 : k = 3
      · subst h3
        have HPE : Hid (pr = Lib.itoa n) := Lib.hid (by rw [HPR.out, prT, if_neg (by decide), if_neg (by decide), if_pos rfl])
        have hf := Lib.hid (Tryd.strconv_FormatInt_10 n n1 n2 w1 (HT.out w1 HB1.out))
        clear hkk1 hl hk h1 h2
        go_enter Tryd.func16, Tryd.ntmps16
        go_upto_region 1 with (fail)
        rw [← HW1.out]
        go_wp2_with fail
        refine (hf.out).mono ?_
        rintro e w2 ⟨rfl, q, os, rfl⟩
        have B2 := Lib.hid (HB1.out.trans (Lib.below_grow w.heap.size _ HB1.out.size q os))
        go_wp2_with fail
        go_ret
        exact ⟨by rw [HPE.out]; rfl, B2.out⟩
      · have hkk2 : (k == 2) = false := by simpa using h2
        have hkk3 : (k == 3) = false := by simpa using h3
        by_cases h4 : k = 4
        · subst h4
          have HPE : Hid (pr = showB s) := Lib.hid (by rw [HPR.out, prT, if_neg (by decide), if_neg (by decide), if_neg (by decide), if_pos rfl])
          have hv := Lib.hid (fun w => str_val s w)
          have hw := Lib.hid (fun w => show_str s w)
          clear hkk1 hkk2 hkk3 hl hk h1 h2 h3
          go_enter Tryd.func16, Tryd.ntmps16
          go_upto_region 1 with (fail)
          rw [← HW1.out]
          go_wp2_with fail
          refine (hv.out _).mono ?_
          rintro e w2 ⟨rfl, hb2⟩
          have HB2 := Lib.hid (HB1.out.trans (hb2.mono HB1.out.size))
          clear hb2
          go_wp2_with fail
          refine (hw.out _).mono ?_
          rintro e w3 ⟨rfl, hb3⟩
          have HB3 := Lib.hid (HB2.out.trans (hb3.mono HB2.out.size))
          clear hb3
          go_wp2_with fail
          go_ret
          exact ⟨by rw [HPE.out]; rfl, HB3.out⟩
        · have hkk4 : (k == 4) = false := by simpa using h4
          have HPE : Hid (pr = []) := Lib.hid (by rw [HPR.out, prT, if_neg h1, if_neg h2, if_neg h3, if_neg h4])
          clear hl hk
          go_enter Tryd.func16, Tryd.ntmps16
          go_upto_region 1 with (fail)
          rw [← HW1.out]
          go_wp2_with fail
          go_ret
          exact ⟨by rw [HPE.out]; rfl, HB1.out⟩
theorem print_any : ∀ t, PrintOk t := T.ind print_step
end Go.Proofs.YtldleckgkgeclaaDoor
/-
  Trees that expr.Read accepts can be printed; as can the trees of their expressions. No program in sight.
-/
namespace Go.Proofs.YtldleckgkgeclaaDoor
open Go.RowKit
theorem showB_len (s : ByteArray) : (showB s).length ≤ 122 := by
  unfold showB
  cases h : V.okB ⟨2, 0, s⟩
  · simp
  · have hs := (ok_text2 h rfl).2
    simp only [if_true]
    unfold quoteL
    have := fq_le s.data.toList
    have h2 : s.data.toList.length = s.size := by rw [Array.length_toList]; rfl
    simp only [List.length_cons, List.length_append, List.length_nil]
    omega
theorem tail_len : ∀ (l : List (List UInt8)) (b : Nat), (∀ x ∈ l, x.length ≤ b) → (Lib.joinTail [32] l).length ≤ l.length * (b + 1)
  | [], b, _ => by simp [Lib.joinTail]
  | x :: l, b, h => by
    have h1 := h x List.mem_cons_self
    have h2 := tail_len l b (fun z hz => h z (List.mem_cons_of_mem _ hz))
    have e : Lib.joinTail [32] (x :: l) = ([32] ++ x) ++ Lib.joinTail [32] l := by simp [Lib.joinTail]
    rw [e]
    have hm : (l.length + 1) * (b + 1) = l.length * (b + 1) + (b + 1) := Nat.succ_mul _ _
    simp only [List.length_append, List.length_cons, List.length_nil]
    omega
theorem join_len (l : List (List UInt8)) (b : Nat) (h : ∀ x ∈ l, x.length ≤ b) : (Lib.join l [32]).length ≤ l.length * (b + 1) := by
  cases l with
  | nil => simp [Lib.join_nil]
  | cons x l =>
    have h1 := h x List.mem_cons_self
    have h2 := tail_len l b (fun z hz => h z (List.mem_cons_of_mem _ hz))
    have hm : (l.length + 1) * (b + 1) = l.length * (b + 1) + (b + 1) := Nat.succ_mul _ _
    rw [Lib.join_cons]
    simp only [List.length_append, List.length_cons]
    omega
def PR (d : Nat) (t : T) : Prop := Prn t ∧ Prn (canT t) ∧ prT (canT t) = prT t ∧ (prT t).length ≤ 700 * 5 ^ d
theorem pr_atom {d : Nat} {k : Int} {s : ByteArray} {n a : Int} {l : List T} (hk : k = 2) (hs : s.size ≤ 600) (n1 : -9223372036854775808 ≤ n) (n2 : n ≤ 9223372036854775807) : PR d (.mk k s n l a) := by
  subst hk
  have e : canT (.mk 2 s n l a) = .mk 2 s 0 [] 0 := by unfold canT; rw [if_pos rfl]
  have p1 : prT (.mk 2 s n l a) = s.data.toList := by rw [prT, if_neg (by decide), if_pos rfl]
  have p2 : prT (.mk 2 s 0 [] 0) = s.data.toList := by rw [prT, if_neg (by decide), if_pos rfl]
  have h5 : 1 ≤ 5 ^ d := Nat.one_le_pow _ _ (by decide)
  refine ⟨.mk _ _ _ _ _ n1 n2 (fun h => by simp at h) (fun h => by simp at h), ?_, ?_, ?_⟩
  · rw [e]; exact .mk _ _ _ _ _ (by decide) (by decide) (fun h => by simp at h) (fun h => by simp at h)
  · rw [e, p1, p2]
  · rw [p1]
    have h2 : s.data.toList.length = s.size := by rw [Array.length_toList]; rfl
    omega
theorem read_kids : ∀ {l : List T}, (readL l).2.1 = 0 → ∀ t ∈ l, (readT t).2.1 = 0
  | [], _, t, ht => by cases ht
  | x :: l, h, t, ht => by
    rw [readL] at h
    by_cases hx : (readT x).2.1 = 0
    · rw [if_pos hx] at h
      rcases List.mem_cons.1 ht with rfl | ht
      · exact hx
      · exact read_kids h t ht
    · rw [if_neg hx] at h
      exact absurd h hx
theorem canL_map (l : List T) : canL l = l.map canT := by
  induction l with
  | nil => rw [canL]; rfl
  | cons x l ih => rw [canL, ih]; rfl
theorem prL_map (l : List T) : prL l = l.map prT := by
  induction l with
  | nil => rw [prL]; rfl
  | cons x l ih => rw [prL, ih]; rfl
theorem pr_open {d : Nat} {s : ByteArray} {n a : Int} {l : List T} (hd : d ≤ 12) (n1 : -9223372036854775808 ≤ n) (n2 : n ≤ 9223372036854775807) (h0 : 0 < l.length) (h4 : l.length ≤ 4) (hk : ∀ t ∈ l, PR d t) : PR (d + 1) (.mk 1 s n l a) := by
  have e : canT (.mk 1 s n l a) = .mk 1 ⟨#[]⟩ 0 (canL l) 0 := by unfold canT; rw [if_neg (by decide), if_neg (by decide), if_neg (by decide)]
  have hpl : prL (canL l) = prL l := by
    rw [canL_map, prL_map, prL_map, List.map_map]
    exact List.map_congr_left fun t ht => (hk t ht).2.2.1
  have hlen : (prL l).length = l.length := prL_length l
  have hj := join_len (prL l) (700 * 5 ^ d) (fun x hx => by
    rw [prL_map] at hx
    obtain ⟨t, ht, rfl⟩ := List.mem_map.1 hx
    exact (hk t ht).2.2.2)
  rw [hlen] at hj
  have h5 : 1 ≤ 5 ^ d := Nat.one_le_pow _ _ (by decide)
  have h12 : 5 ^ d ≤ 5 ^ 12 := Nat.pow_le_pow_right (by decide) hd
  have h12' : (5 : Nat) ^ 12 = 244140625 := by decide
  have hm : l.length * (700 * 5 ^ d + 1) ≤ 4 * (700 * 5 ^ d + 1) := Nat.mul_le_mul_right _ h4
  have hcl : (canL l).length = l.length := by rw [canL_map, List.length_map]
  refine ⟨.mk _ _ _ _ _ n1 n2 (fun _ => ⟨h0, by omega, by omega⟩) (fun _ t ht => (hk t ht).1), ?_, ?_, ?_⟩
  · rw [e]
    refine .mk _ _ _ _ _ (by decide) (by decide) (fun _ => ⟨by omega, by omega, by rw [hpl]; omega⟩) (fun _ t ht => ?_)
    rw [canL_map] at ht
    obtain ⟨u, hu, rfl⟩ := List.mem_map.1 ht
    exact (hk u hu).2.1
  · rw [e, prT, prT, if_pos rfl, if_pos rfl, hpl]
  · rw [prT, if_pos rfl, List.length_cons, List.length_append, Nat.pow_succ]
    simp only [List.length_cons, List.length_nil]
    omega
theorem pr_any : ∀ t : T, ∀ d, d ≤ 13 → t.Good → t.Deep d → (readT t).2.1 = 0 → PR d t := T.ind (fun k s n l a ih d hd hg hdp hr => by
  obtain ⟨_, _, _, _, _, n1, n2, hs6, hs4, hl6, hgk⟩ := hg
  by_cases h2 : k = 2
  · exact pr_atom h2 hs6 n1 n2
  · by_cases h3 : k = 3
    · subst h3
      have e : canT (.mk 3 s n l a) = .mk 3 ⟨#[]⟩ n [] 0 := by unfold canT; rw [if_neg (by decide), if_pos rfl]
      have p : ∀ s l a, prT (.mk 3 s n l a) = Lib.itoa n := fun s l a => by rw [prT, if_neg (by decide), if_neg (by decide), if_pos rfl]
      have h5 : 1 ≤ 5 ^ d := Nat.one_le_pow _ _ (by decide)
      refine ⟨.mk _ _ _ _ _ n1 n2 (fun h => by simp at h) (fun h => by simp at h), ?_, ?_, ?_⟩
      · rw [e]; exact .mk _ _ _ _ _ n1 n2 (fun h => by simp at h) (fun h => by simp at h)
      · rw [e, p, p]
      · rw [p]
        have := Lib.itoa_length_le n n1 n2
        omega
    · by_cases h4 : k = 4
      · subst h4
        have e : canT (.mk 4 s n l a) = .mk 4 s 0 [] 0 := by unfold canT; rw [if_neg (by decide), if_neg (by decide), if_pos rfl]
        have p : ∀ n l a, prT (.mk 4 s n l a) = showB s := fun n l a => by rw [prT, if_neg (by decide), if_neg (by decide), if_neg (by decide), if_pos rfl]
        have h5 : 1 ≤ 5 ^ d := Nat.one_le_pow _ _ (by decide)
        refine ⟨.mk _ _ _ _ _ n1 n2 (fun h => by simp at h) (fun h => by simp at h), ?_, ?_, ?_⟩
        · rw [e]; exact .mk _ _ _ _ _ (by decide) (by decide) (fun h => by simp at h) (fun h => by simp at h)
        · rw [e, p, p]
        · rw [p]
          have := showB_len s
          omega
      · by_cases h1 : k = 1
        · subst h1
          cases hdp with
          | mk d' _ _ _ _ _ hkd =>
            cases l with
            | nil => rw [read_none] at hr; simp at hr
            | cons x ks =>
              rw [read_app] at hr
              by_cases hx : x.k = 2 ∧ cntL x.s.toList ≠ 0
              · rw [if_pos hx] at hr
                by_cases hl : ks.length = cntL x.s.toList
                · rw [if_pos hl] at hr
                  by_cases hrk : (readL ks).2.1 = 0
                  · have hc := cnt_few x.s
                    refine pr_open (by omega) n1 n2 (by simp) (by simp only [List.length_cons]; omega) (fun t ht => ?_)
                    rcases List.mem_cons.1 ht with rfl | ht
                    · have hgx := hgk t List.mem_cons_self
                      obtain ⟨_, _, _, _, _, g1, g2, g3, _, _, _⟩ := hgx
                      exact pr_atom hx.1 g3 g1 g2
                    · exact ih t (List.mem_cons_of_mem _ ht) d' (by omega) (hgk t (List.mem_cons_of_mem _ ht)) (hkd t (List.mem_cons_of_mem _ ht)) (read_kids hrk t ht)
                  · rw [if_neg hrk] at hr
                    exact absurd hr hrk
                · rw [if_neg hl] at hr
                  simp at hr
              · rw [if_neg hx] at hr
                simp at hr
        · rw [read_bad h1 h2 h3 h4] at hr
          simp at hr)
end Go.Proofs.YtldleckgkgeclaaDoor
/-
  confluencekeep's Exprs of one and the same expressions: it says so.
-/
namespace Go.Proofs.YtldleckgkgeclaaDoor
open Go.RowKit
def SameExp (l : List E) : Prop := ∀ (A B : Option Addr) (c d : Nat) (w : World), EKids w w.heap.size A l → EKids w w.heap.size B l →
  Calls Tryd.prog 14 #[.slice A l.length c, .slice B l.length d] w fun e w' => e = .returned (.bool true) ∧ ∃ n, w' = w.drewN n
set_option maxRecDepth 100000 in
set_option maxHeartbeats 1000000 in
theorem same_step (l : List E) (hM0 : ∀ e ∈ l, SameExp e.kids) : SameExp l := by
  intro A B c d w hA hB
  have hn := hA.len
  have HA := Lib.hid hA.get_
  have HB := Lib.hid hB.get_
  obtain ⟨m, em⟩ : ∃ m, m = l.length := ⟨_, rfl⟩
  have HEM := Lib.hid em
  have HM := Lib.hid hM0
  rw [← em] at hn ⊢
  clear hA hB hM0 em
  go_enter Tryd.func14, Tryd.ntmps14
  go_wp2_with fail
  go_loopw [5] (fun i wr => ∃ (j n : Nat), j ≤ m ∧ i = .int .i64 j ∧ wr = w.drewN n) (fun i _ => m - (intOf i).toNat)
  case atStart => exact ⟨0, 0, Nat.zero_le _, rfl, rfl⟩
  case round =>
    obtain ⟨j, n, hj, rfl, hwr⟩ := hrel
    have HWR := Lib.hid hwr
    have hbw : Below w.heap.size w wr := by rw [hwr]; exact below_drewN (Below.refl _ _) _
    clear hwr
    by_cases hlt : j < m
    · obtain ⟨x, hx⟩ : ∃ x, l[j]? = some x := ⟨_, List.getElem?_eq_getElem (by rw [← HEM.out]; exact hlt)⟩
      obtain ⟨b, o, A', c', rfl, _, a0, a1, a2, a3, hKa⟩ := HA.out _ hbw j x hx
      obtain ⟨b2, o2, B', d', rfl, _, b0, b1, b2, b3, hKb⟩ := HB.out _ hbw j x hx
      have hMx := Lib.hid (HM.out x (List.mem_of_getElem? hx))
      clear hx
      obtain ⟨xk, xs, xn, xl⟩ := x
      simp only [E.k, E.s, E.n, E.kids] at a0 a1 a2 a3 b0 b1 b2 b3 hKa hKb hMx
      have HC := Lib.hid (fun n => hMx.out A' B' c' d' (wr.drewN n) (hKa.low (below_drewN (Below.refl _ _) n)) (hKb.low (below_drewN (Below.refl _ _) n)))
      generalize xl.length = xm at *
      clear hKa hKb hMx hbw
      go_upto_region 6 with (fail)
      go_quiet ((go_at_call 14; exact Calls.quiet_of (HC.out _)))
      go_wp2_with fail
      go_roundw
      case rel => exact ⟨j + 1, n + nq, by omega, by go_num, by rw [HWR.out, World.drewN_drewN]⟩
      case measure => simp [intOf]; omega
    · go_wp2_with fail
      go_ret
      exact ⟨rfl, n, HWR.out⟩
theorem same_any (l : List E) : SameExp l := by
  have h : ∀ e : E, SameExp e.kids := E.ind fun k s n l ih => same_step l ih
  exact same_step l fun e _ => h e
end Go.Proofs.YtldleckgkgeclaaDoor
/-
  What is refused reads as the empty expression; trees from the reader are few; a row of one expression.
-/
namespace Go.Proofs.YtldleckgkgeclaaDoor
open Go.RowKit
theorem block_alloc_keep {w : World} {k : Nat} {o o' : Obj} (h : w.heap[k]? = some o) : (w.alloc o').heap[k]? = some o := by
  have hlt : k < w.heap.size := by
    rcases Nat.lt_or_ge k w.heap.size with h' | h'
    · exact h'
    · rw [Array.getElem?_eq_none h'] at h; cases h
  exact (((Below.refl w.heap.size w).alloc (Nat.le_refl _) o').block k hlt).trans h
theorem good_few : ∀ t : T, t.Good → t.Few := T.ind fun k s n l a ih h => by
  obtain ⟨_, _, _, _, _, _, _, _, _, hl, hk⟩ := h
  exact .mk k s n l a (by omega) fun e he => ih e he (hk e he)
theorem read_zero (t : T) (h : (readT t).2.1 ≠ 0) : (readT t).1 = zeroE := by
  obtain ⟨k, s, n, l, a⟩ := t
  by_cases k2 : k = 2
  · subst k2
    rw [read_col] at h ⊢
    by_cases hn : nameB s = true
    · rw [if_pos hn] at h; exact absurd rfl h
    · rw [if_neg hn]
  by_cases k3 : k = 3
  · subst k3
    rw [read_num] at h; exact absurd rfl h
  by_cases k4 : k = 4
  · subst k4
    rw [read_str] at h; exact absurd rfl h
  by_cases k1 : k = 1
  · subst k1
    cases l with
    | nil => rw [read_none]
    | cons x ks =>
      rw [read_app] at h ⊢
      by_cases hx : x.k = 2 ∧ cntL x.s.toList ≠ 0
      · rw [if_pos hx] at h ⊢
        by_cases hc : ks.length = cntL x.s.toList
        · rw [if_pos hc] at h ⊢
          by_cases h0 : (readL ks).2.1 = 0
          · rw [if_pos h0] at h; exact absurd rfl h
          · rw [if_neg h0]
        · rw [if_neg hc]
      · rw [if_neg hx]
  · rw [read_bad k1 k2 k3 k4]
/-- an expression in a row of its own -/
theorem ekids_one {w : World} {g : Nat} {e : E} {A : Option Addr} {c : Nat} {t : TypeId} {B : Nat} (hg : w.heap[g]? = some (.cells #[.int .i64 e.k, .string e.s, .int .i64 e.n, .slice A e.kids.length c] t (0, 0))) (hB : g < B) (hk : EKids w B A e.kids) : EKids w B (some ⟨g, 0, none⟩) [e] := by
  refine .mk g 0 [e] (by simp) hB (fun _ => A) (fun _ => c) (fun i x hx => ?_) (fun i x hx => ?_)
  · match i, hx with
    | 0, hx =>
      obtain rfl : e = x := by simpa using hx
      simp [World.cell?, hg]
  · match i, hx with
    | 0, hx =>
      obtain rfl : e = x := by simpa using hx
      exact hk
end Go.Proofs.YtldleckgkgeclaaDoor
