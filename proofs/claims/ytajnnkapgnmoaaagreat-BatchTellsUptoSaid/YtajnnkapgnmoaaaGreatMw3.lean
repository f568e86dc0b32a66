/-
  slices.insertionSortCmpFunc at items.
-/
import Derived.Test.YtajnnkapgnmoaaaGreatMw1
import Derived.BigQuiet
import Derived.Deep.QuietTactic
import Derived.Test.YtajnnkapgnmoaaaGreatMw2
import Derived.Test.YtajnnkapgnmoaaaGreatMw0
import Derived.Deep.DeepCutAuto
import Derived.Lib.QuietBelow
import Derived.Deep.RegionHeld3
set_option linter.unusedVariables false
set_option linter.unusedSimpArgs false
namespace Go.Proofs.YtajnnkapgnmoaaaGreat
open Go.RowKit Go.Sort
variable {α : Type} [Inhabited α] {f : α → ItemC} {w0 : World} {blk off : Nat} {d0 : Array α} {cf : α → α → Int}

set_option maxHeartbeats 4000000 in
set_option maxRecDepth 1000000 in
theorem insertion_any (R : RowK (fun x => (f x).enc) 2 w0 blk off d0) (hC : CmpB f cf w0 blk off d0.size) (cap a b : Nat) (d : Array α) (hs : d.size = d0.size) (w : World) (S : SWK (fun x => (f x).enc) 2 w0 blk off d w) (hab : a ≤ b) (hb : b ≤ d.size) (hsz : d.size ≤ 1099511627776) :
    Calls Tryz.prog 137 #[.slice (some ⟨blk, off, none⟩) d.size cap, .int .i64 a, .int .i64 b, .func (.func 81) #[] #[]] w fun e w' => e = .returned (.tuple #[]) ∧
      SWK (fun x => (f x).enc) 2 w0 blk off (Sort.insertionSort (ltOf cf) d a b) w' := by
  have S0 : Aside (SWK (fun x => (f x).enc) 2 w0 blk off d w) := S
  have HS : Hid (d.size = d0.size) := hs
  have HC : Aside _ := hC
  clear S hs hC
  have mixed : Tryz.prog.follows .mixedOrders = true := by kernel_rfl
  go_enter Tryz.func137, Tryz.ntmps137
  go_wp2
  go_loopg [8] (b - a) (fun g1 vi wr => ∃ (i : Nat) (dk : Array α), vi = .int .i64 i ∧ a < i ∧ i ≤ b + 1 ∧ b + 1 - i ≤ g1 + 1 ∧ Hid (dk.size = d.size) ∧ Aside (SWK (fun x => (f x).enc) 2 w0 blk off dk wr) ∧ Hid (insOuter (ltOf cf) a b i dk = insOuter (ltOf cf) a b (a + 1) d))
  case atStart => exact ⟨a + 1, d, by go_num, by omega, by omega, by omega, rfl, S0, rfl⟩
  case round =>
    clear S0
    obtain ⟨i, dk, rfl, hai, hib, hg1, hsk, S1, HO⟩ := hrel
    by_cases hlt : i < b
    · have hltz : (i : Int) < (b : Int) := by omega
      go_wp2
      go_loopg [9] i (fun g2 vj wr2 => ∃ (j : Nat) (dj : Array α), vj = .int .i64 j ∧ a ≤ j ∧ j ≤ i ∧ j ≤ g2 ∧ Hid (dj.size = d.size) ∧ Aside (SWK (fun x => (f x).enc) 2 w0 blk off dj wr2) ∧ Hid (insInner (ltOf cf) a j dj = insInner (ltOf cf) a i dk))
      case atStart => exact ⟨i, dk, rfl, by omega, Nat.le_refl _, Nat.le_refl _, hsk, S1, rfl⟩
      case round =>
        clear S1
        obtain ⟨j, dj, rfl, haj, hji, hg2, HSJ, S1, HI⟩ := hrel
        have out : (j ≤ a ∨ ltOf cf dj[j]! dj[j - 1]! = false) → Hid (insOuter (ltOf cf) a b (i + 1) dj = insOuter (ltOf cf) a b (a + 1) d) := fun hs => by
          show _ = _
          rw [← HO.out, insOuter_go _ _ _ _ _ hlt, ← HI.out, insInner_stop _ _ _ _ hs]
        have OUT : Aside _ := out
        clear out
        have HZ : Hid (dj.size = d0.size) := HSJ.out.trans HS.out
        by_cases hja : a < j
        · obtain ⟨jp, rfl⟩ : ∃ jp, j = jp + 1 := ⟨j - 1, by omega⟩
          have hjaz' : (a : Int) < (jp : Int) + 1 := by omega
          have k1 : jp < dj.size := by have := HSJ.out; omega
          have k2 : jp + 1 < dj.size := by have := HSJ.out; omega
          have ba44 : (jp : Int) < (d.size : Int) := by omega
          have bc44 : (jp : Int) + 1 < (d.size : Int) := by omega
          have pc44 : (0 : Int) ≤ (jp : Int) + 1 := by omega
          have ec44 : ((jp : Int) + 1).toNat = jp + 1 := by omega
          have rc44 : IntKind.i64.wrap ((jp : Int) + 1) = (jp : Int) + 1 := by rw [IntKind.wrap_i64]; omega
          have ra44 : IntKind.i64.wrap (jp : Int) = (jp : Int) := by rw [IntKind.wrap_i64]; omega
          obtain ⟨t, u, r, HLT, hcell, hcall⟩ := cmp_step S1.out R HC.out HZ.out (jp + 1) jp k2 k1
          have z1 := fun n os => (hcell n os).1
          have z2 := fun n os => (hcell n os).2.1
          have z3 := fun n os => (hcell n os).2.2.1
          have z4 := fun n os => (hcell n os).2.2.2
          have HCL := Lib.hid hcall
          have K1 := Lib.hid k1
          have K2 := Lib.hid k2
          clear hcell hcall k1 k2
          obtain ⟨A1, n1, c1, x1, y1⟩ := t
          obtain ⟨A2, n2, c2, x2, y2⟩ := u
          dsimp only at z1 z2 z3 z4 HCL
          by_cases hl : r < 0
          · rw [decide_eq_true hl] at HLT
            go_wp2_with fail
            refine wp_region_quiet_below (by assumption) (by kernel_rfl) ?_
            repeat (quiet_step (first | (go_at_call 81; refine (HCL.out _ _))))
            refine wpQuiet_nil ?_
            intro _ hw'
            obtain ⟨⟨nq, osq⟩, hw''⟩ := hw'
            subst hw''
            have S2 : Aside (SWK (fun x => (f x).enc) 2 w0 blk off dj (grow (redrawn wr nq) osq)) := swk_regrown HC.out.z S1.out nq osq
            clear S1 z1 z2 z3 z4 HCL
            generalize grow (redrawn wr nq) osq = wy at S2 ⊢
            have S3 : Aside (SWK (fun x => (f x).enc) 2 w0 blk off (swp dj (jp + 1) jp) ((wy.drew.setCells blk (off + (jp + 1) * 2) ((f dj[jp]!).enc)).setCells blk (off + jp * 2) ((f dj[jp + 1]!).enc))) := S2.out.swapped R (jp + 1) jp K2.out K1.out
            obtain ⟨⟨ci1, fi1⟩, ⟨ci2, fi2⟩⟩ := swk_cells S2.out R HZ.out K1.out rfl
            obtain ⟨⟨cj1, fj1⟩, ⟨cj2, fj2⟩⟩ := swk_cells S2.out R HZ.out K2.out rfl
            have HI2 : Hid (insInner (ltOf cf) a jp (swp dj (jp + 1) jp) = insInner (ltOf cf) a i dk) := Lib.hid (by
              have := insInner_go (ltOf cf) a (jp + 1) dj hja (by simp only [Nat.add_sub_cancel]; exact HLT.out)
              simp only [Nat.add_sub_cancel] at this
              rw [← HI.out, this])
            have HS3 : Hid ((swp dj (jp + 1) jp).size = d.size) := Lib.hid ((size_swp _ _ _).trans HSJ.out)
            generalize f dj[jp]! = I at S3 ci1 fi1 ci2 fi2
            generalize f dj[jp + 1]! = J at S3 cj1 fj1 cj2 fj2
            obtain ⟨A3, n3, c3, x3, y3⟩ := I
            obtain ⟨A4, n4, c4, x4, y4⟩ := J
            dsimp only [ItemC.enc] at ci1 fi1 ci2 fi2 cj1 fj1 cj2 fj2 S3
            clear S2 HI K1 K2 HSJ HZ
            have hsc := run_store_complex Tryz.prog
            go_wp2_with fail
            go_big_region
            go_wp2
            go_roundg jp
            case measure => omega
            case rel => exact ⟨jp, swp dj (jp + 1) jp, by first | rfl | go_num | (congr 1; omega), by omega, by omega, Nat.le_refl _, HS3, S3, HI2⟩
          · rw [decide_eq_false hl] at HLT
            have dl : decide (r < 0) = false := decide_eq_false hl
            go_wp2_with fail
            refine wp_region_quiet_below (by assumption) (by kernel_rfl) ?_
            repeat (quiet_step (first | (go_at_call 81; refine (HCL.out _ _))))
            refine wpQuiet_nil ?_
            intro _ hw'
            obtain ⟨⟨nq, osq⟩, hw''⟩ := hw'
            subst hw''
            have S2 : Aside (SWK (fun x => (f x).enc) 2 w0 blk off dj (grow (redrawn wr nq) osq)) := swk_regrown HC.out.z S1.out nq osq
            clear S1 z1 z2 z3 z4 HCL
            generalize grow (redrawn wr nq) osq = wy at S2 ⊢
            go_wp2
            go_roundg (b - (i + 1))
            case measure => omega
            case rel => exact ⟨i + 1, dj, by go_num, by omega, by omega, by omega, HSJ, S2, OUT.out (Or.inr (by simp only [Nat.add_sub_cancel]; exact HLT.out))⟩
        · have hjaz : decide ((j : Int) > (a : Int)) = false := decide_eq_false (by omega)
          have hjaz' : ¬ (a : Int) < (j : Int) := by omega
          have S2 : Aside (SWK (fun x => (f x).enc) 2 w0 blk off dj wr.drew) := S1.out.drew
          clear S1
          go_wp2_with fail
          go_big_region
          go_wp2
          go_roundg (b - (i + 1))
          case measure => omega
          case rel => exact ⟨i + 1, dj, by go_num, by omega, by omega, by omega, HSJ, S2, OUT.out (Or.inl (by omega))⟩
    · have hltz : ¬ (i : Int) < (b : Int) := by omega
      go_wp2
      go_end0
      refine ⟨rfl, ?_⟩
      unfold Sort.insertionSort
      rw [← HO.out, insOuter_stop _ _ _ _ _ hlt]
      exact S1.out
end Go.Proofs.YtajnnkapgnmoaaaGreat
/-
  slices.stableCmpFunc, slices.SortStableFunc at items: the row holds a permutation of what it held, sorted.
-/
namespace Go.Proofs.YtajnnkapgnmoaaaGreat
open Go.RowKit Go.Sort
variable {α : Type} [Inhabited α] {f : α → ItemC} {w0 : World} {blk off : Nat} {d0 : Array α} {cf : α → α → Int}

set_option maxHeartbeats 4000000 in
set_option maxRecDepth 1000000 in
theorem stable_any (R : RowK (fun x => (f x).enc) 2 w0 blk off d0) (hC : CmpB f cf w0 blk off d0.size) (hlt : SWO (ltOf cf)) (cap n : Nat) (d : Array α) (hn : d.size = n) (hs : d.size = d0.size) (w : World) (S : SWK (fun x => (f x).enc) 2 w0 blk off d w) (hsz : n ≤ 1099511627776) :
    Calls Tryz.prog 118 #[.slice (some ⟨blk, off, none⟩) n cap, .int .i64 n, .func (.func 81) #[] #[]] w fun e w' => e = .returned (.tuple #[]) ∧
      ∃ d', PermIn 0 n d d' ∧ SortedIn (ltOf cf) 0 n d' ∧ SWK (fun x => (f x).enc) 2 w0 blk off d' w' := by
  have S0 : Aside (SWK (fun x => (f x).enc) 2 w0 blk off d w) := S
  have HS : Hid (d.size = d0.size) := hs
  have HN : Hid (d.size = n) := hn
  have HC : Aside _ := hC
  clear S hs hC hn
  go_enter Tryz.func118, Tryz.ntmps118
  go_wp2
  go_loopg [7, 8] n (fun kx s7 s8 wr => ∃ (t A B : Nat) (dk : Array α), s7 = .int .i64 A ∧ s8 = .int .i64 B ∧ Hid (A = t * 20 ∧ B = A + 20) ∧ B ≤ n + 20 ∧ n ≤ kx + A ∧ Aside (SWK (fun x => (f x).enc) 2 w0 blk off dk wr) ∧ Hid (PermIn 0 n d dk) ∧ Hid (First (ltOf cf) 20 t dk))
  case atStart => exact ⟨0, 0, 20, d, rfl, rfl, Lib.hid ⟨by omega, by omega⟩, by omega, by omega, S0, Lib.hid (permIn_refl _ _ _), Lib.hid (fun q hq => by omega)⟩
  case round =>
    clear S0
    obtain ⟨t, A, B, dk, rfl, rfl, HAB, hB, hkx, S1, HP, HF⟩ := hrel
    have HZ : Hid (dk.size = n) := Lib.hid (HP.out.1.trans HN.out)
    have HZ0 : Hid (dk.size = d0.size) := Lib.hid (HP.out.1.trans HS.out)
    have hA : A ≤ n := by have := HAB.out.2; omega
    by_cases hbn : B ≤ n
    · have hbz : (B : Int) ≤ (n : Int) := by omega
      have hc := Lib.hid (insertion_any R HC.out cap A B dk HZ0.out wr S1.out (by have := HAB.out.2; omega) (by have := HZ.out; omega) (by have := HZ.out; omega))
      rw [HZ.out] at hc
      have hh := insertionSort_holds hlt dk A B (by have := HAB.out.2; omega) (by have := HZ.out; omega)
      have HH := Lib.hid hh
      clear S1 hh
      have HB : Hid ((B : Int) + 20 = ((B + 20 : Nat) : Int)) := Lib.hid (by omega)
      go_wp2_with (go_at_call 137; refine hc.out.mono ?_; rintro e w2 ⟨rfl, hS⟩)
      generalize Sort.insertionSort (ltOf cf) dk A B = d2 at hS HH
      have S2 : Aside (SWK (fun x => (f x).enc) 2 w0 blk off d2 w2) := hS
      clear hS hc
      have HP2 : Hid (PermIn 0 n d d2) := Lib.hid (permIn_trans d dk d2 0 n HP.out (permIn_mono dk d2 A B 0 n (Nat.zero_le _) hbn (by have := HZ.out; omega) HH.out.1))
      have HF2 : Hid (First (ltOf cf) 20 (t + 1) d2) := Lib.hid (by
        have h1 := HH.out
        obtain ⟨h2, h3⟩ := HAB.out
        subst h3 h2
        exact HF.out.step h1.1 h1.2)
      have HA2 : Hid (B = (t + 1) * 20) := Lib.hid (by have := HAB.out; omega)
      clear HP HF HH HZ HZ0
      go_wp2
      go_roundg (n - B)
      case measure => have := HAB.out.2; omega
      case rel => exact ⟨t + 1, B, B + 20, d2, rfl, by go_num, Lib.hid ⟨HA2.out, rfl⟩, by omega, by omega, S2, HP2, HF2⟩
    · have hbz : ¬ (B : Int) ≤ (n : Int) := by omega
      have hc := Lib.hid (insertion_any R HC.out cap A n dk HZ0.out wr S1.out hA (by have := HZ.out; omega) (by have := HZ.out; omega))
      rw [HZ.out] at hc
      have hh := insertionSort_holds hlt dk A n hA (by have := HZ.out; omega)
      have HH := Lib.hid hh
      clear S1 hh
      go_wp2_with (go_at_call 137; refine hc.out.mono ?_; rintro e w2 ⟨rfl, hS⟩)
      generalize Sort.insertionSort (ltOf cf) dk A n = d2 at hS HH
      have S2 : Aside (SWK (fun x => (f x).enc) 2 w0 blk off d2 w2) := hS
      clear hS hc
      have HP2 : Hid (PermIn 0 n d d2) := Lib.hid (permIn_trans d dk d2 0 n HP.out (permIn_mono dk d2 A n 0 n (Nat.zero_le _) (Nat.le_refl _) (by have := HZ.out; omega) HH.out.1))
      have HR2 : Hid (Runs (ltOf cf) 20 n d2) := Lib.hid (by
        have h1 := HH.out
        obtain ⟨h2, h3⟩ := HAB.out
        subst h3 h2
        exact HF.out.last (by omega) h1.1 h1.2)
      clear HP HF HH HZ HZ0 HAB hA hbn hbz hB hkx
      go_wp2
      go_loopg [6] n (fun kx s6 wr => ∃ (s : Nat) (dk : Array α), s6 = .int .i64 s ∧ 0 < s ∧ s ≤ 2 * n + 20 ∧ n ≤ kx + s ∧ Aside (SWK (fun x => (f x).enc) 2 w0 blk off dk wr) ∧ Hid (PermIn 0 n d dk) ∧ Hid (Runs (ltOf cf) s n dk))
      case atStart => exact ⟨20, d2, rfl, by omega, by omega, by omega, S2, HP2, HR2⟩
      case round =>
        clear S2 HP2 HR2
        obtain ⟨s, dk, rfl, hs0, hs1, hkx, S1, HP, HR⟩ := hrel
        by_cases hsn : s < n
        · have hsz2 : (s : Int) < (n : Int) := by omega
          obtain ⟨s2, es2, hs2, hs3⟩ : ∃ s2 : Nat, 2 * (s : Int) = (s2 : Int) ∧ Hid (s2 = 2 * s) ∧ s2 ≤ 4398046511104 := ⟨2 * s, by omega, Lib.hid rfl, by omega⟩
          have es3 : (s : Int) * 2 = (s2 : Int) := by omega
          go_wp2
          go_loopg [7, 8] n (fun kx s7 s8 wr => ∃ (t A B : Nat) (dj : Array α), s7 = .int .i64 A ∧ s8 = .int .i64 B ∧ Hid (A = t * (2 * s) ∧ B = A + 2 * s) ∧ B ≤ n + s2 ∧ n ≤ kx + A ∧ Aside (SWK (fun x => (f x).enc) 2 w0 blk off dj wr) ∧ Hid (PermIn 0 n d dj) ∧ Hid (Half (ltOf cf) s n t dj))
          case atStart => exact ⟨0, 0, s2, dk, rfl, rfl, Lib.hid ⟨by rw [Nat.zero_mul], by have := hs2.out; omega⟩, by omega, by omega, S1, HP, Lib.hid (Half.zero HR.out)⟩
          case round =>
            clear S1 HP HR
            obtain ⟨t, A, B, dj, rfl, rfl, HAB, hB, hkx2, S1, HP, HH⟩ := hrel
            have HZ : Hid (dj.size = n) := Lib.hid (HP.out.1.trans HN.out)
            have HZ0 : Hid (dj.size = d0.size) := Lib.hid (HP.out.1.trans HS.out)
            have hA : A ≤ n := by have := HAB.out.2; have := hs2.out; omega
            obtain ⟨m, em, hm⟩ : ∃ m : Nat, (A : Int) + (s : Int) = (m : Int) ∧ Hid (m = A + s) := ⟨A + s, by omega, Lib.hid rfl⟩
            have hmz : m ≤ 8796093022208 := by have := hm.out; omega
            by_cases hbn : B ≤ n
            · have hbz : (B : Int) ≤ (n : Int) := by omega
              obtain ⟨B2, eB2, hB2⟩ : ∃ B2 : Nat, (B : Int) + (s2 : Int) = (B2 : Int) ∧ Hid (B2 = B + s2) := ⟨B + s2, by omega, Lib.hid rfl⟩
              have hB3 : B2 ≤ 8796093022208 := by have := hB2.out; omega
              have hc := Lib.hid (symMerge_any R HC.out hlt cap n A m B dj HZ0.out wr S1.out (by have := hm.out; omega) (by have := hm.out; have := HAB.out.2; omega) (by have := HZ.out; omega) (by have := HZ.out; omega) (by omega))
              rw [HZ.out] at hc
              clear S1
              go_wp2_with (go_at_call 138; refine hc.out.mono ?_; rintro e w3 ⟨rfl, d3, hy, hS⟩)
              have S2 : Aside (SWK (fun x => (f x).enc) 2 w0 blk off d3 w3) := hS
              have HP2 : Hid (PermIn 0 n d d3) := Lib.hid (permIn_trans d dj d3 0 n HP.out (permIn_mono dj d3 A B 0 n (Nat.zero_le _) hbn (by have := HZ.out; omega) hy.1))
              have HH2 : Hid (Half (ltOf cf) s n (t + 1) d3) := Lib.hid (by
                obtain ⟨h2, h3⟩ := HAB.out
                have h4 := hm.out
                subst h4 h3 h2
                exact HH.out.step hs0 hbn (by have := HZ.out; omega) hy)
              have HAB2 : Hid (B = (t + 1) * (2 * s) ∧ B2 = B + 2 * s) := Lib.hid ⟨by rw [Nat.add_mul, Nat.one_mul]; have := HAB.out; omega, by have := hB2.out; have := hs2.out; omega⟩
              clear hS hc HP HH HZ HZ0 hy
              go_wp2
              go_roundg (n - B)
              case measure => have := HAB.out.2; omega
              case rel => exact ⟨t + 1, B, B2, d3, rfl, rfl, HAB2, by have := hB2.out; omega, by omega, S2, HP2, HH2⟩
            · have hbz : ¬ (B : Int) ≤ (n : Int) := by omega
              by_cases hmn : m < n
              · have hmnz : (m : Int) < (n : Int) := by omega
                have hc := Lib.hid (symMerge_any R HC.out hlt cap n A m n dj HZ0.out wr S1.out (by have := hm.out; omega) hmn (by have := HZ.out; omega) (by have := HZ.out; omega) (by omega))
                rw [HZ.out] at hc
                clear S1
                go_wp2_with (go_at_call 138; refine hc.out.mono ?_; rintro e w3 ⟨rfl, d3, hy, hS⟩)
                have S2 : Aside (SWK (fun x => (f x).enc) 2 w0 blk off d3 w3) := hS
                have HP2 : Hid (PermIn 0 n d d3) := Lib.hid (permIn_trans d dj d3 0 n HP.out (permIn_mono dj d3 A n 0 n (Nat.zero_le _) (Nat.le_refl _) (by have := HZ.out; omega) hy.1))
                have HR2 : Hid (Runs (ltOf cf) s2 n d3) := Lib.hid (by
                  obtain ⟨h2, h3⟩ := HAB.out
                  have h4 := hm.out
                  have h5 := hs2.out
                  subst h5 h4 h3 h2
                  exact HH.out.last hs0 (by omega) (by have := HZ.out; omega) (.inl ⟨hmn, hy⟩))
                clear hS hc HP HH HZ HZ0 hy
                go_wp2
                go_roundg (n - s2)
                case measure => have := hs2.out; omega
                case rel => exact ⟨s2, d3, rfl, by have := hs2.out; omega, by have := hs2.out; omega, by omega, S2, HP2, HR2⟩
              · have hmnz : ¬ (m : Int) < (n : Int) := by omega
                have HR2 : Hid (Runs (ltOf cf) s2 n dj) := Lib.hid (by
                  obtain ⟨h2, h3⟩ := HAB.out
                  have h4 := hm.out
                  have h5 := hs2.out
                  subst h5 h4 h3 h2
                  exact HH.out.last hs0 (by omega) (by have := HZ.out; omega) (.inr ⟨by omega, rfl⟩))
                clear HH HZ HZ0
                go_wp2
                go_roundg (n - s2)
                case measure => have := hs2.out; omega
                case rel => exact ⟨s2, dj, rfl, by have := hs2.out; omega, by have := hs2.out; omega, by omega, S1, HP, HR2⟩
        · have hsz2 : ¬ (s : Int) < (n : Int) := by omega
          go_wp2
          go_end0
          exact ⟨rfl, dk, HP.out, HR.out.whole (by omega), S1.out⟩

theorem sortStable_any (R : RowK (fun x => (f x).enc) 2 w0 blk off d0) (hC : CmpB f cf w0 blk off d0.size) (hlt : SWO (ltOf cf)) (cap n : Nat) (hn : d0.size = n) (hsz : n ≤ 1099511627776) (w : World) (S : SWK (fun x => (f x).enc) 2 w0 blk off d0 w) :
    Calls Tryz.prog 80 #[.slice (some ⟨blk, off, none⟩) n cap, .func (.func 81) #[] #[]] w fun e w' => e = .returned (.tuple #[]) ∧
      ∃ d', PermIn 0 n d0 d' ∧ SortedIn (ltOf cf) 0 n d' ∧ SWK (fun x => (f x).enc) 2 w0 blk off d' w' := by
  have hc := Lib.hid (stable_any R hC hlt cap n d0 hn rfl w S hsz)
  clear R hC hlt hn S
  go_enter Tryz.func80, Tryz.ntmps80
  go_wp2_with (go_at_call 118; refine hc.out.mono ?_; rintro e w2 ⟨rfl, h⟩)
  go_end0
  exact ⟨rfl, h⟩
end Go.Proofs.YtajnnkapgnmoaaaGreat
/-
  zset.Make's comparison, and the items that it sorts.
-/
namespace Go.Proofs.YtajnnkapgnmoaaaGreat
open Go.RowKit Go.Sort

set_option maxHeartbeats 1000000 in
set_option maxRecDepth 100000 in
theorem make_closure (x y : IM) (w : World) (hx : VRow w w.heap.size x.A x.r) (hy : VRow w w.heap.size y.A y.r) (lx : x.r.length ≤ 1099511627776) (ly : y.r.length ≤ 1099511627776) :
    Calls Tryz.prog 81 #[x.val, y.val] w fun e w' => e = .returned (.int .i64 (cmpR x.r y.r)) ∧ Below w.heap.size w w' := by
  obtain ⟨A1, c1, r1, k1⟩ := x
  obtain ⟨A2, c2, r2, k2⟩ := y
  have hc := Lib.hid (fun w1 (hb : Below w.heap.size w w1) => compare_any A1 A2 c1 c2 r1 r2 (by simp only at lx; omega) (by simp only at ly; omega) w1 ((hx.below hb).more hb.size) ((hy.below hb).more hb.size))
  simp only [IM.val, tal]
  generalize Fl.F (pos k1) = p1
  generalize Fl.F (pos (-k1)) = q1
  generalize Fl.F (pos k2) = p2
  generalize Fl.F (pos (-k2)) = q2
  generalize cmpR r1 r2 = z at hc
  generalize r1.length = n1 at hc
  generalize r2.length = n2 at hc
  clear hx hy lx ly
  go_enter Tryz.func81, Tryz.ntmps81
  go_wp2_with fail
  refine (hc.out _ (((Below.refl w.heap.size w).alloc (Nat.le_refl _) _).alloc (by simp) _)).mono ?_
  rintro e w1 ⟨rfl, hb⟩
  have HB := Lib.hid ((((Below.refl w.heap.size w).alloc (Nat.le_refl _) _).alloc (by simp) _).trans (hb.mono (by simp; omega)))
  clear hb
  go_wp2
  go_ret
  exact ⟨rfl, HB.out⟩

/-- the items that a sort holds: their rows lie below B, and are right -/
structure SItem (w : World) (B : Nat) where
  val : IM
  ok : VRow w B val.A val.r ∧ rowOk val.r = true
def SItem.c {w : World} {B : Nat} (x : SItem w B) : ItemC := ⟨x.1.A, x.1.r.length, x.1.c, Fl.F (pos x.1.k), Fl.F (pos (-x.1.k))⟩
def SItem.cf {w : World} {B : Nat} (x y : SItem w B) : Int := cmpR x.1.r y.1.r
theorem sitem_swo (w : World) (B : Nat) : SWO (ltOf (SItem.cf (w := w) (B := B))) where
  irrefl x := decide_eq_false (by show ¬ cmpR x.1.r x.1.r < 0; rw [cmp_self x.2.2]; omega)
  trans x y z h1 h2 := decide_eq_true (cmp_trans x.2.2 y.2.2 z.2.2 (of_decide_eq_true h1) (of_decide_eq_true h2))
  ntrans x y z h1 h2 := decide_eq_false (by
    have a1 := of_decide_eq_false h1
    have a2 := of_decide_eq_false h2
    have f1 := cmp_flip x.2.2 y.2.2
    have f2 := cmp_flip y.2.2 z.2.2
    have f3 := cmp_flip x.2.2 z.2.2
    show ¬ cmpR x.1.r z.1.r < 0
    simp only [SItem.cf] at a1 a2
    intro h
    rcases Int.lt_or_le (cmpR z.1.r y.1.r) 0 with h3 | h3
    · have := cmp_trans z.2.2 y.2.2 x.2.2 h3
      rcases Int.lt_or_le (cmpR y.1.r x.1.r) 0 with h4 | h4
      · have := this h4; omega
      · have e := cmp_eq x.2.2 y.2.2 (by omega)
        rw [e] at h
        omega
    · have e := cmp_eq y.2.2 z.2.2 (by omega)
      rw [← e] at h
      omega)
theorem rowOk_len {r : List V} (h : rowOk r = true) : 0 < r.length ∧ r.length ≤ 6 := by
  unfold rowOk at h
  simp only [Bool.and_eq_true, decide_eq_true_eq] at h
  exact h.1
theorem redrawn_cell (w : World) (n : Nat) (a : Addr) : (redrawn w n).cell? a = w.cell? a := rfl
/-- a cell of another block than the sorted one -/
theorem swk_other {α : Type} [Inhabited α] {enc : α → List Value} {k : Nat} {w0 : World} {blk off : Nat} {d : Array α} {W : World} (S : SWK enc k w0 blk off d W) {a : Addr} (ha : a.block ≠ blk) (hlt : a.block < w0.heap.size) : W.cell? a = w0.cell? a := by
  obtain ⟨n, os, rfl⟩ := S
  unfold sortWorldK
  rw [cell?_grow _ _ _ (by rw [size_putRowK]; exact hlt), cell?_putRowK_other _ _ _ _ _ _ _ ha]
  rfl
theorem VAt.cells {w w' : World} {b off : Nat} {r : List V} (h : VAt w b off r) (hk : ∀ o, w'.cell? ⟨b, o, none⟩ = w.cell? ⟨b, o, none⟩) : VAt w' b off r := fun i v hv => by
  obtain ⟨h1, h2, h3⟩ := h i v hv
  exact ⟨(hk _).trans h1, (hk _).trans h2, (hk _).trans h3⟩
theorem swk_row {α : Type} [Inhabited α] {enc : α → List Value} {k : Nat} {w0 w : World} {blk off B : Nat} {d : Array α} {W : World} (S : SWK enc k w0 blk off d W) {A : Option Addr} {r : List V} (h : VRow w B A r) (hw : ∀ a : Addr, a.block < B → w0.cell? a = w.cell? a) (hB : B ≤ blk) (hlt : blk < w0.heap.size) : VRow W B A r := by
  rcases h with h | ⟨b, o, hA, hb, h⟩
  · exact .inl h
  · exact .inr ⟨b, o, hA, hb, h.cells fun q => (swk_other S (a := ⟨b, q, none⟩) (by show b ≠ blk; omega) (by show b < _; omega)).trans (hw _ hb)⟩
/-- what is asked of the comparison is so -/
theorem make_cmp (w w0 : World) (B blk off size : Nat) (hz : w0.drawn = 0) (hw : ∀ a : Addr, a.block < B → w0.cell? a = w.cell? a) (hB : B ≤ blk) (hlt : blk < w0.heap.size) [Inhabited (SItem w B)] :
    CmpB (α := SItem w B) SItem.c SItem.cf w0 blk off size where
  z := hz
  run dk W hs S x y := by
    have hsz := S.le
    have hx := (swk_row S x.2.1 hw hB hlt).more (B' := W.heap.size) (by omega)
    have hy := (swk_row S y.2.1 hw hB hlt).more (B' := W.heap.size) (by omega)
    have lx := (rowOk_len x.2.2).2
    have ly := (rowOk_len y.2.2).2
    exact make_closure x.1 y.1 W hx hy (by omega) (by omega)

set_option maxHeartbeats 1000000 in
theorem insertion_none (A : Option Addr) (c : Nat) (f : Value) (w : World) :
    Calls Tryz.prog 137 #[.slice A 0 c, .int .i64 0, .int .i64 0, f] w fun e w' => e = .returned (.tuple #[]) ∧ w = w' := by
  go_enter Tryz.func137, Tryz.ntmps137
  go_wp2
  refine wp_loop_rounds 1 ?_
  rw [rounds_succ]
  go_wp2
  go_end0
  exact ⟨rfl, rfl⟩
set_option maxHeartbeats 1000000 in
theorem sortStable_none (A : Option Addr) (c : Nat) (f : Value) (w : World) :
    Calls Tryz.prog 80 #[.slice A 0 c, f] w fun e w' => e = .returned (.tuple #[]) ∧ w = w' := by
  have h1 : ∀ w1, Calls Tryz.prog 118 #[.slice A 0 c, .int .i64 0, f] w1 fun e w' => e = .returned (.tuple #[]) ∧ w1 = w' := by
    intro w1
    go_enter Tryz.func118, Tryz.ntmps118
    go_wp2
    refine wp_loop_rounds 1 ?_
    rw [rounds_succ]
    go_wp2_with (go_at_call 137; refine (insertion_none A c f _).mono ?_; rintro e w' ⟨rfl, rfl⟩)
    refine wp_loop_rounds 1 ?_
    rw [rounds_succ]
    go_wp2
    go_end0
    exact ⟨rfl, rfl⟩
  go_enter Tryz.func80, Tryz.ntmps80
  go_wp2_with (go_at_call 118; refine (h1 _).mono ?_; rintro e w' ⟨rfl, rfl⟩)
  go_end0
  exact ⟨rfl, rfl⟩

/-- a row of the call's own, sorted -/
theorem sort_items (w w1 : World) (B g n c : Nat) (l : List IM) (hn : l.length = n) (h0 : 0 < n) (hsz : n ≤ 1099511627776) (ho : w1.ownsRow B 47 2 (.slice (some ⟨g, 0, none⟩) n c) n (flatM l)) (hr : ∀ x ∈ l, VRow w B x.A x.r ∧ rowOk x.r = true) (hb : Below B w w1) :
    Calls Tryz.prog 80 #[.slice (some ⟨g, 0, none⟩) n c, .func (.func 81) #[] #[]] w1 fun e w' => e = .returned (.tuple #[]) ∧
      ∃ l', l'.Perm l ∧ (l'.Pairwise fun x y => cmpR x.r y.r ≤ 0) ∧ IAt w' g 0 l' ∧ Below B w w' ∧ B ≤ g ∧ g < w'.heap.size := by
  obtain ⟨g', cap', hv, hg, hlt⟩ := ho.form h0
  obtain ⟨rfl, rfl⟩ : g = g' ∧ c = cap' := by
    simp only [Value.slice.injEq, Option.some.injEq, Addr.mk.injEq, and_true, true_and] at hv
    exact hv
  have hl0 : ∃ x, l[0]? = some x := ⟨_, List.getElem?_eq_getElem (by omega)⟩
  obtain ⟨x0, hx0⟩ := hl0
  have hm0 : x0 ∈ l := List.mem_of_getElem? hx0
  haveI : Inhabited (SItem w B) := ⟨⟨x0, hr x0 hm0⟩⟩
  obtain ⟨d, hd⟩ : ∃ d : Array (SItem w B), d.toList.map SItem.val = l := by
    refine ⟨(l.attach.map fun x => (⟨x.1, hr x.1 x.2⟩ : SItem w B)).toArray, ?_⟩
    rw [List.toList_toArray, List.map_map]
    exact List.attach_map_subtype_val l
  have hds : d.size = n := by rw [← hn, ← hd]; simp
  have hdi : ∀ i, i < n → l[i]? = some (d[i]!).1 := fun i hi => by
    rw [← hd, List.getElem?_map, getElem!_pos d i (by omega)]
    simp [Array.getElem?_toList, Array.getElem?_eq_getElem (show i < d.size by omega)]
  have hH : HoldsK (fun x : SItem w B => x.c.enc) 2 (redrawn w1 0) g 0 d := by
    intro j hj
    rw [size_flatK] at hj
    have hj2 : j < n * 2 := by rw [← hds]; exact hj
    rw [get_flatK _ _ _ _ hj]
    obtain ⟨f1, f2⟩ := flatM_get l (j / 2) _ (hdi (j / 2) (by omega))
    have hc := ho.cellAt j hj2
    have hf : w1.frozen? ⟨g, j, none⟩ = false := by
      have := ho.frozenAt j
      simpa using this
    refine ⟨?_, by rw [Nat.zero_add]; exact hf⟩
    rw [Nat.zero_add, redrawn_cell, hc]
    have : j % 2 = 0 ∨ j % 2 = 1 := by omega
    rcases this with h3 | h3
    · rw [h3, show j = j / 2 * 2 by omega, f1]
      rw [show j / 2 * 2 / 2 = j / 2 by omega]
      rfl
    · rw [h3, show j = j / 2 * 2 + 1 by omega, f2]
      rw [show (j / 2 * 2 + 1) / 2 = j / 2 by omega]
      rfl
  have R : RowK (fun x : SItem w B => x.c.enc) 2 (redrawn w1 0) g 0 d := ⟨fun x => rfl, fun x v hv => by
    simp only [ItemC.enc, List.mem_cons, List.not_mem_nil, or_false] at hv
    rcases hv with rfl | rfl <;> rfl, hH, hlt⟩
  have S : SWK (fun x : SItem w B => x.c.enc) 2 (redrawn w1 0) g 0 d w1 := (SWK.start hH).drewN w1.drawn |> fun h => by
    have e : (redrawn w1 0).drewN w1.drawn = w1 := by unfold redrawn World.drewN; simp
    rwa [e] at h
  have hC := make_cmp w (redrawn w1 0) B g 0 d.size rfl (fun a ha => hb.cell ha) hg hlt
  refine (sortStable_any R hC (sitem_swo w B) c n hds hsz w1 S).mono ?_
  rintro e w' ⟨rfl, d', hp, hs, S'⟩
  have hds' : d'.size = n := hp.1.trans hds
  have hdi' : ∀ i, i < n → (d'.toList.map SItem.val)[i]? = some (d'[i]!).1 := fun i hi => by
    rw [List.getElem?_map, getElem!_pos d' i (by omega)]
    simp [Array.getElem?_toList, Array.getElem?_eq_getElem (show i < d'.size by omega)]
  refine ⟨rfl, d'.toList.map SItem.val, ?_, ?_, ?_, ?_, hg, ?_⟩
  · rw [← hd]
    have := hp.2.2
    rw [show d'.extract 0 n = d' by rw [← hds']; simp, show d.extract 0 n = d by rw [← hds]; simp] at this
    exact this.map _
  · rw [List.pairwise_iff_getElem]
    intro i j hi hj hij
    simp only [List.length_map, Array.length_toList] at hi hj
    have := of_decide_eq_false (hs i j (Nat.zero_le _) hij (by omega))
    rw [getElem!_pos d' i hi, getElem!_pos d' j hj] at this
    simp only [List.getElem_map, Array.getElem_toList]
    have f1 := cmp_flip (d'[i]).2.2 (d'[j]).2.2
    simp only [SItem.cf] at this
    omega
  · intro i x hx
    have hi : i < n := by have := (List.getElem?_eq_some_iff.1 hx).1; simp at this; omega
    rw [hdi' i hi] at hx
    obtain rfl := Option.some.inj hx
    have := swk_cells (f := SItem.c) S' R (hp.1) (show i < d'.size by omega) rfl
    exact ⟨this.1.1, this.2.1⟩
  · refine hb.trans ⟨?_, ?_, ?_, ?_, ?_⟩
    all_goals obtain ⟨m, os, rfl⟩ := S'
    · rfl
    · rfl
    · rfl
    · unfold sortWorldK; rw [size_grow, size_putRowK]; exact Nat.le_add_right _ _
    · intro k hk
      unfold sortWorldK
      rw [heap_grow_old _ _ (by rw [size_putRowK]; show k < w1.heap.size; omega)]
      show (w1.heap.modify g _)[k]? = _
      rw [Array.getElem?_modify, if_neg (by omega)]
  · have := S'.le
    show g < w'.heap.size
    have h2 : w1.heap.size ≤ w'.heap.size := this
    omega
end Go.Proofs.YtajnnkapgnmoaaaGreat
/-
  Tallies of one part (a net): what package tally's functions give.
-/
namespace Go.Proofs.YtajnnkapgnmoaaaGreat
open Go.RowKit

def okN (k : Int) : Prop := -1125899906842624 ≤ k ∧ k ≤ 1125899906842624
theorem okN.reads {k : Int} (h : okN k) : Fl.Reads (Fl.F (pos k)) (pos k) ∧ Fl.Reads (Fl.F (pos (-k))) (pos (-k)) := by
  unfold okN at h
  exact ⟨reads_pos k (by omega) (by omega), reads_pos (-k) (by omega) (by omega)⟩
theorem okN.okT {k : Int} (h : okN k) : okT (pos k) (pos (-k)) = true := by
  unfold okN at h
  unfold Go.Proofs.YtajnnkapgnmoaaaGreat.okT okPart
  have h1 := pos_bd k
  have h2 := pos_bd (-k)
  rw [decide_eq_true (by omega), decide_eq_true (by omega)]
  rfl
theorem okN.net {k : Int} (h : okN k) : netT (pos k) (pos (-k)) = k := by
  unfold netT
  rw [h.okT]
  have h1 := pos_bd k
  have h2 := pos_bd (-k)
  simp only [sel, if_true]
  omega
theorem tal_right {k : Int} (h : okN k) (w : World) : Calls Tryz.prog 78 #[tal k] w fun e w' => e = .returned (.bool true) ∧ w = w' := by
  have := right_any h.reads.1 h.reads.2 w
  rw [show (okPart (pos k) && okPart (pos (-k))) = true from h.okT] at this
  exact this
theorem tal_net {k : Int} (h : okN k) (w : World) : Calls Tryz.prog 47 #[tal k] w fun e w' => e = .returned (.int .i64 k) ∧ w = w' := by
  have := net_any h.reads.1 h.reads.2 w
  rw [h.net] at this
  exact this
theorem tal_reduce {k : Int} (h : okN k) (w : World) : Calls Tryz.prog 85 #[tal k] w fun e w' => e = .returned (tal k) ∧ w = w' := by
  have := reduce_any h.reads.1 h.reads.2 w
  rw [h.net] at this
  exact this
theorem tal_add {a b : Int} (ha : okN a) (hb : okN b) (h : okN (a + b)) (w : World) : Calls Tryz.prog 83 #[tal a, tal b] w fun e w' => e = .returned (.tuple #[tal (a + b), .bool true]) ∧ w = w' := by
  have := add_any ha.reads.1 ha.reads.2 hb.reads.1 hb.reads.2 w
  have e1 : addOk (pos a) (pos (-a)) (pos b) (pos (-b)) = true := by
    unfold addOk
    rw [ha.okT, hb.okT, ha.net, hb.net]
    unfold fitN
    unfold okN at h
    rw [decide_eq_true h]
    rfl
  have e2 : addN (pos a) (pos (-a)) (pos b) (pos (-b)) = a + b := by
    unfold addN
    rw [e1, ha.net, hb.net]
    rfl
  rw [e1, e2] at this
  exact this
theorem tal_flip {k : Int} (h : okN k) (w : World) : Calls Tryz.prog 76 #[tal k] w fun e w' => e = .returned (tal (-k)) ∧ w = w' := by
  have := flip_yes h.reads.1 h.reads.2 h.okT w
  unfold tal
  rw [Int.neg_neg]
  exact this
theorem tal_of (a b : Int) (w : World) (h : (0 ≤ a ∧ b = 0) ∨ (a = 0 ∧ 0 ≤ b)) : Calls Tryz.prog 68 #[.int .i64 a, .int .i64 b] w fun e w' => e = .returned (tal (a - b)) ∧ w = w' := by
  have := Of_any a b w
  have h1 := pos_bd (a - b)
  have h2 := pos_bd (-(a - b))
  unfold tal
  rw [show pos (a - b) = a by omega, show pos (-(a - b)) = b by omega]
  exact this
theorem tal_zero : Value.complex .f64 0 0 = tal 0 := by
  unfold tal
  rw [show pos 0 = 0 from rfl, show pos (-0) = 0 from rfl, F_zero]
theorem order_pos {a b : Int} (ha : okN a) (hb : okN b) : ((FloatKind.f64.format.order (Fl.F (pos a)) (Fl.F (pos b)) == some .eq) && (FloatKind.f64.format.order (Fl.F (pos (-a))) (Fl.F (pos (-b))) == some .eq)) = decide (a = b) := by
  have h1 := pos_bd a
  have h2 := pos_bd (-a)
  have h3 := pos_bd b
  have h4 := pos_bd (-b)
  have o1 : FloatKind.f64.format.order (Fl.F (pos a)) (Fl.F (pos b)) = some (compare (pos a) (pos b)) := Fl.order_reads ha.reads.1 hb.reads.1
  have o2 : FloatKind.f64.format.order (Fl.F (pos (-a))) (Fl.F (pos (-b))) = some (compare (pos (-a)) (pos (-b))) := Fl.order_reads ha.reads.2 hb.reads.2
  rw [o1, o2]
  by_cases h : a = b
  · subst h
    have e1 : compare (pos a) (pos a) = .eq := Int.compare_eq_eq.2 rfl
    have e2 : compare (pos (-a)) (pos (-a)) = .eq := Int.compare_eq_eq.2 rfl
    rw [e1, e2, decide_eq_true rfl]
    rfl
  · rw [decide_eq_false h]
    by_cases hp : pos a = pos b
    · have hq : pos (-a) ≠ pos (-b) := by omega
      have : compare (pos (-a)) (pos (-b)) ≠ .eq := fun e => hq (Int.compare_eq_eq.1 e)
      have e2 : (some (compare (pos (-a)) (pos (-b))) == some Ordering.eq) = false := by
        cases hc : compare (pos (-a)) (pos (-b)) with
        | eq => exact absurd hc this
        | lt => rfl
        | gt => rfl
      rw [e2, Bool.and_false]
    · have : compare (pos a) (pos b) ≠ .eq := fun e => hp (Int.compare_eq_eq.1 e)
      have e2 : (some (compare (pos a) (pos b)) == some Ordering.eq) = false := by
        cases hc : compare (pos a) (pos b) with
        | eq => exact absurd hc this
        | lt => rfl
        | gt => rfl
      rw [e2, Bool.false_and]
theorem run_eq_tal {a b : Int} (ha : okN a) (hb : okN b) (t : TypeId) (P : Program) (w : World) : (binOp .eql t (tal a) (tal b)).run P w = .ok (.bool (decide (a = b))) w := by
  unfold tal
  rw [run_eql_complex, order_pos ha hb]
theorem run_ne_tal {a b : Int} (ha : okN a) (hb : okN b) (t : TypeId) (P : Program) (w : World) : (binOp .neq t (tal a) (tal b)).run P w = .ok (.bool (!decide (a = b))) w := by
  unfold tal
  rw [run_neq_complex, order_pos ha hb]
theorem run_ne_zero {a : Int} (ha : okN a) (t : TypeId) (P : Program) (w : World) : (binOp .neq t (tal a) (.complex .f64 0 0)).run P w = .ok (.bool (!decide (a = 0))) w := by
  rw [tal_zero]; exact run_ne_tal ha (by unfold okN; omega) t P w
theorem run_eq_zero {a : Int} (ha : okN a) (t : TypeId) (P : Program) (w : World) : (binOp .eql t (tal a) (.complex .f64 0 0)).run P w = .ok (.bool (decide (a = 0))) w := by
  rw [tal_zero]; exact run_eq_tal ha (by unfold okN; omega) t P w
theorem eqGuard_at_tal (op : BinOp) (t : TypeId) (x y : Operand) (k : Int) (v : Value) : eqGuard op t x y (tal k) v = pure () := eqGuard_at_complex ..
theorem run_store_tal (P : Program) (a : Addr) (k : Int) (m : Mode) (w : World) : (store a (tal k) m).run P w = stored P w a (tal k) m := run_store P w a _ m rfl
end Go.Proofs.YtajnnkapgnmoaaaGreat
/-
  zset.Make: the set of items.
-/
namespace Go.Proofs.YtajnnkapgnmoaaaGreat
open Go.RowKit Go.Sort

theorem IAt.low {w : World} {b : Nat} {l : List IM} (h : IAt w b 0 l) (hb : b < w.heap.size) (hr : ∀ x ∈ l, VRow w w.heap.size x.A x.r) : SRow w (fun k => k < w.heap.size) (some ⟨b, 0, none⟩) l :=
  ⟨.inr ⟨b, 0, rfl, hb, h⟩, fun x hx => by
    rcases hr x hx with h | ⟨b, o, hA, hb, h⟩
    · exact .inl h
    · exact .inr ⟨b, o, hA, hb, h⟩⟩
/-- a row of the call's own, or nil, sorted -/
theorem sort_any (w w1 : World) (B n c : Nat) (A : Option Addr) (l : List IM) (hn : l.length = n) (hsz : n ≤ 1099511627776) (ho : w1.ownsRow B 47 2 (.slice A n c) n (flatM l)) (hr : ∀ x ∈ l, VRow w B x.A x.r ∧ rowOk x.r = true) (hb : Below B w w1) (hB : B ≤ w1.heap.size) :
    Calls Tryz.prog 80 #[.slice A n c, .func (.func 81) #[] #[]] w1 fun e w' => e = .returned (.tuple #[]) ∧
      ∃ l', l'.Perm l ∧ (l'.Pairwise fun x y => cmpR x.r y.r ≤ 0) ∧ SRow w' (fun k => k < w'.heap.size) A l' ∧ Below B w w' ∧ B ≤ w'.heap.size := by
  rcases Nat.eq_zero_or_pos n with rfl | h0
  · refine (sortStable_none A c _ w1).mono ?_
    rintro e w' ⟨rfl, rfl⟩
    have : l = [] := List.eq_nil_of_length_eq_zero hn
    subst this
    exact ⟨rfl, [], List.Perm.refl _, List.Pairwise.nil, SRow.nil A, hb, hB⟩
  · obtain ⟨g, cap, hv, hg, hlt⟩ := ho.form h0
    obtain ⟨rfl, rfl⟩ : A = some ⟨g, 0, none⟩ ∧ c = cap := by
      simp only [Value.slice.injEq, true_and] at hv
      exact hv
    refine (sort_items w w1 B g n c l hn h0 hsz ho hr hb).mono ?_
    rintro e w' ⟨rfl, l', hp, hs, hI, hb', hg', hlt'⟩
    exact ⟨rfl, l', hp, hs, hI.low hlt' fun x hx => ((hr x (hp.mem_iff.1 hx)).1.below hb').more (by omega), hb', by omega⟩

theorem own_slice {w : World} {base n z : Nat} {e : TypeId} {v : Value} {xs : List Value} (h : w.ownsRow base e z v n xs) : ∃ A c, v = .slice A n c ∧ n ≤ c := by
  rcases h.2 with ⟨rfl, rfl⟩ | ⟨g, cap, cur, rfl, _, _, hn, _⟩
  · exact ⟨none, 0, rfl, Nat.le_refl _⟩
  · exact ⟨_, cap, rfl, hn⟩
/-- is there another item of that row? -/
def moreB (l : List IM) (k : Nat) (f : List V) : Bool := match l[k]? with
  | some y => rowSame y.r f
  | none => false
theorem vol_drop (l : List IM) (j : Nat) : vol (its (l.drop j)) ≤ vol (its l) := by
  have e : its l = its (l.take j) ++ its (l.drop j) := by rw [← its_append, List.take_append_drop]
  rw [e, vol_append]
  have := vol_nonneg (its (l.take j))
  omega
theorem mem_drop_of {l : List IM} {j q : Nat} (h : j ≤ q) {y : IM} (hy : y ∈ l.drop q) : y ∈ l.drop j := by
  have e : l.drop q = (l.drop j).drop (q - j) := by rw [List.drop_drop]; congr 1; omega
  rw [e] at hy
  exact List.mem_of_mem_drop hy
theorem mem_drop_self {l : List IM} {j : Nat} {x : IM} (hx : l[j]? = some x) : x ∈ l.drop j := by
  obtain ⟨h1, e1⟩ := List.getElem?_eq_some_iff.1 hx
  rw [List.drop_eq_getElem_cons h1, e1]
  simp
theorem same_eq {a b : List V} (h : rowSame a b = true) : a = b := by
  unfold rowSame at h
  simp only [Bool.and_eq_true, beq_iff_eq] at h
  exact cmp_eq h.1.1 h.1.2 h.2
/-- behind the items of a row: the greater ones -/
theorem more_end {l : List IM} {j q : Nat} {x : IM} (hso : l.Pairwise fun x y => cmpR x.r y.r ≤ 0) (hr : ∀ x ∈ l, rowOk x.r = true) (hx : l[j]? = some x) (hjq : j ≤ q) (hm : moreB l q x.r = false) :
    j < q ∧ ∀ y ∈ l.drop q, cmpR x.r y.r < 0 := by
  have hxo := hr x (List.mem_of_getElem? hx)
  have hj : j < q := by
    rcases Nat.eq_or_lt_of_le hjq with rfl | h
    · unfold moreB at hm
      rw [hx] at hm
      simp only [rowSame, hxo, cmp_self hxo] at hm
      simp at hm
    · exact h
  refine ⟨hj, fun y hy => ?_⟩
  cases h0 : l[q]? with
  | none =>
    rw [List.drop_of_length_le (List.getElem?_eq_none_iff.1 h0)] at hy
    simp at hy
  | some y0 =>
    have hyo := hr y0 (List.mem_of_getElem? h0)
    obtain ⟨h1, e1⟩ := List.getElem?_eq_some_iff.1 h0
    obtain ⟨h2, e2⟩ := List.getElem?_eq_some_iff.1 hx
    have hle := List.pairwise_iff_getElem.1 hso j q h2 h1 hj
    rw [e1, e2] at hle
    unfold moreB at hm
    rw [h0] at hm
    have hne : cmpR x.r y0.r ≠ 0 := fun e => by
      have f := cmp_flip hxo hyo
      simp only [rowSame, hxo, hyo, Bool.and_self, Bool.true_and] at hm
      rw [beq_eq_false_iff_ne] at hm
      omega
    rw [List.drop_eq_getElem_cons h1, e1] at hy
    rcases List.mem_cons.1 hy with rfl | hy
    · omega
    · obtain ⟨i, hi, rfl⟩ := List.mem_iff_getElem.1 hy
      have hi2 : q + 1 + i < l.length := by rw [List.length_drop] at hi; omega
      have hle2 := List.pairwise_iff_getElem.1 hso q (q + 1 + i) h1 hi2 (by omega)
      rw [e1] at hle2
      rw [List.getElem_drop]
      exact cmp_trans_le hxo hyo (hr _ (List.getElem_mem hi2)) (by omega) hle2
/-- a set that a call gives: in new memory, right, each row so often as in l -/
def SetRet (w : World) (l : List It) (w' : World) (A : Option Addr) (c : Nat) (s : List IM) : Prop :=
  s.length ≤ c ∧ SRow w' (NewS w w') A s ∧ SetOk (its s) ∧ ∀ r, look (its s) r = look l r

theorem its_get {l : List IM} {i : Nat} {x : IM} (h : l[i]? = some x) : its (l.drop i) = x.it :: its (l.drop (i + 1)) := by
  obtain ⟨h1, e1⟩ := List.getElem?_eq_some_iff.1 h
  rw [List.drop_eq_getElem_cons h1, e1]
  rfl
theorem vol_le_of {l : List IM} {x : IM} (hx : x ∈ l) : (x.k.natAbs : Int) ≤ vol (its l) := mem_vol (l := its l) (x := x.it) (List.mem_map.2 ⟨x, hx, rfl⟩)

set_option maxHeartbeats 4000000 in
set_option maxRecDepth 100000 in
theorem zmake_any (A : Option Addr) (c : Nat) (l : List IM) (w : World) {S : Nat → Prop} (hA : SRow w S A l) (hS : ∀ k, S k → k < w.heap.size) (hl : l.length ≤ 1073741824) (hr : ∀ x ∈ l, rowOk x.r = true) (hv : vol (its l) ≤ 1125899906842624) :
    Calls Tryz.prog 39 #[.slice A l.length c] w fun e w' => (∃ A' c' s, e = .returned (.tuple #[.slice A' s.length c', .int .i64 0]) ∧ SetRet w (its l) w' A' c' s) ∧ Below w.heap.size w w' := by
  obtain ⟨n, hn⟩ : ∃ n, l.length = n := ⟨_, rfl⟩
  have HN := Lib.hid hn
  have HA := Lib.hid hA
  have HS := Lib.hid hS
  have HR := Lib.hid hr
  have HV := Lib.hid hv
  have hcl := Lib.hid (fun w1 (hb : Below w.heap.size w w1) => cloneItems A c l w1 (S := fun k => k < w1.heap.size) ((hA.below hb hS).mono fun k hk => Nat.lt_of_lt_of_le (hS k hk) hb.size) (fun k hk => hk) (by omega))
  rw [hn] at hl hcl ⊢
  clear hA hS hr hv hn
  have hst := run_store_tal Tryz.prog
  go_enter Tryz.func39, Tryz.ntmps39
  go_wp2_with fail
  go_loopw [13] (fun i wr => ∃ k : Nat, k ≤ n ∧ i = .int .i64 k ∧ Below w.heap.size w wr) (fun i _ => n - (intOf i).toNat)
  case atStart => exact ⟨0, Nat.zero_le _, rfl, Below.refl _ _⟩
  case round =>
    obtain ⟨k, hk, rfl, hb⟩ := hrel
    have HB := Lib.hid hb
    have hs := hb.size
    clear hb
    by_cases hlt : k < n
    · obtain ⟨x, hx⟩ : ∃ x, l[k]? = some x := ⟨_, List.getElem?_eq_getElem (by rw [HN.out]; exact hlt)⟩
      obtain ⟨b, off, rfl, hSb, hc1, hc2⟩ := (HA.out.below HB.out HS.out).get hx
      have hm := List.mem_of_getElem? hx
      have hok := HR.out x hm
      have hkN : okN x.k := by have h1 := vol_le_of hm; have h2 := HV.out; unfold okN; omega
      have hq := Lib.hid (fun w1 (hb : Below w.heap.size w w1) => rowRight_any x.A x.c x.r (by have := (rowOk_len hok).2; omega) w1 ((((HA.out.rows x hm).to HS.out).below hb).more hb.size))
      rw [show rowOk x.r = true from hok] at hq
      have ht := Lib.hid (fun w1 => tal_right hkN w1)
      obtain ⟨xA, xc, xr, xk⟩ := x
      dsimp only at hc1 hc2 hq ht
      generalize xr.length = xn at hc1 hq
      clear hx hm hok hkN hSb
      go_wp2_with fail
      refine (hq.out _ (HB.out.alloc hs _)).mono ?_
      rintro e w1 ⟨rfl, hb1⟩
      have e1 : w1.cell? ⟨wr.heap.size, 1, none⟩ = some (tal xk) := (hb1.cell (by simp)).trans (by simp)
      have hlt1 : wr.heap.size < w1.heap.size := by have := hb1.size; simp at this; omega
      have HB1 := Lib.hid ((HB.out.alloc hs _).trans (hb1.mono (by simp; omega)))
      clear hb1
      go_wp2_with (go_at_call 78; refine (ht.out _).mono ?_; rintro e w' ⟨rfl, rfl⟩)
      go_roundw
      case rel => exact ⟨k + 1, by omega, by go_num, HB1.out⟩
      case measure => simp [intOf]; omega
    · obtain rfl : k = n := by omega
      go_wp2_with fail
      refine (hcl.out _ HB.out).mono ?_
      rintro e w1 ⟨⟨v, rfl, hown⟩, hb1⟩
      obtain ⟨A1, c1, rfl, hc1⟩ := own_slice hown
      have HO := Lib.hid hown
      have HB1 := Lib.hid (HB.out.trans (hb1.mono hs))
      have hs1 := HB1.out.size
      clear hown hb1 HB hcl
      go_wp2_with fail
      refine (sort_any w w1 w.heap.size k c1 A1 l HN.out (by omega) (HO.out.mono (by omega)) (fun x hx => ⟨(HA.out.rows x hx).to HS.out, HR.out x hx⟩) HB1.out hs1).mono ?_
      rintro e w2 ⟨rfl, l', hp, hso, hSR, hb2, hs2⟩
      have HL := Lib.hid (hp.length_eq.trans HN.out)
      have HR2 : Hid (∀ x ∈ l', rowOk x.r = true) := Lib.hid (fun x hx => HR.out x (hp.mem_iff.1 hx))
      have HV2 : Hid (vol (its l') ≤ 1125899906842624) := Lib.hid (Int.le_trans (Int.le_of_eq (vol_perm (hp.map IM.it))) HV.out)
      have HK2 : Hid (∀ r, look (its l') r = look (its l) r) := Lib.hid (fun r => look_perm (hp.map IM.it) r)
      have HSO := Lib.hid hso
      have HSR := Lib.hid hSR
      have HB2 := Lib.hid hb2
      clear hp hso hSR hb2 HO HB1 hs1 HR HV HA HN hc1 hs hst
      obtain ⟨i0, hi, hz0, hz1, hz2⟩ := info_parts item_info
      go_wp2_with fail
      go_loopw [6, 7] (fun v i wr => ∃ (j : Nat) (ol : List IM), j ≤ k ∧ i = .int .i64 j ∧ wr.ownsRow w2.heap.size 47 2 v ol.length (flatM ol) ∧ Below w2.heap.size w2 wr ∧ ol.length ≤ j ∧ Hid (∀ x ∈ ol, VRowS wr (fun g => NewS w2 wr g ∧ v.ownBlock ≠ some g) x.A x.r) ∧ Hid (SetOk (its ol)) ∧ Hid (∀ r, look (its l') r = look (its ol) r + look (its (l'.drop j)) r) ∧ Hid (∀ x ∈ ol, ∀ y ∈ l'.drop j, cmpR x.r y.r < 0)) (fun _ i _ => k - (intOf i).toNat)
      case atStart => exact ⟨0, [], Nat.zero_le _, rfl, World.ownsRow_nil _ _ _ _, Below.refl _ _, Nat.le_refl _, Lib.hid (fun x hx => by simp at hx), Lib.hid SetOk.nil, Lib.hid (fun r => by simp [its, look]), Lib.hid (fun x hx => by simp at hx)⟩
      case round =>
        rename World => wo
        obtain ⟨j, ol, hjk, rfl, hown, hbr, holj, HOR, HOK, HLK, HLT⟩ := hrel
        have HO := Lib.hid hown
        have HB := Lib.hid hbr
        have hs := hbr.size
        clear hown hbr
        by_cases hlt : j < k
        · obtain ⟨x, hx⟩ : ∃ x, l'[j]? = some x := ⟨_, List.getElem?_eq_getElem (by rw [HL.out]; exact hlt)⟩
          obtain ⟨b, off, rfl, hSb, hc1, hc2⟩ := (HSR.out.below HB.out (fun k hk => hk)).get hx
          have HX := Lib.hid hx
          have HXO := Lib.hid (HR2.out x (List.mem_of_getElem? hx))
          have HXR := Lib.hid ((HSR.out.rows x (List.mem_of_getElem? hx)).to (B := w2.heap.size) (fun k hk => hk))
          obtain ⟨n0, hn0⟩ : ∃ n0, x.r.length = n0 := ⟨_, rfl⟩
          have HN0 := Lib.hid hn0
          rw [hn0] at hc1
          clear hx hc2 hn0
          go_wp2_with fail
          go_loopw [7, 9] (fun i s wq => ∃ (q : Nat) (sum : Int), j ≤ q ∧ q ≤ k ∧ i = .int .i64 q ∧ s = tal sum ∧ RowKit.Below wo.heap.size wo wq ∧ Hid (∀ r, look (its (l'.drop j)) r = (if eqR x.r r = true then sum else 0) + look (its (l'.drop q)) r) ∧ Hid ((sum.natAbs : Int) + vol (its (l'.drop q)) ≤ vol (its (l'.drop j)))) (fun i _ _ => k - (intOf i).toNat)
          case atStart => exact ⟨j, 0, Nat.le_refl _, hjk, rfl, tal_zero, Below.refl _ _, Lib.hid (fun r => by simp), Lib.hid (by simp)⟩
          case round =>
            rename World => wq
            obtain ⟨q, sum, hjq, hqk, rfl, rfl, hbq, HSM, HVM⟩ := hrel
            have HBQ := Lib.hid hbq
            have hsq := hbq.size
            clear hbq
            go_upto_region 14 with (fail)
            go_cut [53] (fun sb wx => sb = .bool (moreB l' q x.r) ∧ RowKit.Below wo.heap.size wo wx)
            case first =>
              by_cases hqk2 : q < k
              · obtain ⟨y, hy⟩ : ∃ y, l'[q]? = some y := ⟨_, List.getElem?_eq_getElem (by rw [HL.out]; exact hqk2)⟩
                have hbw : RowKit.Below w2.heap.size w2 wq := HB.out.trans (HBQ.out.mono hs)
                obtain ⟨b', off', hbb, _, hd1, hd2⟩ := (HSR.out.below hbw (fun k hk => hk)).get hy
                obtain ⟨rfl, rfl⟩ : b = b' ∧ off = off' := by simpa using hbb
                have hyo := HR2.out y (List.mem_of_getElem? hy)
                have HYR := Lib.hid ((HSR.out.rows y (List.mem_of_getElem? hy)).to (B := w2.heap.size) (fun k hk => hk))
                have hc := Lib.hid (fun w3 (hb : RowKit.Below w2.heap.size w2 w3) => rowSame_any y.A x.A y.c x.c y.r x.r (by have := (rowOk_len hyo).2; omega) (by have := (rowOk_len HXO.out).2; omega) w3 ((HYR.out.below hb).more hb.size) ((HXR.out.below hb).more hb.size))
                rw [HN0.out] at hc
                have HM : Hid (moreB l' q x.r = rowSame y.r x.r) := Lib.hid (by unfold moreB; rw [hy])
                generalize rowSame y.r x.r = qb at hc HM
                obtain ⟨yA, yc, yr, yk⟩ := y
                dsimp only at hd1 hc
                generalize yr.length = yn at hd1 hc
                have HBW := Lib.hid hbw
                clear hd2 hyo hbb hbw
                go_wp2_with fail
                refine (hc.out _ HBW.out).mono ?_
                rintro e w3 ⟨rfl, hb3⟩
                have HB3 := Lib.hid (HBQ.out.trans (hb3.mono hsq))
                clear hb3
                go_wp2_with fail
                go_meet
                exact ⟨by rw [HM.out], HB3.out⟩
              · obtain rfl : q = k := by omega
                have HM : Hid (moreB l' q x.r = false) := Lib.hid (by unfold moreB; rw [List.getElem?_eq_none (by rw [HL.out]; exact Nat.le_refl _)])
                go_wp2_with fail
                go_meet
                exact ⟨by rw [HM.out], HBQ.out⟩
            case rest =>
            obtain ⟨rfl, hbx⟩ := hcut
            have HBX := Lib.hid hbx
            have hsx := hbx.size
            clear hbx HBQ hsq
            cases hM : moreB l' q x.r
            · obtain ⟨hjq2, hgt⟩ := more_end HSO.out HR2.out HX.out hjq hM
              have HGT := Lib.hid hgt
              have hvj := Int.le_trans (vol_drop l' j) HV2.out
              have hvm := HVM.out
              have hn1 := vol_nonneg (its (l'.drop q))
              have hsN : okN sum := by unfold okN; omega
              have hgz := eqGuard_at_tal
              have hne := fun w3 => run_ne_zero hsN 45 Tryz.prog w3
              have HLK2 : Hid (∀ r, look (its l') r = look (its ol) r + ((if eqR x.r r = true then sum else 0) + look (its (l'.drop q)) r)) := Lib.hid (fun r => by rw [HLK.out r, HSM.out r])
              clear hM hgt hvj hvm hn1 HSM HVM HLK
              by_cases hz : sum = 0
              · subst hz
                have HLK3 : Hid (∀ r, look (its l') r = look (its ol) r + look (its (l'.drop q)) r) := Lib.hid (fun r => by
                  have := HLK2.out r
                  rw [this]
                  split <;> omega)
                have HLT2 : Hid (∀ x ∈ ol, ∀ y ∈ l'.drop q, cmpR x.r y.r < 0) := Lib.hid (fun z hz y hy => HLT.out z hz y (mem_drop_of hjq hy))
                have HO2 := Lib.hid (ownM_below HO.out HBX.out)
                have HOR2 : Hid (∀ x ∈ ol, VRowS wc (fun g => NewS w2 wc g ∧ u6.ownBlock ≠ some g) x.A x.r) := Lib.hid (fun z hz => ((HOR.out z hz).kept (fun g hg => HBX.out.block g hg.1.2.1)).mono fun g hg => ⟨hg.1.below HBX.out, hg.2⟩)
                have HB2x := Lib.hid (HB.out.trans (HBX.out.mono hs))
                clear HO HOR HLK2 HLT HBX
                go_wp2_with fail
                go_roundw
                case rel => exact ⟨q, ol, hqk, rfl, HO2.out, HB2x.out, by omega, HOR2, HOK, HLK3, HLT2⟩
                case measure => simp [intOf]; omega
              · have hd : (!decide (sum = 0)) = true := by rw [decide_eq_false hz]; rfl
                have hit := Lib.hid (fun w3 (hb : RowKit.Below w2.heap.size w2 w3) => item_any x.A x.c x.r sum w3 ((HXR.out.below hb).more hb.size) (by have := (rowOk_len HXO.out).2; omega))
                rw [HN0.out] at hit
                have hBc : RowKit.Below w2.heap.size w2 wc := HB.out.trans (HBX.out.mono hs)
                have HBC := Lib.hid hBc
                have hsc := hBc.size
                clear hBc
                go_wp2_with fail
                refine (hit.out _ HBC.out).mono ?_
                rintro e w4 ⟨x', rfl, hxr, hxk, hxc, hxS, _, hb4⟩
                have HB4 := Lib.hid (HBX.out.trans (hb4.mono hsx))
                have HXS := Lib.hid hxS
                have hs4 : wc.heap.size ≤ w4.heap.size := hb4.size
                have HXR2 := Lib.hid hxr
                have HXK2 := Lib.hid hxk
                have HO4 := Lib.hid ((ownM_below HO.out HB4.out).alloc (.cells x'.cs.toArray 47))
                obtain ⟨xA, xc, xr, xk⟩ := x'
                simp only [IM.val]
                simp only [IM.cs] at HO4
                clear hxr hxk hxS hb4 hxc hit
                go_wp2_with (at_builtin; refine wpList_append_any _ rfl _ _ 42 rfl w2.heap.size 47 i0 _ 2 40 Tryz.underlying42 hi hz0 hz1 hz2 rfl (by decide) _ _ _ rfl HO4.out (w4.heap.size + 1) _ _ _ (IM.cs ⟨xA, xc, xr, xk⟩) rfl ⟨rfl, fun _ => ⟨_, rfl, Nat.lt_succ_self _, World.news_of_block (heap_alloc_new w4 _)⟩⟩ ?c1 ?c2 ?c3 ?c4 ?_)
                case c1 => rw [← flatM_one]; exact flatM_ones _
                case c2 => unfold maxLen; omega
                case c3 => omega
                case c4 => first | omega | (simp; omega)
                intro v' w5 hown' hgrow hat
                obtain rfl := HXR2.out
                obtain rfl := HXK2.out
                have HO5 : Hid (w5.ownsRow w2.heap.size 47 2 v' (ol ++ [(⟨xA, xc, x.r, xk⟩ : IM)]).length (flatM (ol ++ [(⟨xA, xc, x.r, xk⟩ : IM)]))) := Lib.hid (by rw [flatM_append, flatM_one, List.length_append]; exact hown')
                have hown6 : ∀ g, u6.ownBlock = some g → w2.heap.size ≤ g ∧ g < wo.heap.size := fun g hg => HO.out.lt g hg
                have hblk : ∀ g, g < w4.heap.size → u6.ownBlock ≠ some g → w5.heap[g]? = w4.heap[g]? := fun g h1 h2 => (hgrow.block g (by simp; omega) (fun e => h2 e.symm)).trans (Below.heap_alloc w4 _ g h1)
                have HBw4 : RowKit.Below w2.heap.size w2 w4 := HB.out.trans (HB4.out.mono hs)
                have HB5 : Hid (RowKit.Below w2.heap.size w2 w5) := Lib.hid ((HBw4.alloc HBw4.size _).grown hgrow (by simp; omega) (fun g hg => (hown6 g hg).1))
                have hsz5 : w4.heap.size + 1 ≤ w5.heap.size := by have := hgrow.size; simpa using this
                have HOR5 : Hid (∀ z ∈ ol ++ [(⟨xA, xc, x.r, xk⟩ : IM)], VRowS w5 (fun g => NewS w2 w5 g ∧ v'.ownBlock ≠ some g) z.A z.r) := Lib.hid (fun z hz => by
                  rcases List.mem_append.1 hz with hz | hz
                  · have hk : ∀ g, NewS w2 wo g ∧ u6.ownBlock ≠ some g → w5.heap[g]? = wo.heap[g]? := fun g hg => (hblk g (by have := hg.1.2.1; omega) hg.2).trans (HB4.out.block g hg.1.2.1)
                    refine ((HOR.out z hz).kept hk).mono fun g hg => ⟨⟨hg.1.1, by have := hg.1.2.1; omega, fun o => (frozen_of_block (hk g hg)).trans (hg.1.2.2 o)⟩, ?_⟩
                    rcases hat with h | h
                    · rw [h]; exact hg.2
                    · rw [h]; intro e; have := Option.some.inj e; have := hg.1.2.1; omega
                  · rw [List.mem_singleton.1 hz]
                    have hne6 : ∀ g, NewS wc w4 g → u6.ownBlock ≠ some g := fun g hg e => by have := (hown6 g e).2; have := hg.1; omega
                    refine (HXS.out.kept (fun g hg => hblk g hg.2.1 (hne6 g hg))).mono fun g hg => ⟨⟨by have := hg.1; omega, by have := hg.2.1; omega, fun o => (frozen_of_block (hblk g hg.2.1 (hne6 g hg))).trans (hg.2.2 o)⟩, ?_⟩
                    rcases hat with h | h
                    · rw [h]; exact hne6 g hg
                    · rw [h]; intro e; have := Option.some.inj e; have := hg.2.1; omega)
                have hits : its (ol ++ [(⟨xA, xc, x.r, xk⟩ : IM)]) = its ol ++ [(x.r, xk)] := by rw [its_append]; rfl
                have HOK5 : Hid (SetOk (its (ol ++ [(⟨xA, xc, x.r, xk⟩ : IM)]))) := Lib.hid (by
                  rw [hits]
                  refine HOK.out.snoc HXO.out hz fun y hy => ?_
                  obtain ⟨z, hz2, rfl⟩ := List.mem_map.1 hy
                  exact HLT.out z hz2 x (mem_drop_self HX.out))
                have HLK5 : Hid (∀ r, look (its l') r = look (its (ol ++ [(⟨xA, xc, x.r, xk⟩ : IM)])) r + look (its (l'.drop q)) r) := Lib.hid (fun r => by
                  rw [hits, look_append, look_one, HLK2.out r]
                  exact (Int.add_assoc _ _ _).symm)
                have HLT5 : Hid (∀ z ∈ ol ++ [(⟨xA, xc, x.r, xk⟩ : IM)], ∀ y ∈ l'.drop q, cmpR z.r y.r < 0) := Lib.hid (fun z hz y hy => by
                  rcases List.mem_append.1 hz with hz | hz
                  · exact HLT.out z hz y (mem_drop_of hjq hy)
                  · rw [List.mem_singleton.1 hz]; exact HGT.out y hy)
                have hol5 : (ol ++ [(⟨xA, xc, x.r, xk⟩ : IM)]).length ≤ q := by rw [List.length_append]; simp only [List.length_cons, List.length_nil]; omega
                generalize ol ++ [(⟨xA, xc, x.r, xk⟩ : IM)] = ol5 at HO5 HOR5 HOK5 HLK5 HLT5 hol5
                clear hown' hgrow hat hown6 hblk HBw4 hits HO HOR HOK HLK2 HLT HO4 HXS HB4 HBX HB HBC HXR2 HXK2
                go_wp2_with fail
                go_roundw
                case rel => exact ⟨q, ol5, hqk, rfl, HO5.out, HB5.out, hol5, HOR5, HOK5, HLK5, HLT5⟩
                case measure => simp [intOf]; omega
            · obtain ⟨y, hy, hsame⟩ : ∃ y, l'[q]? = some y ∧ rowSame y.r x.r = true := by
                unfold moreB at hM
                cases h0 : l'[q]? with
                | none => rw [h0] at hM; cases hM
                | some y => rw [h0] at hM; exact ⟨y, rfl, hM⟩
              have hqk2 : q < k := by rw [← HL.out]; exact (List.getElem?_eq_some_iff.1 hy).1
              obtain ⟨b', off', hbb, _, hd1, hd2⟩ := (HSR.out.below (HB.out.trans (HBX.out.mono hs)) (fun k hk => hk)).get hy
              obtain ⟨rfl, rfl⟩ : b = b' ∧ off = off' := by simpa using hbb
              have hyx := same_eq hsame
              have hvq := its_get hy
              have hvv := HVM.out
              rw [hvq] at hvv
              simp only [vol, IM.it] at hvv
              have hvj := Int.le_trans (vol_drop l' j) HV2.out
              have hn1 := vol_nonneg (its (l'.drop (q + 1)))
              have ha := Lib.hid (fun w3 => tal_add (a := sum) (b := y.k) (by unfold okN; omega) (by unfold okN; omega) (by unfold okN; omega) w3)
              have HSM2 : Hid (∀ r, look (its (l'.drop j)) r = (if eqR x.r r = true then sum + y.k else 0) + look (its (l'.drop (q + 1))) r) := Lib.hid (fun r => by
                have := HSM.out r
                rw [hvq] at this
                simp only [look, IM.it, hyx] at this
                rw [this]
                split <;> omega)
              have HVM2 : Hid (((sum + y.k).natAbs : Int) + vol (its (l'.drop (q + 1))) ≤ vol (its (l'.drop j))) := Lib.hid (by omega)
              obtain ⟨yA, yc, yr, yk⟩ := y
              dsimp only at hd2 ha HSM2 HVM2
              clear hM hy hsame hd1 hbb hyx hvq hvv hvj hn1 HSM HVM
              go_wp2_with (go_at_call 83; refine (ha.out _).mono ?_; rintro e w' ⟨rfl, rfl⟩)
              go_roundw
              case rel => exact ⟨q + 1, sum + yk, by omega, by omega, by go_num, rfl, HBX.out, HSM2, HVM2⟩
              case measure => simp [intOf]; omega
        · obtain rfl : j = k := by omega
          obtain ⟨A3, c3, rfl, hc3, hS3⟩ := own_items (S := NewS w wo) HO.out (fun g h1 h2 h3 => ⟨by omega, h2, h3⟩) (fun x hx => (HOR.out x hx).mono fun g hg => hg.1.lower hs2)
          have HS3 := Lib.hid hS3
          have HB3 := Lib.hid (HB2.out.trans (HB.out.mono hs2))
          clear hS3
          go_wp2_with fail
          go_ret2
          refine ⟨⟨A3, c3, ol, rfl, hc3, HS3.out, HOK.out, fun r => ?_⟩, HB3.out⟩
          have h1 := HLK.out r
          rw [List.drop_of_length_le (by rw [HL.out]; exact Nat.le_refl _)] at h1
          rw [← HK2.out r, h1]
          simp [its, look]
end Go.Proofs.YtajnnkapgnmoaaaGreat
/-
  zset.Right at a right set.
-/
namespace Go.Proofs.YtajnnkapgnmoaaaGreat
open Go.RowKit Go.Sort

/-- a right set of small nets -/
structure SOk (l : List IM) : Prop where
  set : SetOk (its l)
  vol : vol (its l) ≤ 1125899906842624
theorem SOk.row {l : List IM} (h : SOk l) {x : IM} (hx : x ∈ l) : rowOk x.r = true := h.set.rows x.it (List.mem_map.2 ⟨x, hx, rfl⟩)
theorem SOk.net {l : List IM} (h : SOk l) {x : IM} (hx : x ∈ l) : x.k ≠ 0 := h.set.nets x.it (List.mem_map.2 ⟨x, hx, rfl⟩)
theorem SOk.okN {l : List IM} (h : SOk l) {x : IM} (hx : x ∈ l) : okN x.k := by
  have h1 := vol_le_of hx
  have h2 := h.vol
  unfold Go.Proofs.YtajnnkapgnmoaaaGreat.okN
  omega
theorem SOk.less {l : List IM} (h : SOk l) {i : Nat} {x y : IM} (hx : l[i]? = some x) (hy : l[i + 1]? = some y) : rowLess x.r y.r = true := by
  obtain ⟨h1, e1⟩ := List.getElem?_eq_some_iff.1 hx
  obtain ⟨h2, e2⟩ := List.getElem?_eq_some_iff.1 hy
  have := List.pairwise_iff_getElem.1 h.set.ord i (i + 1) (by rw [its_len]; omega) (by rw [its_len]; exact h2) (by omega)
  simp only [its, List.getElem_map, e1, e2, IM.it] at this
  unfold rowLess
  rw [h.row (List.mem_of_getElem? hx), h.row (List.mem_of_getElem? hy), decide_eq_true this]
  rfl
theorem Calls.regrown_same {P : Program} {f : FuncId} {args : Array Value} {w : World} {d : Nat} {os : Array Obj} {v : Value}
    (h : Calls P f args (grow (redrawn w d) os) fun e w' => e = .returned v ∧ grow (redrawn w d) os = w') : Calls P f args (grow (redrawn w d) os) fun e w'' => e = .returned v ∧ ∃ p : Regrown, w'' = grow (redrawn w p.d) p.os :=
  h.mono fun _ _ ⟨he, hb⟩ => ⟨he, ⟨⟨d, os⟩, hb.symm⟩⟩

theorem wpQuiet_skip {P : Program} {ops : Array Oper} {C : World → Prop} {Q : Act → Prop} {a : Act} {o : Oper} {rest : List Oper} (hw : Region.wanted o (yielded ops a.tmps) = false) (h : wpQuiet P ops C Q rest (a.put o.dst undef)) : wpQuiet P ops C Q (o :: rest) a :=
  wpQuiet_step fun K hK => by rw [hw]; exact hK _ h

set_option maxHeartbeats 2000000 in
set_option maxRecDepth 100000 in
theorem zright_any (A : Option Addr) (c : Nat) (l : List IM) (w : World) {S : Nat → Prop} (hA : SRow w S A l) (hS : ∀ k, S k → k < w.heap.size) (hl : l.length ≤ 1073741824) (hk : SOk l) :
    Calls Tryz.prog 41 #[.slice A l.length c] w fun e w' => e = .returned (.bool true) ∧ Below w.heap.size w w' := by
  obtain ⟨n, hn⟩ : ∃ n, l.length = n := ⟨_, rfl⟩
  have HN := Lib.hid hn
  have HA := Lib.hid hA
  have HS := Lib.hid hS
  have HK := Lib.hid hk
  have mixed : Tryz.prog.follows .mixedOrders = true := by kernel_rfl
  rw [hn] at hl ⊢
  clear hA hS hk hn
  go_enter Tryz.func41, Tryz.ntmps41
  go_wp2_with fail
  go_loopw [7] (fun i wr => ∃ k : Nat, k ≤ n ∧ i = .int .i64 k ∧ Below w.heap.size w wr) (fun i _ => n - (intOf i).toNat)
  case atStart => exact ⟨0, Nat.zero_le _, rfl, Below.refl _ _⟩
  case round =>
    obtain ⟨k, hk, rfl, hb⟩ := hrel
    have HB := Lib.hid hb
    have hs := hb.size
    clear hb
    by_cases hlt : k < n
    · obtain ⟨x, hx⟩ : ∃ x, l[k]? = some x := ⟨_, List.getElem?_eq_getElem (by rw [HN.out]; exact hlt)⟩
      obtain ⟨b, off, rfl, hSb, hc1, hc2⟩ := (HA.out.below HB.out HS.out).get hx
      have hm := List.mem_of_getElem? hx
      have HX := Lib.hid hx
      have hok := HK.out.row hm
      have hkN := HK.out.okN hm
      have hk0 := HK.out.net hm
      have HXR := Lib.hid ((HA.out.rows x hm).to HS.out)
      have hq := Lib.hid (fun w1 (hb : Below w.heap.size w w1) => rowRight_any x.A x.c x.r (by have := (rowOk_len hok).2; omega) w1 ((HXR.out.below hb).more hb.size))
      rw [show rowOk x.r = true from hok] at hq
      have ht := Lib.hid (fun w1 => tal_right hkN w1)
      have hrd := Lib.hid (fun w1 => tal_reduce hkN w1)
      have q1 : ∀ w1, (binOp .eql 45 (tal x.k) (.complex .f64 0 0)).run Tryz.prog w1 = .ok (.bool false) w1 := fun w1 => by
        rw [run_eq_zero hkN, decide_eq_false hk0]
      have q2 : ∀ w1, (binOp .neq 45 (tal x.k) (tal x.k)).run Tryz.prog w1 = .ok (.bool false) w1 := fun w1 => by
        rw [run_ne_tal hkN hkN, decide_eq_true rfl]; rfl
      have HLS : Hid (∀ kp, k = kp + 1 → ∃ y, l[kp]? = some y ∧ VRow w w.heap.size y.A y.r ∧ rowLess y.r x.r = true ∧ y.r.length ≤ 6) := Lib.hid (fun kp e => by
        obtain ⟨y, hy⟩ : ∃ y, l[kp]? = some y := ⟨_, List.getElem?_eq_getElem (by rw [HN.out]; omega)⟩
        have hmy := List.mem_of_getElem? hy
        exact ⟨y, hy, (HA.out.rows y hmy).to HS.out, HK.out.less hy (by rw [← e]; exact HX.out), (rowOk_len (HK.out.row hmy)).2⟩)
      have hxl : x.r.length ≤ 6 := (rowOk_len hok).2
      obtain ⟨xA, xc, xr, xk⟩ := x
      dsimp only at hc1 hc2 hq ht hrd q1 q2 HLS HXR hxl
      have hst2 := fun a m w1 => run_store_tal Tryz.prog a xk m w1
      have hgz2 := fun op t x y v => eqGuard_at_tal op t x y xk v
      generalize tal xk = T at hc2 ht hrd q1 q2 hst2 hgz2
      obtain ⟨xn, hxn⟩ : ∃ xn, xr.length = xn := ⟨_, rfl⟩
      rw [hxn] at hc1 hq hxl
      have HXN := Lib.hid hxn
      clear hx hm hok hkN hk0 hSb hxn
      go_wp2_with fail
      have e0 : ∀ d os, (grow (redrawn (wr.alloc (.cells #[.slice xA xn xc, T] 47)) d) os).cell? ⟨wr.heap.size, 0, none⟩ = some (.slice xA xn xc) := fun d os => cell_regrown (by simp) d os
      have e1 : ∀ d os, (grow (redrawn (wr.alloc (.cells #[.slice xA xn xc, T] 47)) d) os).cell? ⟨wr.heap.size, 1, none⟩ = some (T) := fun d os => cell_regrown (by simp) d os
      have HBA : Hid (∀ d os, Below w.heap.size w (grow (redrawn (wr.alloc (.cells #[.slice xA xn xc, T] 47)) d) os)) := Lib.hid (fun d os => (HB.out.alloc hs _).trans ((below_regrown _ d os).mono (by simp; omega)))
      have HSA := (HB.out.alloc hs (.cells #[.slice xA xn xc, T] 47)).size
      by_cases hk0 : k = 0
      · have hkz : decide (0 < (k : Int)) = false := decide_eq_false (by omega)
        generalize wr.alloc (.cells #[.slice xA xn xc, T] 47) = wa at e0 e1 HBA HSA ⊢
        have C1 := Lib.hid (fun d os => Calls.regrown_of (hq.out _ (HBA.out d os)))
        have C2 := Lib.hid (fun d os => Calls.regrown_same (ht.out (grow (redrawn wa d) os)))
        have C3 := Lib.hid (fun d os => Calls.regrown_same (hrd.out (grow (redrawn wa d) os)))
        clear hq ht hrd HLS
        refine wp_region_quiet_below (by assumption) (by kernel_rfl) ?_
        iterate 27 (quiet_step (first | (go_at_call 77; exact C1.out _ _) | (go_at_call 78; exact C2.out _ _) | (go_at_call 85; exact C3.out _ _)))
        iterate 10 (with_reducible (refine wpQuiet_skip ?_ ?_); kernel_rfl; simp only [Act.put, List.setIfInBounds_toArray, List.set_cons_zero, List.set_cons_succ])
        iterate 2 (quiet_step (first | (go_at_call 77; exact C1.out _ _) | (go_at_call 78; exact C2.out _ _) | (go_at_call 85; exact C3.out _ _)))
        refine wpQuiet_nil ?_
        intro _ hw'
        obtain ⟨⟨nq, osq⟩, hw''⟩ := hw'
        subst hw''
        have HB2 := Lib.hid (HBA.out nq osq)
        clear e0 e1 HBA C1 C2 C3
        generalize grow (redrawn wa nq) osq = wb at HB2 ⊢
        go_wp2_with fail
        go_roundw
        case rel => exact ⟨k + 1, by omega, by go_num, HB2.out⟩
        case measure => simp [intOf]; omega
      · obtain ⟨kp, ekp⟩ : ∃ kp, k = kp + 1 := ⟨k - 1, by omega⟩
        have hkn : 0 < k := by omega
        have hkz : (0 : Int) < (k : Int) := by omega
        have ek : (k : Int) - 1 = (kp : Int) := by omega
        have pk : kp < n := by omega
        have rk : IntKind.i64.wrap (kp : Int) = (kp : Int) := by rw [IntKind.wrap_i64]; omega
        have rk2 : IntKind.i64.wrap ((k : Int) - 1) = (kp : Int) := by rw [ek]; exact rk
        obtain ⟨y, hy, hyv, hyl, hy6⟩ := HLS.out kp ekp
        obtain ⟨b2, off2, hb2, _, hd1, hd2⟩ := (HA.out.below HB.out HS.out).get hy
        obtain ⟨rfl, rfl⟩ : b = b2 ∧ off = off2 := by simpa using hb2
        have hqy := Lib.hid (fun w1 (hb : Below w.heap.size w w1) => rowLess_any y.A xA y.c xc y.r xr (by omega) (by rw [HXN.out]; omega) w1 ((hyv.below hb).more hb.size) ((HXR.out.below hb).more hb.size))
        rw [hyl, HXN.out] at hqy
        obtain ⟨yA, yc, yr, yk⟩ := y
        dsimp only at hd1 hqy
        generalize yr.length = yn at hd1 hqy
        have e2 : ∀ d os, (grow (redrawn (wr.alloc (.cells #[.slice xA xn xc, T] 47)) d) os).cell? ⟨b, off + kp * 2, none⟩ = some (.slice yA yn yc) := fun d os => cell_regrown ((World.cell?_alloc_lt wr _ _ (block_lt_of_cell hd1)).trans hd1) d os
        clear hd1 hd2 hb2 hyv hyl hy6 hy
        have hkp : k = kp + 1 := ekp
        clear ekp HLS
        generalize wr.alloc (.cells #[.slice xA xn xc, T] 47) = wa at e0 e1 e2 HBA HSA ⊢
        have C1 := Lib.hid (fun d os => Calls.regrown_of (hq.out _ (HBA.out d os)))
        have C2 := Lib.hid (fun d os => Calls.regrown_same (ht.out (grow (redrawn wa d) os)))
        have C3 := Lib.hid (fun d os => Calls.regrown_same (hrd.out (grow (redrawn wa d) os)))
        have C4 := Lib.hid (fun d os => Calls.regrown_of (hqy.out _ (HBA.out d os)))
        clear hq ht hrd hqy hkp hk0
        refine wp_region_quiet_below (by assumption) (by kernel_rfl) ?_
        repeat (quiet_step (first | (go_at_call 77; exact C1.out _ _) | (go_at_call 78; exact C2.out _ _) | (go_at_call 85; exact C3.out _ _) | (go_at_call 86; exact C4.out _ _)))
        refine wpQuiet_nil ?_
        intro _ hw'
        obtain ⟨⟨nq, osq⟩, hw''⟩ := hw'
        subst hw''
        have HB2 := Lib.hid (HBA.out nq osq)
        clear e0 e1 e2 HBA C1 C2 C3 C4
        generalize grow (redrawn wa nq) osq = wb at HB2 ⊢
        go_wp2_with fail
        go_roundw
        case rel => exact ⟨k + 1, by omega, by go_num, HB2.out⟩
        case measure => simp [intOf]; omega
    · go_wp2_with fail
      go_ret
      exact ⟨rfl, HB.out⟩
end Go.Proofs.YtajnnkapgnmoaaaGreat
/-
  Tables as they lie in memory; batch.full, batch.find.
-/
namespace Go.Proofs.YtajnnkapgnmoaaaGreat
open Go.RowKit

/-- a table: its name, where its columns and rows lie -/
structure TM where
  nm : ByteArray
  cA : Option Addr
  cc : Nat
  cols : List C
  rA : Option Addr
  rc : Nat
  rows : List IM
def TM.cs (t : TM) : List Value := [.string t.nm, .slice t.cA t.cols.length t.cc, .slice t.rA t.rows.length t.rc]
def TAt (w : World) (b off : Nat) (l : List TM) : Prop := ∀ i t, l[i]? = some t → w.cell? ⟨b, off + i * 3, none⟩ = some (.string t.nm) ∧ w.cell? ⟨b, off + i * 3 + 1, none⟩ = some (.slice t.cA t.cols.length t.cc) ∧ w.cell? ⟨b, off + i * 3 + 2, none⟩ = some (.slice t.rA t.rows.length t.rc)
def CRowS (w : World) (S : Nat → Prop) (A : Option Addr) (l : List C) : Prop := l = [] ∨ ∃ b off, A = some ⟨b, off, none⟩ ∧ S b ∧ CAt w b off l
structure TRow (w : World) (S : Nat → Prop) (A : Option Addr) (l : List TM) : Prop where
  at_ : l = [] ∨ ∃ b off, A = some ⟨b, off, none⟩ ∧ S b ∧ TAt w b off l
  cols : ∀ t ∈ l, CRowS w S t.cA t.cols
  rows : ∀ t ∈ l, SRow w S t.rA t.rows
section
variable {w w' : World} {S S' : Nat → Prop} {B b off : Nat} {A : Option Addr} {l : List TM} {m : List C}
theorem TAt.kept (h : TAt w b off l) (hk : w'.heap[b]? = w.heap[b]?) : TAt w' b off l := fun i t ht => by
  obtain ⟨h1, h2, h3⟩ := h i t ht
  have hc : ∀ o, w'.cell? ⟨b, o, none⟩ = w.cell? ⟨b, o, none⟩ := fun o => World.cell?_of_block hk
  exact ⟨(hc _).trans h1, (hc _).trans h2, (hc _).trans h3⟩
theorem CRowS.kept (h : CRowS w S A m) (hk : ∀ k, S k → w'.heap[k]? = w.heap[k]?) : CRowS w' S A m := by
  rcases h with h | ⟨b, o, hA, hS, h⟩
  · exact .inl h
  · refine .inr ⟨b, o, hA, hS, fun i c hc => ?_⟩
    have hcc : ∀ o, w'.cell? ⟨b, o, none⟩ = w.cell? ⟨b, o, none⟩ := fun o => World.cell?_of_block (hk b hS)
    obtain ⟨h1, h2⟩ := h i c hc
    exact ⟨(hcc _).trans h1, (hcc _).trans h2⟩
theorem CRowS.mono (h : CRowS w S A m) (hS : ∀ k, S k → S' k) : CRowS w S' A m := by
  rcases h with h | ⟨b, o, hA, hb, h⟩
  · exact .inl h
  · exact .inr ⟨b, o, hA, hS b hb, h⟩
theorem CRowS.to (h : CRowS w S A m) (hS : ∀ k, S k → k < B) : CRow w B A m := by
  rcases h with h | ⟨b, o, hA, hb, h⟩
  · exact .inl h
  · exact .inr ⟨b, o, hA, hS b hb, h⟩
theorem TRow.kept (h : TRow w S A l) (hk : ∀ k, S k → w'.heap[k]? = w.heap[k]?) : TRow w' S A l :=
  ⟨by
    rcases h.at_ with h | ⟨b, o, hA, hS, h⟩
    · exact .inl h
    · exact .inr ⟨b, o, hA, hS, h.kept (hk b hS)⟩, fun t ht => (h.cols t ht).kept hk, fun t ht => (h.rows t ht).kept hk⟩
theorem TRow.mono (h : TRow w S A l) (hS : ∀ k, S k → S' k) : TRow w S' A l :=
  ⟨by
    rcases h.at_ with h | ⟨b, o, hA, hb, h⟩
    · exact .inl h
    · exact .inr ⟨b, o, hA, hS b hb, h⟩, fun t ht => (h.cols t ht).mono hS, fun t ht => (h.rows t ht).mono hS⟩
theorem TRow.below (h : TRow w S A l) (hb : Below B w w') (hS : ∀ k, S k → k < B) : TRow w' S A l := h.kept fun k hk => hb.block k (hS k hk)
theorem TRow.get {i : Nat} {t : TM} (h : TRow w S A l) (ht : l[i]? = some t) : ∃ b off, A = some ⟨b, off, none⟩ ∧ S b ∧ w.cell? ⟨b, off + i * 3, none⟩ = some (.string t.nm) ∧ w.cell? ⟨b, off + i * 3 + 1, none⟩ = some (.slice t.cA t.cols.length t.cc) ∧ w.cell? ⟨b, off + i * 3 + 2, none⟩ = some (.slice t.rA t.rows.length t.rc) := by
  rcases h.at_ with rfl | ⟨b, off, hA, hS, h⟩
  · simp at ht
  · exact ⟨b, off, hA, hS, h i t ht⟩
end

/-- does the sum reach 64? -/
def fullL : Int → List IM → Bool
  | _, [] => false
  | n, x :: l => if 64 ≤ n + x.k then true else fullL (n + x.k) l
theorem fullL_step {l : List IM} {k : Nat} {x : IM} (hx : l[k]? = some x) (n : Int) : fullL n (l.drop k) = if 64 ≤ n + x.k then true else fullL (n + x.k) (l.drop (k + 1)) := by
  obtain ⟨h1, e1⟩ := List.getElem?_eq_some_iff.1 hx
  rw [List.drop_eq_getElem_cons h1, e1]
  rfl

set_option maxHeartbeats 1000000 in
set_option maxRecDepth 100000 in
theorem bfull_any (A : Option Addr) (c : Nat) (l : List IM) (w : World) {S : Nat → Prop} (hA : SRow w S A l) (hS : ∀ k, S k → k < w.heap.size) (hl : l.length ≤ 1073741824) (hk : SOk l) :
    Calls Tryz.prog 70 #[.slice A l.length c] w fun e w' => e = .returned (.bool (fullL 0 l)) ∧ Below w.heap.size w w' := by
  obtain ⟨n, hn⟩ : ∃ n, l.length = n := ⟨_, rfl⟩
  have HN := Lib.hid hn
  have HA := Lib.hid hA
  have HS := Lib.hid hS
  have HK := Lib.hid hk
  rw [hn] at hl ⊢
  clear hA hS hk hn
  have hst := run_store_tal Tryz.prog
  go_enter Tryz.func70, Tryz.ntmps70
  go_wp2_with fail
  go_loopw [3, 8] (fun s i wr => ∃ (k : Nat) (sum : Int), k ≤ n ∧ i = .int .i64 k ∧ s = .int .i64 sum ∧ Below w.heap.size w wr ∧ Hid (fullL 0 l = fullL sum (l.drop k)) ∧ Hid ((sum.natAbs : Int) + vol (its (l.drop k)) ≤ vol (its l))) (fun _ i _ => n - (intOf i).toNat)
  case atStart => exact ⟨0, 0, Nat.zero_le _, rfl, rfl, Below.refl _ _, Lib.hid (by simp), Lib.hid (by simp)⟩
  case round =>
    obtain ⟨k, sum, hk, rfl, rfl, hb, HL, HV⟩ := hrel
    have HB := Lib.hid hb
    have hs := hb.size
    clear hb
    by_cases hlt : k < n
    · obtain ⟨x, hx⟩ : ∃ x, l[k]? = some x := ⟨_, List.getElem?_eq_getElem (by rw [HN.out]; exact hlt)⟩
      obtain ⟨b, off, rfl, hSb, hc1, hc2⟩ := (HA.out.below HB.out HS.out).get hx
      have ht := Lib.hid (fun w1 => tal_net (HK.out.okN (List.mem_of_getElem? hx)) w1)
      have HD := Lib.hid (HL.out.trans (fullL_step hx sum))
      have hvv := HV.out
      rw [its_get hx] at hvv
      simp only [vol, IM.it] at hvv
      have hv1 := HK.out.vol
      have hv2 := vol_nonneg (its (l.drop (k + 1)))
      have HV2 : Hid (((sum + x.k).natAbs : Int) + vol (its (l.drop (k + 1))) ≤ vol (its l)) := Lib.hid (by omega)
      obtain ⟨s2, es2⟩ : ∃ s2, sum + x.k = s2 := ⟨_, rfl⟩
      have hb1 : -1125899906842624 ≤ s2 ∧ s2 ≤ 1125899906842624 := by omega
      have hb2 : -1125899906842624 ≤ sum ∧ sum ≤ 1125899906842624 := by omega
      have hb3 : -1125899906842624 ≤ x.k ∧ x.k ≤ 1125899906842624 := by omega
      rw [es2] at HD HV2
      obtain ⟨xA, xc, xr, xk⟩ := x
      dsimp only at hc1 hc2 ht es2 hb3
      generalize xr.length = xn at hc1
      clear hx HL hvv hv1 hv2 HV
      by_cases hge : 64 ≤ s2
      · have HF : Hid (fullL 0 l = true) := Lib.hid (by rw [HD.out, if_pos hge])
        clear HD HV2
        go_wp2_with (go_at_call 47; refine (ht.out _).mono ?_; rintro e w' ⟨rfl, rfl⟩)
        go_ret
        exact ⟨by rw [HF.out]; rfl, HB.out.alloc hs _⟩
      · have HF : Hid (fullL 0 l = fullL s2 (l.drop (k + 1))) := Lib.hid (by rw [HD.out, if_neg hge])
        clear HD
        go_wp2_with (go_at_call 47; refine (ht.out _).mono ?_; rintro e w' ⟨rfl, rfl⟩)
        go_roundw
        case rel => exact ⟨k + 1, s2, by omega, by go_num, rfl, HB.out.alloc hs _, HF, HV2⟩
        case measure => simp [intOf]; omega
    · obtain rfl : k = n := by omega
      have HF : Hid (fullL 0 l = false) := Lib.hid (by
        rw [HL.out, List.drop_of_length_le (by rw [HN.out]; exact Nat.le_refl _)]
        rfl)
      go_wp2_with fail
      go_ret
      exact ⟨by rw [HF.out]; rfl, HB.out⟩

/-- a table of that name -/
def TM.isB (nm : ByteArray) (t : TM) : Bool := t.nm.toList == nm.toList
theorem bfind_closure (tn nm : ByteArray) (c1 c2 : Option Addr) (n1 m1 n2 m2 : Nat) (p : Addr) (w : World) (h0 : w.cell? p = some (.string nm)) :
    Calls Tryz.prog 74 #[.agg #[.string tn, .slice c1 n1 m1, .slice c2 n2 m2], .pointer (some p)] w fun e w' => e = .returned (.bool (tn.toList == nm.toList)) ∧ w.alloc (.cells #[.string tn, .slice c1 n1 m1, .slice c2 n2 m2] 44) = w' := by
  have hp := block_lt_of_cell h0
  go_enter Tryz.func74, Tryz.ntmps74
  go_wp2
  go_ret
  exact ⟨rfl, rfl⟩

set_option maxHeartbeats 1000000 in
set_option maxRecDepth 100000 in
theorem indexFunc_tab (A : Option Addr) (c : Nat) (l : List TM) (nm : ByteArray) (pb po : Nat) (w : World) {S : Nat → Prop} (hA : TRow w S A l) (hS : ∀ k, S k → k < w.heap.size) (hl : l.length ≤ 1073741824) (h0 : w.cell? ⟨pb, po, none⟩ = some (.string nm)) :
    Calls Tryz.prog 73 #[.slice A l.length c, .func (.func 74) #[] #[.pointer (some ⟨pb, po, none⟩)]] w fun e w' => e = .returned (.int .i64 (idx (TM.isB nm) l 0)) ∧ Below w.heap.size w w' := by
  obtain ⟨n, hn⟩ : ∃ n, l.length = n := ⟨_, rfl⟩
  have HN := Lib.hid hn
  have HA := Lib.hid hA
  have HS := Lib.hid hS
  have hp := block_lt_of_cell h0
  have H0 := Lib.hid h0
  rw [hn] at hl ⊢
  clear hA hS hn h0
  go_enter Tryz.func73, Tryz.ntmps73
  go_wp2_with fail
  go_loopw [8] (fun i wr => ∃ k : Nat, k ≤ n ∧ i = .int .i64 k ∧ Below w.heap.size w wr ∧ Hid (idx (TM.isB nm) l 0 = idx (TM.isB nm) (l.drop k) k)) (fun i _ => n - (intOf i).toNat)
  case atStart => exact ⟨0, Nat.zero_le _, rfl, Below.refl _ _, Lib.hid (by simp)⟩
  case round =>
    obtain ⟨k, hk, rfl, hb, HL⟩ := hrel
    have HB := Lib.hid hb
    have hs := hb.size
    clear hb
    by_cases hlt : k < n
    · obtain ⟨x, hx⟩ : ∃ x, l[k]? = some x := ⟨_, List.getElem?_eq_getElem (by rw [HN.out]; exact hlt)⟩
      obtain ⟨b1, off1, rfl, _, hc1, hc2, hc3⟩ := (HA.out.below HB.out HS.out).get hx
      have hq := Lib.hid (bfind_closure x.nm nm x.cA x.rA x.cols.length x.cc x.rows.length x.rc ⟨pb, po, none⟩ wr ((HB.out.cell hp).trans H0.out))
      have HD := Lib.hid (HL.out.trans (idx_step (p := TM.isB nm) hx))
      rw [show TM.isB nm x = (x.nm.toList == nm.toList) from rfl] at HD
      generalize (x.nm.toList == nm.toList) = z at hq HD
      obtain ⟨xn, cA, cc, cl, rA, rc, rl⟩ := x
      dsimp only at hc1 hc2 hc3 hq
      generalize cl.length = n1 at hc2 hq
      generalize rl.length = n2 at hc3 hq
      clear hx HL
      cases z
      · go_wp2_with fail
        refine hq.out.mono ?_
        rintro e w3 ⟨rfl, rfl⟩
        have HL4 : Hid (idx (TM.isB nm) l 0 = idx (TM.isB nm) (l.drop (k + 1)) (k + 1)) := Lib.hid (by rw [HD.out]; rfl)
        clear HD
        go_wp2_with fail
        go_roundw
        case rel => exact ⟨k + 1, by omega, by go_num, HB.out.alloc hs _, HL4⟩
        case measure => simp [intOf]; omega
      · go_wp2_with fail
        refine hq.out.mono ?_
        rintro e w3 ⟨rfl, rfl⟩
        have HF : Hid (idx (TM.isB nm) l 0 = (k : Int)) := Lib.hid (by rw [HD.out]; rfl)
        clear HD
        go_wp2_with fail
        go_ret
        exact ⟨by rw [HF.out]; rfl, HB.out.alloc hs _⟩
    · obtain rfl : k = n := by omega
      have HF : Hid (idx (TM.isB nm) l 0 = -1) := Lib.hid (by
        rw [HL.out, List.drop_of_length_le (by rw [HN.out]; exact Nat.le_refl _)]
        rfl)
      go_wp2_with fail
      go_ret
      exact ⟨by rw [HF.out]; rfl, HB.out⟩
theorem bfind_any (A : Option Addr) (c : Nat) (l : List TM) (nm : ByteArray) (w : World) {S : Nat → Prop} (hA : TRow w S A l) (hS : ∀ k, S k → k < w.heap.size) (hl : l.length ≤ 1073741824) :
    Calls Tryz.prog 36 #[.slice A l.length c, .string nm] w fun e w' => e = .returned (.int .i64 (idx (TM.isB nm) l 0)) ∧ Below w.heap.size w w' := by
  have hb0 : Below w.heap.size w (w.alloc (.cells #[.string nm] 9)) := (Below.refl _ _).alloc (Nat.le_refl _) _
  have hc := Lib.hid (indexFunc_tab A c l nm w.heap.size 0 (w.alloc (.cells #[.string nm] 9)) ((hA.below hb0 hS).mono (S' := fun k => k < w.heap.size) hS) (fun k hk => by simp; omega) hl (by simp))
  have HB0 := Lib.hid hb0
  generalize idx (TM.isB nm) l 0 = r at *
  generalize l.length = n at *
  clear hA hS hl hb0
  go_enter Tryz.func36, Tryz.ntmps36
  go_wp2_with fail
  refine (hc.out).mono ?_
  rintro e w' ⟨rfl, hb⟩
  have HB2 := Lib.hid (HB0.out.trans (hb.mono (by simp)))
  clear hb
  go_wp2_with fail
  go_ret
  exact ⟨rfl, HB2.out⟩
end Go.Proofs.YtajnnkapgnmoaaaGreat
/-
  zset.Copy: a set in new memory.
-/
namespace Go.Proofs.YtajnnkapgnmoaaaGreat
open Go.RowKit

/-- an item appended to a row of the call's own: where the rows lie -/
theorem snoc_items {w2 wo wc w4 w5 : World} {u v' : Value} {ol : List IM} {x' : IM} (hor : ∀ x ∈ ol, VRowS wo (fun g => NewS w2 wo g ∧ u.ownBlock ≠ some g) x.A x.r) (hown : ∀ g, u.ownBlock = some g → w2.heap.size ≤ g ∧ g < wo.heap.size)
    (hs : w2.heap.size ≤ wo.heap.size) (hb2 : Below w2.heap.size w2 wo) (hb4 : Below wo.heap.size wo w4) (hcs : wo.heap.size ≤ wc.heap.size) (hx : VRowS w4 (NewS wc w4) x'.A x'.r) (o : Obj) (hgrow : (w4.alloc o).grownBy w5 u.ownBlock) (hat : v'.ownBlock = u.ownBlock ∨ v'.ownBlock = some (w4.heap.size + 1)) :
    (∀ z ∈ ol ++ [x'], VRowS w5 (fun g => NewS w2 w5 g ∧ v'.ownBlock ≠ some g) z.A z.r) ∧ Below w2.heap.size w2 w5 := by
  have hs4 := hb4.size
  have hblk : ∀ g, g < w4.heap.size → u.ownBlock ≠ some g → w5.heap[g]? = w4.heap[g]? := fun g h1 h2 => (hgrow.block g (by simp; omega) (fun e => h2 e.symm)).trans (Below.heap_alloc w4 _ g h1)
  have hbw4 : Below w2.heap.size w2 w4 := hb2.trans (hb4.mono hs)
  have hsz5 : w4.heap.size + 1 ≤ w5.heap.size := by have := hgrow.size; simpa using this
  refine ⟨fun z hz => ?_, (hbw4.alloc hbw4.size _).grown hgrow (by simp; omega) (fun g hg => (hown g hg).1)⟩
  rcases List.mem_append.1 hz with hz | hz
  · have hk : ∀ g, NewS w2 wo g ∧ u.ownBlock ≠ some g → w5.heap[g]? = wo.heap[g]? := fun g hg => (hblk g (by have := hg.1.2.1; omega) hg.2).trans (hb4.block g hg.1.2.1)
    refine ((hor z hz).kept hk).mono fun g hg => ⟨⟨hg.1.1, by have := hg.1.2.1; omega, fun o => (frozen_of_block (hk g hg)).trans (hg.1.2.2 o)⟩, ?_⟩
    rcases hat with h | h
    · rw [h]; exact hg.2
    · rw [h]; intro e; have := Option.some.inj e; have := hg.1.2.1; omega
  · rw [List.mem_singleton.1 hz]
    have hne6 : ∀ g, NewS wc w4 g → u.ownBlock ≠ some g := fun g hg e => by have := (hown g e).2; have := hg.1; omega
    refine (hx.kept (fun g hg => hblk g hg.2.1 (hne6 g hg))).mono fun g hg => ⟨⟨by have := hg.1; omega, by have := hg.2.1; omega, fun o => (frozen_of_block (hblk g hg.2.1 (hne6 g hg))).trans (hg.2.2 o)⟩, ?_⟩
    rcases hat with h | h
    · rw [h]; exact hne6 g hg
    · rw [h]; intro e; have := Option.some.inj e; have := hg.2.1; omega
theorem its_take {l : List IM} {k : Nat} {x : IM} (h : l[k]? = some x) : its (l.take (k + 1)) = its (l.take k) ++ [(x.r, x.k)] := by
  obtain ⟨h1, e1⟩ := List.getElem?_eq_some_iff.1 h
  rw [List.take_succ_eq_append_getElem h1, its_append, e1]
  rfl

/-- a list of items that a call gives, in new memory -/
def ListRet (w : World) (l : List It) (w' : World) (A : Option Addr) (c : Nat) (s : List IM) : Prop := s.length ≤ c ∧ SRow w' (NewS w w') A s ∧ its s = l

set_option maxHeartbeats 2000000 in
set_option maxRecDepth 100000 in
theorem zcopy_any (A : Option Addr) (c : Nat) (l : List IM) (w : World) {S : Nat → Prop} (hA : SRow w S A l) (hS : ∀ k, S k → k < w.heap.size) (hl : l.length ≤ 1073741824) (hr : ∀ x ∈ l, rowOk x.r = true) :
    Calls Tryz.prog 67 #[.slice A l.length c] w fun e w' => (∃ A' c' s, e = .returned (.slice A' s.length c') ∧ ListRet w (its l) w' A' c' s) ∧ Below w.heap.size w w' := by
  obtain ⟨i0, hi, hz0, hz1, hz2⟩ := info_parts item_info
  obtain ⟨n, hn⟩ : ∃ n, l.length = n := ⟨_, rfl⟩
  have HN := Lib.hid hn
  have HA := Lib.hid hA
  have HS := Lib.hid hS
  have HR := Lib.hid hr
  rw [hn] at hl ⊢
  clear hA hS hr hn
  have hst := run_store_tal Tryz.prog
  go_enter Tryz.func67, Tryz.ntmps67
  go_wp2_with fail
  go_loopw [3, 8] (fun v i wr => ∃ (k : Nat) (ol : List IM), k ≤ n ∧ i = .int .i64 k ∧ wr.ownsRow w.heap.size 47 2 v ol.length (flatM ol) ∧ Below w.heap.size w wr ∧ ol.length = k ∧ Hid (∀ x ∈ ol, VRowS wr (fun g => NewS w wr g ∧ v.ownBlock ≠ some g) x.A x.r) ∧ Hid (its ol = its (l.take k))) (fun _ i _ => n - (intOf i).toNat)
  case atStart => exact ⟨0, [], Nat.zero_le _, rfl, World.ownsRow_nil _ _ _ _, Below.refl _ _, rfl, Lib.hid (fun x hx => by simp at hx), Lib.hid rfl⟩
  case round =>
    rename World => wo
    obtain ⟨k, ol, hk, rfl, hown, hb, hlen, HOR, HIT⟩ := hrel
    have HO := Lib.hid hown
    have HB := Lib.hid hb
    have hs := hb.size
    clear hown hb
    by_cases hlt : k < n
    · obtain ⟨x, hx⟩ : ∃ x, l[k]? = some x := ⟨_, List.getElem?_eq_getElem (by rw [HN.out]; exact hlt)⟩
      obtain ⟨b, off, rfl, hSb, hc1, hc2⟩ := (HA.out.below HB.out HS.out).get hx
      have hm := List.mem_of_getElem? hx
      have HIT2 := Lib.hid (its_take hx)
      have hx6 := (rowOk_len (HR.out x hm)).2
      have hit := Lib.hid (fun w3 (hb : Below w.heap.size w w3) => item_any x.A x.c x.r x.k w3 ((((HA.out.rows x hm).to HS.out).below hb).more hb.size) (by omega))
      obtain ⟨xA, xc, xr, xk⟩ := x
      dsimp only at hc1 hc2 hit HIT2 hx6
      obtain ⟨xn, hxn⟩ : ∃ xn, xr.length = xn := ⟨_, rfl⟩
      rw [hxn] at hc1 hit
      clear hx hm hSb hxn
      go_wp2_with fail
      refine (hit.out _ (HB.out.alloc hs _)).mono ?_
      rintro e w4 ⟨x', rfl, hxr, hxk, _, hxS, _, hb4⟩
      have HB4 := Lib.hid (((Below.refl wo.heap.size wo).alloc (Nat.le_refl _) _).trans (hb4.mono (by simp)))
      have HXS := Lib.hid hxS
      have HO4 := Lib.hid ((ownM_below HO.out HB4.out).alloc (.cells x'.cs.toArray 47))
      have hs4 := HB4.out.size
      obtain ⟨xA', xc', xr', xk'⟩ := x'
      have HXR := Lib.hid hxr
      have HXK := Lib.hid hxk
      simp only [IM.val]
      simp only [IM.cs] at HO4
      clear hxr hxk hxS hb4 hit
      go_wp2_with (at_builtin; refine wpList_append_any _ rfl _ _ 42 rfl w.heap.size 47 i0 _ 2 40 Tryz.underlying42 hi hz0 hz1 hz2 rfl (by decide) _ _ _ rfl HO4.out (w4.heap.size + 1) _ _ _ (IM.cs ⟨xA', xc', xr', xk'⟩) rfl ⟨rfl, fun _ => ⟨_, rfl, Nat.lt_succ_self _, World.news_of_block (heap_alloc_new w4 _)⟩⟩ ?c1 ?c2 ?c3 ?c4 ?_)
      case c1 => rw [← flatM_one]; exact flatM_ones _
      case c2 => unfold maxLen; omega
      case c3 => omega
      case c4 => first | omega | (simp; omega)
      intro v' w5 hown' hgrow hat
      obtain ⟨hor5, hb5⟩ := snoc_items (x' := ⟨xA', xc', xr', xk'⟩) HOR.out (fun g hg => HO.out.lt g hg) hs HB.out HB4.out (wc := wo.alloc (.cells #[.slice xA xn xc, tal xk] 47)) (by simp) (by rw [HXR.out] at *; exact HXS.out) _ hgrow hat
      have HO5 : Hid (w5.ownsRow w.heap.size 47 2 v' (ol ++ [(⟨xA', xc', xr', xk'⟩ : IM)]).length (flatM (ol ++ [(⟨xA', xc', xr', xk'⟩ : IM)]))) := Lib.hid (by rw [flatM_append, flatM_one, List.length_append, hlen]; exact hown')
      have HIT5 : Hid (its (ol ++ [(⟨xA', xc', xr', xk'⟩ : IM)]) = its (l.take (k + 1))) := Lib.hid (by
        rw [its_append, HIT.out, HIT2.out]
        show _ ++ [(xr', xk')] = _
        rw [show xr' = xr from HXR.out, show xk' = xk from HXK.out])
      have hol5 : (ol ++ [(⟨xA', xc', xr', xk'⟩ : IM)]).length = k + 1 := by rw [List.length_append, hlen]; rfl
      have HOR5 := Lib.hid hor5
      have HB5 := Lib.hid hb5
      generalize ol ++ [(⟨xA', xc', xr', xk'⟩ : IM)] = ol5 at HO5 HOR5 HIT5 hol5
      clear hown' hgrow hat hor5 hb5 HO HOR HO4 HXS HB4 HB HXR HXK HIT HIT2
      go_wp2_with fail
      go_roundw
      case rel => exact ⟨k + 1, ol5, by omega, by go_num, HO5.out, HB5.out, hol5, HOR5, HIT5⟩
      case measure => simp [intOf]; omega
    · obtain rfl : k = n := by omega
      obtain ⟨A3, c3, rfl, hc3, hS3⟩ := own_items (S := NewS w wo) HO.out (fun g h1 h2 h3 => ⟨h1, h2, h3⟩) (fun x hx => (HOR.out x hx).mono fun g hg => hg.1)
      have HS3 := Lib.hid hS3
      clear hS3
      go_wp2_with fail
      go_ret
      refine ⟨⟨A3, c3, ol, rfl, hc3, HS3.out, ?_⟩, HB.out⟩
      rw [HIT.out, List.take_of_length_le (by rw [HN.out]; exact Nat.le_refl _)]
end Go.Proofs.YtajnnkapgnmoaaaGreat
/-
  Columns cloned; rows of tables of the call's own.
-/
namespace Go.Proofs.YtajnnkapgnmoaaaGreat
open Go.RowKit

def C.cs (c : C) : List Value := [.string c.nm, .int .i64 c.k]
def flatC (l : List C) : List Value := l.flatMap C.cs
theorem flatC_len (l : List C) : (flatC l).length = l.length * 2 := by
  induction l with
  | nil => rfl
  | cons v l ih => show ((C.cs v) ++ flatC l).length = _; simp [ih, C.cs]; omega
theorem flatC_get (l : List C) : ∀ (i : Nat) (v : C), l[i]? = some v → (flatC l)[i * 2]? = some (.string v.nm) ∧ (flatC l)[i * 2 + 1]? = some (.int .i64 v.k) := by
  induction l with
  | nil => intro i v h; simp at h
  | cons x l ih =>
    intro i v h
    have e : flatC (x :: l) = C.cs x ++ flatC l := rfl
    rw [e]
    cases i with
    | zero =>
      obtain rfl : x = v := by simpa using h
      exact ⟨rfl, rfl⟩
    | succ i =>
      have := ih i v (by simpa using h)
      have hl : (C.cs x).length = 2 := rfl
      rw [List.getElem?_append_right (by omega), List.getElem?_append_right (by omega), hl]
      rw [show (i + 1) * 2 - 2 = i * 2 from by omega, show (i + 1) * 2 + 1 - 2 = i * 2 + 1 from by omega]
      exact this
theorem flatC_ones (l : List C) : ∀ u ∈ flatC l, u.oneCell' = true := by
  intro u hu
  obtain ⟨v, _, hv⟩ := List.mem_flatMap.1 hu
  simp only [C.cs, List.mem_cons, List.not_mem_nil, or_false] at hv
  rcases hv with rfl | rfl <;> rfl
theorem flatC_split (l : List C) (j : Nat) (u : Value) (h : (flatC l)[j]? = some u) : ∃ v : C, l[j / 2]? = some v ∧ (flatC l)[j / 2 * 2 + j % 2]? = some u := by
  have hj : j < (flatC l).length := (List.getElem?_eq_some_iff.1 h).1
  rw [flatC_len] at hj
  exact ⟨l[j / 2]'(by omega), List.getElem?_eq_getElem (by omega), by rw [show j / 2 * 2 + j % 2 = j from by omega]; exact h⟩
theorem CAt.news {w : World} {b off : Nat} {l : List C} (h : CAt w b off l) (j : Nat) (u : Value) (hu : (flatC l)[j]? = some u) : w.cell? ((⟨b, off, none⟩ : Addr).add j) = some u := by
  obtain ⟨v, hv, hf⟩ := flatC_split l j u hu
  obtain ⟨f1, f2⟩ := flatC_get l _ v hv
  obtain ⟨c1, c2⟩ := h _ v hv
  have e : (⟨b, off, none⟩ : Addr).add j = ⟨b, off + (j / 2 * 2 + j % 2), none⟩ := by
    unfold Addr.add
    split
    · subst_vars; rfl
    · rw [show j / 2 * 2 + j % 2 = j from by omega]
  rw [e]
  have : j % 2 = 0 ∨ j % 2 = 1 := by omega
  rcases this with h3 | h3 <;> rw [h3] at hf ⊢
  · rw [Nat.add_zero] at hf ⊢; rw [f1] at hf; rw [c1]; exact hf
  · rw [f2] at hf; rw [← Nat.add_assoc, c2]; exact hf
theorem CRowS.reads {w : World} {S : Nat → Prop} {A : Option Addr} {l : List C} {B : Nat} (h : CRowS w S A l) (hS : ∀ k, S k → k < B) : Reads w B 2 A l.length (flatC l) := by
  refine ⟨flatC_len l, fun hn => ?_⟩
  rcases h with rfl | ⟨b, off, hA, hb, h⟩
  · simp at hn
  · exact ⟨_, hA, hS b hb, h.news⟩
theorem own_cols {w : World} {S : Nat → Prop} {base : Nat} {e : TypeId} {v : Value} {l : List C} (h : w.ownsRow base e 2 v l.length (flatC l)) (hS : ∀ g, base ≤ g → g < w.heap.size → (∀ o, w.frozen? ⟨g, o, none⟩ = false) → S g) :
    ∃ A c, v = .slice A l.length c ∧ l.length ≤ c ∧ CRowS w S A l := by
  obtain ⟨_, hcase⟩ := id h
  rcases hcase with ⟨rfl, h0⟩ | ⟨g, cap, cur, rfl, hg, hh, hn, hcap, hsz, htake⟩
  · exact ⟨none, 0, by rw [h0], by omega, .inl (List.eq_nil_of_length_eq_zero h0)⟩
  · have hlt : g < w.heap.size := (Array.getElem?_eq_some_iff.1 hh).1
    refine ⟨some ⟨g, 0, none⟩, cap, rfl, hn, .inr ⟨g, 0, rfl, hS g hg hlt (fun o => h.frozenAt o), ?_⟩⟩
    intro i x hx
    obtain ⟨f1, f2⟩ := flatC_get l i x hx
    have hi : i < l.length := (List.getElem?_eq_some_iff.1 hx).1
    rw [Nat.zero_add, h.cellAt _ (by omega), h.cellAt _ (by omega)]
    exact ⟨f1, f2⟩
theorem col_info : (Tryz.prog.info? 100).map (fun i => (i.zero, i.size, i.bytes)) = some (some (.agg #[.string ByteArray.empty, .int .i64 0]), 2, 24) := by kernel_rfl
theorem table_info : (Tryz.prog.info? 44).map (fun i => (i.zero, i.size, i.bytes)) = some (some (.agg #[.string ByteArray.empty, .slice none 0 0, .slice none 0 0]), 3, 64) := by kernel_rfl

def flatB (l : List TM) : List Value := l.flatMap TM.cs
theorem flatB_len (l : List TM) : (flatB l).length = l.length * 3 := by
  induction l with
  | nil => rfl
  | cons v l ih => show ((TM.cs v) ++ flatB l).length = _; simp [ih, TM.cs]; omega
theorem flatB_get (l : List TM) : ∀ (i : Nat) (t : TM), l[i]? = some t → (flatB l)[i * 3]? = some (.string t.nm) ∧ (flatB l)[i * 3 + 1]? = some (.slice t.cA t.cols.length t.cc) ∧ (flatB l)[i * 3 + 2]? = some (.slice t.rA t.rows.length t.rc) := by
  induction l with
  | nil => intro i v h; simp at h
  | cons x l ih =>
    intro i v h
    have e : flatB (x :: l) = TM.cs x ++ flatB l := rfl
    rw [e]
    cases i with
    | zero =>
      obtain rfl : x = v := by simpa using h
      exact ⟨rfl, rfl, rfl⟩
    | succ i =>
      have := ih i v (by simpa using h)
      have hl : (TM.cs x).length = 3 := rfl
      rw [List.getElem?_append_right (by omega), List.getElem?_append_right (by omega), List.getElem?_append_right (by omega), hl]
      rw [show (i + 1) * 3 - 3 = i * 3 from by omega, show (i + 1) * 3 + 1 - 3 = i * 3 + 1 from by omega, show (i + 1) * 3 + 2 - 3 = i * 3 + 2 from by omega]
      exact this
theorem flatB_one (t : TM) : flatB [t] = TM.cs t := by simp [flatB]
theorem flatB_append (a b : List TM) : flatB (a ++ b) = flatB a ++ flatB b := by simp [flatB]
theorem flatB_ones (l : List TM) : ∀ u ∈ flatB l, u.oneCell' = true := by
  intro u hu
  obtain ⟨v, _, hv⟩ := List.mem_flatMap.1 hu
  simp only [TM.cs, List.mem_cons, List.not_mem_nil, or_false] at hv
  rcases hv with rfl | rfl | rfl <;> rfl
theorem own_tabs {w : World} {S : Nat → Prop} {base : Nat} {e : TypeId} {v : Value} {l : List TM} (h : w.ownsRow base e 3 v l.length (flatB l)) (hS : ∀ g, base ≤ g → g < w.heap.size → (∀ o, w.frozen? ⟨g, o, none⟩ = false) → S g) (hc : ∀ t ∈ l, CRowS w S t.cA t.cols) (hr : ∀ t ∈ l, SRow w S t.rA t.rows) :
    ∃ A c, v = .slice A l.length c ∧ l.length ≤ c ∧ TRow w S A l := by
  obtain ⟨_, hcase⟩ := id h
  rcases hcase with ⟨rfl, h0⟩ | ⟨g, cap, cur, rfl, hg, hh, hn, hcap, hsz, htake⟩
  · exact ⟨none, 0, by rw [h0], by omega, .inl (List.eq_nil_of_length_eq_zero h0), hc, hr⟩
  · have hlt : g < w.heap.size := (Array.getElem?_eq_some_iff.1 hh).1
    refine ⟨some ⟨g, 0, none⟩, cap, rfl, hn, .inr ⟨g, 0, rfl, hS g hg hlt (fun o => h.frozenAt o), ?_⟩, hc, hr⟩
    intro i x hx
    obtain ⟨f1, f2, f3⟩ := flatB_get l i x hx
    have hi : i < l.length := (List.getElem?_eq_some_iff.1 hx).1
    rw [Nat.zero_add, h.cellAt _ (by omega), h.cellAt _ (by omega), h.cellAt _ (by omega)]
    exact ⟨f1, f2, f3⟩

set_option maxHeartbeats 1000000 in
set_option maxRecDepth 100000 in
theorem cloneCols (A : Option Addr) (c : Nat) (l : List C) (w : World) {S : Nat → Prop} (hA : CRowS w S A l) (hS : ∀ k, S k → k < w.heap.size) (hl : l.length ≤ 1099511627776) :
    Calls Tryz.prog 66 #[.slice A l.length c] w fun e w' => (∃ v', e = .returned v' ∧ w'.ownsRow w.heap.size 100 2 v' l.length (flatC l)) ∧ Below w.heap.size w w' := by
  obtain ⟨i0, hi, hz0, hz1, hz2⟩ := info_parts col_info
  have HR := Lib.hid (hA.reads hS)
  have q22 : ∀ (w : World) (a : Option Addr) (n c n' c' : Nat), (binOp .eql 40 (.slice a n c) (.slice none n' c')).run Tryz.prog w = .ok (.bool a.isNone) w := fun w a n c n' c' => Lib.run_eql_slice_nil w 40 100 a n c n' c' Tryz.underlying40
  obtain ⟨n, hn⟩ : ∃ n, l.length = n := ⟨_, rfl⟩
  have HN := Lib.hid hn
  rw [hn] at hl ⊢
  rw [hn] at HR
  clear hA hn
  rcases A with _ | ad
  · have hn0 : n = 0 := by
      rcases Nat.eq_zero_or_pos n with h | h
      · exact h
      · obtain ⟨ad, h, _⟩ := HR.out.2 h; cases h
    subst hn0
    have hl0 : l = [] := List.eq_nil_of_length_eq_zero HN.out
    subst hl0
    go_enter Tryz.func66, Tryz.ntmps66
    go_wp2
    go_ret
    exact ⟨⟨_, rfl, World.ownsRow_nil _ _ _ _⟩, Below.refl _ _⟩
  · go_enter Tryz.func66, Tryz.ntmps66
    go_wp2_with (at_builtin; refine wpList_append_any _ rfl _ _ 40 rfl w.heap.size 100 i0 _ 2 24 Tryz.underlying40 hi hz0 hz1 hz2 rfl (by decide) _ _ _ rfl (own_empty_z w 100 (Nat.le_refl _) 2) w.heap.size _ _ _ (flatC l) rfl (HR.out.alloc (Nat.le_refl _) _) ?c1 ?c2 ?c3 ?c4 ?_)
    case c1 => exact flatC_ones _
    case c2 => unfold maxLen; omega
    case c3 => omega
    case c4 => simp
    intro v' w1 hown hgrow _
    have hb := Lib.hid (((Below.refl w.heap.size w).alloc (Nat.le_refl _) _).grown hgrow (by simp) (fun k e => by have := Option.some.inj e; simp at this; omega))
    have ho := Lib.hid hown
    clear hown hgrow
    go_wp2_with fail
    go_ret
    exact ⟨⟨_, rfl, by simpa using ho.out⟩, hb.out⟩
end Go.Proofs.YtajnnkapgnmoaaaGreat
/-
  batch.copied: tables in new memory.
-/
namespace Go.Proofs.YtajnnkapgnmoaaaGreat
open Go.RowKit

/-- what stays, where something is appended to a row of the call's own -/
theorem snoc_blocks {w2 wo w4 w5 : World} {u v' : Value} (hown : ∀ g, u.ownBlock = some g → w2.heap.size ≤ g ∧ g < wo.heap.size)
    (hs : w2.heap.size ≤ wo.heap.size) (hb2 : Below w2.heap.size w2 wo) (hb4 : Below wo.heap.size wo w4) (o : Obj) (hgrow : (w4.alloc o).grownBy w5 u.ownBlock) (hat : v'.ownBlock = u.ownBlock ∨ v'.ownBlock = some (w4.heap.size + 1)) :
    (∀ g, NewS w2 wo g ∧ u.ownBlock ≠ some g → w5.heap[g]? = wo.heap[g]? ∧ NewS w2 w5 g ∧ v'.ownBlock ≠ some g) ∧ (∀ g, NewS wo w4 g → w5.heap[g]? = w4.heap[g]? ∧ NewS w2 w5 g ∧ v'.ownBlock ≠ some g) ∧ Below w2.heap.size w2 w5 := by
  have hs4 := hb4.size
  have hblk : ∀ g, g < w4.heap.size → u.ownBlock ≠ some g → w5.heap[g]? = w4.heap[g]? := fun g h1 h2 => (hgrow.block g (by simp; omega) (fun e => h2 e.symm)).trans (Below.heap_alloc w4 _ g h1)
  have hbw4 : Below w2.heap.size w2 w4 := hb2.trans (hb4.mono hs)
  have hsz5 : w4.heap.size + 1 ≤ w5.heap.size := by have := hgrow.size; simpa using this
  refine ⟨fun g hg => ?_, fun g hg => ?_, (hbw4.alloc hbw4.size _).grown hgrow (by simp; omega) (fun g hg => (hown g hg).1)⟩
  · have hk : w5.heap[g]? = wo.heap[g]? := (hblk g (by have := hg.1.2.1; omega) hg.2).trans (hb4.block g hg.1.2.1)
    refine ⟨hk, ⟨hg.1.1, by have := hg.1.2.1; omega, fun o => (frozen_of_block hk).trans (hg.1.2.2 o)⟩, ?_⟩
    rcases hat with h | h
    · rw [h]; exact hg.2
    · rw [h]; intro e; have := Option.some.inj e; have := hg.1.2.1; omega
  · have hne6 : u.ownBlock ≠ some g := fun e => by have := (hown g e).2; have := hg.1; omega
    have hk := hblk g hg.2.1 hne6
    refine ⟨hk, ⟨by have := hg.1; omega, by have := hg.2.1; omega, fun o => (frozen_of_block hk).trans (hg.2.2 o)⟩, ?_⟩
    rcases hat with h | h
    · rw [h]; exact hne6
    · rw [h]; intro e; have := Option.some.inj e; have := hg.2.1; omega

/-- what a table is, wherever it lies -/
def TM.key (t : TM) : ByteArray × List C × List It := (t.nm, t.cols, its t.rows)
theorem key_take {l : List TM} {k : Nat} {x : TM} (h : l[k]? = some x) : (l.take (k + 1)).map TM.key = (l.take k).map TM.key ++ [x.key] := by
  obtain ⟨h1, e1⟩ := List.getElem?_eq_some_iff.1 h
  rw [List.take_succ_eq_append_getElem h1, List.map_append, e1]
  rfl
/-- tables that a call gives: in new memory, the row of tables the call's own, and apart from what they hold -/
structure TabRet (w : World) (l : List TM) (w' : World) (v : Value) (s : List TM) : Prop where
  own : w'.ownsRow w.heap.size 44 3 v s.length (flatB s)
  cols : ∀ t ∈ s, CRowS w' (fun g => NewS w w' g ∧ v.ownBlock ≠ some g) t.cA t.cols
  rows : ∀ t ∈ s, SRow w' (fun g => NewS w w' g ∧ v.ownBlock ≠ some g) t.rA t.rows
  key : s.map TM.key = l.map TM.key

set_option maxHeartbeats 2000000 in
set_option maxRecDepth 100000 in
theorem bcopied_any (A : Option Addr) (c : Nat) (l : List TM) (w : World) {S : Nat → Prop} (hA : TRow w S A l) (hS : ∀ k, S k → k < w.heap.size) (hl : l.length ≤ 1000000) (hcl : ∀ t ∈ l, t.cols.length ≤ 1000000) (hrl : ∀ t ∈ l, t.rows.length ≤ 1000000) (hr : ∀ t ∈ l, ∀ x ∈ t.rows, rowOk x.r = true) :
    Calls Tryz.prog 32 #[.slice A l.length c] w fun e w' => (∃ v s, e = .returned v ∧ TabRet w l w' v s) ∧ Below w.heap.size w w' := by
  obtain ⟨i0, hi, hz0, hz1, hz2⟩ := info_parts table_info
  obtain ⟨n, hn⟩ : ∃ n, l.length = n := ⟨_, rfl⟩
  have HN := Lib.hid hn
  have HA := Lib.hid hA
  have HS := Lib.hid hS
  have HCL := Lib.hid hcl
  have HRL := Lib.hid hrl
  have HR := Lib.hid hr
  rw [hn] at hl ⊢
  clear hA hS hcl hrl hr hn
  go_enter Tryz.func32, Tryz.ntmps32
  go_wp2_with fail
  go_loopw [3, 8] (fun v i wr => ∃ (k : Nat) (ol : List TM), k ≤ n ∧ i = .int .i64 k ∧ wr.ownsRow w.heap.size 44 3 v ol.length (flatB ol) ∧ Below w.heap.size w wr ∧ ol.length = k ∧ Hid (∀ t ∈ ol, CRowS wr (fun g => NewS w wr g ∧ v.ownBlock ≠ some g) t.cA t.cols) ∧ Hid (∀ t ∈ ol, SRow wr (fun g => NewS w wr g ∧ v.ownBlock ≠ some g) t.rA t.rows) ∧ Hid (ol.map TM.key = (l.take k).map TM.key)) (fun _ i _ => n - (intOf i).toNat)
  case atStart => exact ⟨0, [], Nat.zero_le _, rfl, World.ownsRow_nil _ _ _ _, Below.refl _ _, rfl, Lib.hid (fun x hx => by simp at hx), Lib.hid (fun x hx => by simp at hx), Lib.hid rfl⟩
  case round =>
    rename World => wo
    obtain ⟨k, ol, hk, rfl, hown, hb, hlen, HOC, HOR, HIT⟩ := hrel
    have HO := Lib.hid hown
    have HB := Lib.hid hb
    have hs := hb.size
    clear hown hb
    by_cases hlt : k < n
    · obtain ⟨x, hx⟩ : ∃ x, l[k]? = some x := ⟨_, List.getElem?_eq_getElem (by rw [HN.out]; exact hlt)⟩
      obtain ⟨b, off, rfl, hSb, hc1, hc2, hc3⟩ := (HA.out.below HB.out HS.out).get hx
      have hm := List.mem_of_getElem? hx
      have HIT2 := Lib.hid (key_take hx)
      have hcc := Lib.hid (fun w3 (hb : Below w.heap.size w w3) => cloneCols x.cA x.cc x.cols w3 (S := fun k => k < w3.heap.size) (((HA.out.cols x hm).kept fun k hk => hb.block k (HS.out k hk)).mono fun k hk => Nat.lt_of_lt_of_le (HS.out k hk) hb.size) (fun k hk => hk) (by have := HCL.out x hm; omega))
      have hrc := Lib.hid (fun w3 (hb : Below w.heap.size w w3) => zcopy_any x.rA x.rc x.rows w3 (S := fun k => k < w3.heap.size) (((HA.out.rows x hm).below hb HS.out).mono fun k hk => Nat.lt_of_lt_of_le (HS.out k hk) hb.size) (fun k hk => hk) (by have := HRL.out x hm; omega) (HR.out x hm))
      obtain ⟨xnm, xcA, xcc, xcl, xrA, xrc, xrl⟩ := x
      dsimp only at hc1 hc2 hc3 hcc hrc HIT2
      obtain ⟨xn, hxn⟩ : ∃ xn, xcl.length = xn := ⟨_, rfl⟩
      obtain ⟨xm, hxm⟩ : ∃ xm, xrl.length = xm := ⟨_, rfl⟩
      rw [hxn] at hc2 hcc
      rw [hxm] at hc3 hrc
      have HXN := Lib.hid hxn
      clear hx hm hSb hxn hxm
      go_wp2_with fail
      have HBA : Hid (Below w.heap.size w (wo.alloc (.cells #[.string xnm, .slice xcA xn xcc, .slice xrA xm xrc] 44))) := Lib.hid (HB.out.alloc hs _)
      have HGA : Hid ((wo.alloc (.cells #[.string xnm, .slice xcA xn xcc, .slice xrA xm xrc] 44)).heap[wo.heap.size]? = some (.cells #[.string xnm, .slice xcA xn xcc, .slice xrA xm xrc] 44 (0, 0))) := Lib.hid (heap_alloc_new wo _)
      have HBO : Hid (Below wo.heap.size wo (wo.alloc (.cells #[.string xnm, .slice xcA xn xcc, .slice xrA xm xrc] 44))) := Lib.hid ((Below.refl wo.heap.size wo).alloc (Nat.le_refl _) _)
      have hsa : wo.heap.size < (wo.alloc (.cells #[.string xnm, .slice xcA xn xcc, .slice xrA xm xrc] 44)).heap.size := by simp
      generalize wo.alloc (.cells #[.string xnm, .slice xcA xn xcc, .slice xrA xm xrc] 44) = wa at HBA HGA HBO hsa ⊢
      have hno : some wo.heap.size ≠ u3.ownBlock := fun e => by have := (HO.out.lt _ e.symm).2; omega
      clear hc1 hc2 hc3
      refine wp_region_held_drew (S := fun w' => wa.grownBy w' u3.ownBlock) (by kernel_rfl) ⟨rfl, rfl, rfl, Nat.le_refl _, fun _ _ _ => rfl⟩ (fun hHeld => ?_)
      refine wpAnyH_take (i := 0) (v := u3) rfl (by kernel_rfl) (by kernel_rfl) (by kernel_rfl) (fun _ _ _ h => h) (Or.inl ⟨by rfl, fun w1 hSw => by (go_simp)⟩) (by assumption) ?_
      simp only [List.getElem_toArray, List.getElem_cons_zero, Act.put, List.setIfInBounds_toArray, List.set_cons_zero, List.set_cons_succ]
      refine wpAnyH_take (i := 1) (v := .pointer (some ⟨wo.heap.size, 0, none⟩)) rfl (by kernel_rfl) (by kernel_rfl) (by kernel_rfl) (fun _ _ _ h => h) (Or.inl ⟨by rfl, fun w1 hSw => by (go_simp)⟩) (by assumption) ?_
      simp only [List.getElem_toArray, List.getElem_cons_succ, List.getElem_cons_zero, Act.put, List.setIfInBounds_toArray, List.set_cons_zero, List.set_cons_succ]
      refine wpAnyH_take (i := 2) (v := .string xnm) rfl (by kernel_rfl) (by kernel_rfl) (by kernel_rfl) (fun _ _ _ h => h) (Or.inl ⟨by rfl, fun w1 hSw => by (have hcl := Blk.cell ((hSw.block _ hsa hno).trans HGA.out) 0; simp only [List.getElem?_toArray, List.getElem?_cons_zero] at hcl; go_simp)⟩) (by assumption) ?_
      simp only [List.getElem_toArray, List.getElem_cons_succ, List.getElem_cons_zero, Act.put, List.setIfInBounds_toArray, List.set_cons_zero, List.set_cons_succ]
      refine wpAnyH_take (i := 3) (v := .pointer (some ⟨wo.heap.size, 1, none⟩)) rfl (by kernel_rfl) (by kernel_rfl) (by kernel_rfl) (fun _ _ _ h => h) (Or.inl ⟨by rfl, fun w1 hSw => by (go_simp)⟩) (by assumption) ?_
      simp only [List.getElem_toArray, List.getElem_cons_succ, List.getElem_cons_zero, Act.put, List.setIfInBounds_toArray, List.set_cons_zero, List.set_cons_succ]
      refine wpAnyH_take (i := 4) (v := .slice xcA xn xcc) rfl (by kernel_rfl) (by kernel_rfl) (by kernel_rfl) (fun _ _ _ h => h) (Or.inl ⟨by rfl, fun w1 hSw => by (have hcl := Blk.cell ((hSw.block _ hsa hno).trans HGA.out) 1; simp only [List.getElem?_toArray, List.getElem?_cons_zero, List.getElem?_cons_succ] at hcl; go_simp)⟩) (by assumption) ?_
      simp only [List.getElem_toArray, List.getElem_cons_succ, List.getElem_cons_zero, Act.put, List.setIfInBounds_toArray, List.set_cons_zero, List.set_cons_succ]
      refine wpAnyH_take (i := 6) (v := .pointer (some ⟨wo.heap.size, 2, none⟩)) rfl (by kernel_rfl) (by kernel_rfl) (by kernel_rfl) (fun _ _ _ h => h) (Or.inl ⟨by rfl, fun w1 hSw => by (go_simp)⟩) (by assumption) ?_
      simp only [List.getElem_toArray, List.getElem_cons_succ, List.getElem_cons_zero, Act.put, List.setIfInBounds_toArray, List.set_cons_zero, List.set_cons_succ]
      refine wpAnyH_take (i := 7) (v := .slice xrA xm xrc) rfl (by kernel_rfl) (by kernel_rfl) (by kernel_rfl) (fun _ _ _ h => h) (Or.inl ⟨by rfl, fun w1 hSw => by (have hcl := Blk.cell ((hSw.block _ hsa hno).trans HGA.out) 2; simp only [List.getElem?_toArray, List.getElem?_cons_zero, List.getElem?_cons_succ] at hcl; go_simp)⟩) (by assumption) ?_
      simp only [List.getElem_toArray, List.getElem_cons_succ, List.getElem_cons_zero, Act.put, List.setIfInBounds_toArray, List.set_cons_zero, List.set_cons_succ]
      refine wpAnyH_ready (rs := [5]) (by kernel_rfl) (by simp) ?_
      refine AllReadyH.cons rfl (fun K hK => ?_) AllReadyH.nil
      simp only [List.getElem_toArray, List.getElem_cons_succ, List.getElem_cons_zero]
      go_simp
      refine (hcc.out _ (HBA.out.drew)).mono ?_
      rintro e w3 ⟨⟨vc, rfl, hoc⟩, hb3⟩
      have HB3 := Lib.hid (HBA.out.drew.trans (hb3.mono HBA.out.size))
      have HB3o := Lib.hid (HBO.out.drew.trans (hb3.mono (B' := wo.heap.size) (Nat.le_of_lt hsa)))
      have HB3a : Hid (Below wa.heap.size wa w3) := Lib.hid ⟨hb3.os, hb3.tape, hb3.output, hb3.size, hb3.block⟩
      rw [← HXN.out] at hoc
      obtain ⟨cA', cc', rfl, hcc', hCS⟩ := own_cols (S := NewS wa w3) hoc (fun g h1 h2 h3 => ⟨h1, h2, h3⟩)
      have HCS := Lib.hid hCS
      clear hoc hb3 hCS hcc hcc'
      go_wp2_with fail
      refine hK.out _ _ ⟨HB3a.out.os, HB3a.out.tape, HB3a.out.output, HB3a.out.size, fun k hk _ => HB3a.out.block k hk⟩ (fun hHeld => ?_)
      clear hK K
      refine wpAnyH_ready (rs := [8]) (by kernel_rfl) (by simp) ?_
      refine AllReadyH.cons rfl (fun K hK => ?_) AllReadyH.nil
      simp only [List.getElem_toArray, List.getElem_cons_succ, List.getElem_cons_zero]
      go_simp
      refine (hrc.out _ HB3.out).mono ?_
      rintro e w4 ⟨⟨rA', rc', rs', rfl, hrc1, hrc2, hrc3⟩, hb4⟩
      have hs3 : wa.heap.size ≤ w3.heap.size := HB3a.out.size
      have HB4 := Lib.hid (HB3o.out.trans (hb4.mono (B' := wo.heap.size) (by omega)))
      have HB4b : Hid (Below wa.heap.size wa w4) := Lib.hid (HB3a.out.trans (hb4.mono hs3))
      have HB4a : Hid (wa.grownBy w4 u3.ownBlock) := Lib.hid ⟨HB4b.out.os, HB4b.out.tape, HB4b.out.output, HB4b.out.size, fun k hk _ => HB4b.out.block k hk⟩
      have hs4 : wa.heap.size ≤ w4.heap.size := HB4b.out.size
      have HCS4 : Hid (CRowS w4 (NewS wo w4) cA' xcl) := Lib.hid ((HCS.out.kept fun k hk => hb4.block k hk.2.1).mono fun k hk => (hk.below hb4).lower (Nat.le_of_lt hsa))
      have HRS4 : Hid (SRow w4 (NewS wo w4) rA' rs') := Lib.hid (hrc2.mono fun k hk => hk.lower (by omega))
      have HRK := Lib.hid hrc3
      obtain ⟨x', ex'⟩ : ∃ x' : TM, x' = ⟨xnm, cA', cc', xcl, rA', rc', rs'⟩ := ⟨_, rfl⟩
      have HO4 := Lib.hid ((ownM_below HO.out HB4.out).alloc (.cells #[.string xnm, .slice cA' xn cc', .slice rA' rs'.length rc'] 44))
      rw [HXN.out]
      clear hrc1 hrc2 hrc3 hb4 hrc HCS
      go_wp2_with fail
      refine hK.out _ _ HB4a.out (fun hHeld => ?_)
      clear hK K
      refine wpAnyH_take (i := 9) (v := .agg #[.string xnm, .slice cA' xn cc', .slice rA' rs'.length rc']) rfl (by kernel_rfl) (by kernel_rfl) (by kernel_rfl) (fun _ _ _ h => h) (Or.inl ⟨by rfl, fun w1 hSw => by (go_simp)⟩) (by assumption) ?_
      simp only [List.getElem_toArray, List.getElem_cons_succ, List.getElem_cons_zero, Act.put, List.setIfInBounds_toArray, List.set_cons_zero, List.set_cons_succ]
      refine wpAnyH_ready (rs := [10]) (by kernel_rfl) (by simp) ?_
      refine AllReadyH.cons rfl (fun K hK => ?_) AllReadyH.nil
      simp only [List.getElem_toArray, List.getElem_cons_succ, List.getElem_cons_zero]
      go_simp
      refine hK.out _ _ ⟨HB4a.out.os, HB4a.out.tape, HB4a.out.output, by have := HB4a.out.size; simp; omega, fun k hk hne => (Below.heap_alloc w4 _ k (by omega)).trans (HB4a.out.block k hk hne)⟩ (fun hHeld => ?_)
      clear hK K
      refine wpAnyH_ready (rs := [11]) (by kernel_rfl) (by simp) ?_
      refine AllReadyH.cons rfl (fun K hK => ?_) AllReadyH.nil
      simp only [List.getElem_toArray, List.getElem_cons_succ, List.getElem_cons_zero]
      refine Eq.mpr (if_pos rfl) ?_
      refine wp_append_any _ _ _ 30 rfl w.heap.size 44 i0 _ 3 64 Tryz.underlying30 hi hz0 hz1 hz2 rfl (by decide) _ _ _ rfl HO4.out (w4.heap.size + 1) _ _ _ [.string xnm, .slice cA' xn cc', .slice rA' rs'.length rc'] rfl ⟨rfl, fun _ => ⟨_, rfl, Nat.lt_succ_self _, World.news_of_block (heap_alloc_new w4 _)⟩⟩ ?c1 ?c2 ?c3 ?c4 ?_
      case c1 => intro u hu; simp only [List.mem_cons, List.not_mem_nil, or_false] at hu; rcases hu with rfl | rfl | rfl <;> rfl
      case c2 => unfold maxLen; omega
      case c3 => omega
      case c4 => first | omega | (simp; omega)
      intro v' w5 hown' hgrow hat
      replace hat : v'.ownBlock = u3.ownBlock ∨ v'.ownBlock = some (w4.heap.size + 1) := by
        rcases hat with h | h
        · exact .inl h
        · exact .inr (by simpa using h)
      obtain ⟨hk1, hk2, hb5⟩ := snoc_blocks (v' := v') (fun g hg => HO.out.lt g hg) hs HB.out HB4.out _ hgrow hat
      have hg5 : wa.grownBy w5 u3.ownBlock := ⟨hgrow.os.trans HB4a.out.os, hgrow.tape.trans HB4a.out.tape, hgrow.output.trans HB4a.out.output, by have h1 := HB4a.out.size; have h2 := hgrow.size; simp at h2; omega, fun k hk hne => (hgrow.block k (by simp; omega) hne).trans ((Below.heap_alloc w4 _ k (by omega)).trans (HB4a.out.block k hk hne))⟩
      have HO5 : Hid (w5.ownsRow w.heap.size 44 3 v' (ol ++ [x']).length (flatB (ol ++ [x']))) := Lib.hid (by rw [flatB_append, flatB_one, List.length_append, ex']; simp only [TM.cs, HXN.out]; exact hown')
      have HOC5 : Hid (∀ t ∈ ol ++ [x'], CRowS w5 (fun g => NewS w w5 g ∧ v'.ownBlock ≠ some g) t.cA t.cols) := Lib.hid (fun t ht => by
        rcases List.mem_append.1 ht with ht | ht
        · exact ((HOC.out t ht).kept fun g hg => (hk1 g hg).1).mono fun g hg => (hk1 g hg).2
        · rw [List.mem_singleton.1 ht, ex']
          exact (HCS4.out.kept fun g hg => (hk2 g hg).1).mono fun g hg => (hk2 g hg).2)
      have HOR5 : Hid (∀ t ∈ ol ++ [x'], SRow w5 (fun g => NewS w w5 g ∧ v'.ownBlock ≠ some g) t.rA t.rows) := Lib.hid (fun t ht => by
        rcases List.mem_append.1 ht with ht | ht
        · exact ((HOR.out t ht).kept fun g hg => (hk1 g hg).1).mono fun g hg => (hk1 g hg).2
        · rw [List.mem_singleton.1 ht, ex']
          exact (HRS4.out.kept fun g hg => (hk2 g hg).1).mono fun g hg => (hk2 g hg).2)
      have HIT5 : Hid ((ol ++ [x']).map TM.key = (l.take (k + 1)).map TM.key) := Lib.hid (by
        rw [List.map_append, HIT.out, HIT2.out, ex']
        simp only [List.map_cons, List.map_nil, TM.key, HRK.out])
      have hol5 : (ol ++ [x']).length = k + 1 := by rw [List.length_append, hlen]; rfl
      have HB5 := Lib.hid hb5
      refine hK.out _ _ hg5 (fun hHeld => ?_)
      clear hK K
      simp only [Act.put, List.setIfInBounds_toArray, List.set_cons_zero, List.set_cons_succ]
      refine wpAnyH_take (i := 12) (v := v') rfl (by kernel_rfl) (by kernel_rfl) (by kernel_rfl) (fun _ _ _ h => h) (Or.inl ⟨by rfl, fun w1 hSw => by (go_simp)⟩) (by assumption) ?_
      simp only [List.getElem_toArray, List.getElem_cons_succ, List.getElem_cons_zero, Act.put, List.setIfInBounds_toArray, List.set_cons_zero, List.set_cons_succ]
      refine wpAnyH_done (by kernel_rfl) ?_ _
      generalize ol ++ [x'] = ol5 at HO5 HOC5 HOR5 HIT5 hol5
      clear hown' hgrow hat hk1 hk2 hb5 hg5 HO HOC HOR HO4 HCS4 HRS4 HB4 HB HIT HIT2 hHeld HB4a HB4b HB3 HB3a HB3o HBA HGA HBO hno HRK ex'
      go_wp2_with fail
      go_roundw
      case rel => exact ⟨k + 1, ol5, by omega, by go_num, HO5.out, HB5.out, hol5, HOC5, HOR5, HIT5⟩
      case measure => simp [intOf]; omega
    · obtain rfl : k = n := by omega
      go_wp2_with fail
      go_ret
      exact ⟨⟨_, ol, rfl, ⟨HO.out, HOC.out, HOR.out, by rw [HIT.out, List.take_of_length_le (by rw [HN.out]; exact Nat.le_refl _)]⟩⟩, HB.out⟩
end Go.Proofs.YtajnnkapgnmoaaaGreat
