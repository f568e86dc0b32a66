/-
  slices.symMergeCmpFunc at items, where one of the two runs is a single item.
-/
import Derived.Test.YtajnnkapgnmoaaaGreatMs4
import Derived.Lib.QuietBelow
set_option linter.unusedVariables false
set_option linter.unusedSimpArgs false
namespace Go.Proofs.YtajnnkapgnmoaaaGreat
open Go.RowKit Go.Sort
variable {α : Type} [Inhabited α] {f : α → ItemC} {w0 : World} {blk off : Nat} {d0 : Array α} {cf : α → α → Int}

/-- what is asked of the comparison: of what was there it turns nothing -/
structure CmpB (f : α → ItemC) (cf : α → α → Int) (w0 : World) (blk off size : Nat) : Prop where
  z : w0.drawn = 0
  run : ∀ (dk : Array α) (w : World), dk.size = size → SWK (fun x => (f x).enc) 2 w0 blk off dk w → ∀ x y : α,
    Calls Tryz.prog 81 #[.agg #[.slice (f x).A (f x).n (f x).c, .complex .f64 (f x).x (f x).y], .agg #[.slice (f y).A (f y).n (f y).c, .complex .f64 (f y).x (f y).y]] w fun e w' => e = .returned (.int .i64 (cf x y)) ∧ Below w.heap.size w w'
theorem swk_regrown {d : Array α} {w : World} (hz : w0.drawn = 0) (S : SWK (fun x => (f x).enc) 2 w0 blk off d w) (n : Nat) (os : Array Obj) : SWK (fun x => (f x).enc) 2 w0 blk off d (grow (redrawn w n) os) := by
  obtain ⟨m, os0, rfl⟩ := S
  refine ⟨n, os0 ++ os, ?_⟩
  unfold sortWorldK
  have e : redrawn (grow (putRowK (fun x => (f x).enc) 2 (Sort.ahead w0 m) blk off d) os0) n = grow (putRowK (fun x => (f x).enc) 2 (Sort.ahead w0 n) blk off d) os0 := by
    unfold redrawn grow putRowK putRow mapBlock Sort.ahead
    simp only [hz, Nat.zero_add]
  rw [e, grow_grow]
/-- what the comparison does, in a world of the sort's, and its arguments' cells -/
theorem cmp_step {d : Array α} {w : World} (S : SWK (fun x => (f x).enc) 2 w0 blk off d w) (R : RowK (fun x => (f x).enc) 2 w0 blk off d0) (hC : CmpB f cf w0 blk off d0.size) (hs : d.size = d0.size) (i j : Nat) (hi : i < d.size) (hj : j < d.size) :
    ∃ (t u : ItemC) (r : Int), Hid (ltOf cf d[i]! d[j]! = decide (r < 0)) ∧ (∀ n os, (grow (redrawn w n) os).cell? ⟨blk, off + i * 2, none⟩ = some (.slice t.A t.n t.c) ∧ (grow (redrawn w n) os).cell? ⟨blk, off + i * 2 + 1, none⟩ = some (.complex .f64 t.x t.y) ∧
      (grow (redrawn w n) os).cell? ⟨blk, off + j * 2, none⟩ = some (.slice u.A u.n u.c) ∧ (grow (redrawn w n) os).cell? ⟨blk, off + j * 2 + 1, none⟩ = some (.complex .f64 u.x u.y)) ∧
      (∀ n os, Calls Tryz.prog 81 #[.agg #[.slice t.A t.n t.c, .complex .f64 t.x t.y], .agg #[.slice u.A u.n u.c, .complex .f64 u.x u.y]] (grow (redrawn w n) os) fun e w' => e = .returned (.int .i64 r) ∧ ∃ p : Regrown, w' = grow (redrawn w p.d) p.os) := by
  refine ⟨f d[i]!, f d[j]!, cf d[i]! d[j]!, rfl, fun n os => ?_, fun n os => ?_⟩
  · have h1 := swk_cells (swk_regrown hC.z S n os) R hs hi rfl
    have h2 := swk_cells (swk_regrown hC.z S n os) R hs hj rfl
    exact ⟨h1.1.1, h1.2.1, h2.1.1, h2.2.1⟩
  · exact Calls.regrown_of (hC.run d _ hs (swk_regrown hC.z S n os) d[i]! d[j]!)

set_option maxHeartbeats 4000000 in
set_option maxRecDepth 1000000 in
theorem symMerge_left (R : RowK (fun x => (f x).enc) 2 w0 blk off d0) (hC : CmpB f cf w0 blk off d0.size) (hlt : SWO (ltOf cf)) (cap a m b : Nat) (d : Array α) (hs : d.size = d0.size) (w : World) (S : SWK (fun x => (f x).enc) 2 w0 blk off d w) (ham : m = a + 1) (hmb : m < b) (hb : b ≤ d.size) (hsz : d.size ≤ 1099511627776) :
    Calls Tryz.prog 138 #[.slice (some ⟨blk, off, none⟩) d.size cap, .int .i64 a, .int .i64 m, .int .i64 b, .func (.func 81) #[] #[]] w fun e w' => e = .returned (.tuple #[]) ∧
      ∃ d', Sym (ltOf cf) a m b d d' ∧ SWK (fun x => (f x).enc) 2 w0 blk off d' w' := by
  have S0 : Aside (SWK (fun x => (f x).enc) 2 w0 blk off d w) := S
  have HS : Hid (d.size = d0.size) := hs
  have HC : Aside _ := hC
  clear S hs hC
  have mixed : Tryz.prog.follows .mixedOrders = true := by kernel_rfl
  have em : (m : Int) - (a : Int) = 1 := by omega
  have b4 : a < d.size := by omega
  have HAM : Hid (m = a + 1) := ham
  clear ham
  go_enter Tryz.func138, Tryz.ntmps138
  go_wp2
  go_loopg [10, 11] (b - m) (fun kx s10 s11 wr => ∃ (i j : Nat), s10 = .int .i64 i ∧ s11 = .int .i64 j ∧ m ≤ i ∧ i ≤ j ∧ j ≤ b ∧ j - i ≤ kx ∧ Aside (SWK (fun x => (f x).enc) 2 w0 blk off d wr) ∧ Hid (i = m ∨ ltOf cf d[i - 1]! d[a]! = true) ∧ Hid (j = b ∨ ltOf cf d[j]! d[a]! = false))
  case atStart => exact ⟨m, b, rfl, rfl, Nat.le_refl _, by omega, Nat.le_refl _, Nat.le_refl _, S0, Lib.hid (.inl rfl), Lib.hid (.inl rfl)⟩
  case round =>
    clear S0
    obtain ⟨i, j, rfl, rfl, hmi, hij, hjb, hkx, S1, HI, HJ⟩ := hrel
    by_cases hlt2 : i < j
    · have hltz : (i : Int) < (j : Int) := by omega
      obtain ⟨h, eh, b1, b2⟩ : ∃ h : Nat, ((i : Int) + (j : Int)) / 2 = (h : Int) ∧ i ≤ h ∧ h < j := ⟨(i + j) / 2, by omega, by omega, by omega⟩
      have b3 : h < d.size := by omega
      obtain ⟨t, u, r, HLT, hcell, hcall⟩ := cmp_step S1.out R HC.out HS.out h a b3 b4
      have z1 := fun n os => (hcell n os).1
      have z2 := fun n os => (hcell n os).2.1
      have z3 := fun n os => (hcell n os).2.2.1
      have z4 := fun n os => (hcell n os).2.2.2
      have HCL := Lib.hid hcall
      clear hcell hcall
      obtain ⟨A1, n1, c1, x1, y1⟩ := t
      obtain ⟨A2, n2, c2, x2, y2⟩ := u
      dsimp only at z1 z2 z3 z4 HCL
      go_wp2_with fail
      refine wp_region_quiet_below (by assumption) (by kernel_rfl) ?_
      repeat (quiet_step (first | (go_at_call 81; refine (HCL.out _ _))))
      refine wpQuiet_nil ?_
      intro _ hw'
      obtain ⟨⟨nq, osq⟩, hw''⟩ := hw'
      subst hw''
      have S2 : Aside (SWK (fun x => (f x).enc) 2 w0 blk off d (grow (redrawn wr nq) osq)) := swk_regrown HC.out.z S1.out nq osq
      clear S1 z1 z2 z3 z4 HCL
      generalize grow (redrawn wr nq) osq = wy at S2 ⊢
      by_cases hl : r < 0
      · rw [decide_eq_true hl] at HLT
        go_wp2
        go_roundg (j - (h + 1))
        case measure => omega
        case rel => exact ⟨h + 1, j, by go_num, rfl, by omega, by omega, hjb, Nat.le_refl _, S2, Lib.hid (.inr HLT.out), HJ⟩
      · rw [decide_eq_false hl] at HLT
        go_wp2
        go_roundg (h - i)
        case measure => omega
        case rel => exact ⟨i, h, rfl, rfl, hmi, b1, by omega, Nat.le_refl _, S2, HI, Lib.hid (.inr HLT.out)⟩
    · obtain rfl : i = j := by omega
      have hltz : ¬ (i : Int) < (i : Int) := by omega
      have c0 : a ≤ i - 1 := by have := HAM.out; omega
      have ei : ((i - 1 : Nat) : Int) = (i : Int) - 1 := by have := HAM.out; omega
      go_wp2
      go_loopg [13] (i - 1 - a) (fun kx s13 wr => ∃ (k : Nat) (dk : Array α), s13 = .int .i64 k ∧ a ≤ k ∧ k ≤ i - 1 ∧ i - 1 - k ≤ kx ∧ Aside (SWK (fun x => (f x).enc) 2 w0 blk off dk wr) ∧ Hid (UpTo d dk a k) ∧ Hid (PermIn a b d dk))
      case atStart => exact ⟨a, d, rfl, Nat.le_refl _, c0, Nat.le_refl _, S1, Lib.hid (UpTo.zero _ _), Lib.hid (permIn_refl _ _ _)⟩
      case round =>
        clear S1
        obtain ⟨k, dk, rfl, hak, hki, hkx, S1, HU, HP⟩ := hrel
        have HDS : Hid (dk.size = d.size) := HU.out.1
        by_cases hlt3 : k < i - 1
        · have hltk : (k : Int) < (i : Int) - 1 := by omega
          go_wp2_with fail
          have k1 : k < dk.size := by have := HDS.out; omega
          have k2 : k + 1 < dk.size := by have := HDS.out; omega
          have hz : dk.size = d0.size := HDS.out.trans HS.out
          have ea44 : ((k : Int)).toNat = k := by omega
          have ec44 : ((k : Int) + 1).toNat = k + 1 := by omega
          have pc44 : (0 : Int) ≤ (k : Int) + 1 := by omega
          have ba44 : (k : Int) < (d.size : Int) := by omega
          have bc44 : (k : Int) + 1 < (d.size : Int) := by omega
          have rc44 : IntKind.i64.wrap ((k : Int) + 1) = (k : Int) + 1 := by rw [IntKind.wrap_i64]; omega
          have S2 : Aside (SWK (fun x => (f x).enc) 2 w0 blk off (swp dk k (k + 1)) ((wr.drew.setCells blk (off + k * 2) ((f dk[k + 1]!).enc)).setCells blk (off + (k + 1) * 2) ((f dk[k]!).enc))) := S1.out.swapped R k (k + 1) k1 k2
          obtain ⟨⟨ci1, fi1⟩, ⟨ci2, fi2⟩⟩ := swk_cells S1.out R hz k1 rfl
          obtain ⟨⟨cj1, fj1⟩, ⟨cj2, fj2⟩⟩ := swk_cells S1.out R hz k2 rfl
          generalize f dk[k]! = I at S2 ci1 fi1 ci2 fi2
          generalize f dk[k + 1]! = J at S2 cj1 fj1 cj2 fj2
          obtain ⟨A1, n1, c1, x1, y1⟩ := I
          obtain ⟨A2, n2, c2, x2, y2⟩ := J
          dsimp only [ItemC.enc] at ci1 fi1 ci2 fi2 cj1 fj1 cj2 fj2 S2
          have HU2 := Lib.hid (HU.out.step hak (by omega))
          have HP2 := Lib.hid (permIn_trans d dk _ a b HP.out (swp_permIn dk a b k (k + 1) hak (by omega) (by omega) (by omega) (by have := HDS.out; omega)))
          clear S1 HU HP k1 k2 hz
          have hsc := run_store_complex Tryz.prog
          go_big_region
          go_wp2
          go_roundg (i - 1 - (k + 1))
          case measure => omega
          case rel => exact ⟨k + 1, swp dk k (k + 1), by go_num, by omega, by omega, Nat.le_refl _, S2, HU2, HP2⟩
        · obtain rfl : k = i - 1 := by omega
          have hltk : ¬ ((i - 1 : Nat) : Int) < (i : Int) - 1 := by omega
          go_wp2
          (try simp only [Exit.inBlock, Exit.then])
          refine bodyPost_ret (results_none rfl _ _ _) rfl ?_
          refine ⟨rfl, dk, ⟨HP.out, fun _ s2 => ?_⟩, S1.out⟩
          have := HAM.out
          subst this
          exact up_sorted hlt HU.out hmi hjb s2 HI.out HJ.out
end Go.Proofs.YtajnnkapgnmoaaaGreat
/-
  slices.symMergeCmpFunc at items, where the second run is a single item.
-/
namespace Go.Proofs.YtajnnkapgnmoaaaGreat
open Go.RowKit Go.Sort
variable {α : Type} [Inhabited α] {f : α → ItemC} {w0 : World} {blk off : Nat} {d0 : Array α} {cf : α → α → Int}

set_option maxHeartbeats 4000000 in
set_option maxRecDepth 1000000 in
theorem symMerge_right (R : RowK (fun x => (f x).enc) 2 w0 blk off d0) (hC : CmpB f cf w0 blk off d0.size) (hlt : SWO (ltOf cf)) (cap a m b : Nat) (d : Array α) (hs : d.size = d0.size) (w : World) (S : SWK (fun x => (f x).enc) 2 w0 blk off d w) (ham : a + 1 < m) (hmb : b = m + 1) (hb : b ≤ d.size) (hsz : d.size ≤ 1099511627776) :
    Calls Tryz.prog 138 #[.slice (some ⟨blk, off, none⟩) d.size cap, .int .i64 a, .int .i64 m, .int .i64 b, .func (.func 81) #[] #[]] w fun e w' => e = .returned (.tuple #[]) ∧
      ∃ d', Sym (ltOf cf) a m b d d' ∧ SWK (fun x => (f x).enc) 2 w0 blk off d' w' := by
  have S0 : Aside (SWK (fun x => (f x).enc) 2 w0 blk off d w) := S
  have HS : Hid (d.size = d0.size) := hs
  have HC : Aside _ := hC
  clear S hs hC
  have mixed : Tryz.prog.follows .mixedOrders = true := by kernel_rfl
  have em : ((m : Int) - (a : Int) == 1) = false := by simp; omega
  have em2 : (b : Int) - (m : Int) = 1 := by omega
  have b4 : m < d.size := by omega
  have HAM : Hid (b = m + 1) := hmb
  clear hmb
  go_enter Tryz.func138, Tryz.ntmps138
  go_wp2
  go_loopg [14, 15] (m - a) (fun kx s14 s15 wr => ∃ (i j : Nat), s14 = .int .i64 i ∧ s15 = .int .i64 j ∧ a ≤ i ∧ i ≤ j ∧ j ≤ m ∧ j - i ≤ kx ∧ Aside (SWK (fun x => (f x).enc) 2 w0 blk off d wr) ∧ Hid (i = a ∨ ltOf cf d[m]! d[i - 1]! = false) ∧ Hid (j = m ∨ ltOf cf d[m]! d[j]! = true))
  case atStart => exact ⟨a, m, rfl, rfl, Nat.le_refl _, by omega, Nat.le_refl _, Nat.le_refl _, S0, Lib.hid (.inl rfl), Lib.hid (.inl rfl)⟩
  case round =>
    clear S0
    obtain ⟨i, j, rfl, rfl, hmi, hij, hjb, hkx, S1, HI, HJ⟩ := hrel
    by_cases hlt2 : i < j
    · have hltz : (i : Int) < (j : Int) := by omega
      obtain ⟨h, eh, b1, b2⟩ : ∃ h : Nat, ((i : Int) + (j : Int)) / 2 = (h : Int) ∧ i ≤ h ∧ h < j := ⟨(i + j) / 2, by omega, by omega, by omega⟩
      have b3 : h < d.size := by omega
      obtain ⟨t, u, r, HLT, hcell, hcall⟩ := cmp_step S1.out R HC.out HS.out m h b4 b3
      have z1 := fun n os => (hcell n os).1
      have z2 := fun n os => (hcell n os).2.1
      have z3 := fun n os => (hcell n os).2.2.1
      have z4 := fun n os => (hcell n os).2.2.2
      have HCL := Lib.hid hcall
      clear hcell hcall
      obtain ⟨A1, n1, c1, x1, y1⟩ := t
      obtain ⟨A2, n2, c2, x2, y2⟩ := u
      dsimp only at z1 z2 z3 z4 HCL
      by_cases hl : r < 0
      · rw [decide_eq_true hl] at HLT
        go_wp2_with fail
        refine wp_region_quiet_below (by assumption) (by kernel_rfl) ?_
        repeat (quiet_step (first | (go_at_call 81; refine (HCL.out _ _))))
        refine wpQuiet_nil ?_
        intro _ hw'
        obtain ⟨⟨nq, osq⟩, hw''⟩ := hw'
        subst hw''
        have S2 : Aside (SWK (fun x => (f x).enc) 2 w0 blk off d (grow (redrawn wr nq) osq)) := swk_regrown HC.out.z S1.out nq osq
        clear S1 z1 z2 z3 z4 HCL
        generalize grow (redrawn wr nq) osq = wy at S2 ⊢
        go_wp2
        go_roundg (h - i)
        case measure => omega
        case rel => exact ⟨i, h, rfl, rfl, hmi, b1, by omega, Nat.le_refl _, S2, HI, Lib.hid (.inr HLT.out)⟩
      · rw [decide_eq_false hl] at HLT
        have dl : decide (r < 0) = false := decide_eq_false hl
        go_wp2_with fail
        refine wp_region_quiet_below (by assumption) (by kernel_rfl) ?_
        repeat (quiet_step (first | (go_at_call 81; refine (HCL.out _ _))))
        refine wpQuiet_nil ?_
        intro _ hw'
        obtain ⟨⟨nq, osq⟩, hw''⟩ := hw'
        subst hw''
        have S2 : Aside (SWK (fun x => (f x).enc) 2 w0 blk off d (grow (redrawn wr nq) osq)) := swk_regrown HC.out.z S1.out nq osq
        clear S1 z1 z2 z3 z4 HCL
        generalize grow (redrawn wr nq) osq = wy at S2 ⊢
        go_wp2
        go_roundg (j - (h + 1))
        case measure => omega
        case rel => exact ⟨h + 1, j, by go_num, rfl, by omega, by omega, hjb, Nat.le_refl _, S2, Lib.hid (.inr HLT.out), HJ⟩
    · obtain rfl : i = j := by omega
      have hltz : ¬ (i : Int) < (i : Int) := by omega
      go_wp2
      go_loopg [17] (m - i) (fun kx s17 wr => ∃ (k : Nat) (dk : Array α), s17 = .int .i64 k ∧ i ≤ k ∧ k ≤ m ∧ k - i ≤ kx ∧ Aside (SWK (fun x => (f x).enc) 2 w0 blk off dk wr) ∧ Hid (DownTo d dk m k) ∧ Hid (PermIn a b d dk))
      case atStart => exact ⟨m, d, rfl, hjb, Nat.le_refl _, Nat.le_refl _, S1, Lib.hid (DownTo.zero _ _), Lib.hid (permIn_refl _ _ _)⟩
      case round =>
        clear S1
        obtain ⟨k, dk, rfl, hik, hkm, hkx, S1, HU, HP⟩ := hrel
        have HDS : Hid (dk.size = d.size) := HU.out.1
        by_cases hlt3 : i < k
        · obtain ⟨kp, rfl⟩ : ∃ kp, k = kp + 1 := ⟨k - 1, by omega⟩
          have hltk : (i : Int) < (kp : Int) + 1 := by omega
          go_wp2_with fail
          have k1 : kp < dk.size := by have := HDS.out; omega
          have k2 : kp + 1 < dk.size := by have := HDS.out; omega
          have hz : dk.size = d0.size := HDS.out.trans HS.out
          have ea44 : ((kp : Int)).toNat = kp := by omega
          have ec44 : ((kp : Int) + 1).toNat = kp + 1 := by omega
          have pc44 : (0 : Int) ≤ (kp : Int) + 1 := by omega
          have ba44 : (kp : Int) < (d.size : Int) := by omega
          have bc44 : (kp : Int) + 1 < (d.size : Int) := by omega
          have rc44 : IntKind.i64.wrap ((kp : Int) + 1) = (kp : Int) + 1 := by rw [IntKind.wrap_i64]; omega
          have ra44 : IntKind.i64.wrap (kp : Int) = (kp : Int) := by rw [IntKind.wrap_i64]; omega
          have S2 : Aside (SWK (fun x => (f x).enc) 2 w0 blk off (swp dk (kp + 1) kp) ((wr.drew.setCells blk (off + (kp + 1) * 2) ((f dk[kp]!).enc)).setCells blk (off + kp * 2) ((f dk[kp + 1]!).enc))) := S1.out.swapped R (kp + 1) kp k2 k1
          obtain ⟨⟨ci1, fi1⟩, ⟨ci2, fi2⟩⟩ := swk_cells S1.out R hz k1 rfl
          obtain ⟨⟨cj1, fj1⟩, ⟨cj2, fj2⟩⟩ := swk_cells S1.out R hz k2 rfl
          generalize f dk[kp]! = I at S2 ci1 fi1 ci2 fi2
          generalize f dk[kp + 1]! = J at S2 cj1 fj1 cj2 fj2
          obtain ⟨A1, n1, c1, x1, y1⟩ := I
          obtain ⟨A2, n2, c2, x2, y2⟩ := J
          dsimp only [ItemC.enc] at ci1 fi1 ci2 fi2 cj1 fj1 cj2 fj2 S2
          have HU2 := Lib.hid (HU.out.step (by omega) b4)
          have HP2 := Lib.hid (permIn_trans d dk _ a b HP.out (swp_permIn dk a b (kp + 1) kp (by omega) (by have := HAM.out; omega) (by omega) (by have := HAM.out; omega) (by have := HDS.out; omega)))
          clear S1 HU HP k1 k2 hz
          have hsc := run_store_complex Tryz.prog
          go_big_region
          go_wp2
          go_roundg (kp - i)
          case measure => omega
          case rel => exact ⟨kp, swp dk (kp + 1) kp, by first | rfl | go_num | (congr 1; omega), by omega, by omega, Nat.le_refl _, S2, HU2, HP2⟩
        · obtain rfl : k = i := by omega
          have hltk : ¬ (k : Int) < (k : Int) := by omega
          go_wp2
          (try simp only [Exit.inBlock, Exit.then])
          refine bodyPost_ret (results_none rfl _ _ _) rfl ?_
          refine ⟨rfl, dk, ⟨HP.out, fun s1 _ => ?_⟩, S1.out⟩
          have := HAM.out
          subst this
          exact down_sorted hlt HU.out hmi hjb s1 HI.out HJ.out
end Go.Proofs.YtajnnkapgnmoaaaGreat
