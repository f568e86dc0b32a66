/-
  Package sexp's reader, whole: it computes what readE says; the tree lies in new memory.
-/
import Derived.Test.YtldleckgkgeclaaDoorSxQ
import Derived.Test.YtldleckgkgeclaaDoorSxP
import Derived.Test.YtldleckgkgeclaaDoorSxT
set_option linter.unusedVariables false
set_option linter.unusedSimpArgs false
namespace Go.Proofs.YtldleckgkgeclaaDoor
open Go.RowKit
theorem results_read {fn : Func} {p q r : Tmp} (h : fn.results = #[.cell p 24, .tmp q, .tmp r]) {tmps : Array Value} {w : World} {g : Nat} {x0 x1 x2 x3 x4 a b : Value} {t : TypeId}
    (hp : tmps.getD p undef = .pointer (some ⟨g, 0, none⟩)) (hq : tmps.getD q undef = a) (hr : tmps.getD r undef = b) (hg : w.heap[g]? = some (.cells #[x0, x1, x2, x3, x4] t (0, 0))) : (results fn tmps).run Tryd.prog w = .ok (.tuple #[.agg #[x0, x1, x2, x3, x4], a, b]) w := by
  have hp' : tmps[p]?.getD undef = .pointer (some ⟨g, 0, none⟩) := by simpa using hp
  have hq' : tmps[q]?.getD undef = a := by simpa using hq
  have hr' : tmps[r]?.getD undef = b := by simpa using hr
  have hl := run_loadVar_row (P := Tryd.prog) w g t 24 #[x0, x1, x2, x3, x4] (0, 0) _ hg Tryd.underlying24 rfl (by show _ = some 5; kernel_rfl)
  simp [results, h, hp', hq', hr', asAddr, hl]
theorem put5_other {w : World} {p k : Nat} {x0 x1 x2 x3 x4 : Value} (h : k ≠ p) : (put5 w p x0 x1 x2 x3 x4).heap[k]? = w.heap[k]? := by
  simp only [put5, World.setCell, Array.getElem?_modify]
  rw [if_neg (by omega), if_neg (by omega), if_neg (by omega), if_neg (by omega), if_neg (by omega)]
theorem put5_size {w : World} {p : Nat} {x0 x1 x2 x3 x4 : Value} : (put5 w p x0 x1 x2 x3 x4).heap.size = w.heap.size := by simp [put5, World.setCell]
def ReadIs (w : World) (R : T × Int × Int) (e : Ending) (w' : World) : Prop := ∃ (A : Option Addr) (c : Nat),
  e = .returned (.tuple #[.agg #[.int .i64 R.1.k, .string R.1.s, .int .i64 R.1.n, .slice A R.1.kids.length c, .int .i64 R.1.at_], .int .i64 R.2.1, .int .i64 R.2.2]) ∧ R.1.kids.length ≤ c ∧ XTK w' (fun k => w.heap.size ≤ k ∧ k < w'.heap.size) A R.1.kids
theorem ReadIs.none_ {w w' : World} {R : T × Int × Int} {e : Ending} {why place : Int} (h : R = (zeroT, why, place)) (he : e = .returned (.tuple #[.agg #[.int .i64 0, .string ⟨#[]⟩, .int .i64 0, .slice none 0 0, .int .i64 0], .int .i64 why, .int .i64 place])) : ReadIs w R e w' := by
  subst h
  exact ⟨none, 0, he, Nat.le_refl _, .nil _⟩
/-- what holds at a jump to label l -/
structure RD (s : ByteArray) (w : World) (R : T × Int × Int) (l i : Nat) (σ : St) (w1 : World) : Prop where
  inv : RInv s w σ w1
  is : i ≤ s.size
  run : readE s (σ.ps.map Prod.fst) (σ.dn.map Prod.fst) i = R
  few : σ.ps.length ≤ 12
  kids : ∀ p ∈ σ.ps, p.1.kids.length ≤ i
  lab : l = 1 ∨ (l = 0 ∧ ¬ i < s.size) ∨ (l = 2 ∧ i < s.size ∧ ((bt s i).toNat : Int) = 40) ∨ (l = 3 ∧ i < s.size ∧ ((bt s i).toNat : Int) = 41)
def RJ (s : ByteArray) (w : World) (R : T × Int × Int) (n l : Nat) (a : Act) (w1 : World) : Prop := ∃ (i : Nat) (q : Int) (σ : St), RFrame s w.heap.size (w.heap.size + 1) q a ∧ q = (i : Int) ∧ n = 2 * (s.size - i) + (if l = 1 then 1 else 0) ∧ Hid (RD s w R l i σ w1)
theorem RD.next {s : ByteArray} {w : World} {R : T × Int × Int} {l i j : Nat} {σ σ' : St} {w1 w2 : World} (h : RD s w R l i σ w1) (hi : RInv s w σ' w2) (hj : j ≤ s.size) (hr : readE s (σ'.ps.map Prod.fst) (σ'.dn.map Prod.fst) j = R) (hf : σ'.ps.length ≤ 12)
    (hk : ∀ p ∈ σ'.ps, p.1.kids.length ≤ j) : RD s w R 1 j σ' w2 := ⟨hi, hj, hr, hf, hk, .inl rfl⟩
set_option linter.unusedSimpArgs false in
set_option maxRecDepth 100000 in
set_option maxHeartbeats 20000000 in
theorem read_sexp (hP : ParseHere) (hH : HexHere) (s : ByteArray) (hs : s.size ≤ 600) (w : World) (hE : Errs w) : Calls Tryd.prog 7 #[.string s] w fun e w' => ReadIs w (readE s [] [] 0) e w' ∧ Below w.heap.size w w' := by
  obtain ⟨R, hR⟩ : ∃ R, R = readE s [] [] 0 := ⟨_, rfl⟩
  rw [← hR]
  have HRR := Lib.hid hR
  obtain ⟨w1, ew1⟩ : ∃ w1, w1 = w.alloc (.cells #[.int .i64 0, .string ⟨#[]⟩, .int .i64 0, .slice none 0 0, .int .i64 0] 24) := ⟨_, rfl⟩
  have hb1 : Below w.heap.size w w1 := by rw [ew1]; exact (Below.refl _ _).alloc (Nat.le_refl _) _
  have hs1 : w1.heap.size = w.heap.size + 1 := by rw [ew1]; simp
  have hx1 : w1.heap[w.heap.size]? = some (.cells #[.int .i64 0, .string ⟨#[]⟩, .int .i64 0, .slice none 0 0, .int .i64 0] 24 (0, 0)) := by rw [ew1]; exact heap_alloc_new w _
  obtain ⟨w2, ew2⟩ : ∃ w2, w2 = w1.alloc (.cells #[.string s, .slice none 0 0, .slice none 0 0] 52) := ⟨_, rfl⟩
  have hb2 : Below w1.heap.size w1 w2 := by rw [ew2]; exact (Below.refl _ _).alloc (Nat.le_refl _) _
  have hs2 : w2.heap.size = w.heap.size + 1 + 1 := by rw [ew2]; simp; omega
  have hg2 : w2.heap[w.heap.size + 1]? = some (.cells #[.string s, .slice none 0 0, .slice none 0 0] 52 (0, 0)) := by rw [ew2, ← hs1]; exact heap_alloc_new w1 _
  have HI0 : Hid (RInv s w ⟨[], [], none, 0, none, 0⟩ w2) := Lib.hid ⟨hb1.trans (hb2.mono (by omega)), by omega, (hb2.block _ (by omega)).trans hx1, hg2, ⟨rfl, .inl ⟨rfl, rfl⟩⟩, ⟨rfl, .inl ⟨rfl, rfl⟩⟩, fun k hk => absurd hk bk_none, fun p hp => (by cases hp), fun i j p q hi => (by simp at hi), fun p hp => (by cases hp), fun q hq => (by cases hq), .inl rfl, fun _ => ⟨rfl, rfl⟩⟩
  have HW1 := Lib.hid ew1
  have HW2 := Lib.hid ew2
  have HE := Lib.hid hE
  have h600 : decide (600 < (s.size : Int)) = false := by simp; omega
  clear ew1 ew2 hb1 hb2 hx1 hg2 hE hR
  go_enter Tryd.func7, Tryd.ntmps7
  go_upto_region 1 with (fail)
  rw [← HW1.out]
  go_wp2_with fail
  clear h600
  refine wp_scope_ghost (RJ s w R) (fun hlab => ?_) (fun n l a w3 hJ => ?_)
  · have HLB := Lib.hid (fun n => hlab n 1 _ rfl)
    clear hlab
    go_wp2_with fail
    refine wp_label ?_
    simp only [Exit.then]
    rename_i hK0
    rw [← HW2.out]
    refine hK0 _ _ (HLB.out (2 * (s.size - 0) + (if (1 : Nat) = 1 then 1 else 0)) _ _ ?_)
    exact ⟨0, 0, ⟨[], [], none, 0, none, 0⟩, ⟨_, rfl, by kernel_rfl, by kernel_rfl, by kernel_rfl, by kernel_rfl, by kernel_rfl⟩, rfl, rfl, Lib.hid ⟨HI0.out, Nat.zero_le _, HRR.out.symm, by decide, fun p hp => (by cases hp), .inl rfl⟩⟩
  · obtain ⟨i, q, σ, hfr, rfl, rfl, hD⟩ := hJ
    obtain ⟨u, rfl⟩ := hfr.form
    clear hfr
    clear HI0 HW1 HW2 hs1 hs2
    have hlab := hD.out.lab
    have hrd := hD.out.inv.rd
    have hsz := hD.out.inv.size
    have HLOW := Lib.hid hD.out.inv.low
    have HRES := Lib.hid hD.out.inv.res
    have HRUN := Lib.hid hD.out.run
    have HRD := Lib.hid hrd
    have his := hD.out.is
    have HE3 := Lib.hid (HE.out.below HLOW.out)
    have ha1 : w3.cell? ⟨w.heap.size + 1, 1, none⟩ = some (.slice σ.A σ.ps.length σ.c) := by simp [World.cell?, hrd]
    have ha2 : w3.cell? ⟨w.heap.size + 1, 2, none⟩ = some (.slice σ.B σ.dn.length σ.cB) := by simp [World.cell?, hrd]
    have hwh := Lib.hid (whole_any hrd)
    obtain ⟨⟨z0, z1, z2, z3, z4⟩, y0, y1, y2, y3, y4⟩ := cell5 HRES.out
    clear hrd
    rcases hlab with rfl | ⟨rfl, hl0⟩ | ⟨rfl, hl0, hl1⟩ | ⟨rfl, hl0, hl1⟩
    · refine ⟨_, rfl, ?_⟩
      by_cases hlt : i < s.size
      · have HBT := Lib.hid (bt_eq hlt)
        have hge : decide ((s.size : Int) ≤ (i : Int)) = false := by simp; omega
        cases h32 : ((s[i].toNat : Int) == 32)
        · have n32 := Lib.hid (show ¬ ((bt s i).toNat : Int) = 32 by rw [HBT.out]; simpa using h32)
          cases h10 : ((s[i].toNat : Int) == 10)
          · have n10 := Lib.hid (show ¬ ((bt s i).toNat : Int) = 10 by rw [HBT.out]; simpa using h10)
            cases h40 : ((s[i].toNat : Int) == 40)
            · have n40 := Lib.hid (show ¬ ((bt s i).toNat : Int) = 40 by rw [HBT.out]; simpa using h40)
              cases h41 : ((s[i].toNat : Int) == 41)
              · have n41 := Lib.hid (show ¬ ((bt s i).toNat : Int) = 41 by rw [HBT.out]; simpa using h41)
                have hone := one_any hP hH s i hlt hs (w.heap.size + 1) σ.dn.length σ.cB σ.B (.slice σ.A σ.ps.length σ.c) w3 HE3.out HRD.out
                have hend := oneE_end (s := s) (decide (0 < σ.dn.length)) hlt
                have HBAD := Lib.hid (fun hw => (readE_bad (op := σ.ps.map Prod.fst) (dn := σ.dn.map Prod.fst) hlt n32.out n10.out n40.out n41.out hw))
                have HLEAF := Lib.hid (fun hw => (readE_leaf (op := σ.ps.map Prod.fst) (dn := σ.dn.map Prod.fst) hlt n32.out n10.out n40.out n41.out hw))
                rw [List.length_map] at HBAD HLEAF
                have HDL : Hid (decide (0 < σ.dn.length) = false → σ.dn = []) := Lib.hid (fun h => by simp at h; exact h)
                generalize hrr : oneE s i (decide (0 < σ.dn.length)) = r at *
                obtain ⟨t, en, why, pl⟩ := r
                simp only at hend HBAD HLEAF
                unfold OneIs at hone
                simp only at hone
                have HONE := Lib.hid hone
                have HEND := Lib.hid hend
                clear hone hend hrr n32 n10 n40 n41 HBT
                go_wp2_with fail
                refine (HONE.out).mono ?_
                rintro e w4 ⟨⟨rfl, hkids⟩, hb4⟩
                obtain ⟨w5, ew5⟩ : ∃ w5, w5 = w4.alloc (.cells #[.int .i64 t.k, .string t.s, .int .i64 t.n, .slice none 0 0, .int .i64 t.at_] 24) := ⟨_, rfl⟩
                have hb5 : Below w4.heap.size w4 w5 := by rw [ew5]; exact (Below.refl _ _).alloc (Nat.le_refl _) _
                have hn5 : w5.heap[w4.heap.size]? = some (.cells #[.int .i64 t.k, .string t.s, .int .i64 t.n, .slice none 0 0, .int .i64 t.at_] 24 (0, 0)) := by rw [ew5]; exact heap_alloc_new w4 _
                have hr5 := (hD.out.inv.below hb4).below hb5
                have HADD := Lib.hid (fun hd => add_any hr5 (t, none, 0) ⟨by simp only [hkids]; exact Nat.le_refl _, by simp only [hkids]; exact .nil _⟩ hD.out.few (fun p hp => by have := hD.out.kids p hp; omega) hd)
                simp only [hkids, List.length_nil] at HADD
                have HR5 := Lib.hid hr5
                have HRES := Lib.hid hr5.res
                have HLOW := Lib.hid hr5.low
                have HN5 := Lib.hid hn5
                have HW5 := Lib.hid ew5
                have HKT := Lib.hid hkids
                clear hb4 hb5 hn5 hr5 ew5 hkids z0 z1 z2 z3 z4 y0 y1 y2 y3 y4
                go_upto_region 13 with (fail)
                rw [← HW5.out]
                by_cases hy : why = 0
                · subst hy
                  obtain ⟨he1, he2, hwf⟩ := HEND.out.2.1 rfl
                  have hdn := HDL.out hwf
                  have hadd := Lib.hid (HADD.out (fun _ => hdn))
                  have HRN := Lib.hid ((HLEAF.out rfl).symm.trans HRUN.out)
                  obtain ⟨⟨k0, k1, k2, k3, k4⟩, _, _, _, _, _⟩ := cell5 HN5.out
                  clear HADD HBAD HLEAF HDL
                  go_wp2_with fail
                  refine (hadd.out).mono ?_
                  rintro e w6 ⟨rfl, σ2, hr6, hadd2, hlen2, _, hkid2⟩
                  have hlen3 : σ2.ps.length ≤ 12 := by rw [hlen2]; exact hD.out.few
                  have HR6 := Lib.hid hr6
                  have HRU : Hid (readE s (σ2.ps.map Prod.fst) (σ2.dn.map Prod.fst) en.toNat = R) := Lib.hid (by
                    have h1 := congrArg Prod.fst hadd2
                    have h2 := congrArg Prod.snd hadd2
                    simp only at h1 h2
                    rw [h1, h2]
                    exact HRN.out)
                  have HKD : Hid (∀ p ∈ σ2.ps, p.1.kids.length ≤ en.toNat) := Lib.hid (fun p hp => by
                    obtain ⟨p0, hp0, h⟩ := hkid2 p hp
                    have := hD.out.kids p0 hp0
                    omega)
                  clear hr6 hadd2 hlen2 hkid2 hdn
                  go_wp2_with fail
                  go_step3
                  (try simp only [Exit.inBlock, Exit.then, exitJumps])
                  refine ⟨2 * (s.size - (en.toNat)) + (if (1 : Nat) = 1 then 1 else 0), ?_, en.toNat, en, σ2, ⟨_, rfl, by kernel_rfl, by kernel_rfl, by kernel_rfl, by kernel_rfl, by kernel_rfl⟩, ?_, rfl, Lib.hid (⟨HR6.out, by omega, HRU.out, hlen3, HKD.out, .inl rfl⟩)⟩
                  · simp only [if_true, reduceCtorEq, Nat.reduceEqDiff, if_false]; omega
                  · omega
                · have hyb : (why != 0) = true := by simpa using hy
                  have HQ := Lib.hid ((HRUN.out.symm.trans (HBAD.out hy)))
                  obtain ⟨⟨z0, z1, z2, z3, z4⟩, y0, y1, y2, y3, y4⟩ := cell5 HRES.out
                  clear HADD HBAD HLEAF HDL hy
                  go_wp2_with fail
                  (try simp only [Exit.inBlock, Exit.then, exitJumps])
                  refine bodyPost_ret (results_read rfl rfl rfl rfl (put5_block HRES.out)) rfl ?_
                  exact ⟨.none_ (HQ.out) rfl, put5_below HLOW.out (Nat.le_refl _)⟩
              · have y41 := Lib.hid (show ((bt s i).toNat : Int) = 41 by rw [HBT.out]; simpa using h41)
                go_wp2_with fail
                go_step3
                (try simp only [Exit.inBlock, Exit.then, exitJumps])
                refine ⟨2 * (s.size - (i)) + (if (3 : Nat) = 1 then 1 else 0), ?_, i, (i : Int), σ, ⟨_, rfl, by kernel_rfl, by kernel_rfl, by kernel_rfl, by kernel_rfl, by kernel_rfl⟩, ?_, rfl, Lib.hid (⟨hD.out.inv, his, hD.out.run, hD.out.few, hD.out.kids, .inr (.inr (.inr ⟨rfl, hlt, y41.out⟩))⟩)⟩
                · simp only [if_true, reduceCtorEq, Nat.reduceEqDiff, if_false]; omega
                · omega
            · have y40 := Lib.hid (show ((bt s i).toNat : Int) = 40 by rw [HBT.out]; simpa using h40)
              go_wp2_with fail
              go_step3
              (try simp only [Exit.inBlock, Exit.then, exitJumps])
              refine ⟨2 * (s.size - (i)) + (if (2 : Nat) = 1 then 1 else 0), ?_, i, (i : Int), σ, ⟨_, rfl, by kernel_rfl, by kernel_rfl, by kernel_rfl, by kernel_rfl, by kernel_rfl⟩, ?_, rfl, Lib.hid (⟨hD.out.inv, his, hD.out.run, hD.out.few, hD.out.kids, .inr (.inr (.inl ⟨rfl, hlt, y40.out⟩))⟩)⟩
              · simp only [if_true, reduceCtorEq, Nat.reduceEqDiff, if_false]; omega
              · omega
          · have HRN := Lib.hid ((readE_blank (op := σ.ps.map Prod.fst) (dn := σ.dn.map Prod.fst) hlt (.inr (by rw [HBT.out]; simpa using h10))).symm.trans HRUN.out)
            go_wp2_with fail
            go_step3
            (try simp only [Exit.inBlock, Exit.then, exitJumps])
            refine ⟨2 * (s.size - (i + 1)) + (if (1 : Nat) = 1 then 1 else 0), ?_, i + 1, ((i : Int) + 1), σ, ⟨_, rfl, by kernel_rfl, by kernel_rfl, by kernel_rfl, by kernel_rfl, by kernel_rfl⟩, ?_, rfl, Lib.hid (⟨hD.out.inv, by omega, HRN.out, hD.out.few, fun p hp => Nat.le_succ_of_le (hD.out.kids p hp), .inl rfl⟩)⟩
            · simp only [if_true, reduceCtorEq, Nat.reduceEqDiff, if_false]; omega
            · omega
        · have HRN := Lib.hid ((readE_blank (op := σ.ps.map Prod.fst) (dn := σ.dn.map Prod.fst) hlt (.inl (by rw [HBT.out]; simpa using h32))).symm.trans HRUN.out)
          go_wp2_with fail
          go_step3
          (try simp only [Exit.inBlock, Exit.then, exitJumps])
          refine ⟨2 * (s.size - (i + 1)) + (if (1 : Nat) = 1 then 1 else 0), ?_, i + 1, ((i : Int) + 1), σ, ⟨_, rfl, by kernel_rfl, by kernel_rfl, by kernel_rfl, by kernel_rfl, by kernel_rfl⟩, ?_, rfl, Lib.hid (⟨hD.out.inv, by omega, HRN.out, hD.out.few, fun p hp => Nat.le_succ_of_le (hD.out.kids p hp), .inl rfl⟩)⟩
          · simp only [if_true, reduceCtorEq, Nat.reduceEqDiff, if_false]; omega
          · omega
      · go_wp2_with fail
        go_step3
        (try simp only [Exit.inBlock, Exit.then, exitJumps])
        refine ⟨2 * (s.size - (i)) + (if (0 : Nat) = 1 then 1 else 0), ?_, i, (i : Int), σ, ⟨_, rfl, by kernel_rfl, by kernel_rfl, by kernel_rfl, by kernel_rfl, by kernel_rfl⟩, ?_, rfl, Lib.hid (⟨hD.out.inv, his, hD.out.run, hD.out.few, hD.out.kids, .inr (.inl ⟨rfl, hlt⟩)⟩)⟩
        · simp only [if_true, reduceCtorEq, Nat.reduceEqDiff, if_false]; omega
        · omega
    · refine ⟨_, rfl, ?_⟩
      obtain ⟨m, hm⟩ : ∃ m, σ.ps.length = m := ⟨_, rfl⟩
      obtain ⟨dl, hdl⟩ : ∃ dl, σ.dn.length = dl := ⟨_, rfl⟩
      rw [hm] at ha1
      rw [hdl] at ha2 hwh
      have HRN := Lib.hid ((readE_end (op := σ.ps.map Prod.fst) (dn := σ.dn.map Prod.fst) hl0).symm.trans HRUN.out)
      rw [List.length_map, hm] at HRN
      by_cases h0 : 0 < m
      · have d0 : decide (0 < (m : Int)) = true := by simpa using h0
        have HQ := Lib.hid (HRN.out.symm.trans (if_pos h0))
        go_wp2_with fail
        (try simp only [Exit.inBlock, Exit.then, exitJumps])
        refine bodyPost_ret (results_read rfl rfl rfl rfl (put5_block HRES.out)) rfl ?_
        exact ⟨.none_ (HQ.out) rfl, put5_below HLOW.out (Nat.le_refl _)⟩
      · have d0 : decide (0 < (m : Int)) = false := by simpa using h0
        have HRN := Lib.hid ((if_neg h0).symm.trans HRN.out)
        rcases Nat.eq_zero_or_pos dl with hd0 | hd0
        · have hdn : σ.dn = [] := List.eq_nil_of_length_eq_zero (by omega)
          have hdb : decide (0 < dl) = false := decide_eq_false (by omega)
          rw [hdb] at hwh
          have HQ := Lib.hid (show R = (zeroT, 10, (s.size : Int)) by have := HRN.out; rw [hdn] at this; exact this.symm)
          clear hdb
          go_wp2_with fail
          refine (hwh.out).mono ?_
          rintro e w' ⟨rfl, rfl⟩
          go_wp2_with fail
          (try simp only [Exit.inBlock, Exit.then, exitJumps])
          refine bodyPost_ret (results_read rfl rfl rfl rfl (put5_block HRES.out)) rfl ?_
          exact ⟨.none_ (HQ.out) rfl, put5_below HLOW.out (Nat.le_refl _)⟩
        · have hdb : decide (0 < dl) = true := by simpa using hd0
          rw [hdb] at hwh
          obtain ⟨x, rest, hdn⟩ : ∃ x rest, σ.dn = x :: rest := by
            cases h : σ.dn with
            | nil => rw [h] at hdl; simp at hdl; omega
            | cons x rest => exact ⟨x, rest, rfl⟩
          have HQ := Lib.hid (show R = (x.1, 0, 0) by have := HRN.out; rw [hdn] at this; exact this.symm)
          have hx0 : σ.dn[0]? = some x := by rw [hdn]; rfl
          have hdk := Lib.hid (hD.out.inv.dnk x (by rw [hdn]; exact List.mem_cons_self))
          have ho := hD.out.inv.owd
          rw [hdl] at ho
          obtain ⟨gB, cB', hv, _⟩ := ho.form hd0
          have hB : σ.B = some ⟨gB, 0, none⟩ := by injection hv
          rw [hB] at ha2 ho
          obtain ⟨f0, f1, f2, f3, f4⟩ := flatT_get σ.dn 0 x hx0
          have b0 := (ho.cellAt 0 (by omega)).trans f0
          have b1 := (ho.cellAt 1 (by omega)).trans f1
          have b2 := (ho.cellAt 2 (by omega)).trans f2
          have b3 := (ho.cellAt 3 (by omega)).trans f3
          have b4 := (ho.cellAt 4 (by omega)).trans f4
          have dpos : (0 : Int) < (dl : Int) := by omega
          clear hdb ho hv hdn hx0 f0 f1 f2 f3 f4
          obtain ⟨⟨xk, xs, xn, xl, xa⟩, xA, xc⟩ := x
          simp only [T.k, T.s, T.n, T.kids, T.at_] at b0 b1 b2 b3 b4 hdk
          obtain ⟨xln, hxln⟩ : ∃ n, n = xl.length := ⟨_, rfl⟩
          rw [← hxln] at b3 hdk
          have HXL := Lib.hid hxln
          clear hxln
          go_wp2_with fail
          refine (hwh.out).mono ?_
          rintro e w' ⟨rfl, rfl⟩
          go_wp2_with fail
          (try simp only [Exit.inBlock, Exit.then, exitJumps])
          refine bodyPost_ret (results_read rfl rfl rfl rfl (put5_block HRES.out)) rfl ?_
          refine ⟨?_, put5_below HLOW.out (Nat.le_refl _)⟩
          rw [HQ.out]
          refine ⟨xA, xc, ?_, ?_, ?_⟩
          · simp only [T.k, T.s, T.n, T.kids, T.at_]; rw [← HXL.out]; rfl
          · simp only [T.kids]; rw [← HXL.out]; exact hdk.out.1
          · simp only [T.kids]
            refine xtk_move hdk.out.2 (fun k hk => put5_other (by have := hk.1; omega)) (fun k hk => ⟨by have := hk.1; omega, by simpa [World.setCell] using hk.2.1⟩)
    · refine ⟨_, rfl, ?_⟩
      obtain ⟨m, hm⟩ : ∃ m, σ.ps.length = m := ⟨_, rfl⟩
      have HRN := Lib.hid ((readE_open (op := σ.ps.map Prod.fst) (dn := σ.dn.map Prod.fst) hl0 hl1).symm.trans HRUN.out)
      rw [List.length_map, hm, List.length_map] at HRN
      have hfew := hD.out.few
      rw [hm] at ha1 hfew
      have HM := Lib.hid hm
      cases h12 : decide (12 ≤ (m : Int))
      · have n12 : ¬ 12 ≤ m := by have := of_decide_eq_false h12; omega
        have HRN := Lib.hid ((if_neg n12).symm.trans HRN.out)
        cases hdb : decide (0 < σ.dn.length)
        · rw [hdb] at hwh
          have hdn : σ.dn = [] := by
            have := of_decide_eq_false hdb
            exact List.eq_nil_of_length_eq_zero (by omega)
          have HRN := Lib.hid ((if_neg (of_decide_eq_false hdb)).symm.trans HRN.out)
          have HGQ : Hid (w3.heap[w.heap.size + 1]? = some (.cells #[.string s, .slice σ.A m σ.c, .slice σ.B σ.dn.length σ.cB] 52 (0, 0))) := Lib.hid (by have := HRD.out; rw [hm] at this; exact this)
          have HKQ : Hid (w3.ownsRow (w.heap.size + 2) 24 5 (.slice σ.A m σ.c) m (flatT σ.ps)) := Lib.hid (by have := hD.out.inv.own; rw [hm] at this; exact this)
          have hAg : ∀ ad : Addr, σ.A = some ad → ad.block ≠ w.heap.size + 1 := fun ad e => by have := (own_bk HKQ.out ⟨ad, e, rfl⟩).1; omega
          have HBQ : Hid (Below w3.heap.size w3 w3) := Lib.hid (Below.refl _ _)
          have hSB : Hid (∀ w' : World, w'.heap[w.heap.size + 1]? = w3.heap[w.heap.size + 1]? → w'.cell? ⟨w.heap.size + 1, 1, none⟩ = some (.slice σ.A m σ.c)) := Lib.hid (fun w' h1 => (World.cell?_of_block h1).trans ha1)
          obtain ⟨i0, hi, hz0, hz1, hz2⟩ := info_parts tree_info
          have ew : IntKind.i64.wrap (m : Int) = (m : Int) := by unfold IntKind.wrap; simp [IntKind.bits, IntKind.signed]; omega
          have el : (m : Int) < (m : Int) + 1 := by omega
          clear hdb
          go_upto_region 19 with (fail)
          go_wp2_with fail
          refine (hwh.out).mono ?_
          rintro e w' ⟨rfl, rfl⟩
          clear hm
          go_upto_region 21 with (fail)
          refine LateKit.wp_region_last (fun w' => w'.cell? ⟨w.heap.size + 1, 1, none⟩ = some (.slice σ.A m σ.c)) [9, 10, 11, 12, 13] (by kernel_rfl) (hSB.out _ rfl) (fun hHeld => ?_)
          refine LateKit.wpAnyK_take (i := 0) (C := [0, 9, 10, 11, 12, 13]) (v := ?v21_1) rfl (by kernel_rfl) (by kernel_rfl) (by kernel_rfl) (by kernel_rfl) (fun _ _ _ h => h) (Or.inl ⟨by rfl, ?hy21_1⟩) (by assumption) ?_
          case hy21_1 => (intro w1 hSw; (try dsimp only at hSw); go_simp; try with_reducible rfl)
          simp only [List.getElem_toArray, List.getElem_cons_zero, Act.put, List.setIfInBounds_toArray, List.set_cons_zero, List.set_cons_succ]
          refine LateKit.wpAnyK_take (i := 1) (C := [1, 9, 10, 11, 12, 13]) (v := ?v21_2) rfl (by kernel_rfl) (by kernel_rfl) (by kernel_rfl) (by kernel_rfl) (fun _ _ _ h => h) (Or.inl ⟨by rfl, ?hy21_2⟩) (by assumption) ?_
          case hy21_2 => (intro w1 hSw; (try dsimp only at hSw); go_simp; try with_reducible rfl)
          simp only [List.getElem_toArray, List.getElem_cons_succ, List.getElem_cons_zero, Act.put, List.setIfInBounds_toArray, List.set_cons_zero, List.set_cons_succ]
          refine LateKit.wpAnyK_take (i := 2) (C := [2, 9, 10, 11, 12, 13]) (v := ?v21_3) rfl (by kernel_rfl) (by kernel_rfl) (by kernel_rfl) (by kernel_rfl) (fun _ _ _ h => h) (Or.inl ⟨by rfl, ?hy21_3⟩) (by assumption) ?_
          case hy21_3 => (intro w1 hSw; (try dsimp only at hSw); go_simp; try with_reducible rfl)
          simp only [List.getElem_toArray, List.getElem_cons_succ, List.getElem_cons_zero, Act.put, List.setIfInBounds_toArray, List.set_cons_zero, List.set_cons_succ]
          refine LateKit.wpAnyK_take (i := 3) (C := [3, 9, 10, 11, 12, 13]) (v := ?v21_4) rfl (by kernel_rfl) (by kernel_rfl) (by kernel_rfl) (by kernel_rfl) (fun _ _ _ h => h) (Or.inl ⟨by rfl, ?hy21_4⟩) (by assumption) ?_
          case hy21_4 => (intro w1 hSw; (try dsimp only at hSw); go_simp; try with_reducible rfl)
          simp only [List.getElem_toArray, List.getElem_cons_succ, List.getElem_cons_zero, Act.put, List.setIfInBounds_toArray, List.set_cons_zero, List.set_cons_succ]
          refine LateKit.wpAnyK_take (i := 4) (C := [4, 9, 10, 11, 12, 13]) (v := ?v21_5) rfl (by kernel_rfl) (by kernel_rfl) (by kernel_rfl) (by kernel_rfl) (fun _ _ _ h => h) (Or.inl ⟨by rfl, ?hy21_5⟩) (by assumption) ?_
          case hy21_5 => (intro w1 hSw; (try dsimp only at hSw); go_simp; try with_reducible rfl)
          simp only [List.getElem_toArray, List.getElem_cons_succ, List.getElem_cons_zero, Act.put, List.setIfInBounds_toArray, List.set_cons_zero, List.set_cons_succ]
          refine LateKit.wpAnyK_take (i := 5) (C := [5, 9, 10, 11, 12, 13]) (v := ?v21_6) rfl (by kernel_rfl) (by kernel_rfl) (by kernel_rfl) (by kernel_rfl) (fun _ _ _ h => h) (Or.inl ⟨by rfl, ?hy21_6⟩) (by assumption) ?_
          case hy21_6 => (intro w1 hSw; (try dsimp only at hSw); go_simp; try with_reducible rfl)
          simp only [List.getElem_toArray, List.getElem_cons_succ, List.getElem_cons_zero, Act.put, List.setIfInBounds_toArray, List.set_cons_zero, List.set_cons_succ]
          refine LateKit.wpAnyK_take (i := 6) (C := [6, 9, 10, 11, 12, 13]) (v := ?v21_7) rfl (by kernel_rfl) (by kernel_rfl) (by kernel_rfl) (by kernel_rfl) (fun _ _ _ h => h) (Or.inl ⟨by rfl, ?hy21_7⟩) (by assumption) ?_
          case hy21_7 => (intro w1 hSw; (try dsimp only at hSw); go_simp; try with_reducible rfl)
          simp only [List.getElem_toArray, List.getElem_cons_succ, List.getElem_cons_zero, Act.put, List.setIfInBounds_toArray, List.set_cons_zero, List.set_cons_succ]
          refine LateKit.wpAnyK_ready (rs := [7]) (by kernel_rfl) (by simp) ?_
          refine (LateKit.AllReadyK.cons rfl (fun K hK => ?_) LateKit.AllReadyK.nil)
          refine step_buildZ _ rfl rfl ?_
          refine hK.out _ _ (hSB.out _ (Below.heap_alloc _ _ _ (by simp; omega))) (fun hHeld => ?_)
          clear hK K
          simp only [List.getElem_toArray, List.getElem_cons_succ, List.getElem_cons_zero, Act.put, List.setIfInBounds_toArray, List.set_cons_zero, List.set_cons_succ, World.size_alloc, World.size_drew]
          refine LateKit.wpAnyK_ready (rs := [8]) (by kernel_rfl) (by simp) ?_
          refine (LateKit.AllReadyK.cons rfl (fun K hK => ?_) LateKit.AllReadyK.nil)
          refine step_append_lies _ rfl _ _ 22 rfl (w.heap.size + 2) 24 i0 _ 5 64 Tryd.underlying22 hi hz0 hz1 hz2 rfl (by decide) (.slice σ.A m σ.c) m (flatT σ.ps) rfl (own_below HKQ.out ((Below.refl w3.heap.size w3).drew.trans ((Below.refl w3.heap.size w3.drew).alloc (Nat.le_refl _) (.cells #[.int .i64 0, .string ⟨#[]⟩, .int .i64 0, .slice none 0 0, .int .i64 0] 24)))) ⟨w3.heap.size, 0, none⟩ 1 1 [.int .i64 0, .string ⟨#[]⟩, .int .i64 0, .slice none 0 0, .int .i64 0] rfl rfl (World.news_of_block (heap_alloc_new w3.drew (.cells #[.int .i64 0, .string ⟨#[]⟩, .int .i64 0, .slice none 0 0, .int .i64 0] 24))) ?a0 (by decide) ?a1 ?a2 ?a3 _ rfl ?_
          case a0 => (intro u hu; simp only [List.mem_cons, List.not_mem_nil, or_false] at hu; rcases hu with rfl | rfl | rfl | rfl | rfl <;> rfl)
          case a1 => (unfold maxLen; omega)
          case a2 => omega
          case a3 => (simp; omega)
          intro g5 cap5 w5 hown5 hgrow5 hat5 hlt5
          have hkeep : ∀ b, b < w3.heap.size → (∀ ad : Addr, (σ.A : Option Addr) = some ad → ad.block ≠ b) → w5.heap[b]? = w3.heap[b]? := fun b hb hA => (hgrow5.block b (by simp; omega) (fun e => own_blk_of hA e)).trans (Below.heap_alloc w3.drew _ b hb)
          have hk1 := hkeep (w.heap.size + 1) (by omega) (hAg)
          have HA5 : Hid (Aside (fun b => ∃ ad : Addr, (σ.A : Option Addr) = some ad ∧ ad.block = b) w3 w5) := Lib.hid (((Aside.of_below HBQ.out).drew.alloc _).grown hgrow5 (fun b e _ => own_blk_some e))
          have HG5 : Hid ((∃ ad : Addr, (σ.A : Option Addr) = some ad ∧ ad.block = g5) ∨ w3.heap.size ≤ g5) := Lib.hid (hat5.elim (fun e => Or.inl (own_blk_some e)) (fun e => Or.inr (by simp at e; omega)))
          have hg5 : Hid (w5.heap[w.heap.size + 1]? = some (.cells #[.string s, .slice σ.A m σ.c, .slice σ.B σ.dn.length σ.cB] 52 (0, 0))) := Lib.hid (hk1.trans HGQ.out)
          have hne5 : g5 ≠ (w.heap.size + 1) := HG5.out.elim (fun h => h.elim fun ad e2 => by have := hAg ad e2.1; omega) (fun h => by omega)
          have HO5 := Lib.hid hown5
          have hq := own_len (n := m) (qs := σ.ps) HKQ.out
          have hzc : ∀ i, i < 5 → (flatT σ.ps ++ [.int .i64 0, .string ⟨#[]⟩, .int .i64 0, .slice none 0 0, .int .i64 0])[m * 5 + i]? = ([.int .i64 0, .string ⟨#[]⟩, .int .i64 0, .slice none 0 0, .int .i64 0] : List Value)[i]? := fun i hi => by rw [List.getElem?_append_right (by rw [flatT_len, hq]; omega), flatT_len, hq, show m * 5 + i - m * 5 = i by omega]
          have hrc : w5.cell? ⟨w.heap.size + 1, 1, none⟩ = some (.slice σ.A m σ.c) := by simp [World.cell?, hg5.out]
          have hrf : w5.frozen? ⟨w.heap.size + 1, 1, none⟩ = false := by simp [World.frozen?, hg5.out]
          have d0 := (hown5.cellAt (m * 5) (by omega)).trans (hzc 0 (by decide))
          have r0 := hown5.frozenAt (m * 5)
          have d1 := (hown5.cellAt (m * 5 + 1) (by omega)).trans (hzc 1 (by decide))
          have r1 := hown5.frozenAt (m * 5 + 1)
          have d2 := (hown5.cellAt (m * 5 + 2) (by omega)).trans (hzc 2 (by decide))
          have r2 := hown5.frozenAt (m * 5 + 2)
          have d3 := (hown5.cellAt (m * 5 + 3) (by omega)).trans (hzc 3 (by decide))
          have r3 := hown5.frozenAt (m * 5 + 3)
          have d4 := (hown5.cellAt (m * 5 + 4) (by omega)).trans (hzc 4 (by decide))
          have r4 := hown5.frozenAt (m * 5 + 4)
          simp only [List.getElem?_cons_zero, List.getElem?_cons_succ] at d0 d1 d2 d3 d4
          have dd0 : (w5.setCell ⟨w.heap.size + 1, 1, none⟩ (.slice (some ⟨g5, 0, none⟩) (m + 1) cap5)).cell? ⟨g5, m * 5, none⟩ = _ := (World.cell?_of_block (Below.heap_setCell w5 ⟨w.heap.size + 1, 1, none⟩ (.slice (some ⟨g5, 0, none⟩) (m + 1) cap5) g5 hne5)).trans d0
          have rr0 : (w5.setCell ⟨w.heap.size + 1, 1, none⟩ (.slice (some ⟨g5, 0, none⟩) (m + 1) cap5)).frozen? ⟨g5, m * 5, none⟩ = false := (World.frozen?_of_block (Below.heap_setCell w5 ⟨w.heap.size + 1, 1, none⟩ (.slice (some ⟨g5, 0, none⟩) (m + 1) cap5) g5 hne5)).trans r0
          have dd1 : (w5.setCell ⟨w.heap.size + 1, 1, none⟩ (.slice (some ⟨g5, 0, none⟩) (m + 1) cap5)).cell? ⟨g5, m * 5 + 1, none⟩ = _ := (World.cell?_of_block (Below.heap_setCell w5 ⟨w.heap.size + 1, 1, none⟩ (.slice (some ⟨g5, 0, none⟩) (m + 1) cap5) g5 hne5)).trans d1
          have rr1 : (w5.setCell ⟨w.heap.size + 1, 1, none⟩ (.slice (some ⟨g5, 0, none⟩) (m + 1) cap5)).frozen? ⟨g5, m * 5 + 1, none⟩ = false := (World.frozen?_of_block (Below.heap_setCell w5 ⟨w.heap.size + 1, 1, none⟩ (.slice (some ⟨g5, 0, none⟩) (m + 1) cap5) g5 hne5)).trans r1
          have dd2 : (w5.setCell ⟨w.heap.size + 1, 1, none⟩ (.slice (some ⟨g5, 0, none⟩) (m + 1) cap5)).cell? ⟨g5, m * 5 + 2, none⟩ = _ := (World.cell?_of_block (Below.heap_setCell w5 ⟨w.heap.size + 1, 1, none⟩ (.slice (some ⟨g5, 0, none⟩) (m + 1) cap5) g5 hne5)).trans d2
          have rr2 : (w5.setCell ⟨w.heap.size + 1, 1, none⟩ (.slice (some ⟨g5, 0, none⟩) (m + 1) cap5)).frozen? ⟨g5, m * 5 + 2, none⟩ = false := (World.frozen?_of_block (Below.heap_setCell w5 ⟨w.heap.size + 1, 1, none⟩ (.slice (some ⟨g5, 0, none⟩) (m + 1) cap5) g5 hne5)).trans r2
          have dd3 : (w5.setCell ⟨w.heap.size + 1, 1, none⟩ (.slice (some ⟨g5, 0, none⟩) (m + 1) cap5)).cell? ⟨g5, m * 5 + 3, none⟩ = _ := (World.cell?_of_block (Below.heap_setCell w5 ⟨w.heap.size + 1, 1, none⟩ (.slice (some ⟨g5, 0, none⟩) (m + 1) cap5) g5 hne5)).trans d3
          have rr3 : (w5.setCell ⟨w.heap.size + 1, 1, none⟩ (.slice (some ⟨g5, 0, none⟩) (m + 1) cap5)).frozen? ⟨g5, m * 5 + 3, none⟩ = false := (World.frozen?_of_block (Below.heap_setCell w5 ⟨w.heap.size + 1, 1, none⟩ (.slice (some ⟨g5, 0, none⟩) (m + 1) cap5) g5 hne5)).trans r3
          have dd4 : (w5.setCell ⟨w.heap.size + 1, 1, none⟩ (.slice (some ⟨g5, 0, none⟩) (m + 1) cap5)).cell? ⟨g5, m * 5 + 4, none⟩ = _ := (World.cell?_of_block (Below.heap_setCell w5 ⟨w.heap.size + 1, 1, none⟩ (.slice (some ⟨g5, 0, none⟩) (m + 1) cap5) g5 hne5)).trans d4
          have rr4 : (w5.setCell ⟨w.heap.size + 1, 1, none⟩ (.slice (some ⟨g5, 0, none⟩) (m + 1) cap5)).frozen? ⟨g5, m * 5 + 4, none⟩ = false := (World.frozen?_of_block (Below.heap_setCell w5 ⟨w.heap.size + 1, 1, none⟩ (.slice (some ⟨g5, 0, none⟩) (m + 1) cap5) g5 hne5)).trans r4
          have hpg : (((((w5.setCell ⟨g5, m * 5, none⟩ (.int .i64 1)).setCell ⟨g5, m * 5 + 1, none⟩ (.string ⟨#[]⟩)).setCell ⟨g5, m * 5 + 2, none⟩ (.int .i64 0)).setCell ⟨g5, m * 5 + 3, none⟩ (.slice none 0 0)).setCell ⟨g5, m * 5 + 4, none⟩ (.int .i64 (i : Int))).heap[w.heap.size + 1]? = w5.heap[w.heap.size + 1]? := (Below.heap_setCell _ ⟨g5, m * 5 + 4, none⟩ _ (w.heap.size + 1) (Ne.symm hne5)).trans ((Below.heap_setCell _ ⟨g5, m * 5 + 3, none⟩ _ (w.heap.size + 1) (Ne.symm hne5)).trans ((Below.heap_setCell _ ⟨g5, m * 5 + 2, none⟩ _ (w.heap.size + 1) (Ne.symm hne5)).trans ((Below.heap_setCell _ ⟨g5, m * 5 + 1, none⟩ _ (w.heap.size + 1) (Ne.symm hne5)).trans (Below.heap_setCell _ ⟨g5, m * 5, none⟩ _ (w.heap.size + 1) (Ne.symm hne5)))))
          have hpc : (((((w5.setCell ⟨g5, m * 5, none⟩ (.int .i64 1)).setCell ⟨g5, m * 5 + 1, none⟩ (.string ⟨#[]⟩)).setCell ⟨g5, m * 5 + 2, none⟩ (.int .i64 0)).setCell ⟨g5, m * 5 + 3, none⟩ (.slice none 0 0)).setCell ⟨g5, m * 5 + 4, none⟩ (.int .i64 (i : Int))).cell? ⟨w.heap.size + 1, 1, none⟩ = w5.cell? ⟨w.heap.size + 1, 1, none⟩ := World.cell?_of_block hpg
          rw [hrc] at hpc
          have hpf : (((((w5.setCell ⟨g5, m * 5, none⟩ (.int .i64 1)).setCell ⟨g5, m * 5 + 1, none⟩ (.string ⟨#[]⟩)).setCell ⟨g5, m * 5 + 2, none⟩ (.int .i64 0)).setCell ⟨g5, m * 5 + 3, none⟩ (.slice none 0 0)).setCell ⟨g5, m * 5 + 4, none⟩ (.int .i64 (i : Int))).frozen? ⟨w.heap.size + 1, 1, none⟩ = w5.frozen? ⟨w.heap.size + 1, 1, none⟩ := World.frozen?_of_block hpg
          rw [hrf] at hpf
          have HD := Lib.hid (And.intro d0 (And.intro d1 (And.intro d2 (And.intro d3 (And.intro d4 (And.intro r0 (And.intro r1 (And.intro r2 (And.intro r3 (And.intro r4 (And.intro hpc hpf)))))))))))
          have HDD := Lib.hid (And.intro dd0 (And.intro dd1 (And.intro dd2 (And.intro dd3 (And.intro dd4 (And.intro rr0 (And.intro rr1 (And.intro rr2 (And.intro rr3 (And.intro rr4 (And.intro hrc hrf)))))))))))
          have hF1 := Lib.hid (putEff_turn (x := ((.mk 1 ⟨#[]⟩ 0 [] (i : Int) : T), none, 0)) (o := 1) HA5.out HG5.out HO5.out hg5.out hne5 hq)
          have hF2 := Lib.hid (addEff_true (x := ((.mk 1 ⟨#[]⟩ 0 [] (i : Int) : T), none, 0)) (o := 1) HA5.out HG5.out HO5.out hg5.out hne5 hq)
          simp only [T.k, T.s, T.n, T.kids, T.at_] at hF1 hF2
          simp only [List.length_nil] at hF1 hF2
          clear hown5 hgrow5 hat5 hkeep hzc hpg HA5 HG5 HO5 d0 d1 d2 d3 d4 r0 r1 r2 r3 r4 dd0 dd1 dd2 dd3 dd4 rr0 rr1 rr2 rr3 rr4 hpc hpf hrc hrf
          refine hK.out _ _ (hSB.out _ hk1) (fun hHeld => ?_)
          clear hK K hk1
          simp only [List.getElem_toArray, List.getElem_cons_succ, List.getElem_cons_zero, Act.put, List.setIfInBounds_toArray, List.set_cons_zero, List.set_cons_succ]
          refine LateKit.wpAnyK_takeP (i := 9) (v := ?v21_8) (by decide) rfl (by kernel_rfl) (by kernel_rfl) (by kernel_rfl) (fun _ _ _ h => h) (Or.inl ⟨by rfl, ?hy21_8⟩) ?_
          case hy21_8 => (intro w1 hSw; go_simp; try with_reducible rfl)
          simp only [List.getElem_toArray, List.getElem_cons_succ, List.getElem_cons_zero, Act.put, List.setIfInBounds_toArray, List.set_cons_zero, List.set_cons_succ]
          refine LateKit.wpAnyK_takeP (i := 11) (v := ?v21_9) (by decide) rfl (by kernel_rfl) (by kernel_rfl) (by kernel_rfl) (fun _ _ _ h => h) (Or.inl ⟨by rfl, ?hy21_9⟩) ?_
          case hy21_9 => (intro w1 hSw; go_simp; try with_reducible rfl)
          simp only [List.getElem_toArray, List.getElem_cons_succ, List.getElem_cons_zero, Act.put, List.setIfInBounds_toArray, List.set_cons_zero, List.set_cons_succ]
          refine LateKit.wpAnyK_takeP (i := 12) (v := ?v21_10) (by decide) rfl (by kernel_rfl) (by kernel_rfl) (by kernel_rfl) (fun _ _ _ h => h) (Or.inl ⟨by rfl, ?hy21_10⟩) ?_
          case hy21_10 => (intro w1 hSw; go_simp; try with_reducible rfl)
          simp only [List.getElem_toArray, List.getElem_cons_succ, List.getElem_cons_zero, Act.put, List.setIfInBounds_toArray, List.set_cons_zero, List.set_cons_succ]
          refine LateKit.wpAnyK_ready (rs := [10, 13]) (by kernel_rfl) (by simp) ?_
          refine LateKit.AllReadyK.late (by decide) rfl (fun K hK => ?_) (LateKit.AllReadyK.late (by decide) rfl (fun K hK => ?_) LateKit.AllReadyK.nil)
          ·
            have hm := HM.out
            obtain ⟨d0, d1, d2, d3, d4, r0, r1, r2, r3, r4, hpc, hpf⟩ := HD.out
            clear HDD hF2 hHeld hSB
            simp only [List.getElem_toArray, List.getElem_cons_succ, List.getElem_cons_zero]
            go_simp
            refine hK.out _ _ ?_
            clear hK K
            refine LateKit.wpAnyK_ready (rs := [13]) (by kernel_rfl) (by simp) ?_
            refine LateKit.AllReadyK.late (by decide) rfl (fun K hK => ?_) LateKit.AllReadyK.nil
            simp only [List.getElem_toArray, List.getElem_cons_succ, List.getElem_cons_zero]
            go_simp
            refine hK.out _ _ ?_
            clear hK K
            refine LateKit.wpAnyK_done (by kernel_rfl) ?_ _
            have hFin := hF1
            clear d0 d1 d2 d3 d4 r0 r1 r2 r3 r4 hpc hpf
            obtain ⟨g', cap', hr⟩ := hD.out.inv.push hdn (t := (.mk 1 ⟨#[]⟩ 0 [] (i : Int) : T)) rfl (by rw [hm]; exact hFin.out)
            obtain ⟨σ2, HR2⟩ : ∃ σ2 : St, Hid (RInv s w σ2 _ ∧ σ2.ps = σ.ps ++ [((.mk 1 ⟨#[]⟩ 0 [] (i : Int) : T), none, 0)] ∧ σ2.dn = σ.dn) := ⟨_, Lib.hid ⟨hr, rfl, rfl⟩⟩
            clear hr hFin
            go_wp2_with fail
            go_step3
            (try simp only [Exit.inBlock, Exit.then, exitJumps])
            refine ⟨2 * (s.size - (i + 1)) + (if (1 : Nat) = 1 then 1 else 0), ?_, i + 1, ((i : Int) + 1), σ2, ⟨_, rfl, by kernel_rfl, by kernel_rfl, by kernel_rfl, by kernel_rfl, by kernel_rfl⟩, ?_, rfl, Lib.hid (⟨HR2.out.1, by omega, by rw [HR2.out.2.1, HR2.out.2.2, List.map_append]; exact HRN.out, by rw [HR2.out.2.1, List.length_append, hm]; simp only [List.length_singleton]; omega, fun p hp => (List.mem_append.1 (HR2.out.2.1 ▸ hp)).elim (fun hp => Nat.le_succ_of_le (hD.out.kids p hp)) (fun hp => by rw [List.mem_singleton.1 hp]; exact Nat.zero_le _), .inl rfl⟩)⟩
            · simp only [if_true, reduceCtorEq, Nat.reduceEqDiff, if_false]; omega
            · omega
          ·
            have hm := HM.out
            obtain ⟨dd0, dd1, dd2, dd3, dd4, rr0, rr1, rr2, rr3, rr4, hrc, hrf⟩ := HDD.out
            clear HD hF1 hHeld hSB
            simp only [List.getElem_toArray, List.getElem_cons_succ, List.getElem_cons_zero]
            go_simp
            refine hK.out _ _ ?_
            clear hK K
            refine LateKit.wpAnyK_ready (rs := [10]) (by kernel_rfl) (by simp) ?_
            refine LateKit.AllReadyK.late (by decide) rfl (fun K hK => ?_) LateKit.AllReadyK.nil
            simp only [List.getElem_toArray, List.getElem_cons_succ, List.getElem_cons_zero]
            go_simp
            refine hK.out _ _ ?_
            clear hK K
            refine LateKit.wpAnyK_done (by kernel_rfl) ?_ _
            have hFin := hF2
            clear dd0 dd1 dd2 dd3 dd4 rr0 rr1 rr2 rr3 rr4 hrc hrf
            obtain ⟨g', cap', hr⟩ := hD.out.inv.push hdn (t := (.mk 1 ⟨#[]⟩ 0 [] (i : Int) : T)) rfl (by rw [hm]; exact hFin.out)
            obtain ⟨σ2, HR2⟩ : ∃ σ2 : St, Hid (RInv s w σ2 _ ∧ σ2.ps = σ.ps ++ [((.mk 1 ⟨#[]⟩ 0 [] (i : Int) : T), none, 0)] ∧ σ2.dn = σ.dn) := ⟨_, Lib.hid ⟨hr, rfl, rfl⟩⟩
            clear hr hFin
            go_wp2_with fail
            go_step3
            (try simp only [Exit.inBlock, Exit.then, exitJumps])
            refine ⟨2 * (s.size - (i + 1)) + (if (1 : Nat) = 1 then 1 else 0), ?_, i + 1, ((i : Int) + 1), σ2, ⟨_, rfl, by kernel_rfl, by kernel_rfl, by kernel_rfl, by kernel_rfl, by kernel_rfl⟩, ?_, rfl, Lib.hid (⟨HR2.out.1, by omega, by rw [HR2.out.2.1, HR2.out.2.2, List.map_append]; exact HRN.out, by rw [HR2.out.2.1, List.length_append, hm]; simp only [List.length_singleton]; omega, fun p hp => (List.mem_append.1 (HR2.out.2.1 ▸ hp)).elim (fun hp => Nat.le_succ_of_le (hD.out.kids p hp)) (fun hp => by rw [List.mem_singleton.1 hp]; exact Nat.zero_le _), .inl rfl⟩)⟩
            · simp only [if_true, reduceCtorEq, Nat.reduceEqDiff, if_false]; omega
            · omega
        · rw [hdb] at hwh
          have HQ := Lib.hid (HRN.out.symm.trans (if_pos (of_decide_eq_true hdb)))
          clear hdb hm
          go_wp2_with fail
          refine (hwh.out).mono ?_
          rintro e w' ⟨rfl, rfl⟩
          go_wp2_with fail
          (try simp only [Exit.inBlock, Exit.then, exitJumps])
          refine bodyPost_ret (results_read rfl rfl rfl rfl (put5_block HRES.out)) rfl ?_
          exact ⟨.none_ (HQ.out) rfl, put5_below HLOW.out (Nat.le_refl _)⟩
      · have y12 : 12 ≤ m := by have := of_decide_eq_true h12; omega
        have HQ := Lib.hid (HRN.out.symm.trans (if_pos y12))
        clear hm
        go_wp2_with fail
        (try simp only [Exit.inBlock, Exit.then, exitJumps])
        refine bodyPost_ret (results_read rfl rfl rfl rfl (put5_block HRES.out)) rfl ?_
        exact ⟨.none_ (HQ.out) rfl, put5_below HLOW.out (Nat.le_refl _)⟩
    · refine ⟨_, rfl, ?_⟩
      rcases Nat.eq_zero_or_pos σ.ps.length with h0 | h0
      · have HQ := Lib.hid (show R = (zeroT, 12, (i : Int)) by exact (HRUN.out.symm.trans (readE_close0 hl0 hl1 (by rw [List.length_map]; exact h0))))
        rw [h0] at ha1
        go_wp2_with fail
        (try simp only [Exit.inBlock, Exit.then, exitJumps])
        refine bodyPost_ret (results_read rfl rfl rfl rfl (put5_block HRES.out)) rfl ?_
        exact ⟨.none_ (HQ.out) rfl, put5_below HLOW.out (Nat.le_refl _)⟩
      · obtain ⟨m, hm⟩ : ∃ m, σ.ps.length = m + 1 := ⟨σ.ps.length - 1, by omega⟩
        obtain ⟨x, hx⟩ : ∃ x, σ.ps[m]? = some x := ⟨_, List.getElem?_eq_getElem (by omega)⟩
        have hfew := hD.out.few
        have HRN := Lib.hid ((readE_close (op := σ.ps.map Prod.fst) (dn := σ.dn.map Prod.fst) hl0 hl1 (m := m) (t := x.1) (by rw [List.length_map]; exact hm) (by rw [List.getElem?_map, hx]; rfl)).symm.trans HRUN.out)
        have hkx := hD.out.kids x (List.mem_of_getElem? hx)
        have ho := hD.out.inv.own
        rw [hm] at ho ha1 hfew
        obtain ⟨gO, cO, hv, _⟩ := ho.form (by omega)
        have hA : σ.A = some ⟨gO, 0, none⟩ := by injection hv
        rw [hA] at ha1 ho
        obtain ⟨f0, f1, f2, f3, f4⟩ := flatT_get σ.ps m x hx
        have b0 := (ho.cellAt (m * 5) (by omega)).trans f0
        have b1 := (ho.cellAt (m * 5 + 1) (by omega)).trans f1
        have b2 := (ho.cellAt (m * 5 + 2) (by omega)).trans f2
        have b3 := (ho.cellAt (m * 5 + 3) (by omega)).trans f3
        have b4 := (ho.cellAt (m * 5 + 4) (by omega)).trans f4
        obtain ⟨_, _⟩ := ho.form (show 0 < m + 1 by omega)
        have hcm : m + 1 ≤ σ.c := by
          rcases ho.2 with ⟨h, _⟩ | ⟨_, cap, _, h, _, _, h2, _⟩
          · simp at h
          · injection h with _ _ h; omega
        obtain ⟨w4, ew4⟩ : ∃ w4, w4 = w3.alloc (.cells #[.int .i64 x.1.k, .string x.1.s, .int .i64 x.1.n, .slice x.2.1 x.1.kids.length x.2.2, .int .i64 x.1.at_] 24) := ⟨_, rfl⟩
        have hb4 : Below w3.heap.size w3 w4 := by rw [ew4]; exact (Below.refl _ _).alloc (Nat.le_refl _) _
        have hn4 : w4.heap[w3.heap.size]? = some (.cells #[.int .i64 x.1.k, .string x.1.s, .int .i64 x.1.n, .slice x.2.1 x.1.kids.length x.2.2, .int .i64 x.1.at_] 24 (0, 0)) := by rw [ew4]; exact heap_alloc_new w3 _
        obtain ⟨hr5, hx5⟩ := (hD.out.inv.below hb4).pop hm hx (by omega)
        have hc4 : w4.cell? ⟨w.heap.size + 1, 1, none⟩ = some (.slice (some ⟨gO, 0, none⟩) (m + 1) σ.c) := (World.cell?_of_block (hb4.block (w.heap.size + 1) (by omega))).trans ha1
        have hf4 : w4.frozen? ⟨w.heap.size + 1, 1, none⟩ = false := by
          have := (hb4.block (w.heap.size + 1) (by omega)).trans HRD.out
          simp [World.frozen?, this]
        have hdn : σ.dn = [] := by
          rcases hD.out.inv.od with h | h
          · rw [h] at hm; cases hm
          · exact h
        have hadd := add_any hr5 x hx5 (by simp only [List.length_take]; omega) (fun p hp => by have := hD.out.kids p (List.mem_of_mem_take hp); omega) (fun _ => hdn)
        obtain ⟨w5, ew5⟩ : ∃ w5, w5 = w4.setCell ⟨w.heap.size + 1, 1, none⟩ (.slice σ.A m σ.c) := ⟨_, rfl⟩
        have hn5 : w5.heap[w3.heap.size]? = some (.cells #[.int .i64 x.1.k, .string x.1.s, .int .i64 x.1.n, .slice x.2.1 x.1.kids.length x.2.2, .int .i64 x.1.at_] 24 (0, 0)) := by rw [ew5]; exact (Below.heap_setCell w4 ⟨w.heap.size + 1, 1, none⟩ _ w3.heap.size (by simp; omega)).trans hn4
        rw [← ew5] at hadd
        rw [hA] at ew5
        have HADD := Lib.hid hadd
        have HW4 := Lib.hid ew4
        have HW5 := Lib.hid ew5
        have HN5 := Lib.hid hn5
        have HMX := Lib.hid (And.intro hm (And.intro hx (And.intro hkx hdn)))
        have em : ((m : Int) + 1 - 1) = (m : Int) := by omega
        have ew : IntKind.i64.wrap (m : Int) = (m : Int) := by unfold IntKind.wrap; simp [IntKind.bits, IntKind.signed]; omega
        have el : (m : Int) < (m : Int) + 1 := by omega
        have epos : decide (0 < (m : Int) + 1) = true := decide_eq_true (by omega)
        have ele : (m : Int) ≤ (m : Int) + 1 := by omega
        clear hr5 hx5 hadd ew4 ew5 hb4 hn4 hn5 ho hv f0 f1 f2 f3 f4 hx hkx hdn
        obtain ⟨⟨xk, xs, xn, xl, xa⟩, xA, xc⟩ := x
        simp only [T.k, T.s, T.n, T.kids, T.at_] at b0 b1 b2 b3 b4 HADD HW4 HN5 HMX HRN
        obtain ⟨xln, hxln⟩ : ∃ n, n = xl.length := ⟨_, rfl⟩
        rw [← hxln] at b3 HADD HW4 HN5
        clear hxln hm
        go_upto_region 26 with (fail)
        rw [← HW4.out]
        go_upto_region 27 with (fail)
        rw [← HW5.out]
        obtain ⟨⟨k0, k1, k2, k3, k4⟩, _, _, _, _, _⟩ := cell5 HN5.out
        go_wp2_with fail
        refine (HADD.out).mono ?_
        rintro e w6 ⟨rfl, σ2, hr6, hadd2, hlen2, _, hkid2⟩
        obtain ⟨hm, hx, hkx, hdn⟩ := HMX.out
        have hlen3 : σ2.ps.length = m := by rw [hlen2]; simp only [List.length_take]; omega
        have HR6 := Lib.hid hr6
        have HRU : Hid (readE s (σ2.ps.map Prod.fst) (σ2.dn.map Prod.fst) (i + 1) = R) := Lib.hid (by
          have h1 := congrArg Prod.fst hadd2
          have h2 := congrArg Prod.snd hadd2
          simp only at h1 h2
          rw [h1, h2]
          simp only [List.map_take]
          exact HRN.out)
        have HKD : Hid (∀ p ∈ σ2.ps, p.1.kids.length ≤ i + 1) := Lib.hid (fun p hp => by
          obtain ⟨p0, hp0, h⟩ := hkid2 p hp
          have := hD.out.kids p0 (List.mem_of_mem_take hp0)
          omega)
        clear hr6 hadd2 hlen2 hkid2 hm hx hkx hdn
        go_wp2_with fail
        go_step3
        (try simp only [Exit.inBlock, Exit.then, exitJumps])
        refine ⟨2 * (s.size - (i + 1)) + (if (1 : Nat) = 1 then 1 else 0), ?_, i + 1, ((i : Int) + 1), σ2, ⟨_, rfl, by kernel_rfl, by kernel_rfl, by kernel_rfl, by kernel_rfl, by kernel_rfl⟩, ?_, rfl, Lib.hid (⟨HR6.out, by omega, HRU.out, by omega, HKD.out, .inl rfl⟩)⟩
        · simp only [if_true, reduceCtorEq, Nat.reduceEqDiff, if_false]; omega
        · omega
end Go.Proofs.YtldleckgkgeclaaDoor
