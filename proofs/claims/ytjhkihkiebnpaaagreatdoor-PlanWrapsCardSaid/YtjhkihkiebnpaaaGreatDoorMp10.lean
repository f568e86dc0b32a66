/-
  Package sexp's reader, whole: it computes what readE says; the tree lies in new memory.
-/
import Derived.Test.YtjhkihkiebnpaaaGreatDoorMp9
import Derived.Test.YtjhkihkiebnpaaaGreatDoorMp1
import Derived.Test.YtjhkihkiebnpaaaGreatDoorMp7
import Derived.Deep.RegionLaw
import Derived.Deep.DeepCutAuto
import Derived.Deep.RegionHeld3
import Derived.KernelRfl
set_option linter.unusedVariables false
set_option linter.unusedSimpArgs false
set_option linter.unusedVariables false
set_option linter.unusedSimpArgs false
namespace Go.Proofs.YtjhkihkiebnpaaaGreatDoor
open Go.RowKit
theorem results_read {fn : Func} {p q r : Tmp} (h : fn.results = #[.cell p 71, .tmp q, .tmp r]) {tmps : Array Value} {w : World} {g : Nat} {x0 x1 x2 x3 x4 a b : Value} {t : TypeId}
    (hp : tmps.getD p undef = .pointer (some ⟨g, 0, none⟩)) (hq : tmps.getD q undef = a) (hr : tmps.getD r undef = b) (hg : w.heap[g]? = some (.cells #[x0, x1, x2, x3, x4] t (0, 0))) : (results fn tmps).run Tryz.prog w = .ok (.tuple #[.agg #[x0, x1, x2, x3, x4], a, b]) w := by
  have hp' : tmps[p]?.getD undef = .pointer (some ⟨g, 0, none⟩) := by simpa using hp
  have hq' : tmps[q]?.getD undef = a := by simpa using hq
  have hr' : tmps[r]?.getD undef = b := by simpa using hr
  have hl := run_loadVar_row (P := Tryz.prog) w g t 71 #[x0, x1, x2, x3, x4] (0, 0) _ hg Tryz.underlying71 rfl (by show _ = some 5; kernel_rfl)
  simp [results, h, hp', hq', hr', asAddr, hl]
def ReadIs (w : World) (R : T × Int × Int) (e : Ending) (w' : World) : Prop := ∃ (A : Option Addr) (c : Nat),
  e = .returned (.tuple #[.agg #[.int .i64 R.1.k, .string R.1.s, .int .i64 R.1.n, .slice A R.1.kids.length c, .int .i64 R.1.at_], .int .i64 R.2.1, .int .i64 R.2.2]) ∧ R.1.kids.length ≤ c ∧ XTK w' (fun k => w.heap.size ≤ k ∧ k < w'.heap.size) A R.1.kids
theorem ReadIs.none_ {w w' : World} {R : T × Int × Int} {e : Ending} {why place : Int} (h : R = (zeroT, why, place)) (he : e = .returned (.tuple #[.agg #[.int .i64 0, .string ⟨#[]⟩, .int .i64 0, .slice none 0 0, .int .i64 0], .int .i64 why, .int .i64 place])) : ReadIs w R e w' := by
  subst h
  exact ⟨none, 0, he, Nat.le_refl _, .nil _⟩
/-- what holds at a jump to label l -/
structure RD (s : ByteArray) (w : World) (R : T × Int × Int) (l i : Nat) (σ : St) (w1 : World) : Prop where
  inv : RInv s w σ w1
  is : i ≤ s.size
  run : readE s (σ.ps.map Prod.fst) (σ.dn.map Prod.fst) i = R
  few : σ.ps.length ≤ 12
  kids : ∀ p ∈ σ.ps, p.1.kids.length ≤ i
  lab : l = 1 ∨ (l = 0 ∧ ¬ i < s.size) ∨ (l = 2 ∧ i < s.size ∧ ((bt s i).toNat : Int) = 40) ∨ (l = 3 ∧ i < s.size ∧ ((bt s i).toNat : Int) = 41)
def RJ (s : ByteArray) (w : World) (R : T × Int × Int) (n l : Nat) (a : Act) (w1 : World) : Prop := ∃ (i : Nat) (q : Int) (σ : St), RFrame s w.heap.size (w.heap.size + 1) q a ∧ q = (i : Int) ∧ n = 2 * (s.size - i) + (if l = 1 then 1 else 0) ∧ Hid (RD s w R l i σ w1)
theorem RD.next {s : ByteArray} {w : World} {R : T × Int × Int} {l i j : Nat} {σ σ' : St} {w1 w2 : World} (h : RD s w R l i σ w1) (hi : RInv s w σ' w2) (hj : j ≤ s.size) (hr : readE s (σ'.ps.map Prod.fst) (σ'.dn.map Prod.fst) j = R) (hf : σ'.ps.length ≤ 12)
    (hk : ∀ p ∈ σ'.ps, p.1.kids.length ≤ j) : RD s w R 1 j σ' w2 := ⟨hi, hj, hr, hf, hk, .inl rfl⟩
set_option linter.unusedSimpArgs false in
set_option maxRecDepth 100000 in
set_option maxHeartbeats 20000000 in
theorem read_sexp (hP : ParseHere) (hH : HexHere) (s : ByteArray) (hs : s.size ≤ 600) (w : World) (hE : Errs w) : Calls Tryz.prog 29 #[.string s] w fun e w' => ReadIs w (readE s [] [] 0) e w' ∧ Below w.heap.size w w' := by
  obtain ⟨R, hR⟩ : ∃ R, R = readE s [] [] 0 := ⟨_, rfl⟩
  rw [← hR]
  have HRR := Lib.hid hR
  obtain ⟨w1, ew1⟩ : ∃ w1, w1 = w.alloc (.cells #[.int .i64 0, .string ⟨#[]⟩, .int .i64 0, .slice none 0 0, .int .i64 0] 71) := ⟨_, rfl⟩
  have hb1 : Below w.heap.size w w1 := by rw [ew1]; exact (Below.refl _ _).alloc (Nat.le_refl _) _
  have hs1 : w1.heap.size = w.heap.size + 1 := by rw [ew1]; simp
  have hx1 : w1.heap[w.heap.size]? = some (.cells #[.int .i64 0, .string ⟨#[]⟩, .int .i64 0, .slice none 0 0, .int .i64 0] 71 (0, 0)) := by rw [ew1]; exact heap_alloc_new w _
  obtain ⟨w2, ew2⟩ : ∃ w2, w2 = w1.alloc (.cells #[.string s, .slice none 0 0, .slice none 0 0] 102) := ⟨_, rfl⟩
  have hb2 : Below w1.heap.size w1 w2 := by rw [ew2]; exact (Below.refl _ _).alloc (Nat.le_refl _) _
  have hs2 : w2.heap.size = w.heap.size + 1 + 1 := by rw [ew2]; simp; omega
  have hg2 : w2.heap[w.heap.size + 1]? = some (.cells #[.string s, .slice none 0 0, .slice none 0 0] 102 (0, 0)) := by rw [ew2, ← hs1]; exact heap_alloc_new w1 _
  have HI0 : Hid (RInv s w ⟨[], [], none, 0, none, 0⟩ w2) := Lib.hid ⟨hb1.trans (hb2.mono (by omega)), by omega, (hb2.block _ (by omega)).trans hx1, hg2, ⟨rfl, .inl ⟨rfl, rfl⟩⟩, ⟨rfl, .inl ⟨rfl, rfl⟩⟩, fun k hk => absurd hk bk_none, fun p hp => (by cases hp), fun i j p q hi => (by simp at hi), fun p hp => (by cases hp), fun q hq => (by cases hq), .inl rfl, fun _ => ⟨rfl, rfl⟩⟩
  have HW1 := Lib.hid ew1
  have HW2 := Lib.hid ew2
  have HE := Lib.hid hE
  have h600 : decide (600 < (s.size : Int)) = false := by simp; omega
  clear ew1 ew2 hb1 hb2 hx1 hg2 hE hR
  go_enter Tryz.func29, Tryz.ntmps29
  go_upto_region 1 with (fail)
  rw [← HW1.out]
  go_wp2_with fail
  clear h600
  refine wp_scope_ghost (RJ s w R) (fun hlab => ?_) (fun n l a w3 hJ => ?_)
  · have HLB := Lib.hid (fun n => hlab n 1 _ rfl)
    clear hlab
    go_wp2_with fail
    refine wp_label ?_
    simp only [Exit.then]
    rename_i hK0
    rw [← HW2.out]
    refine hK0 _ _ (HLB.out (2 * (s.size - 0) + (if (1 : Nat) = 1 then 1 else 0)) _ _ ?_)
    exact ⟨0, 0, ⟨[], [], none, 0, none, 0⟩, ⟨_, rfl, by kernel_rfl, by kernel_rfl, by kernel_rfl, by kernel_rfl, by kernel_rfl⟩, rfl, rfl, Lib.hid ⟨HI0.out, Nat.zero_le _, HRR.out.symm, by decide, fun p hp => (by cases hp), .inl rfl⟩⟩
  · obtain ⟨i, q, σ, hfr, rfl, rfl, hD⟩ := hJ
    obtain ⟨u, rfl⟩ := hfr.form
    clear hfr
    clear HI0 HW1 HW2 hs1 hs2
    have hlab := hD.out.lab
    have hrd := hD.out.inv.rd
    have hsz := hD.out.inv.size
    have HLOW := Lib.hid hD.out.inv.low
    have HRES := Lib.hid hD.out.inv.res
    have HRUN := Lib.hid hD.out.run
    have HRD := Lib.hid hrd
    have his := hD.out.is
    have HE3 := Lib.hid (HE.out.below HLOW.out)
    have ha1 : w3.cell? ⟨w.heap.size + 1, 1, none⟩ = some (.slice σ.A σ.ps.length σ.c) := by simp [World.cell?, hrd]
    have ha2 : w3.cell? ⟨w.heap.size + 1, 2, none⟩ = some (.slice σ.B σ.dn.length σ.cB) := by simp [World.cell?, hrd]
    have hwh := Lib.hid (whole_any hrd)
    obtain ⟨⟨z0, z1, z2, z3, z4⟩, y0, y1, y2, y3, y4⟩ := cell5 HRES.out
    clear hrd
    rcases hlab with rfl | ⟨rfl, hl0⟩ | ⟨rfl, hl0, hl1⟩ | ⟨rfl, hl0, hl1⟩
    · refine ⟨_, rfl, ?_⟩
      by_cases hlt : i < s.size
      · have HBT := Lib.hid (bt_eq hlt)
        have hge : decide ((s.size : Int) ≤ (i : Int)) = false := by simp; omega
        cases h32 : ((s[i].toNat : Int) == 32)
        · have n32 := Lib.hid (show ¬ ((bt s i).toNat : Int) = 32 by rw [HBT.out]; simpa using h32)
          cases h10 : ((s[i].toNat : Int) == 10)
          · have n10 := Lib.hid (show ¬ ((bt s i).toNat : Int) = 10 by rw [HBT.out]; simpa using h10)
            cases h40 : ((s[i].toNat : Int) == 40)
            · have n40 := Lib.hid (show ¬ ((bt s i).toNat : Int) = 40 by rw [HBT.out]; simpa using h40)
              cases h41 : ((s[i].toNat : Int) == 41)
              · have n41 := Lib.hid (show ¬ ((bt s i).toNat : Int) = 41 by rw [HBT.out]; simpa using h41)
                have hone := one_any hP hH s i hlt hs (w.heap.size + 1) σ.dn.length σ.cB σ.B (.slice σ.A σ.ps.length σ.c) w3 HE3.out HRD.out
                have hend := oneE_end (s := s) (decide (0 < σ.dn.length)) hlt
                have HBAD := Lib.hid (fun hw => (readE_bad (op := σ.ps.map Prod.fst) (dn := σ.dn.map Prod.fst) hlt n32.out n10.out n40.out n41.out hw))
                have HLEAF := Lib.hid (fun hw => (readE_leaf (op := σ.ps.map Prod.fst) (dn := σ.dn.map Prod.fst) hlt n32.out n10.out n40.out n41.out hw))
                rw [List.length_map] at HBAD HLEAF
                have HDL : Hid (decide (0 < σ.dn.length) = false → σ.dn = []) := Lib.hid (fun h => by simp at h; exact h)
                generalize hrr : oneE s i (decide (0 < σ.dn.length)) = r at *
                obtain ⟨t, en, why, pl⟩ := r
                simp only at hend HBAD HLEAF
                unfold OneIs at hone
                simp only at hone
                have HONE := Lib.hid hone
                have HEND := Lib.hid hend
                clear hone hend hrr n32 n10 n40 n41 HBT
                go_wp2_with fail
                refine (HONE.out).mono ?_
                rintro e w4 ⟨⟨rfl, hkids⟩, hb4⟩
                obtain ⟨w5, ew5⟩ : ∃ w5, w5 = w4.alloc (.cells #[.int .i64 t.k, .string t.s, .int .i64 t.n, .slice none 0 0, .int .i64 t.at_] 71) := ⟨_, rfl⟩
                have hb5 : Below w4.heap.size w4 w5 := by rw [ew5]; exact (Below.refl _ _).alloc (Nat.le_refl _) _
                have hn5 : w5.heap[w4.heap.size]? = some (.cells #[.int .i64 t.k, .string t.s, .int .i64 t.n, .slice none 0 0, .int .i64 t.at_] 71 (0, 0)) := by rw [ew5]; exact heap_alloc_new w4 _
                have hr5 := (hD.out.inv.below hb4).below hb5
                have HADD := Lib.hid (fun hd => add_any hr5 (t, none, 0) ⟨by simp only [hkids]; exact Nat.le_refl _, by simp only [hkids]; exact .nil _⟩ hD.out.few (fun p hp => by have := hD.out.kids p hp; omega) hd)
                simp only [hkids, List.length_nil] at HADD
                have HR5 := Lib.hid hr5
                have HRES := Lib.hid hr5.res
                have HLOW := Lib.hid hr5.low
                have HN5 := Lib.hid hn5
                have HW5 := Lib.hid ew5
                have HKT := Lib.hid hkids
                clear hb4 hb5 hn5 hr5 ew5 hkids z0 z1 z2 z3 z4 y0 y1 y2 y3 y4
                go_upto_region 13 with (fail)
                rw [← HW5.out]
                by_cases hy : why = 0
                · subst hy
                  obtain ⟨he1, he2, hwf⟩ := HEND.out.2.1 rfl
                  have hdn := HDL.out hwf
                  have hadd := Lib.hid (HADD.out (fun _ => hdn))
                  have HRN := Lib.hid ((HLEAF.out rfl).symm.trans HRUN.out)
                  obtain ⟨⟨k0, k1, k2, k3, k4⟩, _, _, _, _, _⟩ := cell5 HN5.out
                  clear HADD HBAD HLEAF HDL
                  go_wp2_with fail
                  refine (hadd.out).mono ?_
                  rintro e w6 ⟨rfl, σ2, hr6, hadd2, hlen2, _, hkid2⟩
                  have hlen3 : σ2.ps.length ≤ 12 := by rw [hlen2]; exact hD.out.few
                  have HR6 := Lib.hid hr6
                  have HRU : Hid (readE s (σ2.ps.map Prod.fst) (σ2.dn.map Prod.fst) en.toNat = R) := Lib.hid (by
                    have h1 := congrArg Prod.fst hadd2
                    have h2 := congrArg Prod.snd hadd2
                    simp only at h1 h2
                    rw [h1, h2]
                    exact HRN.out)
                  have HKD : Hid (∀ p ∈ σ2.ps, p.1.kids.length ≤ en.toNat) := Lib.hid (fun p hp => by
                    obtain ⟨p0, hp0, h⟩ := hkid2 p hp
                    have := hD.out.kids p0 hp0
                    omega)
                  clear hr6 hadd2 hlen2 hkid2 hdn
                  go_wp2_with fail
                  go_step3
                  (try simp only [Exit.inBlock, Exit.then, exitJumps])
                  refine ⟨2 * (s.size - (en.toNat)) + (if (1 : Nat) = 1 then 1 else 0), ?_, en.toNat, en, σ2, ⟨_, rfl, by kernel_rfl, by kernel_rfl, by kernel_rfl, by kernel_rfl, by kernel_rfl⟩, ?_, rfl, Lib.hid (⟨HR6.out, by omega, HRU.out, hlen3, HKD.out, .inl rfl⟩)⟩
                  · simp only [if_true, reduceCtorEq, Nat.reduceEqDiff, if_false]; omega
                  · omega
                · have hyb : (why != 0) = true := by simpa using hy
                  have HQ := Lib.hid ((HRUN.out.symm.trans (HBAD.out hy)))
                  obtain ⟨⟨z0, z1, z2, z3, z4⟩, y0, y1, y2, y3, y4⟩ := cell5 HRES.out
                  clear HADD HBAD HLEAF HDL hy
                  go_wp2_with fail
                  (try simp only [Exit.inBlock, Exit.then, exitJumps])
                  refine bodyPost_ret (results_read rfl rfl rfl rfl (put5_block HRES.out)) rfl ?_
                  exact ⟨.none_ (HQ.out) rfl, put5_below HLOW.out (Nat.le_refl _)⟩
              · have y41 := Lib.hid (show ((bt s i).toNat : Int) = 41 by rw [HBT.out]; simpa using h41)
                go_wp2_with fail
                go_step3
                (try simp only [Exit.inBlock, Exit.then, exitJumps])
                refine ⟨2 * (s.size - (i)) + (if (3 : Nat) = 1 then 1 else 0), ?_, i, (i : Int), σ, ⟨_, rfl, by kernel_rfl, by kernel_rfl, by kernel_rfl, by kernel_rfl, by kernel_rfl⟩, ?_, rfl, Lib.hid (⟨hD.out.inv, his, hD.out.run, hD.out.few, hD.out.kids, .inr (.inr (.inr ⟨rfl, hlt, y41.out⟩))⟩)⟩
                · simp only [if_true, reduceCtorEq, Nat.reduceEqDiff, if_false]; omega
                · omega
            · have y40 := Lib.hid (show ((bt s i).toNat : Int) = 40 by rw [HBT.out]; simpa using h40)
              go_wp2_with fail
              go_step3
              (try simp only [Exit.inBlock, Exit.then, exitJumps])
              refine ⟨2 * (s.size - (i)) + (if (2 : Nat) = 1 then 1 else 0), ?_, i, (i : Int), σ, ⟨_, rfl, by kernel_rfl, by kernel_rfl, by kernel_rfl, by kernel_rfl, by kernel_rfl⟩, ?_, rfl, Lib.hid (⟨hD.out.inv, his, hD.out.run, hD.out.few, hD.out.kids, .inr (.inr (.inl ⟨rfl, hlt, y40.out⟩))⟩)⟩
              · simp only [if_true, reduceCtorEq, Nat.reduceEqDiff, if_false]; omega
              · omega
          · have HRN := Lib.hid ((readE_blank (op := σ.ps.map Prod.fst) (dn := σ.dn.map Prod.fst) hlt (.inr (by rw [HBT.out]; simpa using h10))).symm.trans HRUN.out)
            go_wp2_with fail
            go_step3
            (try simp only [Exit.inBlock, Exit.then, exitJumps])
            refine ⟨2 * (s.size - (i + 1)) + (if (1 : Nat) = 1 then 1 else 0), ?_, i + 1, ((i : Int) + 1), σ, ⟨_, rfl, by kernel_rfl, by kernel_rfl, by kernel_rfl, by kernel_rfl, by kernel_rfl⟩, ?_, rfl, Lib.hid (⟨hD.out.inv, by omega, HRN.out, hD.out.few, fun p hp => Nat.le_succ_of_le (hD.out.kids p hp), .inl rfl⟩)⟩
            · simp only [if_true, reduceCtorEq, Nat.reduceEqDiff, if_false]; omega
            · omega
        · have HRN := Lib.hid ((readE_blank (op := σ.ps.map Prod.fst) (dn := σ.dn.map Prod.fst) hlt (.inl (by rw [HBT.out]; simpa using h32))).symm.trans HRUN.out)
          go_wp2_with fail
          go_step3
          (try simp only [Exit.inBlock, Exit.then, exitJumps])
          refine ⟨2 * (s.size - (i + 1)) + (if (1 : Nat) = 1 then 1 else 0), ?_, i + 1, ((i : Int) + 1), σ, ⟨_, rfl, by kernel_rfl, by kernel_rfl, by kernel_rfl, by kernel_rfl, by kernel_rfl⟩, ?_, rfl, Lib.hid (⟨hD.out.inv, by omega, HRN.out, hD.out.few, fun p hp => Nat.le_succ_of_le (hD.out.kids p hp), .inl rfl⟩)⟩
          · simp only [if_true, reduceCtorEq, Nat.reduceEqDiff, if_false]; omega
          · omega
      · go_wp2_with fail
        go_step3
        (try simp only [Exit.inBlock, Exit.then, exitJumps])
        refine ⟨2 * (s.size - (i)) + (if (0 : Nat) = 1 then 1 else 0), ?_, i, (i : Int), σ, ⟨_, rfl, by kernel_rfl, by kernel_rfl, by kernel_rfl, by kernel_rfl, by kernel_rfl⟩, ?_, rfl, Lib.hid (⟨hD.out.inv, his, hD.out.run, hD.out.few, hD.out.kids, .inr (.inl ⟨rfl, hlt⟩)⟩)⟩
        · simp only [if_true, reduceCtorEq, Nat.reduceEqDiff, if_false]; omega
        · omega
    · refine ⟨_, rfl, ?_⟩
      obtain ⟨m, hm⟩ : ∃ m, σ.ps.length = m := ⟨_, rfl⟩
      obtain ⟨dl, hdl⟩ : ∃ dl, σ.dn.length = dl := ⟨_, rfl⟩
      rw [hm] at ha1
      rw [hdl] at ha2 hwh
      have HRN := Lib.hid ((readE_end (op := σ.ps.map Prod.fst) (dn := σ.dn.map Prod.fst) hl0).symm.trans HRUN.out)
      rw [List.length_map, hm] at HRN
      by_cases h0 : 0 < m
      · have d0 : decide (0 < (m : Int)) = true := by simpa using h0
        have HQ := Lib.hid (HRN.out.symm.trans (if_pos h0))
        go_wp2_with fail
        (try simp only [Exit.inBlock, Exit.then, exitJumps])
        refine bodyPost_ret (results_read rfl rfl rfl rfl (put5_block HRES.out)) rfl ?_
        exact ⟨.none_ (HQ.out) rfl, put5_below HLOW.out (Nat.le_refl _)⟩
      · have d0 : decide (0 < (m : Int)) = false := by simpa using h0
        have HRN := Lib.hid ((if_neg h0).symm.trans HRN.out)
        rcases Nat.eq_zero_or_pos dl with hd0 | hd0
        · have hdn : σ.dn = [] := List.eq_nil_of_length_eq_zero (by omega)
          have hdb : decide (0 < dl) = false := decide_eq_false (by omega)
          rw [hdb] at hwh
          have HQ := Lib.hid (show R = (zeroT, 10, (s.size : Int)) by have := HRN.out; rw [hdn] at this; exact this.symm)
          clear hdb
          go_wp2_with fail
          refine (hwh.out).mono ?_
          rintro e w' ⟨rfl, rfl⟩
          go_wp2_with fail
          (try simp only [Exit.inBlock, Exit.then, exitJumps])
          refine bodyPost_ret (results_read rfl rfl rfl rfl (put5_block HRES.out)) rfl ?_
          exact ⟨.none_ (HQ.out) rfl, put5_below HLOW.out (Nat.le_refl _)⟩
        · have hdb : decide (0 < dl) = true := by simpa using hd0
          rw [hdb] at hwh
          obtain ⟨x, rest, hdn⟩ : ∃ x rest, σ.dn = x :: rest := by
            cases h : σ.dn with
            | nil => rw [h] at hdl; simp at hdl; omega
            | cons x rest => exact ⟨x, rest, rfl⟩
          have HQ := Lib.hid (show R = (x.1, 0, 0) by have := HRN.out; rw [hdn] at this; exact this.symm)
          have hx0 : σ.dn[0]? = some x := by rw [hdn]; rfl
          have hdk := Lib.hid (hD.out.inv.dnk x (by rw [hdn]; exact List.mem_cons_self))
          have ho := hD.out.inv.owd
          rw [hdl] at ho
          obtain ⟨gB, cB', hv, _⟩ := ho.form hd0
          have hB : σ.B = some ⟨gB, 0, none⟩ := by injection hv
          rw [hB] at ha2 ho
          obtain ⟨f0, f1, f2, f3, f4⟩ := flatT_get σ.dn 0 x hx0
          have b0 := (ho.cellAt 0 (by omega)).trans f0
          have b1 := (ho.cellAt 1 (by omega)).trans f1
          have b2 := (ho.cellAt 2 (by omega)).trans f2
          have b3 := (ho.cellAt 3 (by omega)).trans f3
          have b4 := (ho.cellAt 4 (by omega)).trans f4
          have dpos : (0 : Int) < (dl : Int) := by omega
          clear hdb ho hv hdn hx0 f0 f1 f2 f3 f4
          obtain ⟨⟨xk, xs, xn, xl, xa⟩, xA, xc⟩ := x
          simp only [T.k, T.s, T.n, T.kids, T.at_] at b0 b1 b2 b3 b4 hdk
          obtain ⟨xln, hxln⟩ : ∃ n, n = xl.length := ⟨_, rfl⟩
          rw [← hxln] at b3 hdk
          have HXL := Lib.hid hxln
          clear hxln
          go_wp2_with fail
          refine (hwh.out).mono ?_
          rintro e w' ⟨rfl, rfl⟩
          go_wp2_with fail
          (try simp only [Exit.inBlock, Exit.then, exitJumps])
          refine bodyPost_ret (results_read rfl rfl rfl rfl (put5_block HRES.out)) rfl ?_
          refine ⟨?_, put5_below HLOW.out (Nat.le_refl _)⟩
          rw [HQ.out]
          refine ⟨xA, xc, ?_, ?_, ?_⟩
          · simp only [T.k, T.s, T.n, T.kids, T.at_]; rw [← HXL.out]; rfl
          · simp only [T.kids]; rw [← HXL.out]; exact hdk.out.1
          · simp only [T.kids]
            refine xtk_move hdk.out.2 (fun k hk => put5_other (by have := hk.1; omega)) (fun k hk => ⟨by have := hk.1; omega, by simpa [World.setCell] using hk.2.1⟩)
    · refine ⟨_, rfl, ?_⟩
      obtain ⟨m, hm⟩ : ∃ m, σ.ps.length = m := ⟨_, rfl⟩
      have HRN := Lib.hid ((readE_open (op := σ.ps.map Prod.fst) (dn := σ.dn.map Prod.fst) hl0 hl1).symm.trans HRUN.out)
      rw [List.length_map, hm, List.length_map] at HRN
      have hfew := hD.out.few
      rw [hm] at ha1 hfew
      have HM := Lib.hid hm
      cases h12 : decide (12 ≤ (m : Int))
      · have n12 : ¬ 12 ≤ m := by have := of_decide_eq_false h12; omega
        have HRN := Lib.hid ((if_neg n12).symm.trans HRN.out)
        cases hdb : decide (0 < σ.dn.length)
        · rw [hdb] at hwh
          have hdn : σ.dn = [] := by
            have := of_decide_eq_false hdb
            exact List.eq_nil_of_length_eq_zero (by omega)
          have HRN := Lib.hid ((if_neg (of_decide_eq_false hdb)).symm.trans HRN.out)
          have HGQ : Hid (w3.heap[w.heap.size + 1]? = some (.cells #[.string s, .slice σ.A m σ.c, .slice σ.B σ.dn.length σ.cB] 102 (0, 0))) := Lib.hid (by have := HRD.out; rw [hm] at this; exact this)
          have HKQ : Hid (w3.ownsRow (w.heap.size + 2) 71 5 (.slice σ.A m σ.c) m (flatT σ.ps)) := Lib.hid (by have := hD.out.inv.own; rw [hm] at this; exact this)
          have hAg : ∀ ad : Addr, σ.A = some ad → ad.block ≠ w.heap.size + 1 := fun ad e => by have := (own_bk HKQ.out ⟨ad, e, rfl⟩).1; omega
          have HBQ : Hid (Below w3.heap.size w3 w3) := Lib.hid (Below.refl _ _)
          have hSB : Hid (∀ w' : World, w'.heap[w.heap.size + 1]? = w3.heap[w.heap.size + 1]? → w'.cell? ⟨w.heap.size + 1, 1, none⟩ = some (.slice σ.A m σ.c)) := Lib.hid (fun w' h1 => (World.cell?_of_block h1).trans ha1)
          obtain ⟨i0, hi, hz0, hz1, hz2⟩ := info_parts tree_info
          have ew : IntKind.i64.wrap (m : Int) = (m : Int) := by unfold IntKind.wrap; simp [IntKind.bits, IntKind.signed]; omega
          have el : (m : Int) < (m : Int) + 1 := by omega
          clear hdb
          go_upto_region 19 with (fail)
          go_wp2_with fail
          refine (hwh.out).mono ?_
          rintro e w' ⟨rfl, rfl⟩
          clear hm
          go_upto_region 21 with (fail)
          refine LateKit.wp_region_last (fun w' => w'.cell? ⟨w.heap.size + 1, 1, none⟩ = some (.slice σ.A m σ.c)) [9, 10, 11, 12, 13] (by kernel_rfl) (hSB.out _ rfl) (fun hHeld => ?_)
          refine LateKit.wpAnyK_take (i := 0) (C := [0, 9, 10, 11, 12, 13]) (v := ?v21_1) rfl (by kernel_rfl) (by kernel_rfl) (by kernel_rfl) (by kernel_rfl) (fun _ _ _ h => h) (Or.inl ⟨by rfl, ?hy21_1⟩) (by assumption) ?_
          case hy21_1 => (intro w1 hSw; (try dsimp only at hSw); go_simp; try with_reducible rfl)
          simp only [List.getElem_toArray, List.getElem_cons_zero, Act.put, List.setIfInBounds_toArray, List.set_cons_zero, List.set_cons_succ]
          refine LateKit.wpAnyK_take (i := 1) (C := [1, 9, 10, 11, 12, 13]) (v := ?v21_2) rfl (by kernel_rfl) (by kernel_rfl) (by kernel_rfl) (by kernel_rfl) (fun _ _ _ h => h) (Or.inl ⟨by rfl, ?hy21_2⟩) (by assumption) ?_
          case hy21_2 => (intro w1 hSw; (try dsimp only at hSw); go_simp; try with_reducible rfl)
          simp only [List.getElem_toArray, List.getElem_cons_succ, List.getElem_cons_zero, Act.put, List.setIfInBounds_toArray, List.set_cons_zero, List.set_cons_succ]
          refine LateKit.wpAnyK_take (i := 2) (C := [2, 9, 10, 11, 12, 13]) (v := ?v21_3) rfl (by kernel_rfl) (by kernel_rfl) (by kernel_rfl) (by kernel_rfl) (fun _ _ _ h => h) (Or.inl ⟨by rfl, ?hy21_3⟩) (by assumption) ?_
          case hy21_3 => (intro w1 hSw; (try dsimp only at hSw); go_simp; try with_reducible rfl)
          simp only [List.getElem_toArray, List.getElem_cons_succ, List.getElem_cons_zero, Act.put, List.setIfInBounds_toArray, List.set_cons_zero, List.set_cons_succ]
          refine LateKit.wpAnyK_take (i := 3) (C := [3, 9, 10, 11, 12, 13]) (v := ?v21_4) rfl (by kernel_rfl) (by kernel_rfl) (by kernel_rfl) (by kernel_rfl) (fun _ _ _ h => h) (Or.inl ⟨by rfl, ?hy21_4⟩) (by assumption) ?_
          case hy21_4 => (intro w1 hSw; (try dsimp only at hSw); go_simp; try with_reducible rfl)
          simp only [List.getElem_toArray, List.getElem_cons_succ, List.getElem_cons_zero, Act.put, List.setIfInBounds_toArray, List.set_cons_zero, List.set_cons_succ]
          refine LateKit.wpAnyK_take (i := 4) (C := [4, 9, 10, 11, 12, 13]) (v := ?v21_5) rfl (by kernel_rfl) (by kernel_rfl) (by kernel_rfl) (by kernel_rfl) (fun _ _ _ h => h) (Or.inl ⟨by rfl, ?hy21_5⟩) (by assumption) ?_
          case hy21_5 => (intro w1 hSw; (try dsimp only at hSw); go_simp; try with_reducible rfl)
          simp only [List.getElem_toArray, List.getElem_cons_succ, List.getElem_cons_zero, Act.put, List.setIfInBounds_toArray, List.set_cons_zero, List.set_cons_succ]
          refine LateKit.wpAnyK_take (i := 5) (C := [5, 9, 10, 11, 12, 13]) (v := ?v21_6) rfl (by kernel_rfl) (by kernel_rfl) (by kernel_rfl) (by kernel_rfl) (fun _ _ _ h => h) (Or.inl ⟨by rfl, ?hy21_6⟩) (by assumption) ?_
          case hy21_6 => (intro w1 hSw; (try dsimp only at hSw); go_simp; try with_reducible rfl)
          simp only [List.getElem_toArray, List.getElem_cons_succ, List.getElem_cons_zero, Act.put, List.setIfInBounds_toArray, List.set_cons_zero, List.set_cons_succ]
          refine LateKit.wpAnyK_take (i := 6) (C := [6, 9, 10, 11, 12, 13]) (v := ?v21_7) rfl (by kernel_rfl) (by kernel_rfl) (by kernel_rfl) (by kernel_rfl) (fun _ _ _ h => h) (Or.inl ⟨by rfl, ?hy21_7⟩) (by assumption) ?_
          case hy21_7 => (intro w1 hSw; (try dsimp only at hSw); go_simp; try with_reducible rfl)
          simp only [List.getElem_toArray, List.getElem_cons_succ, List.getElem_cons_zero, Act.put, List.setIfInBounds_toArray, List.set_cons_zero, List.set_cons_succ]
          refine LateKit.wpAnyK_ready (rs := [7]) (by kernel_rfl) (by simp) ?_
          refine (LateKit.AllReadyK.cons rfl (fun K hK => ?_) LateKit.AllReadyK.nil)
          refine step_buildZ _ rfl rfl ?_
          refine hK.out _ _ (hSB.out _ (Below.heap_alloc _ _ _ (by simp; omega))) (fun hHeld => ?_)
          clear hK K
          simp only [List.getElem_toArray, List.getElem_cons_succ, List.getElem_cons_zero, Act.put, List.setIfInBounds_toArray, List.set_cons_zero, List.set_cons_succ, World.size_alloc, World.size_drew]
          refine LateKit.wpAnyK_ready (rs := [8]) (by kernel_rfl) (by simp) ?_
          refine (LateKit.AllReadyK.cons rfl (fun K hK => ?_) LateKit.AllReadyK.nil)
          refine step_append_lies _ rfl _ _ 69 rfl (w.heap.size + 2) 71 i0 _ 5 64 Tryz.underlying69 hi hz0 hz1 hz2 rfl (by decide) (.slice σ.A m σ.c) m (flatT σ.ps) rfl (own_below HKQ.out ((Below.refl w3.heap.size w3).drew.trans ((Below.refl w3.heap.size w3.drew).alloc (Nat.le_refl _) (.cells #[.int .i64 0, .string ⟨#[]⟩, .int .i64 0, .slice none 0 0, .int .i64 0] 71)))) ⟨w3.heap.size, 0, none⟩ 1 1 [.int .i64 0, .string ⟨#[]⟩, .int .i64 0, .slice none 0 0, .int .i64 0] rfl rfl (World.news_of_block (heap_alloc_new w3.drew (.cells #[.int .i64 0, .string ⟨#[]⟩, .int .i64 0, .slice none 0 0, .int .i64 0] 71))) ?a0 (by decide) ?a1 ?a2 ?a3 _ rfl ?_
          case a0 => (intro u hu; simp only [List.mem_cons, List.not_mem_nil, or_false] at hu; rcases hu with rfl | rfl | rfl | rfl | rfl <;> rfl)
          case a1 => (unfold maxLen; omega)
          case a2 => omega
          case a3 => (simp; omega)
          intro g5 cap5 w5 hown5 hgrow5 hat5 hlt5
          have hkeep : ∀ b, b < w3.heap.size → (∀ ad : Addr, (σ.A : Option Addr) = some ad → ad.block ≠ b) → w5.heap[b]? = w3.heap[b]? := fun b hb hA => (hgrow5.block b (by simp; omega) (fun e => own_blk_of hA e)).trans (Below.heap_alloc w3.drew _ b hb)
          have hk1 := hkeep (w.heap.size + 1) (by omega) (hAg)
          have HA5 : Hid (Aside (fun b => ∃ ad : Addr, (σ.A : Option Addr) = some ad ∧ ad.block = b) w3 w5) := Lib.hid (((Aside.of_below HBQ.out).drew.alloc _).grown hgrow5 (fun b e _ => own_blk_some e))
          have HG5 : Hid ((∃ ad : Addr, (σ.A : Option Addr) = some ad ∧ ad.block = g5) ∨ w3.heap.size ≤ g5) := Lib.hid (hat5.elim (fun e => Or.inl (own_blk_some e)) (fun e => Or.inr (by simp at e; omega)))
          have hg5 : Hid (w5.heap[w.heap.size + 1]? = some (.cells #[.string s, .slice σ.A m σ.c, .slice σ.B σ.dn.length σ.cB] 102 (0, 0))) := Lib.hid (hk1.trans HGQ.out)
          have hne5 : g5 ≠ (w.heap.size + 1) := HG5.out.elim (fun h => h.elim fun ad e2 => by have := hAg ad e2.1; omega) (fun h => by omega)
          have HO5 := Lib.hid hown5
          have hq := own_len (n := m) (qs := σ.ps) HKQ.out
          have hzc : ∀ i, i < 5 → (flatT σ.ps ++ [.int .i64 0, .string ⟨#[]⟩, .int .i64 0, .slice none 0 0, .int .i64 0])[m * 5 + i]? = ([.int .i64 0, .string ⟨#[]⟩, .int .i64 0, .slice none 0 0, .int .i64 0] : List Value)[i]? := fun i hi => by rw [List.getElem?_append_right (by rw [flatT_len, hq]; omega), flatT_len, hq, show m * 5 + i - m * 5 = i by omega]
          have hrc : w5.cell? ⟨w.heap.size + 1, 1, none⟩ = some (.slice σ.A m σ.c) := by simp [World.cell?, hg5.out]
          have hrf : w5.frozen? ⟨w.heap.size + 1, 1, none⟩ = false := by simp [World.frozen?, hg5.out]
          have d0 := (hown5.cellAt (m * 5) (by omega)).trans (hzc 0 (by decide))
          have r0 := hown5.frozenAt (m * 5)
          have d1 := (hown5.cellAt (m * 5 + 1) (by omega)).trans (hzc 1 (by decide))
          have r1 := hown5.frozenAt (m * 5 + 1)
          have d2 := (hown5.cellAt (m * 5 + 2) (by omega)).trans (hzc 2 (by decide))
          have r2 := hown5.frozenAt (m * 5 + 2)
          have d3 := (hown5.cellAt (m * 5 + 3) (by omega)).trans (hzc 3 (by decide))
          have r3 := hown5.frozenAt (m * 5 + 3)
          have d4 := (hown5.cellAt (m * 5 + 4) (by omega)).trans (hzc 4 (by decide))
          have r4 := hown5.frozenAt (m * 5 + 4)
          simp only [List.getElem?_cons_zero, List.getElem?_cons_succ] at d0 d1 d2 d3 d4
          have dd0 : (w5.setCell ⟨w.heap.size + 1, 1, none⟩ (.slice (some ⟨g5, 0, none⟩) (m + 1) cap5)).cell? ⟨g5, m * 5, none⟩ = _ := (World.cell?_of_block (Below.heap_setCell w5 ⟨w.heap.size + 1, 1, none⟩ (.slice (some ⟨g5, 0, none⟩) (m + 1) cap5) g5 hne5)).trans d0
          have rr0 : (w5.setCell ⟨w.heap.size + 1, 1, none⟩ (.slice (some ⟨g5, 0, none⟩) (m + 1) cap5)).frozen? ⟨g5, m * 5, none⟩ = false := (World.frozen?_of_block (Below.heap_setCell w5 ⟨w.heap.size + 1, 1, none⟩ (.slice (some ⟨g5, 0, none⟩) (m + 1) cap5) g5 hne5)).trans r0
          have dd1 : (w5.setCell ⟨w.heap.size + 1, 1, none⟩ (.slice (some ⟨g5, 0, none⟩) (m + 1) cap5)).cell? ⟨g5, m * 5 + 1, none⟩ = _ := (World.cell?_of_block (Below.heap_setCell w5 ⟨w.heap.size + 1, 1, none⟩ (.slice (some ⟨g5, 0, none⟩) (m + 1) cap5) g5 hne5)).trans d1
          have rr1 : (w5.setCell ⟨w.heap.size + 1, 1, none⟩ (.slice (some ⟨g5, 0, none⟩) (m + 1) cap5)).frozen? ⟨g5, m * 5 + 1, none⟩ = false := (World.frozen?_of_block (Below.heap_setCell w5 ⟨w.heap.size + 1, 1, none⟩ (.slice (some ⟨g5, 0, none⟩) (m + 1) cap5) g5 hne5)).trans r1
          have dd2 : (w5.setCell ⟨w.heap.size + 1, 1, none⟩ (.slice (some ⟨g5, 0, none⟩) (m + 1) cap5)).cell? ⟨g5, m * 5 + 2, none⟩ = _ := (World.cell?_of_block (Below.heap_setCell w5 ⟨w.heap.size + 1, 1, none⟩ (.slice (some ⟨g5, 0, none⟩) (m + 1) cap5) g5 hne5)).trans d2
          have rr2 : (w5.setCell ⟨w.heap.size + 1, 1, none⟩ (.slice (some ⟨g5, 0, none⟩) (m + 1) cap5)).frozen? ⟨g5, m * 5 + 2, none⟩ = false := (World.frozen?_of_block (Below.heap_setCell w5 ⟨w.heap.size + 1, 1, none⟩ (.slice (some ⟨g5, 0, none⟩) (m + 1) cap5) g5 hne5)).trans r2
          have dd3 : (w5.setCell ⟨w.heap.size + 1, 1, none⟩ (.slice (some ⟨g5, 0, none⟩) (m + 1) cap5)).cell? ⟨g5, m * 5 + 3, none⟩ = _ := (World.cell?_of_block (Below.heap_setCell w5 ⟨w.heap.size + 1, 1, none⟩ (.slice (some ⟨g5, 0, none⟩) (m + 1) cap5) g5 hne5)).trans d3
          have rr3 : (w5.setCell ⟨w.heap.size + 1, 1, none⟩ (.slice (some ⟨g5, 0, none⟩) (m + 1) cap5)).frozen? ⟨g5, m * 5 + 3, none⟩ = false := (World.frozen?_of_block (Below.heap_setCell w5 ⟨w.heap.size + 1, 1, none⟩ (.slice (some ⟨g5, 0, none⟩) (m + 1) cap5) g5 hne5)).trans r3
          have dd4 : (w5.setCell ⟨w.heap.size + 1, 1, none⟩ (.slice (some ⟨g5, 0, none⟩) (m + 1) cap5)).cell? ⟨g5, m * 5 + 4, none⟩ = _ := (World.cell?_of_block (Below.heap_setCell w5 ⟨w.heap.size + 1, 1, none⟩ (.slice (some ⟨g5, 0, none⟩) (m + 1) cap5) g5 hne5)).trans d4
          have rr4 : (w5.setCell ⟨w.heap.size + 1, 1, none⟩ (.slice (some ⟨g5, 0, none⟩) (m + 1) cap5)).frozen? ⟨g5, m * 5 + 4, none⟩ = false := (World.frozen?_of_block (Below.heap_setCell w5 ⟨w.heap.size + 1, 1, none⟩ (.slice (some ⟨g5, 0, none⟩) (m + 1) cap5) g5 hne5)).trans r4
          have hpg : (((((w5.setCell ⟨g5, m * 5, none⟩ (.int .i64 1)).setCell ⟨g5, m * 5 + 1, none⟩ (.string ⟨#[]⟩)).setCell ⟨g5, m * 5 + 2, none⟩ (.int .i64 0)).setCell ⟨g5, m * 5 + 3, none⟩ (.slice none 0 0)).setCell ⟨g5, m * 5 + 4, none⟩ (.int .i64 (i : Int))).heap[w.heap.size + 1]? = w5.heap[w.heap.size + 1]? := (Below.heap_setCell _ ⟨g5, m * 5 + 4, none⟩ _ (w.heap.size + 1) (Ne.symm hne5)).trans ((Below.heap_setCell _ ⟨g5, m * 5 + 3, none⟩ _ (w.heap.size + 1) (Ne.symm hne5)).trans ((Below.heap_setCell _ ⟨g5, m * 5 + 2, none⟩ _ (w.heap.size + 1) (Ne.symm hne5)).trans ((Below.heap_setCell _ ⟨g5, m * 5 + 1, none⟩ _ (w.heap.size + 1) (Ne.symm hne5)).trans (Below.heap_setCell _ ⟨g5, m * 5, none⟩ _ (w.heap.size + 1) (Ne.symm hne5)))))
          have hpc : (((((w5.setCell ⟨g5, m * 5, none⟩ (.int .i64 1)).setCell ⟨g5, m * 5 + 1, none⟩ (.string ⟨#[]⟩)).setCell ⟨g5, m * 5 + 2, none⟩ (.int .i64 0)).setCell ⟨g5, m * 5 + 3, none⟩ (.slice none 0 0)).setCell ⟨g5, m * 5 + 4, none⟩ (.int .i64 (i : Int))).cell? ⟨w.heap.size + 1, 1, none⟩ = w5.cell? ⟨w.heap.size + 1, 1, none⟩ := World.cell?_of_block hpg
          rw [hrc] at hpc
          have hpf : (((((w5.setCell ⟨g5, m * 5, none⟩ (.int .i64 1)).setCell ⟨g5, m * 5 + 1, none⟩ (.string ⟨#[]⟩)).setCell ⟨g5, m * 5 + 2, none⟩ (.int .i64 0)).setCell ⟨g5, m * 5 + 3, none⟩ (.slice none 0 0)).setCell ⟨g5, m * 5 + 4, none⟩ (.int .i64 (i : Int))).frozen? ⟨w.heap.size + 1, 1, none⟩ = w5.frozen? ⟨w.heap.size + 1, 1, none⟩ := World.frozen?_of_block hpg
          rw [hrf] at hpf
          have HD := Lib.hid (And.intro d0 (And.intro d1 (And.intro d2 (And.intro d3 (And.intro d4 (And.intro r0 (And.intro r1 (And.intro r2 (And.intro r3 (And.intro r4 (And.intro hpc hpf)))))))))))
          have HDD := Lib.hid (And.intro dd0 (And.intro dd1 (And.intro dd2 (And.intro dd3 (And.intro dd4 (And.intro rr0 (And.intro rr1 (And.intro rr2 (And.intro rr3 (And.intro rr4 (And.intro hrc hrf)))))))))))
          have hF1 := Lib.hid (putEff_turn (x := ((.mk 1 ⟨#[]⟩ 0 [] (i : Int) : T), none, 0)) (o := 1) HA5.out HG5.out HO5.out hg5.out hne5 hq)
          have hF2 := Lib.hid (addEff_true (x := ((.mk 1 ⟨#[]⟩ 0 [] (i : Int) : T), none, 0)) (o := 1) HA5.out HG5.out HO5.out hg5.out hne5 hq)
          simp only [T.k, T.s, T.n, T.kids, T.at_] at hF1 hF2
          simp only [List.length_nil] at hF1 hF2
          clear hown5 hgrow5 hat5 hkeep hzc hpg HA5 HG5 HO5 d0 d1 d2 d3 d4 r0 r1 r2 r3 r4 dd0 dd1 dd2 dd3 dd4 rr0 rr1 rr2 rr3 rr4 hpc hpf hrc hrf
          refine hK.out _ _ (hSB.out _ hk1) (fun hHeld => ?_)
          clear hK K hk1
          simp only [List.getElem_toArray, List.getElem_cons_succ, List.getElem_cons_zero, Act.put, List.setIfInBounds_toArray, List.set_cons_zero, List.set_cons_succ]
          refine LateKit.wpAnyK_takeP (i := 9) (v := ?v21_8) (by decide) rfl (by kernel_rfl) (by kernel_rfl) (by kernel_rfl) (fun _ _ _ h => h) (Or.inl ⟨by rfl, ?hy21_8⟩) ?_
          case hy21_8 => (intro w1 hSw; go_simp; try with_reducible rfl)
          simp only [List.getElem_toArray, List.getElem_cons_succ, List.getElem_cons_zero, Act.put, List.setIfInBounds_toArray, List.set_cons_zero, List.set_cons_succ]
          refine LateKit.wpAnyK_takeP (i := 11) (v := ?v21_9) (by decide) rfl (by kernel_rfl) (by kernel_rfl) (by kernel_rfl) (fun _ _ _ h => h) (Or.inl ⟨by rfl, ?hy21_9⟩) ?_
          case hy21_9 => (intro w1 hSw; go_simp; try with_reducible rfl)
          simp only [List.getElem_toArray, List.getElem_cons_succ, List.getElem_cons_zero, Act.put, List.setIfInBounds_toArray, List.set_cons_zero, List.set_cons_succ]
          refine LateKit.wpAnyK_takeP (i := 12) (v := ?v21_10) (by decide) rfl (by kernel_rfl) (by kernel_rfl) (by kernel_rfl) (fun _ _ _ h => h) (Or.inl ⟨by rfl, ?hy21_10⟩) ?_
          case hy21_10 => (intro w1 hSw; go_simp; try with_reducible rfl)
          simp only [List.getElem_toArray, List.getElem_cons_succ, List.getElem_cons_zero, Act.put, List.setIfInBounds_toArray, List.set_cons_zero, List.set_cons_succ]
          refine LateKit.wpAnyK_ready (rs := [10, 13]) (by kernel_rfl) (by simp) ?_
          refine LateKit.AllReadyK.late (by decide) rfl (fun K hK => ?_) (LateKit.AllReadyK.late (by decide) rfl (fun K hK => ?_) LateKit.AllReadyK.nil)
          ·
            have hm := HM.out
            obtain ⟨d0, d1, d2, d3, d4, r0, r1, r2, r3, r4, hpc, hpf⟩ := HD.out
            clear HDD hF2 hHeld hSB
            simp only [List.getElem_toArray, List.getElem_cons_succ, List.getElem_cons_zero]
            go_simp
            refine hK.out _ _ ?_
            clear hK K
            refine LateKit.wpAnyK_ready (rs := [13]) (by kernel_rfl) (by simp) ?_
            refine LateKit.AllReadyK.late (by decide) rfl (fun K hK => ?_) LateKit.AllReadyK.nil
            simp only [List.getElem_toArray, List.getElem_cons_succ, List.getElem_cons_zero]
            go_simp
            refine hK.out _ _ ?_
            clear hK K
            refine LateKit.wpAnyK_done (by kernel_rfl) ?_ _
            have hFin := hF1
            clear d0 d1 d2 d3 d4 r0 r1 r2 r3 r4 hpc hpf
            obtain ⟨g', cap', hr⟩ := hD.out.inv.push hdn (t := (.mk 1 ⟨#[]⟩ 0 [] (i : Int) : T)) rfl (by rw [hm]; exact hFin.out)
            obtain ⟨σ2, HR2⟩ : ∃ σ2 : St, Hid (RInv s w σ2 _ ∧ σ2.ps = σ.ps ++ [((.mk 1 ⟨#[]⟩ 0 [] (i : Int) : T), none, 0)] ∧ σ2.dn = σ.dn) := ⟨_, Lib.hid ⟨hr, rfl, rfl⟩⟩
            clear hr hFin
            go_wp2_with fail
            go_step3
            (try simp only [Exit.inBlock, Exit.then, exitJumps])
            refine ⟨2 * (s.size - (i + 1)) + (if (1 : Nat) = 1 then 1 else 0), ?_, i + 1, ((i : Int) + 1), σ2, ⟨_, rfl, by kernel_rfl, by kernel_rfl, by kernel_rfl, by kernel_rfl, by kernel_rfl⟩, ?_, rfl, Lib.hid (⟨HR2.out.1, by omega, by rw [HR2.out.2.1, HR2.out.2.2, List.map_append]; exact HRN.out, by rw [HR2.out.2.1, List.length_append, hm]; simp only [List.length_singleton]; omega, fun p hp => (List.mem_append.1 (HR2.out.2.1 ▸ hp)).elim (fun hp => Nat.le_succ_of_le (hD.out.kids p hp)) (fun hp => by rw [List.mem_singleton.1 hp]; exact Nat.zero_le _), .inl rfl⟩)⟩
            · simp only [if_true, reduceCtorEq, Nat.reduceEqDiff, if_false]; omega
            · omega
          ·
            have hm := HM.out
            obtain ⟨dd0, dd1, dd2, dd3, dd4, rr0, rr1, rr2, rr3, rr4, hrc, hrf⟩ := HDD.out
            clear HD hF1 hHeld hSB
            simp only [List.getElem_toArray, List.getElem_cons_succ, List.getElem_cons_zero]
            go_simp
            refine hK.out _ _ ?_
            clear hK K
            refine LateKit.wpAnyK_ready (rs := [10]) (by kernel_rfl) (by simp) ?_
            refine LateKit.AllReadyK.late (by decide) rfl (fun K hK => ?_) LateKit.AllReadyK.nil
            simp only [List.getElem_toArray, List.getElem_cons_succ, List.getElem_cons_zero]
            go_simp
            refine hK.out _ _ ?_
            clear hK K
            refine LateKit.wpAnyK_done (by kernel_rfl) ?_ _
            have hFin := hF2
            clear dd0 dd1 dd2 dd3 dd4 rr0 rr1 rr2 rr3 rr4 hrc hrf
            obtain ⟨g', cap', hr⟩ := hD.out.inv.push hdn (t := (.mk 1 ⟨#[]⟩ 0 [] (i : Int) : T)) rfl (by rw [hm]; exact hFin.out)
            obtain ⟨σ2, HR2⟩ : ∃ σ2 : St, Hid (RInv s w σ2 _ ∧ σ2.ps = σ.ps ++ [((.mk 1 ⟨#[]⟩ 0 [] (i : Int) : T), none, 0)] ∧ σ2.dn = σ.dn) := ⟨_, Lib.hid ⟨hr, rfl, rfl⟩⟩
            clear hr hFin
            go_wp2_with fail
            go_step3
            (try simp only [Exit.inBlock, Exit.then, exitJumps])
            refine ⟨2 * (s.size - (i + 1)) + (if (1 : Nat) = 1 then 1 else 0), ?_, i + 1, ((i : Int) + 1), σ2, ⟨_, rfl, by kernel_rfl, by kernel_rfl, by kernel_rfl, by kernel_rfl, by kernel_rfl⟩, ?_, rfl, Lib.hid (⟨HR2.out.1, by omega, by rw [HR2.out.2.1, HR2.out.2.2, List.map_append]; exact HRN.out, by rw [HR2.out.2.1, List.length_append, hm]; simp only [List.length_singleton]; omega, fun p hp => (List.mem_append.1 (HR2.out.2.1 ▸ hp)).elim (fun hp => Nat.le_succ_of_le (hD.out.kids p hp)) (fun hp => by rw [List.mem_singleton.1 hp]; exact Nat.zero_le _), .inl rfl⟩)⟩
            · simp only [if_true, reduceCtorEq, Nat.reduceEqDiff, if_false]; omega
            · omega
        · rw [hdb] at hwh
          have HQ := Lib.hid (HRN.out.symm.trans (if_pos (of_decide_eq_true hdb)))
          clear hdb hm
          go_wp2_with fail
          refine (hwh.out).mono ?_
          rintro e w' ⟨rfl, rfl⟩
          go_wp2_with fail
          (try simp only [Exit.inBlock, Exit.then, exitJumps])
          refine bodyPost_ret (results_read rfl rfl rfl rfl (put5_block HRES.out)) rfl ?_
          exact ⟨.none_ (HQ.out) rfl, put5_below HLOW.out (Nat.le_refl _)⟩
      · have y12 : 12 ≤ m := by have := of_decide_eq_true h12; omega
        have HQ := Lib.hid (HRN.out.symm.trans (if_pos y12))
        clear hm
        go_wp2_with fail
        (try simp only [Exit.inBlock, Exit.then, exitJumps])
        refine bodyPost_ret (results_read rfl rfl rfl rfl (put5_block HRES.out)) rfl ?_
        exact ⟨.none_ (HQ.out) rfl, put5_below HLOW.out (Nat.le_refl _)⟩
    · refine ⟨_, rfl, ?_⟩
      rcases Nat.eq_zero_or_pos σ.ps.length with h0 | h0
      · have HQ := Lib.hid (show R = (zeroT, 12, (i : Int)) by exact (HRUN.out.symm.trans (readE_close0 hl0 hl1 (by rw [List.length_map]; exact h0))))
        rw [h0] at ha1
        go_wp2_with fail
        (try simp only [Exit.inBlock, Exit.then, exitJumps])
        refine bodyPost_ret (results_read rfl rfl rfl rfl (put5_block HRES.out)) rfl ?_
        exact ⟨.none_ (HQ.out) rfl, put5_below HLOW.out (Nat.le_refl _)⟩
      · obtain ⟨m, hm⟩ : ∃ m, σ.ps.length = m + 1 := ⟨σ.ps.length - 1, by omega⟩
        obtain ⟨x, hx⟩ : ∃ x, σ.ps[m]? = some x := ⟨_, List.getElem?_eq_getElem (by omega)⟩
        have hfew := hD.out.few
        have HRN := Lib.hid ((readE_close (op := σ.ps.map Prod.fst) (dn := σ.dn.map Prod.fst) hl0 hl1 (m := m) (t := x.1) (by rw [List.length_map]; exact hm) (by rw [List.getElem?_map, hx]; rfl)).symm.trans HRUN.out)
        have hkx := hD.out.kids x (List.mem_of_getElem? hx)
        have ho := hD.out.inv.own
        rw [hm] at ho ha1 hfew
        obtain ⟨gO, cO, hv, _⟩ := ho.form (by omega)
        have hA : σ.A = some ⟨gO, 0, none⟩ := by injection hv
        rw [hA] at ha1 ho
        obtain ⟨f0, f1, f2, f3, f4⟩ := flatT_get σ.ps m x hx
        have b0 := (ho.cellAt (m * 5) (by omega)).trans f0
        have b1 := (ho.cellAt (m * 5 + 1) (by omega)).trans f1
        have b2 := (ho.cellAt (m * 5 + 2) (by omega)).trans f2
        have b3 := (ho.cellAt (m * 5 + 3) (by omega)).trans f3
        have b4 := (ho.cellAt (m * 5 + 4) (by omega)).trans f4
        obtain ⟨_, _⟩ := ho.form (show 0 < m + 1 by omega)
        have hcm : m + 1 ≤ σ.c := by
          rcases ho.2 with ⟨h, _⟩ | ⟨_, cap, _, h, _, _, h2, _⟩
          · simp at h
          · injection h with _ _ h; omega
        obtain ⟨w4, ew4⟩ : ∃ w4, w4 = w3.alloc (.cells #[.int .i64 x.1.k, .string x.1.s, .int .i64 x.1.n, .slice x.2.1 x.1.kids.length x.2.2, .int .i64 x.1.at_] 71) := ⟨_, rfl⟩
        have hb4 : Below w3.heap.size w3 w4 := by rw [ew4]; exact (Below.refl _ _).alloc (Nat.le_refl _) _
        have hn4 : w4.heap[w3.heap.size]? = some (.cells #[.int .i64 x.1.k, .string x.1.s, .int .i64 x.1.n, .slice x.2.1 x.1.kids.length x.2.2, .int .i64 x.1.at_] 71 (0, 0)) := by rw [ew4]; exact heap_alloc_new w3 _
        obtain ⟨hr5, hx5⟩ := (hD.out.inv.below hb4).pop hm hx (by omega)
        have hc4 : w4.cell? ⟨w.heap.size + 1, 1, none⟩ = some (.slice (some ⟨gO, 0, none⟩) (m + 1) σ.c) := (World.cell?_of_block (hb4.block (w.heap.size + 1) (by omega))).trans ha1
        have hf4 : w4.frozen? ⟨w.heap.size + 1, 1, none⟩ = false := by
          have := (hb4.block (w.heap.size + 1) (by omega)).trans HRD.out
          simp [World.frozen?, this]
        have hdn : σ.dn = [] := by
          rcases hD.out.inv.od with h | h
          · rw [h] at hm; cases hm
          · exact h
        have hadd := add_any hr5 x hx5 (by simp only [List.length_take]; omega) (fun p hp => by have := hD.out.kids p (List.mem_of_mem_take hp); omega) (fun _ => hdn)
        obtain ⟨w5, ew5⟩ : ∃ w5, w5 = w4.setCell ⟨w.heap.size + 1, 1, none⟩ (.slice σ.A m σ.c) := ⟨_, rfl⟩
        have hn5 : w5.heap[w3.heap.size]? = some (.cells #[.int .i64 x.1.k, .string x.1.s, .int .i64 x.1.n, .slice x.2.1 x.1.kids.length x.2.2, .int .i64 x.1.at_] 71 (0, 0)) := by rw [ew5]; exact (Below.heap_setCell w4 ⟨w.heap.size + 1, 1, none⟩ _ w3.heap.size (by simp; omega)).trans hn4
        rw [← ew5] at hadd
        rw [hA] at ew5
        have HADD := Lib.hid hadd
        have HW4 := Lib.hid ew4
        have HW5 := Lib.hid ew5
        have HN5 := Lib.hid hn5
        have HMX := Lib.hid (And.intro hm (And.intro hx (And.intro hkx hdn)))
        have em : ((m : Int) + 1 - 1) = (m : Int) := by omega
        have ew : IntKind.i64.wrap (m : Int) = (m : Int) := by unfold IntKind.wrap; simp [IntKind.bits, IntKind.signed]; omega
        have el : (m : Int) < (m : Int) + 1 := by omega
        have epos : decide (0 < (m : Int) + 1) = true := decide_eq_true (by omega)
        have ele : (m : Int) ≤ (m : Int) + 1 := by omega
        clear hr5 hx5 hadd ew4 ew5 hb4 hn4 hn5 ho hv f0 f1 f2 f3 f4 hx hkx hdn
        obtain ⟨⟨xk, xs, xn, xl, xa⟩, xA, xc⟩ := x
        simp only [T.k, T.s, T.n, T.kids, T.at_] at b0 b1 b2 b3 b4 HADD HW4 HN5 HMX HRN
        obtain ⟨xln, hxln⟩ : ∃ n, n = xl.length := ⟨_, rfl⟩
        rw [← hxln] at b3 HADD HW4 HN5
        clear hxln hm
        go_upto_region 26 with (fail)
        rw [← HW4.out]
        go_upto_region 27 with (fail)
        rw [← HW5.out]
        obtain ⟨⟨k0, k1, k2, k3, k4⟩, _, _, _, _, _⟩ := cell5 HN5.out
        go_wp2_with fail
        refine (HADD.out).mono ?_
        rintro e w6 ⟨rfl, σ2, hr6, hadd2, hlen2, _, hkid2⟩
        obtain ⟨hm, hx, hkx, hdn⟩ := HMX.out
        have hlen3 : σ2.ps.length = m := by rw [hlen2]; simp only [List.length_take]; omega
        have HR6 := Lib.hid hr6
        have HRU : Hid (readE s (σ2.ps.map Prod.fst) (σ2.dn.map Prod.fst) (i + 1) = R) := Lib.hid (by
          have h1 := congrArg Prod.fst hadd2
          have h2 := congrArg Prod.snd hadd2
          simp only at h1 h2
          rw [h1, h2]
          simp only [List.map_take]
          exact HRN.out)
        have HKD : Hid (∀ p ∈ σ2.ps, p.1.kids.length ≤ i + 1) := Lib.hid (fun p hp => by
          obtain ⟨p0, hp0, h⟩ := hkid2 p hp
          have := hD.out.kids p0 (List.mem_of_mem_take hp0)
          omega)
        clear hr6 hadd2 hlen2 hkid2 hm hx hkx hdn
        go_wp2_with fail
        go_step3
        (try simp only [Exit.inBlock, Exit.then, exitJumps])
        refine ⟨2 * (s.size - (i + 1)) + (if (1 : Nat) = 1 then 1 else 0), ?_, i + 1, ((i : Int) + 1), σ2, ⟨_, rfl, by kernel_rfl, by kernel_rfl, by kernel_rfl, by kernel_rfl, by kernel_rfl⟩, ?_, rfl, Lib.hid (⟨HR6.out, by omega, HRU.out, by omega, HKD.out, .inl rfl⟩)⟩
        · simp only [if_true, reduceCtorEq, Nat.reduceEqDiff, if_false]; omega
        · omega
end Go.Proofs.YtjhkihkiebnpaaaGreatDoor
/-
  The library's two functions that package sexp's reader calls.
-/
set_option linter.unusedVariables false
set_option linter.unusedSimpArgs false
namespace Go.Proofs.YtjhkihkiebnpaaaGreatDoor
open Go.RowKit
theorem parseHere : ParseHere := fun x w hx hE => by
  obtain ⟨⟨_, e1, c1, d1⟩, ⟨_, e2, c2, d2⟩⟩ := hE
  cases h : Lib.parseIntB 64 x.data.toList with
  | ok v =>
    refine (Tryz.strconv_ParseInt_10_at64_ok x (by omega) v h w).mono ?_
    rintro e w' ⟨rfl, hw⟩
    refine ⟨.inl ⟨v, rfl, rfl⟩, ?_⟩
    rcases hw with rfl | ⟨t, rfl⟩
    · exact Below.refl _ _
    · exact Lib.bytesWorld_below _ _ _
  | «syntax» =>
    refine (Tryz.strconv_ParseInt_10_at64_syntax x (by omega) h e1 w c1 d1).mono ?_
    rintro e w' ⟨N, rfl, _, _, hb⟩
    exact ⟨.inr ⟨(fun v h => by cases h), _, _, _, rfl⟩, hb⟩
  | range =>
    refine (Tryz.strconv_ParseInt_10_at64_range x (by omega) h e2 w c2 d2).mono ?_
    rintro e w' ⟨N, rfl, _, _, hb⟩
    exact ⟨.inr ⟨(fun v h => by cases h), _, _, _, rfl⟩, hb⟩
theorem hexHere : HexHere := fun c w => Tryz.strings_IndexByte hexDigits c w
end Go.Proofs.YtjhkihkiebnpaaaGreatDoor
/-
  plan.Read: what it computes.
-/
namespace Go.Proofs.YtjhkihkiebnpaaaGreatDoor
open Go.RowKit
set_option linter.unusedVariables false
set_option linter.unusedSimpArgs false
/-- what the program's reader and printer look at, beyond their arguments -/
structure Env (w : World) : Prop where
  errs : Errs w
  pow : ∀ w', Below w.heap.size w w' → PowTab w'
theorem Env.low {w w' : World} (h : Env w) (hb : Below w.heap.size w w') : Env w' := ⟨h.errs.below hb, fun x hx => h.pow x (hb.trans (hx.mono hb.size))⟩
def readS (s : ByteArray) : T × Int × Int := if 600 < s.size then (zeroT, 3, 0) else readE s [] [] 0
set_option maxRecDepth 100000 in
set_option maxHeartbeats 1000000 in
theorem sexpRead_any (s : ByteArray) (hs2 : s.size ≤ 1000000) (w : World) (hE : Errs w) : Calls Tryz.prog 29 #[.string s] w fun e w' => ReadIs w (readS s) e w' ∧ Below w.heap.size w w' := by
  unfold readS
  by_cases hs : 600 < s.size
  · rw [if_pos hs]
    obtain ⟨w1, ew1⟩ : ∃ w1, w1 = w.alloc (.cells #[.int .i64 0, .string ⟨#[]⟩, .int .i64 0, .slice none 0 0, .int .i64 0] 71) := ⟨_, rfl⟩
    have hb1 : Below w.heap.size w w1 := by rw [ew1]; exact (Below.refl _ _).alloc (Nat.le_refl _) _
    have hx1 : w1.heap[w.heap.size]? = some (.cells #[.int .i64 0, .string ⟨#[]⟩, .int .i64 0, .slice none 0 0, .int .i64 0] 71 (0, 0)) := by rw [ew1]; exact heap_alloc_new w _
    have HW1 := Lib.hid ew1
    have HB1 := Lib.hid hb1
    have h600 : (600 : Int) < (s.size : Int) := by omega
    have h601 : decide ((600 : Int) < (s.size : Int)) = true := decide_eq_true h600
    clear ew1 hb1
    obtain ⟨⟨k0, k1, k2, k3, k4⟩, f0, f1, f2, f3, f4⟩ := cell5 hx1
    go_enter Tryz.func29, Tryz.ntmps29
    go_upto_region 1 with (fail)
    rw [← HW1.out]
    go_step3
    go_wp2_with fail
    simp only [Exit.noGoto]
    refine bodyPost_ret (results_read rfl rfl rfl rfl (put5_block hx1)) rfl ?_
    exact ⟨.none_ rfl rfl, put5_below HB1.out (Nat.le_refl _)⟩
  · rw [if_neg hs]
    exact read_sexp parseHere hexHere s (by omega) w hE
theorem results_pread {fn : Func} {p q r : Tmp} (h : fn.results = #[.cell p 27, .tmp q, .tmp r]) {tmps : Array Value} {w : World} {g : Nat} {x0 x1 x2 x3 x4 x5 x6 x7 a b : Value} {t : TypeId}
    (hp : tmps.getD p undef = .pointer (some ⟨g, 0, none⟩)) (hq : tmps.getD q undef = a) (hr : tmps.getD r undef = b) (hg : w.heap[g]? = some (.cells #[x0, x1, x2, x3, x4, x5, x6, x7] t (0, 0))) : (results fn tmps).run Tryz.prog w = .ok (.tuple #[.agg #[x0, x1, x2, x3, x4, x5, x6, x7], a, b]) w := by
  have hp' : tmps[p]?.getD undef = .pointer (some ⟨g, 0, none⟩) := by simpa using hp
  have hq' : tmps[q]?.getD undef = a := by simpa using hq
  have hr' : tmps[r]?.getD undef = b := by simpa using hr
  have hl := run_loadVar_row (P := Tryz.prog) w g t 27 #[x0, x1, x2, x3, x4, x5, x6, x7] (0, 0) _ hg Tryz.underlying27 rfl (by show _ = some 8; kernel_rfl)
  simp [results, h, hp', hq', hr', asAddr, hl]
def PReadIs (w : World) (R : P × Int × Int) (e : Ending) (w' : World) : Prop := (∃ a : PA, e = .returned (.tuple #[R.1.val a, .int .i64 R.2.1, .int .i64 R.2.2]) ∧ PAt w' (fun k => w.heap.size ≤ k ∧ k < w'.heap.size) R.1 a) ∧ Below w.heap.size w w'
theorem pat_zero (w : World) (S : Nat → Prop) : PAt w S zeroP noPA := ⟨parts_none _ _ _ _, .nil _⟩
theorem pread_zero {w w' : World} {R : P × Int × Int} {e : Ending} (hR : R.1 = zeroP) (he : e = .returned (.tuple #[.agg #[.int .i64 0, .string ⟨#[]⟩, .slice none 0 0, .slice none 0 0, .slice none 0 0, .slice none 0 0, .slice none 0 0, .slice none 0 0], .int .i64 R.2.1, .int .i64 R.2.2])) (hb : Below w.heap.size w w') : PReadIs w R e w' := by
  obtain ⟨p, q⟩ := R
  simp only at hR he
  subst hR
  exact ⟨⟨noPA, he, pat_zero _ _⟩, hb⟩
theorem drew_get (w : World) (p : Nat) : w.drew.heap[p]? = w.heap[p]? := rfl
theorem put8_drew {w : World} {p : Nat} {a b c d e f g h x0 x1 x2 x3 x4 x5 x6 x7 : Value} {t : TypeId} (hb : w.heap[p]? = some (.cells #[a, b, c, d, e, f, g, h] t (0, 0))) : (put8 w p x0 x1 x2 x3 x4 x5 x6 x7).drew.heap[p]? = some (.cells #[x0, x1, x2, x3, x4, x5, x6, x7] t (0, 0)) := (drew_get _ p).trans (put8_block hb)
theorem read_facts1 (s : ByteArray) (h : (readS s).2.1 ≠ 0) : readP s = (zeroP, (readS s).2.1, (readS s).2.2) := by
  unfold readS at h ⊢
  unfold readP
  by_cases h1 : 600 < s.size
  · rw [if_pos h1, if_pos h1]
  · rw [if_neg h1] at h ⊢
    rw [if_neg h1, if_neg h]
theorem read_facts2 (s : ByteArray) (h : (readS s).2.1 = 0) : readS s = readE s [] [] 0 ∧ ¬ 600 < s.size ∧ (readE s [] [] 0).2.1 = 0 := by
  unfold readS at h ⊢
  by_cases h1 : 600 < s.size
  · rw [if_pos h1] at h; simp at h
  · rw [if_neg h1] at h ⊢
    exact ⟨rfl, h1, h⟩
theorem read_facts3 {s : ByteArray} {t : T} (h1 : ¬ 600 < s.size) (h2 : (readE s [] [] 0).2.1 = 0) (ht : (readE s [] [] 0).1 = t) :
    readP s = if (planT t (0, 0)).2.1 = 0 then (if 600 < (prP (planT t (0, 0)).1).size then (zeroP, 3, 0) else ((planT t (0, 0)).1, 0, 0)) else (zeroP, (planT t (0, 0)).2.1, (planT t (0, 0)).2.2) := by
  unfold readP
  rw [if_neg h1, if_pos h2, ht]
set_option maxRecDepth 100000 in
set_option maxHeartbeats 4000000 in
theorem planRead_any (s : ByteArray) (hs : s.size ≤ 1000000) (w : World) (hE : Env w) : Calls Tryz.prog 14 #[.string s] w (PReadIs w (readP s)) := by
  obtain ⟨w1, ew1⟩ : ∃ w1, w1 = w.alloc (.cells #[.int .i64 0, .string ⟨#[]⟩, .slice none 0 0, .slice none 0 0, .slice none 0 0, .slice none 0 0, .slice none 0 0, .slice none 0 0] 27) := ⟨_, rfl⟩
  have hb1 : Below w.heap.size w w1 := by rw [ew1]; exact (Below.refl _ _).alloc (Nat.le_refl _) _
  have hs1 : w.heap.size < w1.heap.size := by rw [ew1]; simp
  have HX1 : Hid (w1.heap[w.heap.size]? = some (.cells #[.int .i64 0, .string ⟨#[]⟩, .slice none 0 0, .slice none 0 0, .slice none 0 0, .slice none 0 0, .slice none 0 0, .slice none 0 0] 27 (0, 0))) := Lib.hid (by rw [ew1]; exact heap_alloc_new w _)
  have HW1 := Lib.hid ew1
  have HB1 := Lib.hid hb1
  have HE := Lib.hid hE
  have HS := Lib.hid (sexpRead_any s hs w1 (hE.low hb1).errs)
  clear ew1 hb1 hE
  go_enter Tryz.func14, Tryz.ntmps14
  go_upto_region 1 with (fail)
  rw [← HW1.out]
  go_wp2_with fail
  refine (HS.out).mono ?_
  rintro e w2 ⟨⟨A, c, rfl, hc, hX⟩, hb2⟩
  have hrp : readP s = (if 600 < s.size then (zeroP, 3, 0) else if (readE s [] [] 0).2.1 = 0 then
      (if (planT (readE s [] [] 0).1 (0, 0)).2.1 = 0 then (if 600 < (prP (planT (readE s [] [] 0).1 (0, 0)).1).size then (zeroP, 3, 0) else ((planT (readE s [] [] 0).1 (0, 0)).1, 0, 0))
     else (zeroP, (planT (readE s [] [] 0).1 (0, 0)).2.1, (planT (readE s [] [] 0).1 (0, 0)).2.2))
    else (zeroP, (readE s [] [] 0).2.1, (readE s [] [] 0).2.2)) := rfl
  have hfacts : Hid ((readS s).2.1 ≠ 0 → readP s = (zeroP, (readS s).2.1, (readS s).2.2)) := Lib.hid (read_facts1 s)
  have hfact2 : Hid ((readS s).2.1 = 0 → readS s = readE s [] [] 0 ∧ ¬ 600 < s.size ∧ (readE s [] [] 0).2.1 = 0) := Lib.hid (read_facts2 s)
  clear hrp
  have HX2 := Lib.hid ((hb2.block _ hs1).trans HX1.out)
  have HB2 := Lib.hid (HB1.out.trans (hb2.mono HB1.out.size))
  have HTK := Lib.hid hX
  have hs2 := hb2.size
  clear hX hb2
  generalize hRR : readS s = R at *
  have HRR := Lib.hid hRR
  clear hRR
  obtain ⟨t, why, at_⟩ := R
  simp only at hc HTK hfacts hfact2 ⊢
  by_cases h0 : why = 0
  · subst h0
    obtain ⟨e1, e2, e3⟩ := hfact2.out rfl
    have hok := Lib.hid (read_ok e3)
    rw [← e1] at hok
    obtain ⟨q, hq⟩ : ∃ q, q = planT t (0, 0) := ⟨_, rfl⟩
    have hR : Hid (readP s = if q.2.1 = 0 then (if 600 < (prP q.1).size then (zeroP, 3, 0) else (q.1, 0, 0)) else (zeroP, q.2.1, q.2.2)) := Lib.hid (by rw [hq]; exact read_facts3 e2 e3 (by rw [← e1]))
    have hbk := Lib.hid (fun h => back_plan t (0, 0) h)
    rw [← hq] at hbk
    have hfw := Lib.hid (fun h => plan_few t (okt_small hok.out.1 h) (0, 0))
    rw [← hq] at hfw
    have hcost : Hid (costT t ≤ 600) := Lib.hid (Nat.le_trans hok.out.2.2 (by omega))
    clear e1 e2 e3 hfacts hfact2
    -- the boxes: the tree, the reader
    obtain ⟨w3, ew3⟩ : ∃ w3, w3 = w2.alloc (.cells #[.int .i64 t.k, .string t.s, .int .i64 t.n, .slice A t.kids.length c, .int .i64 t.at_] 71) := ⟨_, rfl⟩
    have hb3 : Below w2.heap.size w2 w3 := by rw [ew3]; exact (Below.refl _ _).alloc (Nat.le_refl _) _
    have hs3 : w3.heap.size = w2.heap.size + 1 := by rw [ew3]; simp
    have HT3 : Hid (w3.heap[w2.heap.size]? = some (.cells #[.int .i64 t.k, .string t.s, .int .i64 t.n, .slice A t.kids.length c, .int .i64 t.at_] 71 (0, 0))) := Lib.hid (by rw [ew3]; exact heap_alloc_new w2 _)
    obtain ⟨w4, ew4⟩ : ∃ w4, w4 = w3.alloc (.cells #[.int .i64 0, .int .i64 0] 76) := ⟨_, rfl⟩
    have hb4 : Below w3.heap.size w3 w4 := by rw [ew4]; exact (Below.refl _ _).alloc (Nat.le_refl _) _
    have hs4 : w4.heap.size = w3.heap.size + 1 := by rw [ew4]; simp
    have hR4 : RAt w4 w3.heap.size (0, 0) := by rw [ew4]; exact heap_alloc_new w3 _
    have hb24 : Below w2.heap.size w2 w4 := hb3.trans (hb4.mono hb3.size)
    have HT4 := Lib.hid ((hb4.block w2.heap.size (by omega)).trans HT3.out)
    have HX4 := Lib.hid ((hb24.block _ (by omega)).trans HX2.out)
    have HB4 := Lib.hid (HB2.out.trans (hb24.mono HB2.out.size))
    have HPL := Lib.hid (plan_any t (okt_small hok.out.1 hcost.out) A c w3.heap.size (0, 0) w4 hR4 hc (((HTK.out.to (B := w2.heap.size) fun k hk => hk.2).low hb24).more (by omega)))
    rw [← hq] at HPL
    have HW3 := Lib.hid ew3
    have HW4 := Lib.hid ew4
    have HR4 := Lib.hid hR4
    clear ew3 hb3 ew4 hb4 hR4 hb24 hq
    obtain ⟨tk, ts, tn, tl, ta⟩ := t
    simp only [T.val, T.k, T.s, T.n, T.kids, T.at_] at HPL HW3 HT4 HT3 ⊢
    generalize tl.length = tm at *
    obtain ⟨⟨k0, k1, k2, k3, k4⟩, _, _, _, _, _⟩ := cell5 HT4.out
    have hg1 : w.heap.size < w3.heap.size := by omega
    have hz4 : w3.heap.size < w4.heap.size := by omega
    have hx4 : w.heap.size < w4.heap.size := by omega
    clear hs3 hs4
    go_upto_region 2 with (fail)
    rw [← HW3.out]
    go_upto_region 5 with (fail)
    rw [← HW4.out]
    go_wp2_with fail
    refine (HPL.out).mono ?_
    rintro e w5 ⟨⟨a, rfl, hP⟩, ho5, hr5⟩
    have HP5 := Lib.hid hP
    have HO5 := Lib.hid ho5
    have HR5 := Lib.hid hr5
    have hs5 := ho5.size
    obtain ⟨p, st⟩ := q
    obtain ⟨sw, sa⟩ := st
    simp only [P.val] at hbk hfw hR HP5 HR5 ⊢
    -- the plan's box
    obtain ⟨w6, ew6⟩ : ∃ w6, w6 = w5.alloc (.cells #[.int .i64 p.k, .string p.nm, .slice a.ea p.ex.length a.ec, .slice a.ca p.cols.length a.cc, .slice a.la p.left.length a.lc, .slice a.ra p.right.length a.rc, .slice a.ga p.ag.length a.gc, .slice a.ka p.kids.length a.kc] 27) := ⟨_, rfl⟩
    have hb6 : Below w5.heap.size w5 w6 := by rw [ew6]; exact (Below.refl _ _).alloc (Nat.le_refl _) _
    have HQ6 : Hid (w6.heap[w5.heap.size]? = some (.cells #[.int .i64 p.k, .string p.nm, .slice a.ea p.ex.length a.ec, .slice a.ca p.cols.length a.cc, .slice a.la p.left.length a.lc, .slice a.ra p.right.length a.rc, .slice a.ga p.ag.length a.gc, .slice a.ka p.kids.length a.kc] 27 (0, 0))) := Lib.hid (by rw [ew6]; exact heap_alloc_new w5 _)
    have hs6 : w5.heap.size < w6.heap.size := by rw [ew6]; simp
    have HW6 := Lib.hid ew6
    have HR6 := Lib.hid (hr5.kept hb6)
    have HB6 := Lib.hid (HB4.out.trans (((ho5.below (B := w.heap.size) (by omega) (by omega))).trans (hb6.mono (by omega))))
    have HX6 := Lib.hid ((hb6.block _ (by omega)).trans ((ho5.block w.heap.size (by omega) (by omega)).trans HX4.out))
    have HP6 := Lib.hid ((hP.kept (w' := w6) fun k hk => hb6.block k hk.2).mono fun k hk => (⟨hk.1, by have := hk.2; omega⟩ : w4.heap.size ≤ k ∧ k < w6.heap.size))
    have hmap : Hid (p.ex.length = p.ex.length) := Lib.hid rfl
    clear ew6 hb6 hP ho5 hr5 HR5
    go_upto_region 6 with (fail)
    rw [← HW6.out]
    obtain ⟨⟨r0, r1⟩, _, _⟩ := cell2 HR6.out
    (try simp only at r0 r1)
    by_cases hw0 : sw = 0
    · subst hw0
      obtain ⟨b1, b2, b3⟩ := hbk.out rfl
      (try simp only at b1 b2 b3)
      obtain ⟨_, rfl⟩ : (0 : Int) = 0 ∧ sa = 0 := by injection b1 with b1 b2; exact ⟨rfl, b2⟩
      have HMD := Lib.hid b3
      have HFW := Lib.hid (hfw.out hcost.out)
      have HTP : Hid (treeP p = era (.mk tk ts tn tl ta)) := Lib.hid (by rw [b2, can_era hok.out.1])
      have HPRN : Hid (Prn (treeP p)) := Lib.hid (by rw [HTP.out]; exact okt_prn (okt_era hok.out.1) (by rw [costT_era]; exact hcost.out))
      have htr := treeP_any p HMD.out HFW.out a w6 (HP6.out.mono fun k hk => hk.2)
      simp only [P.val] at htr
      have HTR := Lib.hid htr
      have HEN := Lib.hid (HE.out.low (w' := w6) HB6.out)
      have HPT := Lib.hid (fun A' c' w' (h : Below w6.heap.size w6 w') (h1 : (treeP p).kids.length ≤ c') (h2 : TKids w' w'.heap.size A' (treeP p).kids) => print_any (treeP p) HPRN.out A' c' w' h1 h2 (HEN.out.low h).pow)
      obtain ⟨z0, z1, z2, z3, z4, z5, z6, z7, _, _, _, _, _, _, _, _⟩ := cell8 HQ6.out
      have hps : Hid ((⟨(prT (treeP p)).toArray⟩ : ByteArray) = prP p) := Lib.hid rfl
      rw [hps.out] at HPT
      clear b1 b2 b3 htr
      generalize prP p = pp at *
      generalize treeP p = tp at *
      obtain ⟨uk, us, un, ul, uo⟩ := tp
      simp only [T.val, T.k, T.s, T.n, T.kids, T.at_] at HPT
      go_wp2_with fail
      refine (HTR.out).mono ?_
      rintro e w7 ⟨⟨A7, c7, rfl, hc7, hX7⟩, hb7⟩
      have HB7 := Lib.hid hb7
      have HCL := Lib.hid (HPT.out A7 c7 w7 hb7 hc7 (hX7.to fun k hk => hk.2))
      simp only [T.val, T.k, T.s, T.n, T.kids, T.at_]
      clear hb7 hX7 hc7
      go_wp2_with fail
      refine (HCL.out).mono ?_
      rintro e w8 ⟨rfl, hb8⟩
      have HB8 := Lib.hid (HB7.out.trans (hb8.mono HB7.out.size))
      have hs8 := HB8.out.size
      clear hb8 r0 r1 z0 z1 z2 z3 z4 z5 z6 z7
      obtain ⟨⟨r0, r1⟩, _, _⟩ := cell2 ((HB8.out.block w3.heap.size (by omega)).trans HR6.out)
      (try simp only at r0 r1)
      have HR8 : Hid (RAt w8 w3.heap.size (0, 0)) := Lib.hid (HR6.out.kept HB8.out)
      have HX8 := Lib.hid ((HB8.out.block w.heap.size (by omega)).trans HX6.out)
      by_cases hl : 600 < pp.size
      · have hRP : Hid (readP s = (zeroP, 3, 0)) := Lib.hid (by rw [hR.out, if_pos trivial, if_pos hl])
        have hl' : decide (600 < (pp.size : Int)) = true := by simp; omega
        have hl2 : (600 : Int) < (pp.size : Int) := by omega
        have HRF := Lib.hid (refuse_any w3.heap.size (0, 0) 3 0 w8 HR8.out)
        rw [show refu 3 0 (0, 0) = (3, 0) from rfl] at HRF
        go_wp2_with fail
        refine (HRF.out).mono ?_
        rintro e w9 ⟨rfl, ho9, hr9⟩
        have HO9 := Lib.hid ho9
        have HR9 := Lib.hid hr9
        have HX9 := Lib.hid ((ho9.block w.heap.size (by omega) (by omega)).trans HX8.out)
        clear ho9 hr9 r0 r1
        obtain ⟨⟨r0, r1⟩, _, _⟩ := cell2 HR9.out
        (try simp only at r0 r1)
        obtain ⟨x0, x1, x2, x3, x4, x5, x6, x7, f0, f1, f2, f3, f4, f5, f6, f7⟩ := cell8 HX9.out
        go_upto_region 9 with (fail)
        go_region
        all_goals
          go_wp2_with fail
          refine bodyPost_ret (results_pread rfl rfl rfl rfl (put8_drew HX9.out)) rfl ?_
          rw [hRP.out]
          exact pread_zero rfl rfl (put8_below ((HB6.out.trans (HB8.out.mono HB6.out.size)).trans (HO9.out.below (by omega) (by omega))) (Nat.le_refl _)).drew
      · have hRP : Hid (readP s = (p, 0, 0)) := Lib.hid (by rw [hR.out, if_pos trivial, if_neg hl])
        have hl' : decide (600 < (pp.size : Int)) = false := by simp; omega
        have hl2 : ¬ (600 : Int) < (pp.size : Int) := by omega
        obtain ⟨x0, x1, x2, x3, x4, x5, x6, x7, f0, f1, f2, f3, f4, f5, f6, f7⟩ := cell8 HX8.out
        obtain ⟨z0, z1, z2, z3, z4, z5, z6, z7, _, _, _, _, _, _, _, _⟩ := cell8 ((HB8.out.block w5.heap.size (by omega)).trans HQ6.out)
        go_wp2_with fail
        refine bodyPost_ret (results_pread rfl rfl rfl rfl (put8_block HX8.out)) rfl ?_
        rw [hRP.out]
        have hbb := HB6.out.trans (HB8.out.mono HB6.out.size)
        exact ⟨⟨a, rfl, (HP6.out.kept fun k hk => (put8_other (by have := hk.1; omega)).trans (HB8.out.block k hk.2)).mono fun k hk => ⟨by have := hk.1; omega, Nat.lt_of_lt_of_eq (Nat.lt_of_lt_of_le hk.2 hs8) put8_size.symm⟩⟩, put8_below hbb (Nat.le_refl _)⟩
    · have hRP : Hid (readP s = (zeroP, sw, sa)) := Lib.hid (by rw [hR.out, if_neg hw0])
      have hw' : (sw == 0) = false := by simpa using hw0
      obtain ⟨x0, x1, x2, x3, x4, x5, x6, x7, f0, f1, f2, f3, f4, f5, f6, f7⟩ := cell8 HX6.out
      go_upto_region 9 with (fail)
      go_region
      all_goals
        go_wp2_with fail
        refine bodyPost_ret (results_pread rfl rfl rfl rfl (put8_drew HX6.out)) rfl ?_
        rw [hRP.out]
        exact pread_zero rfl rfl (put8_below HB6.out (Nat.le_refl _)).drew
  · have h0' : (why == 0) = false := by simpa using h0
    obtain ⟨x0, x1, x2, x3, x4, x5, x6, x7, f0, f1, f2, f3, f4, f5, f6, f7⟩ := cell8 ((show ∀ o, (w2.alloc o).heap[w.heap.size]? = w2.heap[w.heap.size]? from fun o => Below.heap_alloc w2 o _ (by omega)) (.cells #[.int .i64 t.k, .string t.s, .int .i64 t.n, .slice A t.kids.length c, .int .i64 t.at_] 71) |>.trans HX2.out)
    have HXA := Lib.hid ((Below.heap_alloc w2 (.cells #[.int .i64 t.k, .string t.s, .int .i64 t.n, .slice A t.kids.length c, .int .i64 t.at_] 71) w.heap.size (by omega)).trans HX2.out)
    go_wp2_with fail
    refine bodyPost_ret (results_pread rfl rfl rfl rfl (put8_block HXA.out)) rfl ?_
    have hr := hfacts.out h0
    rw [hr]
    exact pread_zero rfl rfl (put8_below (HB2.out.alloc HB2.out.size _) (Nat.le_refl _))
end Go.Proofs.YtjhkihkiebnpaaaGreatDoor
/-
  plan.Print of a plan that was read; law 9's known.
-/
namespace Go.Proofs.YtjhkihkiebnpaaaGreatDoor
open Go.RowKit
set_option linter.unusedVariables false
set_option linter.unusedSimpArgs false
theorem box_at (w : World) (p : P) (a : PA) : (w.alloc (.cells (p.bx a) 27)).heap[w.heap.size]? = some (.cells (p.bx a) 27 (0, 0)) := heap_alloc_new w _
theorem box_bel (w : World) (p : P) (a : PA) : Below w.heap.size w (w.alloc (.cells (p.bx a) 27)) := (Below.refl _ _).alloc (Nat.le_refl _) _
theorem prP_size {t : T} {p : P} (h : PlanOf t p) : (prP p).size ≤ 1000000 := by
  have := pr_len h.ok
  have := h.cost
  unfold prP
  rw [planOf_pr h]
  show (prT t).length ≤ _
  omega
set_option maxRecDepth 100000 in
set_option maxHeartbeats 2000000 in
theorem planPrint_any {t : T} {p : P} (h : PlanOf t p) (hl : (prP p).size ≤ 600) (a : PA) (w : World) (hA : PAt w (LT w) p a) (hE : Env w) :
    Calls Tryz.prog 17 #[p.val a] w fun e w' => e = .returned (.string (prP p)) ∧ Below w.heap.size w w' := by
  obtain ⟨w1, ew1⟩ : ∃ w1, w1 = w.alloc (.cells (p.bx a) 27) := ⟨_, rfl⟩
  have hb1 : Below w.heap.size w w1 := by rw [ew1]; exact box_bel w p a
  have hx1 : w1.heap[w.heap.size]? = some (.cells (p.bx a) 27 (0, 0)) := by rw [ew1]; exact box_at w p a
  have hA1 := hA.low hb1
  have hE1 := hE.low hb1
  have htr := treeP_any p (planOf_made h) (planOf_few h) a w1 hA1
  have HPT := Lib.hid (fun A' c' w' (hw : Below w1.heap.size w1 w') (h1 : (treeP p).kids.length ≤ c') (h2 : TKids w' w'.heap.size A' (treeP p).kids) => print_any (treeP p) (planOf_prn h) A' c' w' h1 h2 (hE1.low hw).pow)
  have HRD := Lib.hid (fun w' (hw : Below w1.heap.size w1 w') => planRead_any (prP p) (prP_size h) w' (hE1.low hw))
  rw [print_read h hl] at HRD
  have HSM := Lib.hid (fun b w' (hw : Below w1.heap.size w1 w') (hb : PAt w' (LT w') p b) => samepl_any p a b w' (hA1.low hw) hb)
  have hps : Hid ((⟨(prT (treeP p)).toArray⟩ : ByteArray) = prP p) := Lib.hid rfl
  rw [hps.out] at HPT
  have hz : w.heap.size < w1.heap.size := (Array.getElem?_eq_some_iff.1 hx1).1
  have HB1 := Lib.hid hb1
  have HW1 := Lib.hid ew1
  have HX1 := Lib.hid hx1
  generalize prP p = pp at *
  generalize treeP p = tp at *
  obtain ⟨uk, us, un, ul, uo⟩ := tp
  simp only [T.val, T.k, T.s, T.n, T.kids, T.at_] at HPT
  clear h hl hA hE hb1 hx1 hA1 hE1 ew1
  simp only [P.val, P.bx, PReadIs] at htr HRD HSM HW1 HX1 ⊢
  have HTR := Lib.hid htr
  clear htr
  obtain ⟨z0, z1, z2, z3, z4, z5, z6, z7, _, _, _, _, _, _, _, _⟩ := cell8 HX1.out
  go_enter Tryz.func17, Tryz.ntmps17
  go_upto_region 1 with (fail)
  rw [← HW1.out]
  go_wp2_with fail
  refine (HTR.out).mono ?_
  rintro e w2 ⟨⟨A7, c7, rfl, hc7, hX7⟩, hb2⟩
  have HB2 := Lib.hid hb2
  have HCL := Lib.hid (HPT.out A7 c7 w2 hb2 hc7 (hX7.to fun k hk => hk.2))
  simp only [T.val, T.k, T.s, T.n, T.kids, T.at_]
  clear hb2 hX7 hc7
  go_wp2_with fail
  refine (HCL.out).mono ?_
  rintro e w3 ⟨rfl, hb3⟩
  have HB3 := Lib.hid (HB2.out.trans (hb3.mono HB2.out.size))
  clear hb3
  go_wp2_with fail
  refine (HRD.out w3 HB3.out).mono ?_
  rintro e w4 ⟨⟨b, rfl, hP4⟩, hb4⟩
  simp only [P.val]
  have HB4 := Lib.hid (HB3.out.trans (hb4.mono HB3.out.size))
  obtain ⟨w5, ew5⟩ : ∃ w5, w5 = w4.alloc (.cells #[.int .i64 p.k, .string p.nm, .slice b.ea p.ex.length b.ec, .slice b.ca p.cols.length b.cc, .slice b.la p.left.length b.lc, .slice b.ra p.right.length b.rc, .slice b.ga p.ag.length b.gc, .slice b.ka p.kids.length b.kc] 27) := ⟨_, rfl⟩
  have hb5 : Below w4.heap.size w4 w5 := by rw [ew5]; exact (Below.refl _ _).alloc (Nat.le_refl _) _
  have hx5 : w5.heap[w4.heap.size]? = some (.cells #[.int .i64 p.k, .string p.nm, .slice b.ea p.ex.length b.ec, .slice b.ca p.cols.length b.cc, .slice b.la p.left.length b.lc, .slice b.ra p.right.length b.rc, .slice b.ga p.ag.length b.gc, .slice b.ka p.kids.length b.kc] 27 (0, 0)) := by rw [ew5]; exact heap_alloc_new w4 _
  have HB5 := Lib.hid (HB4.out.trans (hb5.mono HB4.out.size))
  have hsm := HSM.out b w5 HB5.out ((hP4.mono (S' := LT w4) fun k hk => hk.2).low hb5)
  have HS := Lib.hid hsm
  have HW5 := Lib.hid ew5
  clear hb4 hb5 hP4 ew5 hsm z0 z1 z2 z3 z4 z5 z6 z7
  obtain ⟨z0, z1, z2, z3, z4, z5, z6, z7, _, _, _, _, _, _, _, _⟩ := cell8 ((HB5.out.block _ hz).trans HX1.out)
  obtain ⟨y0, y1, y2, y3, y4, y5, y6, y7, _, _, _, _, _, _, _, _⟩ := cell8 hx5
  go_upto_region 3 with (fail)
  rw [← HW5.out]
  go_wp2_with fail
  refine (HS.out).mono ?_
  rintro e w6 ⟨rfl, hb6⟩
  have HB6 := Lib.hid (HB1.out.trans ((HB5.out.trans (hb6.mono HB5.out.size)).mono HB1.out.size))
  clear hb6
  go_wp2_with fail
  go_ret
  exact ⟨rfl, HB6.out⟩
/-! ### law 9's known -/
def kP : P := .mk 2 ⟨#[]⟩ [.mk 4 ⟨#[108, 116]⟩ 0 [.mk 1 ⟨#[97]⟩ 0 [], .mk 2 ⟨#[]⟩ 5 []]] [] [] [] [] [.mk 1 ⟨#[116]⟩ [] [] [] [] [] []]
theorem k1_read : readP (⟨#[40, 32, 102, 105, 108, 116, 101, 114, 32, 40, 108, 116, 32, 97, 32, 53, 41, 40, 116, 97, 98, 108, 101, 32, 116, 41, 32, 41]⟩ : ByteArray) = (kP, 0, 0) := by kernel_rfl
theorem k2_read : readP (⟨#[40, 116, 97, 98, 108, 101, 32, 53, 41]⟩ : ByteArray) = (zeroP, 12, 0) := by kernel_rfl
theorem k3_print : prP kP = (⟨#[40, 102, 105, 108, 116, 101, 114, 32, 40, 108, 116, 32, 97, 32, 53, 41, 32, 40, 116, 97, 98, 108, 101, 32, 116, 41, 41]⟩ : ByteArray) := by kernel_rfl
theorem kP_size : sizeP kP = 2 := by kernel_rfl
theorem kP_of : ∃ t, PlanOf t kP := by
  have h := readP_of (s := (⟨#[40, 32, 102, 105, 108, 116, 101, 114, 32, 40, 108, 116, 32, 97, 32, 53, 41, 40, 116, 97, 98, 108, 101, 32, 116, 41, 32, 41]⟩ : ByteArray)) (by rw [k1_read])
  rw [k1_read] at h
  exact ⟨h.choose, h.choose_spec.1⟩
set_option maxRecDepth 100000 in
set_option maxHeartbeats 2000000 in
theorem known9_any (w : World) (hE : Env w) : Calls Tryz.prog 16 #[] w fun e w' => e = .returned (.bool true) ∧ Below w.heap.size w w' := by
  obtain ⟨t, ht⟩ := kP_of
  have HR1 := Lib.hid (planRead_any (⟨#[40, 32, 102, 105, 108, 116, 101, 114, 32, 40, 108, 116, 32, 97, 32, 53, 41, 40, 116, 97, 98, 108, 101, 32, 116, 41, 32, 41]⟩ : ByteArray) (by decide) w hE)
  rw [k1_read] at HR1
  have HR2 := Lib.hid (fun w' (hw : Below w.heap.size w w') => planRead_any (⟨#[40, 116, 97, 98, 108, 101, 32, 53, 41]⟩ : ByteArray) (by decide) w' (hE.low hw))
  rw [k2_read] at HR2
  have HPR := Lib.hid (fun a w' (hw : Below w.heap.size w w') (hA : PAt w' (LT w') kP a) => planPrint_any ht (by rw [k3_print]; decide) a w' hA (hE.low hw))
  rw [k3_print] at HPR
  have HSZ := Lib.hid (fun a w' (hA : PAt w' (LT w') kP a) => size_any kP (by rw [kP_size]; decide) a w' hA)
  rw [kP_size] at HSZ
  have hv : ∀ a : PA, kP.val a = .agg #[.int .i64 2, .string ⟨#[]⟩, .slice a.ea 1 a.ec, .slice a.ca 0 a.cc, .slice a.la 0 a.lc, .slice a.ra 0 a.rc, .slice a.ga 0 a.gc, .slice a.ka 1 a.kc] := fun _ => rfl
  have hz : ∀ a : PA, zeroP.val a = .agg #[.int .i64 0, .string ⟨#[]⟩, .slice a.ea 0 a.ec, .slice a.ca 0 a.cc, .slice a.la 0 a.lc, .slice a.ra 0 a.rc, .slice a.ga 0 a.gc, .slice a.ka 0 a.kc] := fun _ => rfl
  simp only [PReadIs, hv, hz] at HR1 HR2 HPR HSZ
  clear hE ht
  go_enter Tryz.func16, Tryz.ntmps16
  go_wp2_with fail
  refine (HR1.out).mono ?_
  rintro e w1 ⟨⟨a, rfl, hP1⟩, hb1⟩
  simp only [hv]
  obtain ⟨w2, ew2⟩ : ∃ w2, w2 = w1.alloc (.cells #[.int .i64 2, .string ⟨#[]⟩, .slice a.ea 1 a.ec, .slice a.ca 0 a.cc, .slice a.la 0 a.lc, .slice a.ra 0 a.rc, .slice a.ga 0 a.gc, .slice a.ka 1 a.kc] 27) := ⟨_, rfl⟩
  have hb2 : Below w1.heap.size w1 w2 := by rw [ew2]; exact (Below.refl _ _).alloc (Nat.le_refl _) _
  have hx2 : w2.heap[w1.heap.size]? = some (.cells #[.int .i64 2, .string ⟨#[]⟩, .slice a.ea 1 a.ec, .slice a.ca 0 a.cc, .slice a.la 0 a.lc, .slice a.ra 0 a.rc, .slice a.ga 0 a.gc, .slice a.ka 1 a.kc] 27 (0, 0)) := by rw [ew2]; exact heap_alloc_new w1 _
  have HX2 := Lib.hid hx2
  have HP2 := Lib.hid ((hP1.mono (S' := LT w1) fun k hk => hk.2).low hb2)
  have HB2 := Lib.hid (hb1.trans (hb2.mono hb1.size))
  have HW2 := Lib.hid ew2
  clear hb1 hb2 hx2 hP1 ew2
  go_upto_region 2 with (fail)
  rw [← HW2.out]
  go_wp2_with fail
  refine (HR2.out w2 HB2.out).mono ?_
  rintro e w3 ⟨⟨b, rfl, hP3⟩, hb3⟩
  simp only [hz]
  obtain ⟨w4, ew4⟩ : ∃ w4, w4 = w3.alloc (.cells #[.int .i64 0, .string ⟨#[]⟩, .slice b.ea 0 b.ec, .slice b.ca 0 b.cc, .slice b.la 0 b.lc, .slice b.ra 0 b.rc, .slice b.ga 0 b.gc, .slice b.ka 0 b.kc] 27) := ⟨_, rfl⟩
  have hb4 : Below w3.heap.size w3 w4 := by rw [ew4]; exact (Below.refl _ _).alloc (Nat.le_refl _) _
  have hb24 : Below w2.heap.size w2 w4 := hb3.trans (hb4.mono hb3.size)
  have HB4 := Lib.hid (HB2.out.trans (hb24.mono HB2.out.size))
  have HX4 := Lib.hid ((hb24.block _ (Array.getElem?_eq_some_iff.1 HX2.out).1).trans HX2.out)
  have HP4 := Lib.hid (HP2.out.low hb24)
  have HW4 := Lib.hid ew4
  have HC := Lib.hid (HPR.out a w4 HB4.out HP4.out)
  clear hb3 hb4 hb24 ew4 hP3
  obtain ⟨z0, z1, z2, z3, z4, z5, z6, z7, _, _, _, _, _, _, _, _⟩ := cell8 HX4.out
  go_upto_region 3 with (fail)
  rw [← HW4.out]
  go_wp2_with fail
  refine (HC.out).mono ?_
  rintro e w5 ⟨rfl, hb5⟩
  have HB5 := Lib.hid (HB4.out.trans (hb5.mono HB4.out.size))
  have HX5 := Lib.hid ((hb5.block _ (Array.getElem?_eq_some_iff.1 HX4.out).1).trans HX4.out)
  have HD := Lib.hid (HSZ.out a w5 (HP4.out.low hb5))
  clear hb5 z0 z1 z2 z3 z4 z5 z6 z7
  obtain ⟨z0, z1, z2, z3, z4, z5, z6, z7, _, _, _, _, _, _, _, _⟩ := cell8 HX5.out
  go_wp2_with fail
  refine (HD.out).mono ?_
  rintro e w6 ⟨rfl, hb6⟩
  have HB6 := Lib.hid (HB5.out.trans (hb6.mono HB5.out.size))
  clear hb6
  go_wp2_with fail
  go_ret
  exact ⟨rfl, HB6.out⟩
end Go.Proofs.YtjhkihkiebnpaaaGreatDoor
/-
  plan.Tables: the tables that a plan names, sorted, each once.
-/
namespace Go.Proofs.YtjhkihkiebnpaaaGreatDoor
open Go.RowKit
set_option linter.unusedVariables false
set_option linter.unusedSimpArgs false
theorem below_putRow {α : Type} [Inhabited α] {enc : α → Value} {B blk off : Nat} {a w : World} {d : Array α} (h : Below B a w) (hb : B ≤ blk) : Below B a (Sort.putRow enc w blk off d) := by
  refine h.trans ⟨rfl, rfl, rfl, by simp, fun k hk => ?_⟩
  show (w.heap.modify blk _)[k]? = _
  rw [Array.getElem?_modify, if_neg (by omega)]
theorem below_ahead {B n : Nat} {a w : World} (h : Below B a w) : Below B a (Sort.ahead w n) := ⟨h.os, h.tape, h.output, h.size, h.block⟩
theorem below_grow {B : Nat} {a w : World} {os : Array Obj} (h : Below B a w) (hB : B ≤ w.heap.size) : Below B a (Sort.grow w os) :=
  h.trans ⟨rfl, rfl, rfl, by simp, fun k hk => Sort.heap_grow_old w os (by omega)⟩
theorem compact_len {α : Type} [Inhabited α] [DecidableEq α] (zs : List α) : (Lib.compact zs).length ≤ zs.length := by
  unfold Lib.compact Lib.compactUpTo
  rw [List.length_map]
  exact Nat.le_trans (List.length_filter_le _ _) (by simp)
theorem ba_toList (s : ByteArray) : (⟨s.toList.toArray⟩ : ByteArray) = s := by
  rw [ByteArray.toList_eq]
theorem own_holds {w : World} {base g cap : Nat} {l : List ByteArray} (h : w.ownsRow base 9 1 (.slice (some ⟨g, 0, none⟩) l.length cap) l.length (strs l)) : Sort.Holds encStr w g 0 (l.map ByteArray.toList).toArray ∧ base ≤ g ∧ g < w.heap.size ∧ l.length ≤ cap := by
  have hlt := h.lt g rfl
  rcases id h.2 with ⟨h', _⟩ | ⟨g', cap', cur, h', hb, hg, hc, _⟩
  · simp at h'
  · simp only [Value.slice.injEq, Option.some.injEq, Addr.mk.injEq, and_true, true_and] at h'
    obtain ⟨rfl, rfl⟩ := h'
    refine ⟨fun j hj => ⟨?_, ?_⟩, hlt.1, hlt.2, hc⟩
    · have hj' : j < l.length := by simpa using hj
      rw [Nat.zero_add, h.cellAt _ (by omega), getElem!_pos _ j hj, List.getElem_toArray, List.getElem_map]
      rw [strs, List.getElem?_map, List.getElem?_eq_getElem hj']
      show some (Value.string l[j]) = some (Value.string ⟨l[j].toList.toArray⟩)
      rw [ba_toList]
    · exact Blk.frozen hg _
def tabsU (p : P) : List ByteArray := (Lib.compact (((tabsP p).map ByteArray.toList).mergeSort fun x y => decide (x ≤ y))).map fun z => (⟨z.toArray⟩ : ByteArray)
theorem tabsU_len (p : P) : (tabsU p).length ≤ (tabsP p).length := by
  unfold tabsU
  rw [List.length_map]
  have := compact_len (((tabsP p).map ByteArray.toList).mergeSort fun x y => decide (x ≤ y))
  rw [List.length_mergeSort, List.length_map] at this
  exact this
set_option maxRecDepth 100000 in
set_option maxHeartbeats 2000000 in
theorem tabsTop_any (p : P) (hu : (tabsP p).length ≤ 1000000) (a : PA) (w : World) (hA : PAt w (LT w) p a) :
    Calls Tryz.prog 20 #[p.val a] w fun r w' => (∃ (A' : Option Addr) (c' : Nat), r = .returned (.slice A' (tabsU p).length c') ∧ Lies w' (fun k => w.heap.size ≤ k ∧ k < w'.heap.size) A' (strs (tabsU p))) ∧ Below w.heap.size w w' := by
  have hcl0 := tabs_any p
  obtain ⟨us, hus⟩ : ∃ us, us = tabsP p := ⟨_, rfl⟩
  have htu : tabsU p = (Lib.compact ((us.map ByteArray.toList).mergeSort fun x y => decide (x ≤ y))).map fun z => (⟨z.toArray⟩ : ByteArray) := by rw [hus]; rfl
  unfold TabsOk at hcl0
  rw [← hus] at hu hcl0
  obtain ⟨tu, htu2⟩ : ∃ tu, tu = tabsU p := ⟨_, rfl⟩
  rw [← htu2] at htu ⊢
  have HTU := Lib.hid htu
  clear hus htu htu2
  obtain ⟨w1, ew1⟩ : ∃ w1, w1 = w.alloc (.cells (p.bx a) 27) := ⟨_, rfl⟩
  have hb1 : Below w.heap.size w w1 := by rw [ew1]; exact (Below.refl _ _).alloc (Nat.le_refl _) _
  have hs1 : w1.heap.size = w.heap.size + 1 := by rw [ew1]; simp
  have hx1 : w1.heap[w.heap.size]? = some (.cells (p.bx a) 27 (0, 0)) := by rw [ew1]; exact heap_alloc_new w _
  have hcl := hcl0 a w1 w1.heap.size (.slice none 0 0) [] (Nat.le_refl _) (hA.low hb1) (World.ownsRow_nil _ _ _ _) (by simpa using hu)
  simp only [P.val, P.bx] at hcl ew1 hx1 ⊢
  have HCL := Lib.hid hcl
  have HB1 := Lib.hid hb1
  have HW1 := Lib.hid ew1
  clear hA ew1 hb1 hcl hcl0
  generalize p.k = xk at *
  generalize p.nm = xnm at *
  generalize p.ex.length = x1 at *
  generalize p.cols.length = x2 at *
  generalize p.left.length = x3 at *
  generalize p.right.length = x4 at *
  generalize p.ag.length = x5 at *
  generalize p.kids.length = x6 at *
  obtain ⟨qa, qb, qc, qd, qe, qf, qg, qh, qi, qj, qk, ql⟩ := a
  simp only at HCL HW1 hx1 ⊢
  obtain ⟨z0, z1, z2, z3, z4, z5, z6, z7, _, _, _, _, _, _, _, _⟩ := cell8 hx1
  go_enter Tryz.func20, Tryz.ntmps20
  go_upto_region 1 with (fail)
  rw [← HW1.out]
  go_wp2_with fail
  refine (HCL.out).mono ?_
  rintro r w2 ⟨v2, rfl, hown, hb2⟩
  rw [List.nil_append] at hown
  have HB2 : Hid (Below w.heap.size w w2) := Lib.hid (HB1.out.trans (hb2.mono (by omega)))
  have hw2 : w.heap.size ≤ w2.heap.size := by have := hb2.size; omega
  clear z0 z1 z2 z3 z4 z5 z6 z7 hx1
  rcases Nat.eq_zero_or_pos us.length with h0 | hpos
  · obtain rfl : us = [] := List.eq_nil_of_length_eq_zero h0
    have ht0 : tu = [] := by
      have := HTU.out
      have h2 := compact_len ((([] : List ByteArray).map ByteArray.toList).mergeSort fun x y => decide (x ≤ y))
      rw [List.length_mergeSort] at h2
      rw [this, List.eq_nil_of_length_eq_zero (Nat.le_zero.1 h2)]
      rfl
    subst ht0
    obtain ⟨A2, c2, hv⟩ : ∃ A2 c2, v2 = .slice A2 0 c2 := by
      rcases id hown.2 with ⟨h', _⟩ | ⟨g', cap', cur, h', _⟩
      · exact ⟨none, 0, h'⟩
      · exact ⟨_, _, h'⟩
    subst hv
    clear hown hb2
    go_wp2_with fail
    refine (Tryz.slices_Sort_string_none A2 c2 w2).mono ?_
    rintro r w3 ⟨rfl, hw3⟩
    obtain rfl : w2 = w3 := hw3.symm
    clear hw3
    go_wp2_with fail
    refine (Tryz.slices_Compact_string_empty A2 c2 w2).mono ?_
    rintro r w3 ⟨rfl, hw3⟩
    obtain rfl : w2 = w3 := hw3.symm
    clear hw3
    go_wp2_with fail
    go_ret
    exact ⟨⟨A2, c2, rfl, .inl rfl⟩, HB2.out⟩
  · obtain ⟨g, cap, rfl, hg1, hg2⟩ := hown.form hpos
    obtain ⟨hH, hbg, hlt, hcap⟩ := own_holds hown
    clear hown hb2
    obtain ⟨zs, hzs⟩ : ∃ zs, zs = us.map ByteArray.toList := ⟨_, rfl⟩
    have hzl : zs.length = us.length := by rw [hzs, List.length_map]
    rw [← hzs] at hH
    obtain ⟨ss, hss⟩ : ∃ ss, ss = zs.mergeSort (fun x y => decide (x ≤ y)) := ⟨_, rfl⟩
    have hsl : ss.length = zs.length := by rw [hss, List.length_mergeSort]
    have h1 := Lib.hid (Tryz.slices_Sort_string g 0 cap zs w2 hH hlt (by omega))
    rw [← hss, hzl] at h1
    have HH := Lib.hid hH
    have HSS := Lib.hid hss
    have HZS := Lib.hid hzs
    have HSL := Lib.hid (And.intro hzl hsl)
    clear hH hss hzs hzl hsl
    go_wp2_with fail
    refine (h1.out).mono ?_
    rintro r w3 ⟨rfl, n1, os, hw3⟩
    have hH3 : Sort.Holds encStr w3 g 0 ss.toArray := by
      rw [hw3]
      exact Sort.holds_grow _ _ _ _ _ _ (by simpa using hlt) (Sort.holds_putRow _ _ _ _ _ _ (Sort.holds_ahead _ _ _ _ _ _ HH.out) (by simp [HSL.out.2]))
    have hb3 : Below w.heap.size w w3 := by
      rw [hw3]
      exact below_grow (below_putRow (below_ahead HB2.out) (by omega)) (by simpa using hw2)
    have hs3 : w2.heap.size ≤ w3.heap.size := by rw [hw3]; simp [Sort.ahead]
    have h2 := Lib.hid (Tryz.slices_Compact_string g 0 cap ss w3 hH3 (by have := HSL.out; omega) (by have := HSL.out; omega))
    rw [HSL.out.2, HSL.out.1] at h2
    have HH3 := Lib.hid hH3
    have HB3 := Lib.hid hb3
    clear hw3 hH3 hb3
    go_wp2_with fail
    refine (h2.out).mono ?_
    rintro r w4 ⟨rfl, q, hw4⟩
    have hcl := compact_len ss
    obtain ⟨cs, hcs⟩ : ∃ cs, cs = Lib.compact ss := ⟨_, rfl⟩
    rw [← hcs] at hcl hw4 ⊢
    have htu : tu = cs.map fun z => (⟨z.toArray⟩ : ByteArray) := by rw [HTU.out, hcs, HSS.out, HZS.out]
    have htl : tu.length = cs.length := by rw [htu, List.length_map]
    have hb4 : Below w.heap.size w w4 := by
      rw [hw4]
      exact below_putRow (below_ahead HB3.out) (by omega)
    have hs4 : w3.heap.size ≤ w4.heap.size := by rw [hw4]; simp [Sort.ahead]
    have hssl : ss.length = us.length := by have := HSL.out; omega
    have hR : Lies w4 (fun k => w.heap.size ≤ k ∧ k < w4.heap.size) (some ⟨g, 0, none⟩) (strs tu) := by
      refine .inr ⟨g, 0, rfl, ⟨by omega, by omega⟩, fun i u hu => ?_⟩
      rw [htu, strs, List.getElem?_map, List.getElem?_map] at hu
      cases hz : cs[i]? with
      | none => rw [hz] at hu; cases hu
      | some z =>
        rw [hz] at hu
        obtain rfl : Value.string ⟨z.toArray⟩ = u := by simpa using hu
        have hi : i < cs.length := (List.getElem?_eq_some_iff.1 hz).1
        rw [hw4, Sort.cell?_putRow _ _ _ _ ss.toArray _ (Sort.holds_ahead _ _ _ _ _ _ HH3.out) (by simp; omega) i (by simp; omega)]
        have hx : ((cs ++ List.replicate (us.length - cs.length) []).toArray)[i]! = z := by
          rw [getElem!_pos _ i (by simp; omega), List.getElem_toArray, List.getElem_append_left hi]
          exact (List.getElem?_eq_some_iff.1 hz).2
        rw [hx]
    have HR := Lib.hid hR
    have HB4 := Lib.hid hb4
    have HTL := Lib.hid htl
    have hcl2 : cs.length ≤ us.length := by have := HSL.out; omega
    clear hw4 hR hb4 hcl htu htl
    go_wp2_with fail
    go_ret
    exact ⟨⟨some ⟨g, 0, none⟩, cap, by rw [HTL.out, hcs]; rfl, HR.out⟩, HB4.out⟩
end Go.Proofs.YtjhkihkiebnpaaaGreatDoor
