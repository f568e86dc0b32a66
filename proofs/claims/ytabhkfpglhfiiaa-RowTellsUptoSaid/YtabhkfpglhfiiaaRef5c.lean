/-
  Package confluenceref5's Fits: the same as row's.
-/
import Derived.Test.YtabhkfpglhfiiaaRef5b
namespace Go.Proofs.Ytabhkfpglhfiiaa
open Go.RowKit
set_option maxRecDepth 100000 in
set_option maxHeartbeats 1000000 in
theorem ref5_fits_full (bl ol br or_ : Nat) (n c d : Nat) (l : List C) (r : List V) (hl : l.length = n) (hr : r.length = n) (hn : n ≤ 9223372036854775807) (w : World)
    (hbl : bl < w.heap.size) (hbr : br < w.heap.size) (hL : CAt w bl ol l) (hR : VAt w br or_ r) :
    Calls Try.prog 47 #[.slice (some ⟨bl, ol, none⟩) n d, .slice (some ⟨br, or_, none⟩) n c] w fun e w' => e = .returned (.bool (zipB l r)) ∧ Below w.heap.size w w' := by
  have HL := Lib.hid hL
  have HR := Lib.hid hR
  have Hl := Lib.hid hl
  have Hr := Lib.hid hr
  clear hL hR hl hr
  go_enter Try.func47, Try.ntmps47
  go_wp2_with fail
  go_loopw [5] (fun i wr => ∃ k : Nat, k ≤ n ∧ i = .int .i64 k ∧ Below w.heap.size w wr ∧ Hid (zipB l r = zipB (l.drop k) (r.drop k))) (fun i _ => n - (intOf i).toNat)
  case atStart => exact ⟨0, Nat.zero_le _, rfl, Below.refl _ _, rfl⟩
  case round =>
    obtain ⟨k, hk, rfl, hb, hz⟩ := hrel
    by_cases hlt : k < n
    · obtain ⟨v, hv⟩ : ∃ v, r[k]? = some v := ⟨_, List.getElem?_eq_getElem (by rw [Hr.out]; exact hlt)⟩
      obtain ⟨cc, hc⟩ : ∃ c, l[k]? = some c := ⟨_, List.getElem?_eq_getElem (by rw [Hl.out]; exact hlt)⟩
      have hst := Lib.hid (zipB_step hc hv)
      obtain ⟨v1, v2, v3⟩ := HR.out.below hb hbr k v hv
      obtain ⟨_, c2⟩ := HL.out.below hb hbl k cc hc
      clear hv hc
      obtain ⟨vk, vn, vs⟩ := v
      obtain ⟨cn, ck⟩ := cc
      have hi0 : (0 : Int) ≤ (k : Int) := by omega
      have hi1 : (k : Int) < (n : Int) := by omega
      have v1 : wr.cell? ⟨br, or_ + k * 3, none⟩ = some (.int .i64 vk) := v1
      have v2 : wr.cell? ⟨br, or_ + k * 3 + 1, none⟩ = some (.int .i64 vn) := v2
      have v3 : wr.cell? ⟨br, or_ + k * 3 + 2, none⟩ = some (.string vs) := v3
      have c2 : wr.cell? ⟨bl, ol + k * 2 + 1, none⟩ = some (.int .i64 ck) := c2
      have hs := hb.size
      have hbr2 : br < wr.heap.size := by omega
      have hbl2 : bl < wr.heap.size := by omega
      have hv := Lib.hid (ref4_right vk vn vs)
      have hBk : Below w.heap.size w (wr.alloc (.cells #[.int .i64 vk, .int .i64 vn, .string vs] 49)).drew := (hb.alloc hs _).drew
      have HBk := Lib.hid hBk
      have HB := Lib.hid hb
      clear hBk hb
      by_cases hok : V.okB ⟨vk, vn, vs⟩ = true
      · rw [hok] at hv hst
        by_cases hkk : (vk == ck) = true
        · have hz' : Hid (zipB l r = zipB (l.drop (k + 1)) (r.drop (k + 1))) := by
            have := hz.out.trans hst.out
            rwa [hkk, Bool.true_and, Bool.true_and] at this
          have hne : (vk != ck) = false := by simpa using hkk
          clear hst hz
          go_wp2_with fail
          go_region_held3 (fun w' => w'.cell? ⟨br, or_ + k * 3, none⟩ = some (.int .i64 vk) ∧ w'.cell? ⟨br, or_ + k * 3 + 1, none⟩ = some (.int .i64 vn) ∧ w'.cell? ⟨br, or_ + k * 3 + 2, none⟩ = some (.string vs) ∧ w'.cell? ⟨bl, ol + k * 2 + 1, none⟩ = some (.int .i64 ck)) (go_keep)
            (first | (go_at_call 72; refine (hv.out _).mono ?_; rintro e w' ⟨rfl, rfl⟩))
          go_wp2_with fail
          go_roundw
          case rel => exact ⟨k + 1, by omega, by go_num, HBk.out, hz'⟩
          case measure => simp [intOf]; omega
        · have hkk' : (vk == ck) = false := by simpa using hkk
          have hz' : Hid (zipB l r = false) := by
            have := hz.out.trans hst.out
            rwa [hkk', Bool.and_false, Bool.false_and] at this
          have hne : (vk != ck) = true := by simpa using hkk
          clear hst hz hkk
          go_wp2_with fail
          go_region_held3 (fun w' => w'.cell? ⟨br, or_ + k * 3, none⟩ = some (.int .i64 vk) ∧ w'.cell? ⟨br, or_ + k * 3 + 1, none⟩ = some (.int .i64 vn) ∧ w'.cell? ⟨br, or_ + k * 3 + 2, none⟩ = some (.string vs) ∧ w'.cell? ⟨bl, ol + k * 2 + 1, none⟩ = some (.int .i64 ck)) (go_keep)
            (first | (go_at_call 72; refine (hv.out _).mono ?_; rintro e w' ⟨rfl, rfl⟩))
          go_wp2_with fail
          go_ret
          exact ⟨by rw [hz'.out]; rfl, HBk.out⟩
      · have hok' : V.okB ⟨vk, vn, vs⟩ = false := by simpa using hok
        rw [hok'] at hv hst
        have hz' : Hid (zipB l r = false) := hz.out.trans hst.out
        clear hst hz hok hok'
        go_wp2_with fail
        refine wp_region_any (by kernel_rfl) ?_
        change wpAny _ _ _ _ _ _ _ (World.drew _)
        refine wpAny_take (i := 0) (v := .slice (some ⟨br, or_, none⟩) n c) rfl (by kernel_rfl) (by kernel_rfl) (by kernel_rfl) (fun _ _ _ h => h) (Or.inl ⟨by rfl, fun w => by go_simp⟩) ?_
        refine wpAny_take (i := 1) (v := .int .i64 k) rfl (by kernel_rfl) (by kernel_rfl) (by kernel_rfl) (fun _ _ _ h => h) (Or.inl ⟨by rfl, fun w => by go_simp⟩) ?_
        refine wpAny_one (i := 2) (by kernel_rfl) rfl (fun K hK => ?_)
        go_simp
        refine hK _ _ ?_
        clear hK K
        refine wpAny_one (i := 3) (by kernel_rfl) rfl (fun K hK => ?_)
        go_simp
        refine hK _ _ ?_
        clear hK K
        refine wpAny_one (i := 4) (by kernel_rfl) rfl (fun K hK => ?_)
        go_simp
        go_wp2_with (go_at_call 72; refine (hv.out _).mono ?_; rintro e w' ⟨rfl, rfl⟩)
        refine wpAny_one (i := 5) (by kernel_rfl) rfl (fun K hK => ?_)
        go_simp
        refine hK _ _ ?_
        clear hK K
        refine wpAny_one (i := 6) (by kernel_rfl) rfl (fun K hK => ?_)
        go_simp
        refine hK _ _ ?_
        clear hK K
        refine wpAny_skip (i := 7) rfl (by kernel_rfl) (by kernel_rfl) (by kernel_rfl) (fun _ _ _ h => h) (by kernel_rfl) ?_
        refine wpAny_skip (i := 8) rfl (by kernel_rfl) (by kernel_rfl) (by kernel_rfl) (fun _ _ _ h => h) (by kernel_rfl) ?_
        refine wpAny_skip (i := 9) rfl (by kernel_rfl) (by kernel_rfl) (by kernel_rfl) (fun _ _ _ h => h) (by kernel_rfl) ?_
        refine wpAny_skip (i := 10) rfl (by kernel_rfl) (by kernel_rfl) (by kernel_rfl) (fun _ _ _ h => h) (by kernel_rfl) ?_
        refine wpAny_skip (i := 11) rfl (by kernel_rfl) (by kernel_rfl) (by kernel_rfl) (fun _ _ _ h => h) (by kernel_rfl) ?_
        refine wpAny_skip (i := 12) rfl (by kernel_rfl) (by kernel_rfl) (by kernel_rfl) (fun _ _ _ h => h) (by kernel_rfl) ?_
        refine wpAny_skip (i := 13) rfl (by kernel_rfl) (by kernel_rfl) (by kernel_rfl) (fun _ _ _ h => h) (by kernel_rfl) ?_
        refine wpAny_skip (i := 14) rfl (by kernel_rfl) (by kernel_rfl) (by kernel_rfl) (fun _ _ _ h => h) (by kernel_rfl) ?_
        refine wpAny_skip (i := 15) rfl (by kernel_rfl) (by kernel_rfl) (by kernel_rfl) (fun _ _ _ h => h) (by kernel_rfl) ?_
        refine wpAny_skip (i := 16) rfl (by kernel_rfl) (by kernel_rfl) (by kernel_rfl) (fun _ _ _ h => h) (by kernel_rfl) ?_
        refine wpAny_skip (i := 17) rfl (by kernel_rfl) (by kernel_rfl) (by kernel_rfl) (fun _ _ _ h => h) (by kernel_rfl) ?_
        refine wpAny_one (i := 18) (by kernel_rfl) rfl (fun K hK => ?_)
        go_simp
        refine hK _ _ ?_
        clear hK K
        refine wpAny_done (by kernel_rfl) ?_ _
        go_wp2_with fail
        go_ret
        exact ⟨by rw [hz'.out]; rfl, HBk.out⟩
    · go_wp2_with fail
      go_ret
      have e : k = n := by omega
      subst e
      exact ⟨by rw [hz.out, List.drop_of_length_le (by rw [Hl.out]; omega)]; rfl, hb⟩
theorem ref5_fits (A D : Option Addr) (c d : Nat) (l : List C) (r : List V) (hl : l.length ≤ 9223372036854775807) (hr : r.length ≤ 9223372036854775807) (w : World)
    (hA : CRow w w.heap.size A l) (hD : VRow w w.heap.size D r) :
    Calls Try.prog 47 #[.slice A l.length c, .slice D r.length d] w fun e w' => e = .returned (.bool (fitsB l r)) ∧ Below w.heap.size w w' := by
  by_cases hlen : l.length = r.length
  · have e0 : fitsB l r = zipB l r := by unfold fitsB; rw [decide_eq_true hlen]; rfl
    rw [e0]
    rcases hA with rfl | ⟨bl, ol, rfl, hbl, hL⟩
    · have : r = [] := List.eq_nil_of_length_eq_zero (by simpa using hlen.symm)
      subst this
      clear hD hlen e0 hl hr
      show Calls _ _ #[.slice A 0 c, .slice D 0 d] _ fun e w' => e = .returned (.bool true) ∧ _
      go_enter Try.func47, Try.ntmps47
      go_wp2_with fail
      go_loop [5] (fun i => i = .int .i64 0) (fun i => 0)
      case atStart => rfl
      case round =>
        obtain rfl := hrel
        go_wp2_with fail
        go_ret
        exact ⟨rfl, Below.refl _ _⟩
    · rcases hD with rfl | ⟨br, or_, rfl, hbr, hR⟩
      · have : l = [] := List.eq_nil_of_length_eq_zero (by simpa using hlen)
        subst this
        clear hlen e0 hl hr
        show Calls _ _ #[.slice _ 0 c, .slice D 0 d] _ fun e w' => e = .returned (.bool true) ∧ _
        go_enter Try.func47, Try.ntmps47
        go_wp2_with fail
        go_loop [5] (fun i => i = .int .i64 0) (fun i => 0)
        case atStart => rfl
        case round =>
          obtain rfl := hrel
          go_wp2_with fail
          go_ret
          exact ⟨rfl, Below.refl _ _⟩
      · have h := ref5_fits_full bl ol br or_ l.length d c l r rfl hlen.symm hl w hbl hbr hL hR
        rw [← hlen]
        exact h
  · have e0 : fitsB l r = false := by unfold fitsB; rw [decide_eq_false hlen]; rfl
    have hne : ((l.length : Int) != (r.length : Int)) = true := by rw [bne_iff_ne]; omega
    rw [e0]
    generalize l.length = n at *
    generalize r.length = m at *
    clear hlen e0 hA hD
    go_enter Try.func47, Try.ntmps47
    go_wp2_with fail
    go_ret
    exact ⟨rfl, Below.refl _ _⟩
end Go.Proofs.Ytabhkfpglhfiiaa
