/-
  Package value's Show: its contract.
-/
import Derived.Test.YtabhkfpglhfiiaaDoorLess
import Derived.Test.YtabhkfpglhfiiaaDoorBytes
import Derived.Test.YtabhkfpglhfiiaaDoorRefRd2
import Derived.Test.YtabhkfpglhfiiaaDoorShelf
import Derived.Lib.AppendIntMem
import Derived.Lib.ItoaLen
import Derived.StillTailTactics
import Derived.Deep.RegionLaw
import Derived.Deep.DeepCutAuto
namespace Go.Proofs.YtabhkfpglhfiiaaDoor
open Go.RowKit
def hexL : List UInt8 := [48, 49, 50, 51, 52, 53, 54, 55, 56, 57, 97, 98, 99, 100, 101, 102]
def hexD (n : Nat) : UInt8 := hexL.getD n 0
def plainC (c : UInt8) : Bool := ((decide (32 ≤ (c.toNat : Int)) && decide ((c.toNat : Int) ≤ 126)) && (c.toNat : Int) != 34) && (c.toNat : Int) != 92
def qB (c : UInt8) : List UInt8 := if plainC c then [c] else [92, hexD (c.toNat / 16), hexD (c.toNat % 16)]
def quoteL (l : List UInt8) : List UInt8 := 34 :: l.flatMap qB ++ [34]
def showL (v : V) : List UInt8 := if V.okB v then (if v.k == 1 then Lib.itoa v.n else quoteL v.s.data.toList) else [63]
theorem and15_fin : ∀ c : Fin 256, bits BinOp.and IntKind.u8 ((c.val : Nat) : Int) 15 = ((c.val : Nat) : Int) % 16 := by decide +kernel
theorem and15 (c : UInt8) : bits BinOp.and IntKind.u8 (c.toNat : Int) 15 = (c.toNat : Int) % 16 := and15_fin ⟨c.toNat, c.toNat_lt⟩
theorem hex_fin : ∀ i : Fin 16, ∀ h, (ByteArray.mk #[48, 49, 50, 51, 52, 53, 54, 55, 56, 57, 97, 98, 99, 100, 101, 102])[i.val]'h = hexD i.val := by decide +kernel
theorem hex_hi (c : UInt8) : ∀ h, (ByteArray.mk #[48, 49, 50, 51, 52, 53, 54, 55, 56, 57, 97, 98, 99, 100, 101, 102])[((c.toNat : Int) / 16).toNat]'h = hexD (c.toNat / 16) := by
  intro h
  have e : ((c.toNat : Int) / 16).toNat = c.toNat / 16 := by omega
  have hl : c.toNat / 16 < 16 := by have := c.toNat_lt; omega
  have := hex_fin ⟨c.toNat / 16, hl⟩ (show c.toNat / 16 < 16 from hl)
  simpa only [e] using this
theorem hex_lo (c : UInt8) : ∀ h, (ByteArray.mk #[48, 49, 50, 51, 52, 53, 54, 55, 56, 57, 97, 98, 99, 100, 101, 102])[((c.toNat : Int) % 16).toNat]'h = hexD (c.toNat % 16) := by
  intro h
  have e : ((c.toNat : Int) % 16).toNat = c.toNat % 16 := by omega
  have hl : c.toNat % 16 < 16 := by omega
  have := hex_fin ⟨c.toNat % 16, hl⟩ (show c.toNat % 16 < 16 from hl)
  simpa only [e] using this
theorem take_q (s : ByteArray) (k : Nat) (h : k < s.size) : (s.data.toList.take (k + 1)).flatMap qB = (s.data.toList.take k).flatMap qB ++ qB s[k] := by
  rw [List.take_succ_eq_append_getElem (by simpa using h), List.flatMap_append]
  simp
  rfl
theorem qB_le (c : UInt8) : (qB c).length ≤ 3 := by unfold qB; split <;> simp
theorem fq_le (l : List UInt8) : (l.flatMap qB).length ≤ 3 * l.length := by
  induction l with
  | nil => simp
  | cons c l ih => have := qB_le c; simp only [List.flatMap_cons, List.length_append, List.length_cons]; omega

set_option maxRecDepth 100000 in
set_option maxHeartbeats 1000000 in
theorem show_text (s : ByteArray) (hs : s.size ≤ 40) (n : Int) (k : Int) (hk : (k == 2) = true) (hok : V.okB ⟨k, n, s⟩ = true) (w : World) :
    Calls Tryd.prog 7 #[.agg #[.int .i64 k, .int .i64 n, .string s]] w fun e w' => e = .returned (.string ⟨(quoteL s.data.toList).toArray⟩) ∧ Below w.heap.size w w' := by
  obtain ⟨i0, hi0, hz0, hz1, hz2⟩ := info_parts u8_info
  have hr := Lib.hid (value_right k n s)
  have hk1 : (k == 1) = false := by simp at hk ⊢; omega
  rw [hok] at hr
  clear hok
  go_enter Tryd.func7, Tryd.ntmps7
  go_wp2_with fail
  refine (hr.out _).mono ?_
  rintro e w' ⟨rfl, rfl⟩
  go_wp2_with fail
  obtain ⟨W0, hW0⟩ : ∃ W0, W0 = w.alloc (.cells #[.int .i64 k, .int .i64 n, .string s] 24) := ⟨_, rfl⟩
  have hbox : Hid (∀ w1, Below W0.heap.size W0 w1 → w1.cell? ⟨w.heap.size, 2, none⟩ = some (.string s)) := Lib.hid fun w1 h1 => by
    subst hW0
    rw [h1.cell (by simp)]
    simp
  have hsz : W0.heap.size = w.heap.size + 1 := by subst hW0; simp
  have hsz' := Lib.hid hsz
  have hB0 : Hid (Below w.heap.size w W0) := Lib.hid (by subst hW0; exact (Below.refl _ _).alloc (Nat.le_refl _) _)
  have hstart : Hid (OwnB W0.heap.size ((W0.alloc (.cells #[.int .i64 k, .int .i64 n, .string s] 24)).alloc (.cells #[.int .u8 34] 5)) (.slice (some ⟨w.heap.size + 1 + 1, 0, none⟩) 1 1) [34]) := Lib.hid (by
    have := World.ownsRow_lit (base := W0.heap.size) (e := 5) (size := 1) (W0.alloc (.cells #[.int .i64 k, .int .i64 n, .string s] 24)) #[.int .u8 34] 1 (by simp) (by decide) rfl
    have e : (W0.alloc (.cells #[.int .i64 k, .int .i64 n, .string s] 24)).heap.size = w.heap.size + 1 + 1 := by simp [hsz]
    rw [e] at this
    exact this)
  have hB1 : Hid (Below W0.heap.size W0 ((W0.alloc (.cells #[.int .i64 k, .int .i64 n, .string s] 24)).alloc (.cells #[.int .u8 34] 5))) := Lib.hid (((Below.refl _ _).alloc (Nat.le_refl _) _).alloc (by simp) _)
  rw [← hW0]
  clear hW0 hsz
  go_loopw [3, 22] (fun v i wr => ∃ j : Nat, j ≤ s.size ∧ i = .int .i64 j ∧ OwnB W0.heap.size wr v (34 :: (s.data.toList.take j).flatMap qB) ∧ Below W0.heap.size W0 wr) (fun _ i _ => s.size - (intOf i).toNat)
  case atStart => exact ⟨0, Nat.zero_le _, rfl, hstart.out, hB1.out⟩
  case round =>
    obtain ⟨j, hj, rfl, hown, hb⟩ := hrel
    have HO := Lib.hid hown
    have HB := Lib.hid hb
    have hc := hbox.out wr hb
    have hlen : Hid ((34 :: (s.data.toList.take j).flatMap qB).length ≤ 200) := Lib.hid (by
      have := fq_le (s.data.toList.take j)
      have h2 : (s.data.toList.take j).length ≤ j := List.length_take_le _ _
      simp only [List.length_cons]
      omega)
    clear hown hb hstart hB1
    by_cases hlt : j < s.size
    · have hst : Hid (34 :: (s.data.toList.take (j + 1)).flatMap qB = (34 :: (s.data.toList.take j).flatMap qB) ++ qB s[j]) := Lib.hid (by rw [take_q s j hlt]; rfl)
      generalize (34 :: (s.data.toList.take j).flatMap qB) = cs at *
      generalize hcs2 : (34 :: (s.data.toList.take (j + 1)).flatMap qB) = cs2 at *
      have Hcs2 := Lib.hid hcs2
      clear hcs2
      obtain ⟨pc, hpc⟩ : ∃ pc, pc = plainC s[j] := ⟨_, rfl⟩
      have Hpc := Lib.hid hpc
      clear hpc
      go_upto_region 12 with (fail)
      go_cut [42] (fun s42 wx => s42 = .bool pc ∧ wx = wr)
      case first =>
        by_cases p1 : 32 ≤ (s[j].toNat : Int)
        · by_cases p2 : (s[j].toNat : Int) ≤ 126
          · by_cases p3 : ((s[j].toNat : Int) != 34) = true
            · obtain rfl : pc = ((s[j].toNat : Int) != 92) := by rw [Hpc.out, plainC, decide_eq_true p1, decide_eq_true p2, p3]; rfl
              clear Hpc
              go_wp2_with fail
              go_meet
              exact ⟨rfl, rfl⟩
            · have p3' : ((s[j].toNat : Int) != 34) = false := by simpa using p3
              obtain rfl : pc = false := by rw [Hpc.out, plainC, p3']; simp
              clear Hpc p3
              go_wp2_with fail
              go_meet
              exact ⟨rfl, rfl⟩
          · obtain rfl : pc = false := by rw [Hpc.out, plainC, decide_eq_false p2]; simp
            clear Hpc
            go_wp2_with fail
            go_meet
            exact ⟨rfl, rfl⟩
        · obtain rfl : pc = false := by rw [Hpc.out, plainC, decide_eq_false p1]; simp
          clear Hpc
          go_wp2_with fail
          go_meet
          exact ⟨rfl, rfl⟩
      case rest =>
      obtain ⟨rfl, hwc⟩ := hcut
      obtain rfl : wr = wc := hwc.symm
      clear hwc
      cases pc
      · have hq : Hid (qB s[j] = [92, hexD (s[j].toNat / 16), hexD (s[j].toNat % 16)]) := Lib.hid (by unfold qB; rw [← Hpc.out]; rfl)
        have c0 : (0 : Int) ≤ (s[j].toNat : Int) := by omega
        have c1 : (s[j].toNat : Int) < 256 := by have := s[j].toNat_lt; omega
        have c2 : (0 : Int) ≤ (s[j].toNat : Int) / 16 := by omega
        have c3 : (s[j].toNat : Int) / 16 < 16 := by omega
        have c4 : (0 : Int) ≤ (s[j].toNat : Int) % 16 := by omega
        have c5 : (s[j].toNat : Int) % 16 < 16 := by omega
        have x1 := hex_hi s[j]
        have x2 := hex_lo s[j]
        have x3 := and15 s[j]
        go_wp2_with fail
        go_region_law (refine step_append_any _ (by rfl) _ _ _ (by rfl) W0.heap.size 5 i0 _ 1 1 Tryd.underlying29 hi0 hz0 hz1 hz2 rfl (by omega) u3 _ _ (by rfl) ((HO.out.alloc _).drew) (wr.heap.size + 1) (some ⟨wr.heap.size, 0, none⟩) 3 3 [.int .u8 92, .int .u8 (hexD (s[j].toNat / 16)).toNat, .int .u8 (hexD (s[j].toNat % 16)).toNat] (by rfl) ⟨rfl, fun _ => ⟨_, rfl, by simp, World.news_of_block (cs := #[.int .u8 92, .int .u8 (hexD (s[j].toNat / 16)).toNat, .int .u8 (hexD (s[j].toNat % 16)).toNat]) (t := 5) (fr := (0, 0)) (heap_alloc_new wr _)⟩⟩ (by simp [Value.oneCell']) (by have := hlen.out; unfold maxLen; omega) (by have := hlen.out; omega) (by have := HB.out.size; simp; omega) ?_; intro v2 w2 hown2 hg2 hat2)
        all_goals
          have hb3 := (HB.out.alloc HB.out.size (.cells #[.int .u8 92, .int .u8 (hexD (s[j].toNat / 16)).toNat, .int .u8 (hexD (s[j].toNat % 16)).toNat] 5)).drew.grown hg2 (by have := HB.out.size; simp; omega) (fun k hk => (HO.out.lt k hk).1)
          have hown3 : OwnB W0.heap.size w2 v2 cs2 := ownB_of hown2 (by rw [hst.out, hq.out, u8s_append]; rfl)
          have HO2 := Lib.hid hown3
          have HB3 := Lib.hid hb3
          clear hown2 hg2 hat2 hb3 hown3 x1 x2 x3
          go_wp2_with fail
          go_roundw
          case rel => exact ⟨j + 1, by omega, by go_num, by rw [Hcs2.out]; exact HO2.out, HB3.out⟩
          case measure => simp [intOf]; omega
      · have hq : Hid (qB s[j] = [s[j]]) := Lib.hid (by unfold qB; rw [← Hpc.out]; rfl)
        go_wp2_with (at_builtin; refine wpList_append_any _ rfl _ _ 29 rfl W0.heap.size 5 i0 _ 1 1 Tryd.underlying29 hi0 hz0 hz1 hz2 rfl (by decide) _ _ _ rfl (HO.out.alloc _) (wr.heap.size + 1) (some ⟨wr.heap.size, 0, none⟩) 1 1 [.int .u8 s[j].toNat] rfl ?d0 ?d4 ?d1 ?d2 ?d3 ?_)
        case d0 => exact ⟨rfl, fun _ => ⟨_, rfl, by simp, World.news_of_block (cs := #[.int .u8 s[j].toNat]) (t := 5) (fr := (0, 0)) (heap_alloc_new wr _)⟩⟩
        case d4 => intro u hu; simp at hu; subst hu; rfl
        case d1 => have := hlen.out; unfold maxLen; omega
        case d2 => have := hlen.out; omega
        case d3 => have := HB.out.size; simp; omega
        intro v2 w2 hown2 hg2 hat2
        have hb3 := (HB.out.alloc HB.out.size (.cells #[.int .u8 s[j].toNat] 5)).grown hg2 (by have := HB.out.size; simp; omega) (fun k hk => (HO.out.lt k hk).1)
        have hown3 : OwnB W0.heap.size w2 v2 cs2 := ownB_of hown2 (by rw [hst.out, hq.out, u8s_append]; rfl)
        have HO2 := Lib.hid hown3
        have HB3 := Lib.hid hb3
        clear hown2 hg2 hat2 hb3 hown3
        go_wp2_with fail
        go_roundw
        case rel => exact ⟨j + 1, by omega, by go_num, by rw [Hcs2.out]; exact HO2.out, HB3.out⟩
        case measure => simp [intOf]; omega
    · obtain rfl : j = s.size := by omega
      have hcs : Hid ((34 :: (s.data.toList.take s.size).flatMap qB) = 34 :: s.data.toList.flatMap qB) := Lib.hid (by rw [List.take_of_length_le (by simp)])
      have hend : Hid ((34 :: (s.data.toList.take s.size).flatMap qB) ++ [34] = quoteL s.data.toList) := Lib.hid (by rw [hcs.out]; rfl)
      generalize (34 :: (s.data.toList.take s.size).flatMap qB) = cs at *
      clear hcs hlt hj
      go_wp2_with (at_builtin; refine wpList_append_any _ rfl _ _ 29 rfl W0.heap.size 5 i0 _ 1 1 Tryd.underlying29 hi0 hz0 hz1 hz2 rfl (by decide) _ _ _ rfl (HO.out.alloc _) (wr.heap.size + 1) (some ⟨wr.heap.size, 0, none⟩) 1 1 [.int .u8 34] rfl ?d0 ?d4 ?d1 ?d2 ?d3 ?_)
      case d0 => exact ⟨rfl, fun _ => ⟨_, rfl, by simp, World.news_of_block (cs := #[.int .u8 34]) (t := 5) (fr := (0, 0)) (heap_alloc_new wr _)⟩⟩
      case d4 => intro u hu; simp at hu; subst hu; rfl
      case d1 => have := hlen.out; unfold maxLen; omega
      case d2 => have := hlen.out; omega
      case d3 => have := HB.out.size; simp; omega
      intro v2 w2 hown2 hg2 hat2
      have hb3 := (HB.out.alloc HB.out.size (.cells #[.int .u8 34] 5)).grown hg2 (by have := HB.out.size; simp; omega) (fun k hk => (HO.out.lt k hk).1)
      have hown3 : OwnB W0.heap.size w2 v2 (quoteL s.data.toList) := ownB_of hown2 (by rw [← hend.out, u8s_append]; rfl)
      have HB3 := Lib.hid (hB0.out.trans (hb3.mono hB0.out.size))
      have hcv := own_conv hown3
      clear hown2 hg2 hat2 hb3 hown3 hend
      go_wp2_with fail
      go_ret
      exact ⟨rfl, HB3.out⟩
end Go.Proofs.YtabhkfpglhfiiaaDoor
