/-
  Package confluenceref1: numbers and texts as bytes.
-/
import Derived.Test.YtabhkfpglhfiiaaDoorBytes
namespace Go.Proofs.YtabhkfpglhfiiaaDoor
open Go.RowKit
theorem wrap_u8_byte (n : Int) : IntKind.u8.wrap n = (((IntKind.u64.wrap n).toNat % 256).toUInt8.toNat : Int) := by
  rw [byte_of, IntKind.wrap_u64]
  have e : IntKind.u8.wrap n = n % 256 := by simp [IntKind.wrap, IntKind.bits, IntKind.signed]
  rw [e]
  omega
theorem leI_1 (n : Int) : u8s (leI n 1) = [.int .u8 (IntKind.u8.wrap n)] := by
  rw [wrap_u8_byte]; rfl
set_option maxRecDepth 100000 in
theorem ref1_Byte (A : Option Addr) (c : Nat) (l : List UInt8) (n : Int) (hl : l.length ≤ 549755813888) (w : World) (h : BR w A l) :
    Calls Tryd.prog 35 #[.slice A l.length c, .int .i64 n] w fun e w' => ∃ v, e = .returned v ∧ OwnB w.heap.size w' v (l ++ leI n 1) ∧ Below w.heap.size w w' := by
  obtain ⟨i0, hi0, hz0, hz1, hz2⟩ := info_parts u8_info
  have hlit : Hid ((w.alloc (.cells #[] 5)).ownsRow w.heap.size 5 1 (.slice (some ⟨w.heap.size, 0, none⟩) 0 0) 0 []) := Lib.hid (World.ownsRow_lit w #[] 0 (Nat.le_refl _) (by decide) rfl)
  have hs : Hid (Reads (w.alloc (.cells #[] 5)) w.heap.size 1 A l.length (u8s l)) := Lib.hid (h.alloc (Nat.le_refl _) _)
  have hb1 : Below w.heap.size w (w.alloc (.cells #[] 5)) := (Below.refl _ _).alloc (Nat.le_refl _) _
  have HB1 := Lib.hid hb1
  clear h hb1
  go_enter Tryd.func35, Tryd.ntmps35
  go_wp2_with (at_builtin; refine wpList_append_any _ rfl _ _ 29 rfl w.heap.size 5 i0 _ 1 1 Tryd.underlying29 hi0 hz0 hz1 hz2 rfl (by decide) _ _ _ rfl hlit.out w.heap.size A l.length c (u8s l) rfl hs.out (u8s_ones _) ?c1 ?c2 ?c3 ?_)
  case c1 => unfold maxLen; omega
  case c2 => omega
  case c3 => simp
  intro v1 w1 hown1 hg1 hat1
  have hown1 : OwnB w.heap.size w1 v1 l := by unfold OwnB; simpa using hown1
  have hb2 := HB1.out.grown hg1 (by simp) (fun k hk => by simp [Value.ownBlock] at hk; omega)
  have HO1 := Lib.hid hown1
  have HB2 := Lib.hid hb2
  clear hown1 hg1 hat1 hb2 HB1 hs hlit
  go_wp2_with (at_builtin; refine wpList_append_any _ rfl _ _ 29 rfl w.heap.size 5 i0 _ 1 1 Tryd.underlying29 hi0 hz0 hz1 hz2 rfl (by decide) _ _ _ rfl (HO1.out.alloc _) (w1.heap.size + 1) (some ⟨w1.heap.size, 0, none⟩) 1 1 (u8s (leI n 1)) rfl ?d0 (u8s_ones _) ?d1 ?d2 ?d3 ?_)
  case d0 => rw [leI_1]; exact ⟨rfl, fun _ => ⟨_, rfl, by simp, World.news_of_block (cs := #[.int .u8 (IntKind.u8.wrap n)]) (t := 5) (fr := (0, 0)) (heap_alloc_new w1 _)⟩⟩
  case d1 => unfold maxLen; omega
  case d2 => omega
  case d3 => have := HB2.out.size; simp; omega
  intro v2 w2 hown2 hg2 hat2
  have hb3 := (HB2.out.alloc HB2.out.size (.cells #[.int .u8 (IntKind.u8.wrap n)] 5)).grown hg2 (by have := HB2.out.size; simp; omega) (fun k hk => (HO1.out.lt k hk).1)
  have hown3 : OwnB w.heap.size w2 v2 (l ++ leI n 1) := by
    unfold OwnB
    rw [u8s_append, List.length_append]
    exact hown2
  have HO2 := Lib.hid hown3
  have HB3 := Lib.hid hb3
  clear hown2 hg2 hat2 hb3 hown3
  obtain ⟨A2, c2, rfl, _⟩ := HO2.out.slice
  go_wp2
  go_ret
  exact ⟨_, rfl, HO2.out, HB3.out⟩
theorem leI_2 (n : Int) : u8s (leI n 2) = [.int .u8 (IntKind.u8.wrap n), .int .u8 (IntKind.u8.wrap (n / 256))] := by
  have e : (IntKind.u64.wrap n).toNat / 256 % 256 = (IntKind.u64.wrap (n / 256)).toNat % 256 := by
    rw [IntKind.wrap_u64, IntKind.wrap_u64]
    omega
  rw [wrap_u8_byte, wrap_u8_byte, ← e]
  rfl
set_option maxRecDepth 100000 in
theorem ref1_Short (A : Option Addr) (c : Nat) (l : List UInt8) (n : Int) (hl : l.length ≤ 549755813888) (w : World) (h : BR w A l) :
    Calls Tryd.prog 51 #[.slice A l.length c, .int .i64 n] w fun e w' => ∃ v, e = .returned v ∧ OwnB w.heap.size w' v (l ++ leI n 2) ∧ Below w.heap.size w w' := by
  obtain ⟨i0, hi0, hz0, hz1, hz2⟩ := info_parts u8_info
  have hlit : Hid ((w.alloc (.cells #[] 5)).ownsRow w.heap.size 5 1 (.slice (some ⟨w.heap.size, 0, none⟩) 0 0) 0 []) := Lib.hid (World.ownsRow_lit w #[] 0 (Nat.le_refl _) (by decide) rfl)
  have hs : Hid (Reads (w.alloc (.cells #[] 5)) w.heap.size 1 A l.length (u8s l)) := Lib.hid (h.alloc (Nat.le_refl _) _)
  have hb1 : Below w.heap.size w (w.alloc (.cells #[] 5)) := (Below.refl _ _).alloc (Nat.le_refl _) _
  have HB1 := Lib.hid hb1
  clear h hb1
  go_enter Tryd.func51, Tryd.ntmps51
  go_wp2_with (at_builtin; refine wpList_append_any _ rfl _ _ 29 rfl w.heap.size 5 i0 _ 1 1 Tryd.underlying29 hi0 hz0 hz1 hz2 rfl (by decide) _ _ _ rfl hlit.out w.heap.size A l.length c (u8s l) rfl hs.out (u8s_ones _) ?c1 ?c2 ?c3 ?_)
  case c1 => unfold maxLen; omega
  case c2 => omega
  case c3 => simp
  intro v1 w1 hown1 hg1 hat1
  have hown1 : OwnB w.heap.size w1 v1 l := by unfold OwnB; simpa using hown1
  have hb2 := HB1.out.grown hg1 (by simp) (fun k hk => by simp [Value.ownBlock] at hk; omega)
  have HO1 := Lib.hid hown1
  have HB2 := Lib.hid hb2
  clear hown1 hg1 hat1 hb2 HB1 hs hlit
  go_wp2_with (at_builtin; refine wpList_append_any _ rfl _ _ 29 rfl w.heap.size 5 i0 _ 1 1 Tryd.underlying29 hi0 hz0 hz1 hz2 rfl (by decide) _ _ _ rfl (HO1.out.alloc _) (w1.heap.size + 1) (some ⟨w1.heap.size, 0, none⟩) 2 2 (u8s (leI n 2)) rfl ?d0 (u8s_ones _) ?d1 ?d2 ?d3 ?_)
  case d0 => rw [leI_2]; exact ⟨rfl, fun _ => ⟨_, rfl, by simp, World.news_of_block (cs := #[.int .u8 (IntKind.u8.wrap n), .int .u8 (IntKind.u8.wrap (n / 256))]) (t := 5) (fr := (0, 0)) (heap_alloc_new w1 _)⟩⟩
  case d1 => unfold maxLen; omega
  case d2 => omega
  case d3 => have := HB2.out.size; simp; omega
  intro v2 w2 hown2 hg2 hat2
  have hb3 := (HB2.out.alloc HB2.out.size (.cells #[.int .u8 (IntKind.u8.wrap n), .int .u8 (IntKind.u8.wrap (n / 256))] 5)).grown hg2 (by have := HB2.out.size; simp; omega) (fun k hk => (HO1.out.lt k hk).1)
  have hown3 : OwnB w.heap.size w2 v2 (l ++ leI n 2) := by
    unfold OwnB
    rw [u8s_append, List.length_append]
    exact hown2
  have HO2 := Lib.hid hown3
  have HB3 := Lib.hid hb3
  clear hown2 hg2 hat2 hb3 hown3
  obtain ⟨A2, c2, rfl, _⟩ := HO2.out.slice
  go_wp2
  go_ret
  exact ⟨_, rfl, HO2.out, HB3.out⟩
end Go.Proofs.YtabhkfpglhfiiaaDoor
