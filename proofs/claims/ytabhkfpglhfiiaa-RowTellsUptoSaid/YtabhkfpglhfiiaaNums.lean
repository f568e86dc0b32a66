/-
  Package confluencekeep's contracts: Num, Str, Nums.
-/
import Derived.Test.YtabhkfpglhfiiaaCmp
namespace Go.Proofs.Ytabhkfpglhfiiaa
open Go.RowKit

theorem value_info : (Try.prog.info? 49).map (fun i => (i.zero, i.size, i.bytes)) = some (some (.agg #[.int .i64 0, .int .i64 0, .string ByteArray.empty]), 3, 32) := by kernel_rfl

theorem keep_num (n : Int) (w : World) :
    Calls Try.prog 63 #[.int .i64 n] w fun e w' => e = .returned (.agg #[.int .i64 1, .int .i64 n, .string ⟨#[]⟩]) ∧ w.alloc (.cells #[.int .i64 1, .int .i64 n, .string ⟨#[]⟩] 49) = w' := by
  go_enter Try.func63, Try.ntmps63
  go_wp2
  exact bodyPost_ret (v := .agg #[.int .i64 1, .int .i64 n, .string ⟨#[]⟩]) (by simp [results, Try.results63, go_sem]) rfl ⟨rfl, rfl⟩

theorem keep_str (s : ByteArray) (w : World) :
    Calls Try.prog 55 #[.string s] w fun e w' => e = .returned (.agg #[.int .i64 2, .int .i64 0, .string s]) ∧ w.alloc (.cells #[.int .i64 2, .int .i64 0, .string s] 49) = w' := by
  go_enter Try.func55, Try.ntmps55
  go_wp2
  exact bodyPost_ret (v := .agg #[.int .i64 2, .int .i64 0, .string s]) (by simp [results, Try.results55, go_sem]) rfl ⟨rfl, rfl⟩

def numV (n : Int) : V := ⟨1, n, ⟨#[]⟩⟩
/-- a new row -/
def NewRow (w : World) (l : List V) (e : Ending) (w' : World) : Prop := ∃ v, e = .returned v ∧ w'.ownsRow w.heap.size 49 3 v l.length (flat l) ∧ Below w.heap.size w w'

set_option maxHeartbeats 1000000 in
theorem nums_any (b o c : Nat) (zs : List Int) (n : Nat) (hz : zs.length = n) (hn : n ≤ 1000) (w : World) (hb : b < w.heap.size) (hc : ∀ k, k < n → w.cell? ⟨b, o + k, none⟩ = some (.int .i64 (zs.getD k 0))) :
    Calls Try.prog 32 #[.slice (some ⟨b, o, none⟩) n c] w (NewRow w (zs.map numV)) := by
  obtain ⟨i0, hi, hz0, hz1, hz2⟩ := info_parts value_info
  have HC := Lib.hid hc
  have HZ := Lib.hid hz
  clear hc hz
  go_enter Try.func32, Try.ntmps32
  go_wp2_with fail
  go_loopw [3, 4] (fun v i wr => ∃ k : Nat, k ≤ n ∧ i = .int .i64 k ∧ wr.ownsRow w.heap.size 49 3 v k (flat ((zs.map numV).take k)) ∧ Below w.heap.size w wr) (fun _ i _ => n - (intOf i).toNat)
  case atStart => exact ⟨0, Nat.zero_le _, rfl, World.ownsRow_nil _ _ _ _, Below.refl _ _⟩
  case round =>
    obtain ⟨k, hk, rfl, hown, hbl⟩ := hrel
    have HO := Lib.hid hown
    have HB := Lib.hid hbl
    have hs := hbl.size
    clear hown
    by_cases hlt : k < n
    · have hcell := (hbl.cell hb).trans (HC.out k hlt)
      have hsn := Lib.hid (flat_snoc (l := zs.map numV) (k := k) (v := numV (zs.getD k 0)) (by rw [List.getElem?_map, List.getElem?_eq_getElem (by rw [HZ.out]; exact hlt), List.getD_eq_getElem?_getD, List.getElem?_eq_getElem (by rw [HZ.out]; exact hlt)]; rfl))
      generalize zs.getD k 0 = x at *
      clear hbl
      go_wp2_with fail
      refine (keep_num x _).mono ?_
      rintro e w' ⟨rfl, rfl⟩
      go_wp2_with (at_builtin; refine wpList_append_own _ rfl _ _ 39 rfl w.heap.size 49 i0 _ 3 32 Try.underlying39 hi hz0 hz1 hz2 rfl (by decide) _ _ _ rfl ((HO.out.alloc _).alloc _) ⟨wr.heap.size + 1, 0, none⟩ 1 1 (V.cs (numV x)) rfl rfl ?c1 ?c2 ?c3 ?c4 ?c5 ?_)
      case c1 =>
        intro j u hj
        match j, hj with
        | 0, hj => simp [V.cs] at hj; subst hj; simp [Addr.add, numV]
        | 1, hj => simp [V.cs] at hj; subst hj; simp [Addr.add, numV]
        | 2, hj => simp [V.cs] at hj; subst hj; simp [Addr.add, numV]
      case c2 => rw [← flat_one]; exact flat_ones _
      case c3 => unfold maxLen; omega
      case c4 => omega
      case c5 => simp; omega
      intro v' w1 hown' hgrow _
      have ho2 : w1.ownsRow w.heap.size 49 3 v' (k + 1) (flat ((zs.map numV).take (k + 1))) := by rw [hsn.out]; exact hown'
      have hb2 := ((HB.out.alloc hs _).alloc (by simp; omega) _).grown hgrow (by simp; omega) (fun g hg => (HO.out.lt g hg).1)
      clear hown' hgrow hcell
      go_wp2_with fail
      go_roundw
      case rel => exact ⟨k + 1, by omega, by go_num, ho2, hb2⟩
      case measure => simp [intOf]; omega
    · clear hbl
      go_wp2_with fail
      go_ret
      obtain rfl : k = n := by omega
      have ho := HO.out
      rw [List.take_of_length_le (by simp [HZ.out])] at ho
      exact ⟨_, rfl, by simpa [HZ.out] using ho, HB.out⟩

end Go.Proofs.Ytabhkfpglhfiiaa
