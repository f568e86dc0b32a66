/-
  Package wire's writer: its contracts.
-/
import Derived.Test.YtabhkfpglhfiiaaDoorMem2
import Derived.Test.YtabhkfpglhfiiaaDoorRows
import Derived.WalkLawsBesides
import Derived.ScopeJumps
import Derived.WalkMore
import Derived.OneCell
import Derived.Deep.AppendLies
namespace Go.Proofs.YtabhkfpglhfiiaaDoor
open Go.RowKit
theorem u8_info : (Tryd.prog.info? 5).map (fun i => (i.zero, i.size, i.bytes)) = some (some (.int .u8 0), 1, 1) := by kernel_rfl
def u8s (l : List UInt8) : List Value := l.map fun c => .int .u8 c.toNat
theorem u8s_len (l : List UInt8) : (u8s l).length = l.length := by simp [u8s]
theorem u8s_append (a b : List UInt8) : u8s (a ++ b) = u8s a ++ u8s b := by simp [u8s]
theorem u8s_ones (l : List UInt8) : ∀ u ∈ u8s l, u.oneCell' = true := by
  intro u hu
  obtain ⟨c, _, rfl⟩ := List.mem_map.1 hu
  rfl
/-- so many bytes of a number, the lowest first -/
def le : Nat → Nat → List UInt8
  | _, 0 => []
  | n, k + 1 => (n % 256).toUInt8 :: le (n / 256) k
theorem le_len : ∀ (k n : Nat), (le n k).length = k
  | 0, _ => rfl
  | k + 1, n => by simp [le, le_len k]
theorem byte_of (n : Nat) : (((n % 256).toUInt8.toNat : Nat) : Int) = ((n % 256 : Nat) : Int) := by
  rw [UInt8.toNat_ofNat']; simp
/-- outside of S the world w' is as w was -/
structure Out (S : Nat → Prop) (w w' : World) : Prop where
  os : w'.os = w.os
  tape : w'.tape = w.tape
  output : w'.output = w.output
  size : w.heap.size ≤ w'.heap.size
  block : ∀ k, ¬ S k → w'.heap[k]? = w.heap[k]?
theorem Out.refl (S : Nat → Prop) (w : World) : Out S w w := ⟨rfl, rfl, rfl, Nat.le_refl _, fun _ _ => rfl⟩
theorem Out.trans {S : Nat → Prop} {a b c : World} (h : Out S a b) (k : Out S b c) : Out S a c :=
  ⟨k.os.trans h.os, k.tape.trans h.tape, k.output.trans h.output, Nat.le_trans h.size k.size, fun i hi => (k.block i hi).trans (h.block i hi)⟩
theorem Out.mono {S T : Nat → Prop} {w w' : World} (h : Out S w w') (hT : ∀ k, S k → T k) : Out T w w' := ⟨h.os, h.tape, h.output, h.size, fun k hk => h.block k fun hs => hk (hT k hs)⟩
theorem out_of_below {B : Nat} {a b : World} (h : Below B a b) {S : Nat → Prop} (hS : ∀ k, B ≤ k → S k) : Out S a b :=
  ⟨h.os, h.tape, h.output, h.size, fun k hk => h.block k (by rcases Nat.lt_or_ge k B with h | h; exact h; exact absurd (hS k h) hk)⟩
theorem Out.below {B : Nat} {S : Nat → Prop} {a b : World} (h : Out S a b) (hS : ∀ k, S k → B ≤ k) : Below B a b :=
  ⟨h.os, h.tape, h.output, h.size, fun k hk => h.block k fun hs => by have := hS k hs; omega⟩
theorem Out.setCell {S : Nat → Prop} {a w : World} (h : Out S a w) {p : Addr} (hp : S p.block) (u : Value) : Out S a (w.setCell p u) :=
  h.trans ⟨rfl, rfl, rfl, by simp [World.setCell], fun k hk => Below.heap_setCell _ _ _ _ (fun e => hk (e ▸ hp))⟩
theorem Out.cell {S : Nat → Prop} {w w' : World} (h : Out S w w') {p : Addr} (hp : ¬ S p.block) : w'.cell? p = w.cell? p := World.cell?_of_block (w := w) (h.block p.block hp)

/-- a writer at block g that holds the bytes bs; what is its own lies in S -/
def Wr (w : World) (S : Nat → Prop) (g : Nat) (bs : List UInt8) : Prop := S g ∧ ∃ v, w.heap[g]? = some (.cells #[v] 64 (0, 0)) ∧ w.ownsRow 0 5 1 v bs.length (u8s bs) ∧ ∀ k, v.ownBlock = some k → S k

theorem own_ne {w : World} {base : Nat} {e t : TypeId} {size n g : Nat} {v : Value} {xs : List Value} {cs : Array Value} (h : w.ownsRow base e size v n xs) (hg : w.heap[g]? = some (.cells cs t (0, 0))) (hne : e ≠ t) : v.ownBlock ≠ some g := by
  rcases h.2 with ⟨rfl, _⟩ | ⟨g', cap, cur, rfl, _, hh, _⟩
  · simp [Value.ownBlock]
  · intro he
    have e1 : g' = g := by simpa [Value.ownBlock] using he
    subst e1
    rw [hh] at hg
    injection hg with hg
    injection hg with _ ht
    exact hne ht

/-- what an append onto the writer's row, and the store behind it, leave -/
theorem Wr.grow {w wa w1 : World} {S : Nat → Prop} {g n m : Nat} {v v' : Value} {xs ys : List Value} (hS : ∀ k, w.heap.size ≤ k → S k) (hSg : S g) (hg : w.heap[g]? = some (.cells #[v] 64 (0, 0))) (hown : w.ownsRow 0 5 1 v n xs) (hv : ∀ k, v.ownBlock = some k → S k)
    (ha : Below w.heap.size w wa) (hgrow : wa.grownBy w1 v.ownBlock) (hown' : w1.ownsRow 0 5 1 v' m ys) :
    w1.cell? ⟨g, 0, none⟩ = some v ∧ w1.frozen? ⟨g, 0, none⟩ = false ∧ Out S w (w1.setCell ⟨g, 0, none⟩ v') ∧
    (w1.setCell ⟨g, 0, none⟩ v').heap[g]? = some (.cells #[v'] 64 (0, 0)) ∧ (w1.setCell ⟨g, 0, none⟩ v').ownsRow 0 5 1 v' m ys := by
  have hlt := lt_of_block hg
  have h0 := own_ne hown hg (by decide)
  have hga : wa.heap[g]? = some (.cells #[v] 64 (0, 0)) := (ha.block g hlt).trans hg
  have h1 : w1.heap[g]? = some (.cells #[v] 64 (0, 0)) := (hgrow.block g (lt_of_block hga) (Ne.symm h0)).trans hga
  have hs := ha.size
  have hb : Out S w w1 := (out_of_below ha hS).trans ⟨hgrow.os, hgrow.tape, hgrow.output, hgrow.size, fun k hk => by
    rcases Nat.lt_or_ge k wa.heap.size with h | h
    · exact hgrow.block k h fun e => hk (hv k e.symm)
    · exact absurd (hS k (by omega)) hk⟩
  exact ⟨cell_of_one h1, free_of_one h1, hb.setCell hSg _, one_setCell h1, ownsRow_setCell_other hown' (own_ne hown' h1 (by decide)) _⟩

set_option maxRecDepth 100000 in
set_option maxHeartbeats 2000000 in
theorem put_any (S : Nat → Prop) (g : Nat) (bs : List UInt8) (n k : Nat) (hn : n < 18446744073709551616) (hk : k ≤ 8) (hb : bs.length ≤ 1099511627776) (w : World) (hW : Wr w S g bs) (hS : ∀ k, w.heap.size ≤ k → S k) :
    Calls Tryd.prog 49 #[.pointer (some ⟨g, 0, none⟩), .int .u64 n, .int .i64 k] w fun e w' => e = .returned (.tuple #[]) ∧ Wr w' S g (bs ++ le n k) ∧ Out S w w' := by
  obtain ⟨i0, hi0, hz0, hz1, hz2⟩ := info_parts u8_info
  have HW := Lib.hid hW
  clear hW
  go_enter Tryd.func49, Tryd.ntmps49
  go_wp2
  refine wp_scope_jumps 0 (fun a' w' => Out S w w' ∧ ∃ (m j : Nat) (cs : List UInt8) (u1 u2 u6 u7 u8 u9 u10 u11 u12 u13 u14 u15 u16 u17 u18 u19 u20 u21 u22 u23 u24 : Value), a' = { tmps := #[.pointer (some ⟨g, 0, none⟩), u1, u2, undef, undef, undef, u6, u7, u8, u9, u10, u11, u12, u13, u14, u15, u16, u17, u18, u19, u20, u21, u22, u23, u24], defers := [] } ∧ u1 = .int .u64 m ∧ u6 = .int .i64 j ∧ m < 18446744073709551616 ∧ j ≤ 8 ∧ cs.length ≤ 1099511627776 + 8 - j ∧ Wr w' S g cs ∧ Hid (cs ++ le m j = bs ++ le n k)) (fun a' _ => (intOf (a'.tmps.getD 6 undef)).toNat) rfl ?_ ?_
  · -- the first pass
    go_wp2
    go_step3
    by_cases h0 : k = 0
    · subst h0
      go_wp2
      simp only [Exit.jump]
      refine bodyPost_ret (results_none rfl _ _ _) rfl ?_
      exact ⟨rfl, by simpa [le] using HW.out, Out.refl _ _⟩
    · obtain ⟨j, rfl⟩ : ∃ j, k = j + 1 := ⟨k - 1, by omega⟩
      obtain ⟨hBg, v, hg, hown, hvS⟩ := HW.out
      have hc := cell_of_one hg
      have hf := free_of_one hg
      have hd : (((j + 1 : Nat) : Int) == 0) = false := by simp; omega
      have HO := Lib.hid hown
      have HG := Lib.hid hg
      have hm1 : n / 256 < 18446744073709551616 := by omega
      clear hg hown h0
      go_wp2_with (at_builtin; refine wpList_append_lies _ rfl _ _ 29 rfl 0 5 i0 _ 1 1 Tryd.underlying29 hi0 hz0 hz1 hz2 rfl (by decide) _ _ _ rfl (HO.out.alloc _) ⟨w.heap.size, 0, none⟩ 1 1 (u8s [(n % 256).toUInt8]) rfl rfl ?c1 ?c2 (by omega) ?c3 ?c4 (Nat.zero_le _) _ rfl ?_)
      case c1 =>
        intro q u hq
        match q, hq with
        | 0, hq => simp [u8s] at hq; subst hq; simp [Addr.add]
      case c2 => exact u8s_ones _
      case c3 => unfold maxLen; omega
      case c4 => omega
      intro q cap w1 hown1 hgrow hlies _
      obtain ⟨f1, f2, f4, f5, f6⟩ := Wr.grow hS hBg HG.out HO.out hvS ((Below.refl _ _).alloc (Nat.le_refl _) _) hgrow hown1
      have hqS : S q := by
        rcases hlies with h | h
        · exact hvS _ h
        · rw [h]; exact hS _ (by simp)
      have hW1 : Wr (w1.setCell ⟨g, 0, none⟩ (.slice (some ⟨q, 0, none⟩) (bs.length + 1) cap)) S g (bs ++ [(n % 256).toUInt8]) := ⟨hBg, _, f5, by rw [u8s_append]; simpa using f6, by intro k hk; simp [Value.ownBlock] at hk; exact hk ▸ hqS⟩
      have HW1 := Lib.hid hW1
      have HB1 := Lib.hid f4
      clear hown1 hgrow f4 f5 f6 hW1 HO HG
      go_wp2
      go_step3
      exact ⟨rfl, HB1.out, n / 256, j, bs ++ [(n % 256).toUInt8], _, _, _, _, _, _, _, _, _, _, _, _, _, _, _, _, _, _, _, _, _, rfl, by simp, rfl, hm1, by omega, by simp; omega, HW1.out, by rw [List.append_assoc]; rfl⟩
  · rintro a' w' ⟨hbl, m, j, cs, u1, u2, u6, u7, u8, u9, u10, u11, u12, u13, u14, u15, u16, u17, u18, u19, u20, u21, u22, u23, u24, rfl, rfl, rfl, hm, hj, hl, hw, hs⟩
    have HW' := Lib.hid hw
    have HB' := Lib.hid hbl
    clear hw hbl HW
    by_cases h0 : j = 0
    · subst h0
      have hs' : Hid (cs = bs ++ le n k) := Lib.hid (by have := hs.out; simpa [le] using this)
      clear hs
      go_wp2
      simp only [Exit.jump]
      refine bodyPost_ret (results_none rfl _ _ _) rfl ?_
      exact ⟨rfl, by rw [← hs'.out]; exact HW'.out, HB'.out⟩
    · obtain ⟨i, rfl⟩ : ∃ i, j = i + 1 := ⟨j - 1, by omega⟩
      obtain ⟨hBg, v, hg, hown, hvS⟩ := HW'.out
      have hc := cell_of_one hg
      have hf := free_of_one hg
      have hd : (((i + 1 : Nat) : Int) == 0) = false := by simp; omega
      have HO := Lib.hid hown
      have HG := Lib.hid hg
      have hm1 : m / 256 < 18446744073709551616 := by omega
      have hBw : ∀ k, w'.heap.size ≤ k → S k := fun k hk => hS k (by have := HB'.out.size; omega)
      clear hg hown h0
      go_wp2_with (at_builtin; refine wpList_append_lies _ rfl _ _ 29 rfl 0 5 i0 _ 1 1 Tryd.underlying29 hi0 hz0 hz1 hz2 rfl (by decide) _ _ _ rfl (HO.out.alloc _) ⟨w'.heap.size, 0, none⟩ 1 1 (u8s [(m % 256).toUInt8]) rfl rfl ?d1 ?d2 (by omega) ?d3 ?d4 (Nat.zero_le _) _ rfl ?_)
      case d1 =>
        intro q u hq
        match q, hq with
        | 0, hq => simp [u8s] at hq; subst hq; simp [Addr.add]
      case d2 => exact u8s_ones _
      case d3 => unfold maxLen; omega
      case d4 => omega
      intro q cap w1 hown1 hgrow hlies _
      obtain ⟨f1, f2, f4, f5, f6⟩ := Wr.grow hBw hBg HG.out HO.out hvS ((Below.refl _ _).alloc (Nat.le_refl _) _) hgrow hown1
      have hqS : S q := by
        rcases hlies with h | h
        · exact hvS _ h
        · rw [h]; exact hBw _ (by simp)
      have hW1 : Wr (w1.setCell ⟨g, 0, none⟩ (.slice (some ⟨q, 0, none⟩) (cs.length + 1) cap)) S g (cs ++ [(m % 256).toUInt8]) := ⟨hBg, _, f5, by rw [u8s_append]; simpa using f6, by intro k hk; simp [Value.ownBlock] at hk; exact hk ▸ hqS⟩
      have HW1 := Lib.hid hW1
      have HB1 := Lib.hid (HB'.out.trans f4)
      have hs' : Hid (cs ++ [(m % 256).toUInt8] ++ le (m / 256) i = bs ++ le n k) := Lib.hid (by have := hs.out; rw [List.append_assoc]; exact this)
      clear hown1 hgrow f4 f5 f6 hW1 HO HG hs
      go_wp2
      go_step3
      exact ⟨rfl, ⟨HB1.out, m / 256, i, cs ++ [(m % 256).toUInt8], _, _, _, _, _, _, _, _, _, _, _, _, _, _, _, _, _, _, _, _, _, rfl, by simp, rfl, hm1, by omega, by simp; omega, HW1.out, hs'⟩, by simp [intOf]⟩

/-- a number written: 'put' with any number of the kind -/
theorem put_int (S : Nat → Prop) (g : Nat) (bs : List UInt8) (n : Int) (k : Nat) (kk : Int) (hkk : (k : Int) = kk) (hn0 : 0 ≤ n) (hn : n < 18446744073709551616) (hk : k ≤ 8) (hb : bs.length ≤ 1099511627776) (w : World) (hW : Wr w S g bs) (hS : ∀ k, w.heap.size ≤ k → S k) :
    Calls Tryd.prog 49 #[.pointer (some ⟨g, 0, none⟩), .int .u64 n, .int .i64 kk] w fun e w' => e = .returned (.tuple #[]) ∧ Wr w' S g (bs ++ le n.toNat k) ∧ Out S w w' := by
  subst hkk
  obtain ⟨m, rfl⟩ := Int.eq_ofNat_of_zero_le hn0
  exact put_any S g bs m k (by omega) hk hb w hW hS

end Go.Proofs.YtabhkfpglhfiiaaDoor
