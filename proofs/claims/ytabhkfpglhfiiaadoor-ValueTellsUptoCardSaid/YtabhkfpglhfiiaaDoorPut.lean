/-
  Values and rows, written.
-/
import Derived.Test.YtabhkfpglhfiiaaDoorWriter2
import Derived.Test.YtabhkfpglhfiiaaDoorValue
namespace Go.Proofs.YtabhkfpglhfiiaaDoor
open Go.RowKit
def vB (v : V) : List UInt8 := leI v.k 1 ++ (if v.k == 1 then leI v.n 8 else textB v.s)
def rowB (r : List V) : List UInt8 := leI r.length 1 ++ r.flatMap vB
theorem vB_len (v : V) : (vB v).length ≤ 9 + v.s.size := by
  unfold vB
  split <;> simp [leI_len, textB_len] <;> omega
theorem own_kept {w w' : World} {B n : Nat} {e : TypeId} {v : Value} {xs : List Value} (h : w.ownsRow B e 1 v n xs) (hb : Below w.heap.size w w') : w'.ownsRow B e 1 v n xs := by
  rcases h with ⟨h1, h2⟩
  refine ⟨h1, ?_⟩
  rcases h2 with h2 | ⟨g, cap, cur, rfl, h3, h4, h5⟩
  · exact .inl h2
  · exact .inr ⟨g, cap, cur, rfl, h3, (hb.block g (lt_of_block h4)).trans h4, h5⟩
theorem own_lt {w : World} {B n k : Nat} {e : TypeId} {v : Value} {xs : List Value} (h : w.ownsRow B e 1 v n xs) (hk : v.ownBlock = some k) : k < w.heap.size := by
  rcases h.2 with ⟨rfl, _⟩ | ⟨g, cap, cur, rfl, h3, h4, h5⟩
  · cases hk
  · obtain rfl : g = k := by simpa [Value.ownBlock] using hk
    exact lt_of_block h4
theorem Wr.kept {w w' : World} {S : Nat → Prop} {g : Nat} {bs : List UInt8} (h : Wr w S g bs) (hb : Below w.heap.size w w') : Wr w' (fun k => S k ∧ k < w.heap.size) g bs := by
  obtain ⟨h1, v, h2, h3, h4⟩ := h
  exact ⟨⟨h1, lt_of_block h2⟩, v, (hb.block g (lt_of_block h2)).trans h2, own_kept h3 hb, fun k hk => ⟨h4 k hk, own_lt h3 hk⟩⟩
theorem Wr.mono {w : World} {S T : Nat → Prop} {g : Nat} {bs : List UInt8} (h : Wr w S g bs) (hT : ∀ k, S k → T k) : Wr w T g bs := by
  obtain ⟨h1, v, h2, h3, h4⟩ := h
  exact ⟨hT _ h1, v, h2, h3, fun k hk => hT _ (h4 k hk)⟩

set_option maxRecDepth 100000 in
theorem value_put (S : Nat → Prop) (g : Nat) (bs : List UInt8) (x : V) (hb : bs.length ≤ 274877906944) (hs : x.s.size ≤ 274877906944) (w : World) (hW : Wr w S g bs) (hS : ∀ k, w.heap.size ≤ k → S k) :
    Calls Tryd.prog 14 #[.pointer (some ⟨g, 0, none⟩), x.val] w fun e w' => e = .returned (.tuple #[]) ∧ Wr w' S g (bs ++ vB x) ∧ Out S w w' := by
  obtain ⟨k, n, s⟩ := x
  have hs : s.size ≤ 274877906944 := hs
  have hl := leI_len k 1
  have hl2 : (bs ++ leI k 1).length ≤ 549755813888 := by rw [List.length_append, hl]; omega
  obtain ⟨T, hT⟩ : ∃ T : Nat → Prop, T = fun k => S k ∧ k ≠ w.heap.size := ⟨_, rfl⟩
  have hTS : Hid (∀ k, T k → S k) := Lib.hid (by rw [hT]; exact fun k h => h.1)
  have hTn : Hid (¬ T w.heap.size) := Lib.hid (by rw [hT]; exact fun h => h.2 rfl)
  have ha : Below w.heap.size w (w.alloc (.cells #[.int .i64 k, .int .i64 n, .string s] 24)) := (Below.refl _ _).alloc (Nat.le_refl _) _
  have hWT : Wr (w.alloc (.cells #[.int .i64 k, .int .i64 n, .string s] 24)) T g bs := (hW.kept ha).mono (by rw [hT]; exact fun k h => ⟨h.1, by omega⟩)
  have hTs : ∀ j, (w.alloc (.cells #[.int .i64 k, .int .i64 n, .string s] 24)).heap.size ≤ j → T j := by
    rw [hT]
    intro j hj
    simp at hj
    exact ⟨hS j (by omega), by omega⟩
  have HTs := Lib.hid hTs
  have hp := Lib.hid (wByte T g bs k (by omega) _ hWT hTs)
  have HA := Lib.hid (out_of_below ha hS)
  have hh : (w.alloc (.cells #[.int .i64 k, .int .i64 n, .string s] 24)).heap[w.heap.size]? = some (.cells #[.int .i64 k, .int .i64 n, .string s] 24) := heap_alloc_new w _
  have c0 : (w.alloc (.cells #[.int .i64 k, .int .i64 n, .string s] 24)).cell? ⟨w.heap.size, 0, none⟩ = some (.int .i64 k) := by simp only [World.cell?, hh]; rfl
  have c1 : (w.alloc (.cells #[.int .i64 k, .int .i64 n, .string s] 24)).cell? ⟨w.heap.size, 1, none⟩ = some (.int .i64 n) := by simp only [World.cell?, hh]; rfl
  have c2 : (w.alloc (.cells #[.int .i64 k, .int .i64 n, .string s] 24)).cell? ⟨w.heap.size, 2, none⟩ = some (.string s) := by simp only [World.cell?, hh]; rfl
  have C0 := Lib.hid c0
  have C1 := Lib.hid c1
  have C2 := Lib.hid c2
  clear hh ha hW hWT hTs hT c0 c1 c2 hl hb
  show Calls _ _ #[.pointer (some ⟨g, 0, none⟩), .agg #[.int .i64 k, .int .i64 n, .string s]] _ _
  go_enter Tryd.func14, Tryd.ntmps14
  go_wp2_with fail
  refine hp.out.mono ?_
  rintro e w1 ⟨rfl, h1, h2⟩
  have d0 := (h2.cell (p := ⟨w.heap.size, 0, none⟩) hTn.out).trans C0.out
  have d1 := (h2.cell (p := ⟨w.heap.size, 1, none⟩) hTn.out).trans C1.out
  have d2 := (h2.cell (p := ⟨w.heap.size, 2, none⟩) hTn.out).trans C2.out
  have hT1 : ∀ j, w1.heap.size ≤ j → T j := fun j hj => HTs.out j (by have := h2.size; omega)
  have HB := Lib.hid (HA.out.trans (h2.mono hTS.out))
  by_cases hk : (k == 1) = true
  · have hq := Lib.hid (wLong T g _ n (by omega) w1 h1 hT1)
    have hv : Hid (bs ++ leI k 1 ++ leI n 8 = bs ++ vB ⟨k, n, s⟩) := Lib.hid (by rw [List.append_assoc]; simp [vB, hk])
    clear h1 h2 hp C0 C1 C2 HA HTs hT1
    go_wp2_with fail
    refine hq.out.mono ?_
    rintro e w2 ⟨rfl, h3, h4⟩
    have H3 := Lib.hid h3
    have H4 := Lib.hid h4
    clear h3 h4
    go_wp2
    (try simp only [Exit.inBlock, Exit.then])
    refine bodyPost_ret (results_none rfl _ _ _) rfl ?_
    exact ⟨rfl, by rw [← hv.out]; exact H3.out.mono hTS.out, HB.out.trans (H4.out.mono hTS.out)⟩
  · have hk' : (k == 1) = false := by simpa using hk
    have hq := Lib.hid (wText T g _ s (by omega) (by omega) w1 h1 hT1)
    have hv : Hid (bs ++ leI k 1 ++ textB s = bs ++ vB ⟨k, n, s⟩) := Lib.hid (by rw [List.append_assoc]; simp [vB, hk'])
    clear h1 h2 hp C0 C1 C2 HA HTs hT1 hk
    go_wp2_with fail
    refine hq.out.mono ?_
    rintro e w2 ⟨rfl, h3, h4⟩
    have H3 := Lib.hid h3
    have H4 := Lib.hid h4
    clear h3 h4
    go_wp2
    refine bodyPost_end (results_none rfl _ _ _) rfl ?_
    exact ⟨rfl, by rw [← hv.out]; exact H3.out.mono hTS.out, HB.out.trans (H4.out.mono hTS.out)⟩

end Go.Proofs.YtabhkfpglhfiiaaDoor
