/-
  slices.Sorted(maps.Keys(m)) of a map with one entry, at this program.
-/
import Derived.Test.YtloolljoelngcaaGreatCw
import Derived.Test.YtloolljoelngcaaGreatKeys
import Derived.StringKeys
set_option linter.unusedVariables false
namespace Go.Proofs.YtloolljoelngcaaGreat
open Go.RowKit Go.Maps Go.Sort Go.Shelf Go.Proofs

theorem sortsOf (m : Nat) : AnyZ.SortsIn Tryz.prog Tryz.sortedA_ren Fence.wide m :=
  ⟨fun blk off cap ss W hH hblk hsz => callsIn_wide.2 (AnyM.slices_Sort_string Tryz.sortA blk off cap ss W hH hblk hsz),
   fun p cap W => callsIn_wide.2 (AnyM.slices_Sort_string_none Tryz.sortA p cap W)⟩
def rdAny : Value → Option (DataW Unit × List MemPlace) := fun _ => some (.nil, [])
theorem own_one {w : World} {r : Nat} {key : List UInt8} {v : Value} {b clock : Nat} (hb : w.heap[r]? = some (.map #[{ key := .string ⟨⟨key⟩⟩, val := v, born := b }] clock)) (hbc : b < clock) (hlen : key.length ≤ 1000) :
    w.ownsMap Tryz.prog 9 rdAny r 1 (.map [(.string key, .nil)]) := by
  have hk : keyOf Tryz.prog 9 (.string ⟨⟨key⟩⟩) = some (.string key) := Go.WideMaps.keyOf_string_mk Tryz.underlying9 (by show key.length ≤ _; simp only [maxLen]; omega)
  have hrd := WideElems.rd_mk (P := Tryz.prog) (k := 9) (R := rdAny) (key := .string ⟨⟨key⟩⟩) (val := v) (born := b) hk (yv := (.nil, [])) rfl
  refine ⟨_, clock, hb, ⟨by simp [maxLen], ?_, fun x hx => ?_⟩, by simp, ?_⟩
  · exact ⟨by simp [hbc], by simp, by simp⟩
  · obtain rfl : x = _ := by simpa using hx
    exact ⟨_, hrd⟩
  · simp [WideElems.rg_of hrd, DataW.insert]
theorem sortKeys : SortKeys Tryz.prog 81 80 := by
  intro w r key v b clock hb hbc hlen
  have hown := own_one hb hbc hlen
  have hbl := hown.lt
  have cK : CallsIn Fence.wide 5 Tryz.prog 81 #[.map (some r)] w fun e w' => e = .returned (.func (.func 115) #[] #[.pointer (some ⟨w.heap.size, 0, none⟩)]) ∧ w' = w.alloc (.cells #[.map (some r)] 88) := AnyZ.keys_in Tryz.keysA Fence.wide 5 trivial rfl (some r) w
  have hown2 : (w.alloc (.cells #[.map (some r)] 88)).ownsMap Tryz.prog 9 rdAny r 1 (.map [(.string key, .nil)]) := by
    obtain ⟨es, clock, hb, Ft, hs, hD⟩ := hown
    exact ⟨es, clock, (Below.heap_alloc _ _ r hbl).trans hb, Ft, hs, hD⟩
  have hseq : SeqGives Fence.wide 2 Tryz.prog 115 #[.pointer (some ⟨w.heap.size, 0, none⟩)] encStr (fun ss => ss.Perm (strKeys (H := Unit) (.map [(.string key, .nil)]))) (Maps.size (H := Unit) (.map [(.string key, .nil)])) (w.alloc (.cells #[.map (some r)] 88)) :=
    AnyZ.keys_gives (ρ := Tryz.keysA_ren) { Tryz.keysA with } Fence.wide _ trivial rfl (by omega) w.heap.size r 1 _ _ (by simp) (by simp) hown2
  have cS := AnyZ.sorted_in Tryz.sortedA Fence.wide 5 trivial trivial trivial trivial rfl (by omega) (sortsOf _) (enters_of Tryz.func114 (by kernel_rfl) rfl) 115 #[.pointer (some ⟨w.heap.size, 0, none⟩)] trivial (enters_of Tryz.func115 (by kernel_rfl) rfl) _ _ (by simp [Maps.size, maxLen]) (by simp [Maps.size]) _ hseq
  refine (callsIn_wide.1 cK).mono ?_
  rintro e w1 ⟨rfl, rfl⟩
  refine ⟨_, rfl, rfl, (Below.refl _ w).alloc (Nat.le_refl _) _, ?_⟩
  refine (callsIn_wide.1 cS).mono ?_
  rintro e w3 ⟨u, ss, rfl, hS, hrow, hnil, hB⟩
  obtain rfl : ss = [key] := by simpa [strKeys, strOf] using hS
  obtain ⟨_, h | ⟨g, cap, cur, rfl, hg, hh, hc, _, hsz, hcur⟩⟩ := hrow
  · exact absurd h.2 (by simp)
  refine ⟨g, cap, rfl, hc, hg, (Array.getElem?_eq_some_iff.1 hh).1, ?_, hB⟩
  unfold World.cell?
  simp only [hh]
  obtain ⟨cl⟩ := cur
  simp at hcur
  cases cl with
  | nil => simp at hcur
  | cons y l => simp at hcur; simp [hcur]
end Go.Proofs.YtloolljoelngcaaGreat
