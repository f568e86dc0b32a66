/-
  SexpDeep: from where both numbers are known it answers true.
-/
import Derived.Test.YtldleckgkgeclaaDoorSexpDeepA
import Derived.Test.YtldleckgkgeclaaDoorSexpDeepB
import Derived.Test.YtldleckgkgeclaaDoorSexpDeepC
import Derived.Test.YtldleckgkgeclaaDoorSexpDeepD
namespace Go.Proofs.YtldleckgkgeclaaDoor
open Go.RowKit
set_option maxRecDepth 1000000
noncomputable def sdY : SnapM := ⟨[([(4, .bool true)], sdFn.ntmps)], [], 1070000⟩
theorem sdK1 : chunkM Tryd.prog 100000 [dP 3, dX] (thenNavsM Tryd.prog sdD1 sdPos) (sdX 57) sdY = true := by kernel_rfl
theorem sdK2 : chunkM Tryd.prog 100000 [dP 3, dX] (thenNavsM Tryd.prog sdD2 sdPos) (sdX 73) sdY = true := by kernel_rfl
theorem sdK3 : chunkM Tryd.prog 100000 [dP 3, dX] (thenNavsM Tryd.prog sdD3 sdPos) (sdX 88) sdY = true := by kernel_rfl
theorem sdK4 : chunkM Tryd.prog 100000 [dP 3, dX] (thenNavsM Tryd.prog sdD4 sdPos) (sdX 133) sdY = true := by kernel_rfl
theorem sdL1 : lastM Tryd.prog 100000 sdFn.results.toList (thenNavsM Tryd.prog [dP 3, dX] (thenNavsM Tryd.prog sdD1 sdPos)) sdY (.bool true) = true := by kernel_rfl
theorem sdL2 : lastM Tryd.prog 100000 sdFn.results.toList (thenNavsM Tryd.prog [dP 3, dX] (thenNavsM Tryd.prog sdD2 sdPos)) sdY (.bool true) = true := by kernel_rfl
theorem sdL3 : lastM Tryd.prog 100000 sdFn.results.toList (thenNavsM Tryd.prog [dP 3, dX] (thenNavsM Tryd.prog sdD3 sdPos)) sdY (.bool true) = true := by kernel_rfl
theorem sdL4 : lastM Tryd.prog 100000 sdFn.results.toList (thenNavsM Tryd.prog [dP 3, dX] (thenNavsM Tryd.prog sdD4 sdPos)) sdY (.bool true) = true := by kernel_rfl
theorem sdBool : ∀ c, c < 20 → (c ∈ [0, 1, 2, 3, 4, 5, 6, 7, 8, 9]) ∨ (c ∈ [10, 11, 12, 13, 14, 15, 16, 17, 18, 19]) := by decide
theorem sdHalf {k c : Nat} (h0 : sdAll (sdCase k) [0, 1, 2, 3, 4, 5, 6, 7, 8, 9] = true) (h1 : sdAll (sdCase k) [10, 11, 12, 13, 14, 15, 16, 17, 18, 19] = true) (hc : c < 20) : sdCase k c = true := by
  rcases sdBool c hc with h | h
  · exact sdAll_mem h0 c h
  · exact sdAll_mem h1 c h
theorem sdEach : ∀ k c, k < 20 → c < 20 → sdCase k c = true
  | 0, _, _, hc => sdHalf sdC0_0 sdC0_1 hc
  | 1, _, _, hc => sdHalf sdC1_0 sdC1_1 hc
  | 2, _, _, hc => sdHalf sdC2_0 sdC2_1 hc
  | 3, _, _, hc => sdHalf sdC3_0 sdC3_1 hc
  | 4, _, _, hc => sdHalf sdC4_0 sdC4_1 hc
  | 5, _, _, hc => sdHalf sdC5_0 sdC5_1 hc
  | 6, _, _, hc => sdHalf sdC6_0 sdC6_1 hc
  | 7, _, _, hc => sdHalf sdC7_0 sdC7_1 hc
  | 8, _, _, hc => sdHalf sdC8_0 sdC8_1 hc
  | 9, _, _, hc => sdHalf sdC9_0 sdC9_1 hc
  | 10, _, _, hc => sdHalf sdC10_0 sdC10_1 hc
  | 11, _, _, hc => sdHalf sdC11_0 sdC11_1 hc
  | 12, _, _, hc => sdHalf sdC12_0 sdC12_1 hc
  | 13, _, _, hc => sdHalf sdC13_0 sdC13_1 hc
  | 14, _, _, hc => sdHalf sdC14_0 sdC14_1 hc
  | 15, _, _, hc => sdHalf sdC15_0 sdC15_1 hc
  | 16, _, _, hc => sdHalf sdC16_0 sdC16_1 hc
  | 17, _, _, hc => sdHalf sdC17_0 sdC17_1 hc
  | 18, _, _, hc => sdHalf sdC18_0 sdC18_1 hc
  | 19, _, _, hc => sdHalf sdC19_0 sdC19_1 hc
  | k + 20, _, h, _ => absurd h (by omega)
theorem sdBoth {k c : Nat} (hk : k < 20) (hc : c < 20) : startsM (sdAt k c) = true ∧ sdCase0 k c = true := by
  have h := sdEach k c hk hc
  unfold sdCase at h
  split at h
  · rename_i h1; exact ⟨h1, h⟩
  · simp at h
theorem sdSafe [ExtOk Tryd.prog] (W : World) {k c : Nat} (hk : k < 20) (hc : c < 20) : SafeN Tryd.prog W (Ends Tryd.prog W sdFn (.bool true)) sdPos (ofSnap (sdAt k c)) := by
  have hm : (Tryd.prog).follows .mixedOrders = true := by kernel_rfl
  have h := (sdBoth hk hc).2
  unfold sdCase0 at h
  split at h
  · exact chunkM_ok hm h (chunkM_ok hm sdK1 (lastM_ok hm sdL1))
  · split at h
    · exact chunkM_ok hm h (chunkM_ok hm sdK2 (lastM_ok hm sdL2))
    · split at h
      · exact chunkM_ok hm h (chunkM_ok hm sdK3 (lastM_ok hm sdL3))
      · exact chunkM_ok hm h (chunkM_ok hm sdK4 (lastM_ok hm sdL4))
/-- in the middle of a walk -/
theorem sd_wp [ExtOk Tryd.prog] {W : World} (hw : TabsAt W sdTabs) {k c : Nat} (hk : k < 20) (hc : c < 20) {rest : Code} (hp : sdTodo = some [.code rest]) {a : Act} (hd : a.defers = []) (hs : a.tmps.size = sdFn.ntmps)
    (h0 : a.tmps.getD 0 undef = .int .i64 (k : Int)) (h1 : a.tmps.getD 1 undef = .int .i64 (c : Int)) (h4 : a.tmps.getD 4 undef = .bool false) : rest.wp Tryd.prog (Ends Tryd.prog W sdFn (.bool true)) a W := by
  have hg := sdSafe W hk hc
  have hpos : sdPos = some [(4, [.code rest])] := by unfold sdPos; rw [hp]
  rw [hpos] at hg
  have htab : tabsOk sdTabs = true := by kernel_rfl
  intro b kk cs
  have live : ∀ b x, (b, x) ∈ tabBlocks sdTabs → b < 1048576 ∧ x.own = false ∧ x.es = 0 ∧ tabOk b x.cells = true ∧ (b, x.cells) ∈ sdTabs := fun b x hx => tabBlocks_mem htab b x hx
  refine startM_ok (sdBoth hk hc).1 hg [.code rest] rfl b kk cs (symMap W) W a ?_
  rintro s ⟨l1, l2, l3, l4⟩
  have hnx : s.mem.next = 1048576 := l4
  have own : ∀ b x, s.mem.heap.get b = some x → x.own = true → False := fun b x hx ho => by rw [(live b x (l3 b x hx)).2.1] at ho; cases ho
  refine ⟨⟨⟨fun b x hx => by rw [hnx]; exact (live b x (l3 b x hx)).1, fun b x hx i u hu => ?_, fun b x hx ho => (own b x hx ho).elim, fun b x hx => (hw b x.cells (live b x (l3 b x hx)).2.2.2.2).1, fun b x hx => (live b x (l3 b x hx)).2.2.1.symm, fun b x hx ho => (own b x hx ho).elim, fun b x b' x' hx _ ho => (own b x hx ho).elim⟩, Below.refl _ _, fun b x hx ho => (own b x hx ho).elim⟩, ⟨hd, by rw [hs]; exact l2.symm, fun t => ?_, fun g _ => ⟨rfl, rfl⟩, by rw [hnx]; exact Nat.le_refl _⟩⟩
  · obtain ⟨q0, _, _, q1, q2⟩ := live b x (l3 b x hx)
    obtain ⟨v', e1, e2⟩ := tab_cell hw q2 q0 q1 (nx := s.mem.next) (by rw [hnx]; exact Nat.le_refl _) hu
    refine ⟨v', ?_, e2⟩
    show W.cell? ⟨b, 0 + i, none⟩ = _
    rw [Nat.zero_add]
    exact e1
  · intro v hv
    have := l1 t v hv
    simp only [sdAt, List.mem_cons, List.not_mem_nil, or_false, Prod.mk.injEq] at this
    rcases this with ⟨rfl, rfl⟩ | ⟨rfl, rfl⟩ | ⟨rfl, rfl⟩
    · rw [h0]; exact .flat rfl
    · rw [h1]; exact .flat rfl
    · rw [h4]; exact .flat rfl
end Go.Proofs.YtldleckgkgeclaaDoor
