/-
  Values, rows and columns as they lie in memory; what stays of them while the world grows. No program in sight.
-/
import Derived.WalkKit
import Derived.WalkSpells
import Derived.Lib.Hide
import Derived.Deep.Draws
import Derived.RegionTactic
import Derived.Test.YtajnnkapgnmoaaaGreatRows
import Derived.WalkLawsBesides
import Derived.Deep.QuietTactic
import Derived.BigQuiet
import Derived.Deep.RegionHeld3
set_option linter.unusedVariables false
set_option linter.unusedSimpArgs false
namespace Go.Proofs.YtajnnkapgnmoaaaGreat
open Go.RowKit

/-- a value: kind, number, text -/
structure V where
  k : Int
  n : Int
  s : ByteArray
/-- a column: name, kind -/
structure C where
  nm : ByteArray
  k : Int

def V.val (v : V) : Value := .agg #[.int .i64 v.k, .int .i64 v.n, .string v.s]
def V.okB (v : V) : Bool := (v.k == 1 && v.s.toList.isEmpty) || (v.k == 2 && (v.n == 0 && decide ((v.s.size : Int) ≤ 40)))

/-- the values l lie at block b from off on -/
def VAt (w : World) (b off : Nat) (l : List V) : Prop := ∀ i v, l[i]? = some v →
  w.cell? ⟨b, off + i * 3, none⟩ = some (.int .i64 v.k) ∧ w.cell? ⟨b, off + i * 3 + 1, none⟩ = some (.int .i64 v.n) ∧ w.cell? ⟨b, off + i * 3 + 2, none⟩ = some (.string v.s)
def CAt (w : World) (b off : Nat) (l : List C) : Prop := ∀ i c, l[i]? = some c →
  w.cell? ⟨b, off + i * 2, none⟩ = some (.string c.nm) ∧ w.cell? ⟨b, off + i * 2 + 1, none⟩ = some (.int .i64 c.k)
/-- a slice at address A holds the values l, below block B -/
def VRow (w : World) (B : Nat) (A : Option Addr) (l : List V) : Prop := l = [] ∨ ∃ b off, A = some ⟨b, off, none⟩ ∧ b < B ∧ VAt w b off l
def CRow (w : World) (B : Nat) (A : Option Addr) (l : List C) : Prop := l = [] ∨ ∃ b off, A = some ⟨b, off, none⟩ ∧ b < B ∧ CAt w b off l

section
variable {w w' : World} {B B' b off : Nat} {A : Option Addr} {l : List V} {m : List C}
theorem VAt.below (h : VAt w b off l) (hb : Below B w w') (hB : b < B) : VAt w' b off l := fun i v hv => by
  obtain ⟨h1, h2, h3⟩ := h i v hv
  exact ⟨(hb.cell hB).trans h1, (hb.cell hB).trans h2, (hb.cell hB).trans h3⟩
theorem CAt.below (h : CAt w b off m) (hb : Below B w w') (hB : b < B) : CAt w' b off m := fun i v hv => by
  obtain ⟨h1, h2⟩ := h i v hv
  exact ⟨(hb.cell hB).trans h1, (hb.cell hB).trans h2⟩
theorem VRow.below (h : VRow w B A l) (hb : Below B w w') : VRow w' B A l := by
  rcases h with h | ⟨b, off, hA, hB, h⟩
  · exact .inl h
  · exact .inr ⟨b, off, hA, hB, h.below hb hB⟩
theorem CRow.below (h : CRow w B A m) (hb : Below B w w') : CRow w' B A m := by
  rcases h with h | ⟨b, off, hA, hB, h⟩
  · exact .inl h
  · exact .inr ⟨b, off, hA, hB, h.below hb hB⟩
theorem VRow.more (h : VRow w B A l) (hB : B ≤ B') : VRow w B' A l := by
  rcases h with h | ⟨b, off, hA, hb, h⟩
  · exact .inl h
  · exact .inr ⟨b, off, hA, by omega, h⟩
theorem CRow.more (h : CRow w B A m) (hB : B ≤ B') : CRow w B' A m := by
  rcases h with h | ⟨b, off, hA, hb, h⟩
  · exact .inl h
  · exact .inr ⟨b, off, hA, by omega, h⟩
end
theorem below_drewN {B : Nat} {a w : World} (h : Below B a w) (n : Nat) : Below B a (w.drewN n) := ⟨h.os, h.tape, h.output, h.size, h.block⟩

section
variable {P : Program} {md : Region.Mode} {ops : Array Oper} {Q : Exit → Act → World → Prop}
/-- one operation of a region that draws its order, where it alone may come up -/
theorem wpAny_one {i fuel : Nat} {o : Oper} {listed : Array Bool} {a : Act} {w : World} (hr : Region.ready md ops listed = [i]) (hi : ops[i]? = some o)
    (h : ∀ K' : Act → World → Prop, (∀ a w, wpAny P md ops Q fuel (listed.setIfInBounds i true) a w → K' a w) → if Region.wanted o (yielded ops a.tmps) = true then Oper.wp P o a w K' Q else K' (a.put o.dst undef) w) :
    wpAny P md ops Q (fuel + 1) listed a w := wpAny_ready hr (by simp) (AllReady.cons hi h AllReady.nil)
/-- an operation whose guard says no, passed over -/
theorem wpAny_skip {i fuel : Nat} {o : Oper} {listed : Array Bool} {a : Act} {w : World} (hi : ops[i]? = some o)
    (hs : Region.noSelect ops = true) (hf : Region.free md ops listed i = true) (hr : (Region.ready md ops listed).contains i = true)
    (hQ : ∀ c a w, Q (.panic c) (a.put o.dst undef) w → Q (.panic c) a w) (hw : Region.wanted o (yielded ops a.tmps) = false)
    (h : wpAny P md ops Q fuel (listed.setIfInBounds i true) (a.put o.dst undef) w) : wpAny P md ops Q (fuel + 1) listed a w :=
  wpAny_take hi hs hf hr hQ (Or.inr ⟨hw, rfl⟩) h
end

/-! ### rows that the call itself has made -/
def V.cs (v : V) : List Value := [.int .i64 v.k, .int .i64 v.n, .string v.s]
def flat (l : List V) : List Value := l.flatMap V.cs
theorem flat_len (l : List V) : (flat l).length = l.length * 3 := by
  induction l with
  | nil => rfl
  | cons v l ih => show ((V.cs v) ++ flat l).length = _; simp [ih, V.cs]; omega
theorem flat_get (l : List V) : ∀ (i : Nat) (v : V), l[i]? = some v → (flat l)[i * 3]? = some (.int .i64 v.k) ∧ (flat l)[i * 3 + 1]? = some (.int .i64 v.n) ∧ (flat l)[i * 3 + 2]? = some (.string v.s) := by
  induction l with
  | nil => intro i v h; simp at h
  | cons x l ih =>
    intro i v h
    have e : flat (x :: l) = V.cs x ++ flat l := rfl
    rw [e]
    cases i with
    | zero =>
      obtain rfl : x = v := by simpa using h
      exact ⟨rfl, rfl, rfl⟩
    | succ i =>
      have := ih i v (by simpa using h)
      have hl : (V.cs x).length = 3 := rfl
      rw [List.getElem?_append_right (by omega), List.getElem?_append_right (by omega), List.getElem?_append_right (by omega), hl]
      rw [show (i + 1) * 3 - 3 = i * 3 from by omega, show (i + 1) * 3 + 1 - 3 = i * 3 + 1 from by omega, show (i + 1) * 3 + 2 - 3 = i * 3 + 2 from by omega]
      exact this
theorem flat_one (v : V) : flat [v] = V.cs v := by simp [flat]
theorem flat_append (a b : List V) : flat (a ++ b) = flat a ++ flat b := by simp [flat]
theorem flat_snoc {l : List V} {k : Nat} {v : V} (h : l[k]? = some v) : flat (l.take (k + 1)) = flat (l.take k) ++ V.cs v := by
  obtain ⟨h1, e1⟩ := List.getElem?_eq_some_iff.1 h
  rw [List.take_succ_eq_append_getElem h1, flat_append, flat_one, e1]
theorem flat_ones (l : List V) : ∀ u ∈ flat l, u.oneCell' = true := by
  intro u hu
  obtain ⟨v, _, hv⟩ := List.mem_flatMap.1 hu
  simp only [V.cs, List.mem_cons, List.not_mem_nil, or_false] at hv
  rcases hv with rfl | rfl | rfl <;> rfl

/-- what is owned is a row -/
theorem own_row {w : World} {base : Nat} {e : TypeId} {v : Value} {l : List V} (h : w.ownsRow base e 3 v l.length (flat l)) :
    ∃ A c, v = .slice A l.length c ∧ l.length ≤ c ∧ VRow w w.heap.size A l ∧ (∀ b o, A = some ⟨b, o, none⟩ → base ≤ b) := by
  obtain ⟨_, hcase⟩ := id h
  rcases hcase with ⟨rfl, h0⟩ | ⟨g, cap, cur, rfl, hg, hh, hn, hcap, hsz, htake⟩
  · have e0 : l = [] := List.eq_nil_of_length_eq_zero h0
    exact ⟨none, 0, by rw [h0], by omega, .inl e0, fun b o hb => by cases hb⟩
  · refine ⟨some ⟨g, 0, none⟩, cap, rfl, hn, .inr ⟨g, 0, rfl, ?_, ?_⟩, ?_⟩
    · rcases Nat.lt_or_ge g w.heap.size with hlt | hge
      · exact hlt
      · rw [Array.getElem?_eq_none hge] at hh; cases hh
    · intro i x hx
      obtain ⟨f1, f2, f3⟩ := flat_get l i x hx
      have hi : i < l.length := (List.getElem?_eq_some_iff.1 hx).1
      rw [Nat.zero_add, h.cellAt _ (by omega), h.cellAt _ (by omega), h.cellAt _ (by omega)]
      exact ⟨f1, f2, f3⟩
    · intro b o hb
      injection hb with hb
      injection hb with hb _
      omega
end Go.Proofs.YtajnnkapgnmoaaaGreat
/-
  Package value's contracts.
-/
namespace Go.Proofs.YtajnnkapgnmoaaaGreat
open Go.RowKit

set_option maxHeartbeats 400000 in
theorem value_right (k n : Int) (s : ByteArray) (w : World) :
    Calls Tryz.prog 102 #[.agg #[.int .i64 k, .int .i64 n, .string s]] w fun e w' =>
      e = .returned (.bool (V.okB ⟨k, n, s⟩)) ∧ w.alloc (.cells #[.int .i64 k, .int .i64 n, .string s] 49) = w' := by
  by_cases h1 : (k == 1) = true
  · have hr : V.okB ⟨k, n, s⟩ = s.toList.isEmpty := by
      have : (k == 2) = false := by simp at h1 ⊢; omega
      simp [V.okB, h1, this]
    rw [hr]
    clear hr
    go_enter Tryz.func102, Tryz.ntmps102
    go_wp2
    go_ret
    exact ⟨rfl, rfl⟩
  · have h1' : (k == 1) = false := by simpa using h1
    clear h1
    by_cases h2 : (k == 2) = true
    · by_cases h3 : n = 0
      · subst h3
        have hr : V.okB ⟨k, 0, s⟩ = decide ((s.size : Int) ≤ 40) := by simp [V.okB, h1', h2]
        rw [hr]
        clear hr
        go_enter Tryz.func102, Tryz.ntmps102
        go_wp2
        go_ret
        exact ⟨rfl, rfl⟩
      · have hr : V.okB ⟨k, n, s⟩ = false := by simp [V.okB, h1', h3]
        rw [hr]
        clear hr
        go_enter Tryz.func102, Tryz.ntmps102
        go_wp2
        go_ret
        exact ⟨rfl, rfl⟩
    · have h2' : (k == 2) = false := by simpa using h2
      clear h2
      have hr : V.okB ⟨k, n, s⟩ = false := by simp [V.okB, h1', h2']
      rw [hr]
      clear hr
      go_enter Tryz.func102, Tryz.ntmps102
      go_wp2
      go_ret
      exact ⟨rfl, rfl⟩

end Go.Proofs.YtajnnkapgnmoaaaGreat
/-
  Package row's contracts: Fits.
-/
namespace Go.Proofs.YtajnnkapgnmoaaaGreat
open Go.RowKit
def zipB : List C → List V → Bool
  | c :: l, v :: r => (v.okB && v.k == c.k) && zipB l r
  | _, _ => true
theorem zipB_step {l : List C} {r : List V} {k : Nat} {c : C} {v : V} (hc : l[k]? = some c) (hv : r[k]? = some v) :
    zipB (l.drop k) (r.drop k) = ((v.okB && v.k == c.k) && zipB (l.drop (k + 1)) (r.drop (k + 1))) := by
  obtain ⟨h1, e1⟩ := List.getElem?_eq_some_iff.1 hc
  obtain ⟨h2, e2⟩ := List.getElem?_eq_some_iff.1 hv
  rw [List.drop_eq_getElem_cons h1, List.drop_eq_getElem_cons h2, e1, e2]
  rfl
set_option maxHeartbeats 400000 in
theorem fits_full (bl ol br or_ : Nat) (n c d : Nat) (l : List C) (r : List V) (hl : l.length = n) (hr : r.length = n) (hn : n ≤ 9223372036854775807) (w : World)
    (hbl : bl < w.heap.size) (hbr : br < w.heap.size) (hL : CAt w bl ol l) (hR : VAt w br or_ r) :
    Calls Tryz.prog 65 #[.slice (some ⟨bl, ol, none⟩) n d, .slice (some ⟨br, or_, none⟩) n c] w fun e w' => e = .returned (.bool (zipB l r)) ∧ Below w.heap.size w w' := by
  have HL := Lib.hid hL
  have HR := Lib.hid hR
  have Hl := Lib.hid hl
  have Hr := Lib.hid hr
  clear hL hR hl hr
  go_enter Tryz.func65, Tryz.ntmps65
  go_wp2_with fail
  go_loopw [14] (fun i wr => ∃ k : Nat, k ≤ n ∧ i = .int .i64 k ∧ Below w.heap.size w wr ∧ Hid (zipB l r = zipB (l.drop k) (r.drop k))) (fun i _ => n - (intOf i).toNat)
  case atStart => exact ⟨0, Nat.zero_le _, rfl, Below.refl _ _, rfl⟩
  case round =>
    obtain ⟨k, hk, rfl, hb, hz⟩ := hrel
    by_cases hlt : k < n
    · obtain ⟨v, hv⟩ : ∃ v, r[k]? = some v := ⟨_, List.getElem?_eq_getElem (by rw [Hr.out]; exact hlt)⟩
      obtain ⟨cc, hc⟩ : ∃ c, l[k]? = some c := ⟨_, List.getElem?_eq_getElem (by rw [Hl.out]; exact hlt)⟩
      have hst := Lib.hid (zipB_step hc hv)
      obtain ⟨v1, v2, v3⟩ := HR.out.below hb hbr k v hv
      obtain ⟨_, c2⟩ := HL.out.below hb hbl k cc hc
      clear hv hc
      obtain ⟨vk, vn, vs⟩ := v
      obtain ⟨cn, ck⟩ := cc
      have hs := hb.size
      have hv := Lib.hid (value_right vk vn vs)
      have hcw : (wr.alloc (.cells #[.int .i64 vk, .int .i64 vn, .string vs] 49)).cell? ⟨bl, ol + k * 2 + 1, none⟩ = some (.int .i64 ck) := by
        rw [World.cell?_alloc_lt _ _ _ (by simp; omega)]; exact c2
      have hBk : Below w.heap.size w ((wr.alloc (.cells #[.int .i64 vk, .int .i64 vn, .string vs] 49)).alloc (.cells #[.int .i64 vk, .int .i64 vn, .string vs] 49)).drew :=
        ((hb.alloc hs _).alloc (by simp; omega) _).drew
      by_cases hok : V.okB ⟨vk, vn, vs⟩ = true
      · rw [hok] at hv hst
        by_cases hkk : (vk == ck) = true
        · have hz' : Hid (zipB l r = zipB (l.drop (k + 1)) (r.drop (k + 1))) := by
            have := hz.out.trans hst.out
            rwa [hkk, Bool.true_and, Bool.true_and] at this
          have hne : (vk != ck) = false := by simpa using hkk
          clear hst hz
          go_wp2_with fail
          go_region_held3 (fun w' => w'.cell? ⟨wr.heap.size, 0, none⟩ = some (.int .i64 vk) ∧ w'.cell? ⟨wr.heap.size, 1, none⟩ = some (.int .i64 vn) ∧ w'.cell? ⟨wr.heap.size, 2, none⟩ = some (.string vs) ∧ w'.cell? ⟨bl, ol + k * 2 + 1, none⟩ = some (.int .i64 ck)) (go_keep)
            (first | (go_at_call 102; refine (hv.out _).mono ?_; rintro e w' ⟨rfl, rfl⟩))
          go_wp2_with fail
          go_roundw
          case rel => exact ⟨k + 1, by omega, by go_num, hBk, hz'⟩
          case measure => simp [intOf]; omega
        · have hkk' : (vk == ck) = false := by simpa using hkk
          have hz' : Hid (zipB l r = false) := by
            have := hz.out.trans hst.out
            rwa [hkk', Bool.and_false, Bool.false_and] at this
          have hne : (vk != ck) = true := by simpa using hkk
          clear hst hz hkk
          go_wp2_with fail
          go_region_held3 (fun w' => w'.cell? ⟨wr.heap.size, 0, none⟩ = some (.int .i64 vk) ∧ w'.cell? ⟨wr.heap.size, 1, none⟩ = some (.int .i64 vn) ∧ w'.cell? ⟨wr.heap.size, 2, none⟩ = some (.string vs) ∧ w'.cell? ⟨bl, ol + k * 2 + 1, none⟩ = some (.int .i64 ck)) (go_keep)
            (first | (go_at_call 102; refine (hv.out _).mono ?_; rintro e w' ⟨rfl, rfl⟩))
          go_wp2_with fail
          go_ret
          exact ⟨by rw [hz'.out]; rfl, hBk⟩
      · have hok' : V.okB ⟨vk, vn, vs⟩ = false := by simpa using hok
        rw [hok'] at hv hst
        have hz' : Hid (zipB l r = false) := hz.out.trans hst.out
        clear hst hz hok hok'
        go_wp2_with fail
        refine wp_region_any (by kernel_rfl) ?_
        change wpAny _ _ _ _ _ _ _ (World.drew _)
        refine wpAny_one (i := 0) (by kernel_rfl) rfl (fun K hK => ?_)
        go_simp
        refine hK _ _ ?_
        clear hK K
        refine wpAny_one (i := 1) (by kernel_rfl) rfl (fun K hK => ?_)
        go_simp
        go_wp2_with (go_at_call 102; refine (hv.out _).mono ?_; rintro e w' ⟨rfl, rfl⟩)
        refine wpAny_one (i := 2) (by kernel_rfl) rfl (fun K hK => ?_)
        go_simp
        refine hK _ _ ?_
        clear hK K
        refine wpAny_one (i := 3) (by kernel_rfl) rfl (fun K hK => ?_)
        go_simp
        refine hK _ _ ?_
        clear hK K
        refine wpAny_skip (i := 4) rfl (by kernel_rfl) (by kernel_rfl) (by kernel_rfl) (fun _ _ _ h => h) (by kernel_rfl) ?_
        refine wpAny_skip (i := 5) rfl (by kernel_rfl) (by kernel_rfl) (by kernel_rfl) (fun _ _ _ h => h) (by kernel_rfl) ?_
        refine wpAny_skip (i := 6) rfl (by kernel_rfl) (by kernel_rfl) (by kernel_rfl) (fun _ _ _ h => h) (by kernel_rfl) ?_
        refine wpAny_skip (i := 7) rfl (by kernel_rfl) (by kernel_rfl) (by kernel_rfl) (fun _ _ _ h => h) (by kernel_rfl) ?_
        refine wpAny_skip (i := 8) rfl (by kernel_rfl) (by kernel_rfl) (by kernel_rfl) (fun _ _ _ h => h) (by kernel_rfl) ?_
        refine wpAny_skip (i := 9) rfl (by kernel_rfl) (by kernel_rfl) (by kernel_rfl) (fun _ _ _ h => h) (by kernel_rfl) ?_
        refine wpAny_skip (i := 10) rfl (by kernel_rfl) (by kernel_rfl) (by kernel_rfl) (fun _ _ _ h => h) (by kernel_rfl) ?_
        refine wpAny_skip (i := 11) rfl (by kernel_rfl) (by kernel_rfl) (by kernel_rfl) (fun _ _ _ h => h) (by kernel_rfl) ?_
        refine wpAny_one (i := 12) (by kernel_rfl) rfl (fun K hK => ?_)
        go_simp
        refine hK _ _ ?_
        clear hK K
        refine wpAny_done (by kernel_rfl) ?_ _
        go_wp2_with fail
        go_ret
        exact ⟨by rw [hz'.out]; rfl, hBk⟩
    · go_wp2_with fail
      go_ret
      have e : k = n := by omega
      subst e
      exact ⟨by rw [hz.out, List.drop_of_length_le (by rw [Hl.out]; omega)]; rfl, hb⟩

def fitsB (l : List C) (r : List V) : Bool := decide (l.length = r.length) && zipB l r

theorem fits_any (A D : Option Addr) (c d : Nat) (l : List C) (r : List V) (hl : l.length ≤ 9223372036854775807) (hr : r.length ≤ 9223372036854775807) (w : World)
    (hA : CRow w w.heap.size A l) (hD : VRow w w.heap.size D r) :
    Calls Tryz.prog 65 #[.slice A l.length c, .slice D r.length d] w fun e w' => e = .returned (.bool (fitsB l r)) ∧ Below w.heap.size w w' := by
  by_cases hlen : l.length = r.length
  · have e0 : fitsB l r = zipB l r := by unfold fitsB; rw [decide_eq_true hlen]; rfl
    rw [e0]
    rcases hA with rfl | ⟨bl, ol, rfl, hbl, hL⟩
    · have : r = [] := List.eq_nil_of_length_eq_zero (by simpa using hlen.symm)
      subst this
      clear hD hlen e0 hl hr
      go_enter Tryz.func65, Tryz.ntmps65
      go_wp2
      refine wp_loop_rounds 1 ?_
      rw [rounds_succ]
      go_wp2
      go_ret
      exact ⟨rfl, Below.refl _ _⟩
    · rcases hD with rfl | ⟨br, or_, rfl, hbr, hR⟩
      · have : l = [] := List.eq_nil_of_length_eq_zero (by simpa using hlen)
        subst this
        clear hL hlen e0 hl hr
        go_enter Tryz.func65, Tryz.ntmps65
        go_wp2
        refine wp_loop_rounds 1 ?_
        rw [rounds_succ]
        go_wp2
        go_ret
        exact ⟨rfl, Below.refl _ _⟩
      · have h := fits_full bl ol br or_ r.length d c l r hlen rfl hr w hbl hbr hL hR
        rwa [hlen]
  · have e0 : fitsB l r = false := by unfold fitsB; rw [decide_eq_false hlen]; rfl
    have hne : ((l.length : Int) != (r.length : Int)) = true := by rw [bne_iff_ne]; omega
    rw [e0]
    clear hA hD hlen e0
    go_enter Tryz.func65, Tryz.ntmps65
    go_wp2
    go_ret
    exact ⟨rfl, Below.refl _ _⟩

end Go.Proofs.YtajnnkapgnmoaaaGreat
/-
  Package row's contracts: Find, Right (and slices.IndexFunc, ContainsFunc at their closures).
-/
namespace Go.Proofs.YtajnnkapgnmoaaaGreat
open Go.RowKit

/-- the first place from k on at which p holds, or -1 -/
def idx {α : Type} (p : α → Bool) : List α → Nat → Int
  | [], _ => -1
  | x :: l, k => if p x then (k : Int) else idx p l (k + 1)
theorem idx_step {α : Type} {p : α → Bool} {l : List α} {k : Nat} {x : α} (h : l[k]? = some x) : idx p (l.drop k) k = if p x then (k : Int) else idx p (l.drop (k + 1)) (k + 1) := by
  obtain ⟨h1, e1⟩ := List.getElem?_eq_some_iff.1 h
  rw [List.drop_eq_getElem_cons h1, e1]
  rfl
theorem idx_bd {α : Type} (p : α → Bool) (l : List α) : ∀ k : Nat, -1 ≤ idx p l k ∧ idx p l k < k + l.length ∧ (idx p l k = -1 ∨ (k : Int) ≤ idx p l k) := by
  induction l with
  | nil => intro k; simp [idx]; omega
  | cons x l ih =>
    intro k
    unfold idx
    have := ih (k + 1)
    split
    · simp; omega
    · simp only [List.length_cons]; omega

def C.isB (nm : ByteArray) (c : C) : Bool := c.nm.toList == nm.toList

theorem find_closure (cn : ByteArray) (ck : Int) (nm : ByteArray) (p : Addr) (w : World) (h0 : w.cell? p = some (.string nm)) :
    Calls Tryz.prog 141 #[.agg #[.string cn, .int .i64 ck], .pointer (some p)] w fun e w' => e = .returned (.bool (C.isB nm ⟨cn, ck⟩)) ∧ w.alloc (.cells #[.string cn, .int .i64 ck] 100) = w' := by
  have hp := block_lt_of_cell h0
  go_enter Tryz.func141, Tryz.ntmps141
  go_wp2
  go_ret
  exact ⟨rfl, rfl⟩

set_option maxHeartbeats 400000 in
theorem indexFunc_col_full (b o : Nat) (n c : Nat) (l : List C) (hl : l.length = n) (hn : n ≤ 9223372036854775807) (nm : ByteArray) (pb po : Nat) (w : World) (hb : b < w.heap.size) (hL : CAt w b o l)
    (h0 : w.cell? ⟨pb, po, none⟩ = some (.string nm)) :
    Calls Tryz.prog 140 #[.slice (some ⟨b, o, none⟩) n c, .func (.func 141) #[] #[.pointer (some ⟨pb, po, none⟩)]] w fun e w' =>
      e = .returned (.int .i64 (idx (C.isB nm) l 0)) ∧ Below w.heap.size w w' := by
  have HL := Lib.hid hL
  have Hl := Lib.hid hl
  have hp := block_lt_of_cell h0
  have H0 := Lib.hid h0
  clear hL hl h0
  go_enter Tryz.func140, Tryz.ntmps140
  go_wp2_with fail
  go_loopw [8] (fun i wr => ∃ k : Nat, k ≤ n ∧ i = .int .i64 k ∧ Below w.heap.size w wr ∧ Hid (idx (C.isB nm) l 0 = idx (C.isB nm) (l.drop k) k)) (fun i _ => n - (intOf i).toNat)
  case atStart => exact ⟨0, Nat.zero_le _, rfl, Below.refl _ _, rfl⟩
  case round =>
    obtain ⟨k, hk, rfl, hbl, hz⟩ := hrel
    by_cases hlt : k < n
    · obtain ⟨cc, hc⟩ : ∃ c, l[k]? = some c := ⟨_, List.getElem?_eq_getElem (by rw [Hl.out]; exact hlt)⟩
      have hst := Lib.hid (hz.out.trans (idx_step (p := C.isB nm) hc))
      obtain ⟨c1, c2⟩ := HL.out.below hbl hb k cc hc
      clear hc hz
      obtain ⟨cn, ck⟩ := cc
      have hs := hbl.size
      have hcl := Lib.hid (find_closure cn ck nm ⟨pb, po, none⟩ wr ((hbl.cell hp).trans H0.out))
      by_cases he : C.isB nm ⟨cn, ck⟩ = true
      · rw [he] at hcl
        rw [if_pos he] at hst
        clear he
        go_wp2_with fail
        refine (hcl.out).mono ?_
        rintro e w' ⟨rfl, rfl⟩
        go_wp2_with fail
        go_ret
        exact ⟨by rw [hst.out]; rfl, hbl.alloc hs _⟩
      · have he' : C.isB nm ⟨cn, ck⟩ = false := by simpa using he
        rw [he'] at hcl
        rw [if_neg he] at hst
        clear he he'
        go_wp2_with fail
        refine (hcl.out).mono ?_
        rintro e w' ⟨rfl, rfl⟩
        go_wp2_with fail
        go_roundw
        case rel => exact ⟨k + 1, by omega, by go_num, hbl.alloc hs _, hst⟩
        case measure => simp [intOf]; omega
    · go_wp2_with fail
      go_ret
      have e : k = n := by omega
      subst e
      exact ⟨by rw [hz.out, List.drop_of_length_le (by rw [Hl.out]; omega)]; rfl, hbl⟩

theorem indexFunc_col (A : Option Addr) (c : Nat) (l : List C) (hn : l.length ≤ 9223372036854775807) (nm : ByteArray) (pb po : Nat) (w : World) (hA : CRow w w.heap.size A l)
    (h0 : w.cell? ⟨pb, po, none⟩ = some (.string nm)) :
    Calls Tryz.prog 140 #[.slice A l.length c, .func (.func 141) #[] #[.pointer (some ⟨pb, po, none⟩)]] w fun e w' =>
      e = .returned (.int .i64 (idx (C.isB nm) l 0)) ∧ Below w.heap.size w w' := by
  rcases hA with rfl | ⟨b, o, rfl, hb, hL⟩
  · clear h0
    go_enter Tryz.func140, Tryz.ntmps140
    go_wp2
    refine wp_loop_rounds 1 ?_
    rw [rounds_succ]
    go_wp2
    go_ret
    exact ⟨rfl, Below.refl _ _⟩
  · exact indexFunc_col_full b o l.length c l rfl hn nm pb po w hb hL h0

/-- Find's results: the place, or 0; whether there is one -/
def findN (l : List C) (nm : ByteArray) : Int := if 0 ≤ idx (C.isB nm) l 0 then idx (C.isB nm) l 0 else 0
def findB (l : List C) (nm : ByteArray) : Bool := decide (0 ≤ idx (C.isB nm) l 0)

set_option maxHeartbeats 400000 in
theorem find_any (A : Option Addr) (c : Nat) (l : List C) (hn : l.length ≤ 9223372036854775807) (nm : ByteArray) (w : World) (hA : CRow w w.heap.size A l) :
    Calls Tryz.prog 128 #[.slice A l.length c, .string nm] w fun e w' =>
      e = .returned (.tuple #[.int .i64 (findN l nm), .bool (findB l nm)]) ∧ Below w.heap.size w w' := by
  have hb0 : Below w.heap.size w (w.alloc (.cells #[.string nm] 9)) := (Below.refl _ _).alloc (Nat.le_refl _) _
  have hc := Lib.hid (indexFunc_col A c l hn nm w.heap.size 0 (w.alloc (.cells #[.string nm] 9)) ((hA.below hb0).more (by simp)) (by simp))
  obtain ⟨b1, b2, b3⟩ := idx_bd (C.isB nm) l 0
  unfold findN findB
  clear hA
  generalize idx (C.isB nm) l 0 = r at *
  by_cases hr : 0 ≤ r
  · rw [if_pos hr, decide_eq_true hr]
    go_enter Tryz.func128, Tryz.ntmps128
    go_wp2_with fail
    refine (hc.out).mono ?_
    rintro e w' ⟨rfl, hb⟩
    have hb2 := hb0.trans (hb.mono (by simp))
    clear hb hb0
    go_wp2_with fail
    go_ret2
    exact ⟨rfl, hb2⟩
  · obtain rfl : r = -1 := by omega
    rw [if_neg hr, decide_eq_false hr]
    clear hr b1 b2 b3
    go_enter Tryz.func128, Tryz.ntmps128
    go_wp2_with fail
    refine (hc.out).mono ?_
    rintro e w' ⟨rfl, hb⟩
    have hb2 := hb0.trans (hb.mono (by simp))
    clear hb hb0
    go_wp2_with fail
    go_ret2
    exact ⟨rfl, hb2⟩

/-! ### Right -/
end Go.Proofs.YtajnnkapgnmoaaaGreat
/-
  Package row: Right.
-/
namespace Go.Proofs.YtajnnkapgnmoaaaGreat
open Go.RowKit
theorem right_closure (k n : Int) (s : ByteArray) (w : World) :
    Calls Tryz.prog 116 #[.agg #[.int .i64 k, .int .i64 n, .string s]] w fun e w' => e = .returned (.bool (!V.okB ⟨k, n, s⟩)) ∧ Below w.heap.size w w' := by
  have hv := Lib.hid (value_right k n s)
  generalize V.okB ⟨k, n, s⟩ = q at *
  go_enter Tryz.func116, Tryz.ntmps116
  go_wp2_with fail
  refine (hv.out _).mono ?_
  rintro e w' ⟨rfl, rfl⟩
  go_wp2_with fail
  go_ret
  exact ⟨rfl, by repeat (first | exact Below.refl _ _ | refine Below.alloc ?_ (by simp) _)⟩

set_option maxHeartbeats 400000 in
theorem indexFunc_val_full (b o : Nat) (n c : Nat) (l : List V) (hl : l.length = n) (hn : n ≤ 9223372036854775807) (w : World) (hb : b < w.heap.size) (hL : VAt w b o l) :
    Calls Tryz.prog 135 #[.slice (some ⟨b, o, none⟩) n c, .func (.func 116) #[] #[]] w fun e w' =>
      e = .returned (.int .i64 (idx (fun v => !V.okB v) l 0)) ∧ Below w.heap.size w w' := by
  have HL := Lib.hid hL
  have Hl := Lib.hid hl
  clear hL hl
  go_enter Tryz.func135, Tryz.ntmps135
  go_wp2_with fail
  go_loopw [8] (fun i wr => ∃ k : Nat, k ≤ n ∧ i = .int .i64 k ∧ Below w.heap.size w wr ∧ Hid (idx (fun v => !V.okB v) l 0 = idx (fun v => !V.okB v) (l.drop k) k)) (fun i _ => n - (intOf i).toNat)
  case atStart => exact ⟨0, Nat.zero_le _, rfl, Below.refl _ _, rfl⟩
  case round =>
    obtain ⟨k, hk, rfl, hbl, hz⟩ := hrel
    by_cases hlt : k < n
    · obtain ⟨cc, hc⟩ : ∃ c, l[k]? = some c := ⟨_, List.getElem?_eq_getElem (by rw [Hl.out]; exact hlt)⟩
      have hst := Lib.hid (hz.out.trans (idx_step (p := fun v => !V.okB v) hc))
      obtain ⟨c1, c2, c3⟩ := HL.out.below hbl hb k cc hc
      clear hc hz
      obtain ⟨vk, vn, vs⟩ := cc
      have hs := hbl.size
      have hcl := Lib.hid (right_closure vk vn vs wr)
      by_cases he : V.okB ⟨vk, vn, vs⟩ = true
      · rw [he] at hcl
        have hst' : Hid (idx (fun v => !V.okB v) l 0 = idx (fun v => !V.okB v) (l.drop (k + 1)) (k + 1)) := by
          have := hst.out
          rwa [if_neg (by simp [he])] at this
        clear he hst
        go_wp2_with fail
        refine (hcl.out).mono ?_
        rintro e w' ⟨rfl, hb2⟩
        have hb3 := hbl.trans (hb2.mono hs)
        clear hb2
        go_wp2_with fail
        go_roundw
        case rel => exact ⟨k + 1, by omega, by go_num, hb3, hst'⟩
        case measure => simp [intOf]; omega
      · have he' : V.okB ⟨vk, vn, vs⟩ = false := by simpa using he
        rw [he'] at hcl
        have hst' : Hid (idx (fun v => !V.okB v) l 0 = (k : Int)) := by
          have := hst.out
          rwa [if_pos (by simp [he'])] at this
        clear he he' hst
        go_wp2_with fail
        refine (hcl.out).mono ?_
        rintro e w' ⟨rfl, hb2⟩
        have hb3 := hbl.trans (hb2.mono hs)
        clear hb2
        go_wp2_with fail
        go_ret
        exact ⟨by rw [hst'.out]; rfl, hb3⟩
    · go_wp2_with fail
      go_ret
      have e : k = n := by omega
      subst e
      exact ⟨by rw [hz.out, List.drop_of_length_le (by rw [Hl.out]; omega)]; rfl, hbl⟩

theorem indexFunc_val (A : Option Addr) (c : Nat) (l : List V) (hn : l.length ≤ 9223372036854775807) (w : World) (hA : VRow w w.heap.size A l) :
    Calls Tryz.prog 135 #[.slice A l.length c, .func (.func 116) #[] #[]] w fun e w' =>
      e = .returned (.int .i64 (idx (fun v => !V.okB v) l 0)) ∧ Below w.heap.size w w' := by
  rcases hA with rfl | ⟨b, o, rfl, hb, hL⟩
  · go_enter Tryz.func135, Tryz.ntmps135
    go_wp2
    refine wp_loop_rounds 1 ?_
    rw [rounds_succ]
    go_wp2
    go_ret
    exact ⟨rfl, Below.refl _ _⟩
  · exact indexFunc_val_full b o l.length c l rfl hn w hb hL

theorem idx_all (p : V → Bool) (l : List V) : ∀ k, decide (0 ≤ idx p l k) = l.any p := by
  induction l with
  | nil => intro k; rfl
  | cons x l ih =>
    intro k
    unfold idx
    by_cases h : p x = true
    · rw [if_pos h]; simp [h]
    · rw [if_neg h, ih]; simp [h]

theorem not_all (p : V → Bool) (l : List V) : (!(l.all p)) = l.any fun v => !p v := by
  induction l with
  | nil => rfl
  | cons x l ih => rw [List.all_cons, List.any_cons, Bool.not_and, ih]

theorem containsFunc_val (A : Option Addr) (c : Nat) (l : List V) (hn : l.length ≤ 9223372036854775807) (w : World) (hA : VRow w w.heap.size A l) :
    Calls Tryz.prog 115 #[.slice A l.length c, .func (.func 116) #[] #[]] w fun e w' =>
      e = .returned (.bool (!(l.all V.okB))) ∧ Below w.heap.size w w' := by
  have hc := Lib.hid (indexFunc_val A c l hn w hA)
  have e0 : (!(l.all V.okB)) = decide (0 ≤ idx (fun v => !V.okB v) l 0) := by
    rw [idx_all]; exact not_all V.okB l
  rw [e0]
  clear hA e0
  generalize idx (fun v => !V.okB v) l 0 = r at *
  go_enter Tryz.func115, Tryz.ntmps115
  go_wp2_with fail
  refine (hc.out).mono ?_
  rintro e w' ⟨rfl, hb⟩
  have HB := Lib.hid hb
  clear hb
  go_wp2_with fail
  go_ret
  exact ⟨rfl, HB.out⟩

def rowOk (l : List V) : Bool := (decide (0 < l.length) && decide (l.length ≤ 6)) && l.all V.okB

set_option maxHeartbeats 400000 in
theorem rowRight_any (A : Option Addr) (c : Nat) (l : List V) (hn : l.length ≤ 9223372036854775807) (w : World) (hA : VRow w w.heap.size A l) :
    Calls Tryz.prog 77 #[.slice A l.length c] w fun e w' => e = .returned (.bool (rowOk l)) ∧ Below w.heap.size w w' := by
  have hc := Lib.hid (containsFunc_val A c l hn w hA)
  clear hA
  by_cases h1 : 0 < l.length
  · by_cases h2 : l.length ≤ 6
    · have e0 : rowOk l = l.all V.okB := by simp [rowOk, h1, h2]
      rw [e0]
      generalize l.all V.okB = q at *
      generalize l.length = n at *
      have hmf : ∀ (fn : Fn) (first cap : Array Value) (w : World), (Instr.makeFunc fn first cap).run Tryz.prog w = .ok (.func fn first cap) w := fun _ _ _ _ => rfl
      go_enter Tryz.func77, Tryz.ntmps77
      go_wp2_with fail
      refine (hc.out).mono ?_
      rintro e w' ⟨rfl, hb⟩
      have HB := Lib.hid hb
      clear hb
      go_wp2_with fail
      go_ret
      exact ⟨by simp, HB.out⟩
    · have e0 : rowOk l = false := by simp [rowOk, h2]
      rw [e0]
      generalize l.length = n at *
      clear hc
      go_enter Tryz.func77, Tryz.ntmps77
      go_wp2
      go_ret
      exact ⟨rfl, Below.refl _ _⟩
  · have e0 : rowOk l = false := by simp [rowOk, h1]
    rw [e0]
    have hz : l.length = 0 := by omega
    rw [hz]
    clear hc hz h1
    go_enter Tryz.func77, Tryz.ntmps77
    go_wp2
    go_ret
    exact ⟨rfl, Below.refl _ _⟩

end Go.Proofs.YtajnnkapgnmoaaaGreat
