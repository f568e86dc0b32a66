/-
  Package row's contracts: Fits.
-/
import Derived.Test.YtldleckgkgeclaaDoorMb0
set_option linter.unusedVariables false
set_option linter.unusedSimpArgs false
namespace Go.Proofs.YtldleckgkgeclaaDoor
open Go.RowKit
def zipB : List C → List V → Bool
  | c :: l, v :: r => (v.okB && v.k == c.k) && zipB l r
  | _, _ => true
theorem zipB_step {l : List C} {r : List V} {k : Nat} {c : C} {v : V} (hc : l[k]? = some c) (hv : r[k]? = some v) :
    zipB (l.drop k) (r.drop k) = ((v.okB && v.k == c.k) && zipB (l.drop (k + 1)) (r.drop (k + 1))) := by
  obtain ⟨h1, e1⟩ := List.getElem?_eq_some_iff.1 hc
  obtain ⟨h2, e2⟩ := List.getElem?_eq_some_iff.1 hv
  rw [List.drop_eq_getElem_cons h1, List.drop_eq_getElem_cons h2, e1, e2]
  rfl
set_option maxHeartbeats 400000 in
theorem fits_full (bl ol br or_ : Nat) (n c d : Nat) (l : List C) (r : List V) (hl : l.length = n) (hr : r.length = n) (hn : n ≤ 9223372036854775807) (w : World)
    (hbl : bl < w.heap.size) (hbr : br < w.heap.size) (hL : CAt w bl ol l) (hR : VAt w br or_ r) :
    Calls Tryd.prog 47 #[.slice (some ⟨bl, ol, none⟩) n d, .slice (some ⟨br, or_, none⟩) n c] w fun e w' => e = .returned (.bool (zipB l r)) ∧ Below w.heap.size w w' := by
  have HL := Lib.hid hL
  have HR := Lib.hid hR
  have Hl := Lib.hid hl
  have Hr := Lib.hid hr
  clear hL hR hl hr
  go_enter Tryd.func47, Tryd.ntmps47
  go_wp2_with fail
  go_loopw [14] (fun i wr => ∃ k : Nat, k ≤ n ∧ i = .int .i64 k ∧ Below w.heap.size w wr ∧ Hid (zipB l r = zipB (l.drop k) (r.drop k))) (fun i _ => n - (intOf i).toNat)
  case atStart => exact ⟨0, Nat.zero_le _, rfl, Below.refl _ _, rfl⟩
  case round =>
    obtain ⟨k, hk, rfl, hb, hz⟩ := hrel
    by_cases hlt : k < n
    · obtain ⟨v, hv⟩ : ∃ v, r[k]? = some v := ⟨_, List.getElem?_eq_getElem (by rw [Hr.out]; exact hlt)⟩
      obtain ⟨cc, hc⟩ : ∃ c, l[k]? = some c := ⟨_, List.getElem?_eq_getElem (by rw [Hl.out]; exact hlt)⟩
      have hst := Lib.hid (zipB_step hc hv)
      obtain ⟨v1, v2, v3⟩ := HR.out.below hb hbr k v hv
      obtain ⟨_, c2⟩ := HL.out.below hb hbl k cc hc
      clear hv hc
      obtain ⟨vk, vn, vs⟩ := v
      obtain ⟨cn, ck⟩ := cc
      have hs := hb.size
      have hv := Lib.hid (value_right vk vn vs)
      have hcw : (wr.alloc (.cells #[.int .i64 vk, .int .i64 vn, .string vs] 60)).cell? ⟨bl, ol + k * 2 + 1, none⟩ = some (.int .i64 ck) := by
        rw [World.cell?_alloc_lt _ _ _ (by simp; omega)]; exact c2
      have hBk : Below w.heap.size w ((wr.alloc (.cells #[.int .i64 vk, .int .i64 vn, .string vs] 60)).alloc (.cells #[.int .i64 vk, .int .i64 vn, .string vs] 60)).drew :=
        ((hb.alloc hs _).alloc (by simp; omega) _).drew
      by_cases hok : V.okB ⟨vk, vn, vs⟩ = true
      · rw [hok] at hv hst
        by_cases hkk : (vk == ck) = true
        · have hz' : Hid (zipB l r = zipB (l.drop (k + 1)) (r.drop (k + 1))) := by
            have := hz.out.trans hst.out
            rwa [hkk, Bool.true_and, Bool.true_and] at this
          have hne : (vk != ck) = false := by simpa using hkk
          clear hst hz
          go_wp2_with fail
          go_region_held3 (fun w' => w'.cell? ⟨wr.heap.size, 0, none⟩ = some (.int .i64 vk) ∧ w'.cell? ⟨wr.heap.size, 1, none⟩ = some (.int .i64 vn) ∧ w'.cell? ⟨wr.heap.size, 2, none⟩ = some (.string vs) ∧ w'.cell? ⟨bl, ol + k * 2 + 1, none⟩ = some (.int .i64 ck)) (go_keep)
            (first | (go_at_call 59; refine (hv.out _).mono ?_; rintro e w' ⟨rfl, rfl⟩))
          go_wp2_with fail
          go_roundw
          case rel => exact ⟨k + 1, by omega, by go_num, hBk, hz'⟩
          case measure => simp [intOf]; omega
        · have hkk' : (vk == ck) = false := by simpa using hkk
          have hz' : Hid (zipB l r = false) := by
            have := hz.out.trans hst.out
            rwa [hkk', Bool.and_false, Bool.false_and] at this
          have hne : (vk != ck) = true := by simpa using hkk
          clear hst hz hkk
          go_wp2_with fail
          go_region_held3 (fun w' => w'.cell? ⟨wr.heap.size, 0, none⟩ = some (.int .i64 vk) ∧ w'.cell? ⟨wr.heap.size, 1, none⟩ = some (.int .i64 vn) ∧ w'.cell? ⟨wr.heap.size, 2, none⟩ = some (.string vs) ∧ w'.cell? ⟨bl, ol + k * 2 + 1, none⟩ = some (.int .i64 ck)) (go_keep)
            (first | (go_at_call 59; refine (hv.out _).mono ?_; rintro e w' ⟨rfl, rfl⟩))
          go_wp2_with fail
          go_ret
          exact ⟨by rw [hz'.out]; rfl, hBk⟩
      · have hok' : V.okB ⟨vk, vn, vs⟩ = false := by simpa using hok
        rw [hok'] at hv hst
        have hz' : Hid (zipB l r = false) := hz.out.trans hst.out
        clear hst hz hok hok'
        go_wp2_with fail
        refine wp_region_any (by kernel_rfl) ?_
        change wpAny _ _ _ _ _ _ _ (World.drew _)
        refine wpAny_one (i := 0) (by kernel_rfl) rfl (fun K hK => ?_)
        go_simp
        refine hK _ _ ?_
        clear hK K
        refine wpAny_one (i := 1) (by kernel_rfl) rfl (fun K hK => ?_)
        go_simp
        go_wp2_with (go_at_call 59; refine (hv.out _).mono ?_; rintro e w' ⟨rfl, rfl⟩)
        refine wpAny_one (i := 2) (by kernel_rfl) rfl (fun K hK => ?_)
        go_simp
        refine hK _ _ ?_
        clear hK K
        refine wpAny_one (i := 3) (by kernel_rfl) rfl (fun K hK => ?_)
        go_simp
        refine hK _ _ ?_
        clear hK K
        refine wpAny_skip (i := 4) rfl (by kernel_rfl) (by kernel_rfl) (by kernel_rfl) (fun _ _ _ h => h) (by kernel_rfl) ?_
        refine wpAny_skip (i := 5) rfl (by kernel_rfl) (by kernel_rfl) (by kernel_rfl) (fun _ _ _ h => h) (by kernel_rfl) ?_
        refine wpAny_skip (i := 6) rfl (by kernel_rfl) (by kernel_rfl) (by kernel_rfl) (fun _ _ _ h => h) (by kernel_rfl) ?_
        refine wpAny_skip (i := 7) rfl (by kernel_rfl) (by kernel_rfl) (by kernel_rfl) (fun _ _ _ h => h) (by kernel_rfl) ?_
        refine wpAny_skip (i := 8) rfl (by kernel_rfl) (by kernel_rfl) (by kernel_rfl) (fun _ _ _ h => h) (by kernel_rfl) ?_
        refine wpAny_skip (i := 9) rfl (by kernel_rfl) (by kernel_rfl) (by kernel_rfl) (fun _ _ _ h => h) (by kernel_rfl) ?_
        refine wpAny_skip (i := 10) rfl (by kernel_rfl) (by kernel_rfl) (by kernel_rfl) (fun _ _ _ h => h) (by kernel_rfl) ?_
        refine wpAny_skip (i := 11) rfl (by kernel_rfl) (by kernel_rfl) (by kernel_rfl) (fun _ _ _ h => h) (by kernel_rfl) ?_
        refine wpAny_one (i := 12) (by kernel_rfl) rfl (fun K hK => ?_)
        go_simp
        refine hK _ _ ?_
        clear hK K
        refine wpAny_done (by kernel_rfl) ?_ _
        go_wp2_with fail
        go_ret
        exact ⟨by rw [hz'.out]; rfl, hBk⟩
    · go_wp2_with fail
      go_ret
      have e : k = n := by omega
      subst e
      exact ⟨by rw [hz.out, List.drop_of_length_le (by rw [Hl.out]; omega)]; rfl, hb⟩

def fitsB (l : List C) (r : List V) : Bool := decide (l.length = r.length) && zipB l r

theorem fits_any (A D : Option Addr) (c d : Nat) (l : List C) (r : List V) (hl : l.length ≤ 9223372036854775807) (hr : r.length ≤ 9223372036854775807) (w : World)
    (hA : CRow w w.heap.size A l) (hD : VRow w w.heap.size D r) :
    Calls Tryd.prog 47 #[.slice A l.length c, .slice D r.length d] w fun e w' => e = .returned (.bool (fitsB l r)) ∧ Below w.heap.size w w' := by
  by_cases hlen : l.length = r.length
  · have e0 : fitsB l r = zipB l r := by unfold fitsB; rw [decide_eq_true hlen]; rfl
    rw [e0]
    rcases hA with rfl | ⟨bl, ol, rfl, hbl, hL⟩
    · have : r = [] := List.eq_nil_of_length_eq_zero (by simpa using hlen.symm)
      subst this
      clear hD hlen e0 hl hr
      go_enter Tryd.func47, Tryd.ntmps47
      go_wp2
      refine wp_loop_rounds 1 ?_
      rw [rounds_succ]
      go_wp2
      go_ret
      exact ⟨rfl, Below.refl _ _⟩
    · rcases hD with rfl | ⟨br, or_, rfl, hbr, hR⟩
      · have : l = [] := List.eq_nil_of_length_eq_zero (by simpa using hlen)
        subst this
        clear hL hlen e0 hl hr
        go_enter Tryd.func47, Tryd.ntmps47
        go_wp2
        refine wp_loop_rounds 1 ?_
        rw [rounds_succ]
        go_wp2
        go_ret
        exact ⟨rfl, Below.refl _ _⟩
      · have h := fits_full bl ol br or_ r.length d c l r hlen rfl hr w hbl hbr hL hR
        rwa [hlen]
  · have e0 : fitsB l r = false := by unfold fitsB; rw [decide_eq_false hlen]; rfl
    have hne : ((l.length : Int) != (r.length : Int)) = true := by rw [bne_iff_ne]; omega
    rw [e0]
    clear hA hD hlen e0
    go_enter Tryd.func47, Tryd.ntmps47
    go_wp2
    go_ret
    exact ⟨rfl, Below.refl _ _⟩

end Go.Proofs.YtldleckgkgeclaaDoor
/-
  Expressions as plain trees, and as they lie in memory. No program in sight.
-/
namespace Go.Proofs.YtldleckgkgeclaaDoor
open Go.RowKit

inductive E where
  | mk (k : Int) (s : ByteArray) (n : Int) (kids : List E)
def E.k : E → Int | .mk k _ _ _ => k
def E.s : E → ByteArray | .mk _ s _ _ => s
def E.n : E → Int | .mk _ _ n _ => n
def E.kids : E → List E | .mk _ _ _ l => l
theorem E.ind {P : E → Prop} (h : ∀ k s n l, (∀ e ∈ l, P e) → P (.mk k s n l)) : ∀ e, P e := by
  intro e
  exact E.rec (motive_1 := P) (motive_2 := fun l => ∀ e ∈ l, P e) (fun k s n l ih => h k s n l ih) (fun e he => by cases he) (fun e l h1 h2 x hx => by
    rcases List.mem_cons.1 hx with rfl | hx
    · exact h1
    · exact h2 x hx) e

/-- a slice at address A holds the expressions l, below block B, and so on downwards -/
inductive EKids (w : World) (B : Nat) : Option Addr → List E → Prop
  | nil (A : Option Addr) : EKids w B A []
  | mk (b off : Nat) (l : List E) (hn : l.length ≤ 9223372036854775807) (hb : b < B) (A : Nat → Option Addr) (c : Nat → Nat)
      (h : ∀ i e, l[i]? = some e → w.cell? ⟨b, off + i * 4, none⟩ = some (.int .i64 e.k) ∧ w.cell? ⟨b, off + i * 4 + 1, none⟩ = some (.string e.s) ∧
        w.cell? ⟨b, off + i * 4 + 2, none⟩ = some (.int .i64 e.n) ∧ w.cell? ⟨b, off + i * 4 + 3, none⟩ = some (.slice (A i) e.kids.length (c i)))
      (hk : ∀ i e, l[i]? = some e → EKids w B (A i) e.kids) : EKids w B (some ⟨b, off, none⟩) l
theorem EKids.low {w w' : World} {B : Nat} {A : Option Addr} {l : List E} (h : EKids w B A l) (hb : Below B w w') : EKids w' B A l := by
  induction h with
  | nil A => exact .nil A
  | mk b off l hn hlt A c h hk ih =>
    refine .mk b off l hn hlt A c (fun i e he => ?_) (fun i e he => ih i e he)
    obtain ⟨h1, h2, h3, h4⟩ := h i e he
    exact ⟨(hb.cell hlt).trans h1, (hb.cell hlt).trans h2, (hb.cell hlt).trans h3, (hb.cell hlt).trans h4⟩
theorem EKids.more {w : World} {B B' : Nat} {A : Option Addr} {l : List E} (h : EKids w B A l) (hB : B ≤ B') : EKids w B' A l := by
  induction h with
  | nil A => exact .nil A
  | mk b off l hn hlt A c h hk ih => exact .mk b off l hn (by omega) A c h (fun i e he => ih i e he)
theorem EKids.len {w : World} {B : Nat} {A : Option Addr} {l : List E} (h : EKids w B A l) : l.length ≤ 9223372036854775807 := by
  cases h with
  | nil A => simp
  | mk b off l hn hlt A c h hk => exact hn
/-- where the kids stand, while the world grows -/
theorem EKids.get_ {w : World} {A : Option Addr} {l : List E} (h : EKids w w.heap.size A l) : ∀ w1, Below w.heap.size w w1 → ∀ i e, l[i]? = some e →
    ∃ b o A' c', A = some ⟨b, o, none⟩ ∧ b < w.heap.size ∧ w1.cell? ⟨b, o + i * 4, none⟩ = some (.int .i64 e.k) ∧ w1.cell? ⟨b, o + i * 4 + 1, none⟩ = some (.string e.s) ∧
      w1.cell? ⟨b, o + i * 4 + 2, none⟩ = some (.int .i64 e.n) ∧ w1.cell? ⟨b, o + i * 4 + 3, none⟩ = some (.slice A' e.kids.length c') ∧ EKids w1 w1.heap.size A' e.kids := by
  intro w1 hb i e he
  cases h with
  | nil A => simp at he
  | mk b off l hn hlt A c h hk =>
    obtain ⟨h1, h2, h3, h4⟩ := h i e he
    exact ⟨b, off, A i, c i, rfl, hlt, (hb.cell hlt).trans h1, (hb.cell hlt).trans h2, (hb.cell hlt).trans h3, (hb.cell hlt).trans h4, ((hk i e he).low hb).more hb.size⟩
/-- an expression's value -/
def E.val (e : E) (A : Option Addr) (c : Nat) : Value := .agg #[.int .i64 e.k, .string e.s, .int .i64 e.n, .slice A e.kids.length c]

/-! ### the operations' names -/
def opAdd : List UInt8 := [97, 100, 100]
def opSub : List UInt8 := [115, 117, 98]
def opMul : List UInt8 := [109, 117, 108]
def opEq : List UInt8 := [101, 113]
def opLt : List UInt8 := [108, 116]
def opAnd : List UInt8 := [97, 110, 100]
def opOr : List UInt8 := [111, 114]
def opCat : List UInt8 := [99, 97, 116]
def opNeg : List UInt8 := [110, 101, 103]
def opNot : List UInt8 := [110, 111, 116]
def opLen : List UInt8 := [108, 101, 110]
def opIf : List UInt8 := [105, 102]
def opsL : List (List UInt8) := [opAdd, opSub, opMul, opEq, opLt, opAnd, opOr, opCat, opNeg, opNot, opLen, opIf]
theorem op_cases (l : List UInt8) : l ∈ opsL ∨ ∀ x ∈ opsL, (l == x) = false := by
  by_cases h : l ∈ opsL
  · exact .inl h
  · refine .inr fun x hx => ?_
    cases e : l == x
    · rfl
    · rw [show l = x by simpa using e] at h
      exact absurd hx h
def cntL (l : List UInt8) : Nat :=
  if l = opAdd ∨ l = opSub ∨ l = opMul ∨ l = opEq ∨ l = opLt ∨ l = opAnd ∨ l = opOr ∨ l = opCat then 2
  else if l = opNeg ∨ l = opNot ∨ l = opLen then 1 else if l = opIf then 3 else 0
def E.cnt (e : E) : Nat := cntL e.s.toList

mutual
def madeE : E → Bool
  | .mk k s n l => if k = 1 then nameB s && (n == 0 && l.length == 0) else if k = 2 then s.toList.isEmpty && l.length == 0
    else if k = 3 then n == 0 && l.length == 0 else if k = 4 then decide (0 < cntL s.toList) && (cntL s.toList == l.length && (n == 0 && madeL l)) else false
def madeL : List E → Bool
  | [] => true
  | e :: l => madeE e && madeL l
end
theorem madeL_all (l : List E) : madeL l = l.all madeE := by
  induction l with
  | nil => rfl
  | cons e l ih => rw [madeL, ih]; rfl

/-! ### types -/
def resultL (op : List UInt8) (l : List Int) : Int :=
  if op = opEq ∨ op = opLt then (if l.getD 0 0 = l.getD 1 0 then 1 else 0)
  else if op = opCat then (if l.all (· == 2) then 2 else 0)
  else if op = opLen then (if l.all (· == 2) then 1 else 0)
  else if op = opIf then (if l.getD 0 0 = 1 ∧ l.getD 1 0 = l.getD 2 0 then l.getD 1 0 else 0)
  else if l.all (· == 1) then 1 else 0
mutual
/-- kind, and why not -/
def typeE (cols : List C) : E → Int × Int
  | .mk k s n l => if k = 1 then (if findB cols s then ((cols.getD (findN cols s).toNat ⟨⟨#[]⟩, 0⟩).k, 0) else (0, 20))
    else if k = 2 then (1, 0) else if k = 3 then (2, 0)
    else if (typeL cols l).2 = 0 then (if 0 < resultL s.toList (typeL cols l).1 then (resultL s.toList (typeL cols l).1, 0) else (0, 22)) else (0, (typeL cols l).2)
def typeL (cols : List C) : List E → List Int × Int
  | [] => ([], 0)
  | e :: l => if (typeE cols e).2 = 0 then ((typeE cols e).1 :: (typeL cols l).1, (typeL cols l).2) else ([], (typeE cols e).2)
end

/-! ### what they give -/
def zeroV : V := ⟨0, 0, ⟨#[]⟩⟩
def strV (s : ByteArray) : V := ⟨2, 0, s⟩
def boolI (b : Bool) : Int := if b then 1 else 0
def truthV (b : Bool) : V := numV (boolI b)
def reckonL (op : List UInt8) (a b : Int) : Int × Bool :=
  if op = opAdd then (wrap64 (a + b), decide (a < wrap64 (a + b)) == decide (0 < b))
  else if op = opSub then (wrap64 (a - b), decide (wrap64 (a - b) < a) == decide (0 < b))
  else if op = opNeg then (wrap64 (-a), a != -9223372036854775808)
  else if (decide (a < 0) != decide (b < 0)) = true then (wrap64 (-(wrap64 ((a.natAbs * b.natAbs % 18446744073709551616 : Nat) : Int))), (a.natAbs * b.natAbs / 18446744073709551616 == 0) && decide (a.natAbs * b.natAbs % 18446744073709551616 ≤ 9223372036854775808))
  else (wrap64 ((a.natAbs * b.natAbs % 18446744073709551616 : Nat) : Int), (a.natAbs * b.natAbs / 18446744073709551616 == 0) && decide (a.natAbs * b.natAbs % 18446744073709551616 < 9223372036854775808))
def V.eqv (a b : V) : Bool := a.k == b.k && (a.n == b.n && a.s.toList == b.s.toList)
def operateL (op : List UInt8) (a b : V) : V × Int :=
  if op = opEq then (truthV (V.eqv a b), 0)
  else if op = opLt then (truthV (V.lt a b), 0)
  else if op = opAnd then (truthV (a.n != 0 && b.n != 0), 0)
  else if op = opOr then (truthV (a.n != 0 || b.n != 0), 0)
  else if op = opNot then (truthV (a.n == 0), 0)
  else if op = opLen then (numV a.s.size, 0)
  else if op = opCat then (if 40 < a.s.size + b.s.size then (zeroV, 3) else (strV (a.s ++ b.s), 0))
  else if (reckonL op a.n b.n).2 then (numV (reckonL op a.n b.n).1, 0) else (zeroV, 26)
def gather : List (V × Int) → List V × Int
  | [] => ([], 0)
  | x :: l => if x.2 = 0 then (x.1 :: (gather l).1, (gather l).2) else ([], x.2)
mutual
def evalE (cols : List C) (r : List V) : E → V × Int
  | .mk k s n l => if k = 1 then (r.getD (findN cols s).toNat zeroV, 0)
    else if k = 2 then (numV n, 0) else if k = 3 then (strV s, 0)
    else if s.toList = opIf then
      (if ((evalL cols r l).getD 0 (zeroV, 0)).2 = 0 then (if ((evalL cols r l).getD 0 (zeroV, 0)).1.n = 0 then (evalL cols r l).getD 2 (zeroV, 0) else (evalL cols r l).getD 1 (zeroV, 0))
       else (zeroV, ((evalL cols r l).getD 0 (zeroV, 0)).2))
    else if (gather (evalL cols r l)).2 = 0 then operateL s.toList ((gather (evalL cols r l)).1.getD 0 zeroV) ((gather (evalL cols r l)).1.getD (l.length - 1) zeroV) else (zeroV, (gather (evalL cols r l)).2)
def evalL (cols : List C) (r : List V) : List E → List (V × Int)
  | [] => []
  | e :: l => evalE cols r e :: evalL cols r l
end
theorem evalL_map (cols : List C) (r : List V) (l : List E) : evalL cols r l = l.map (evalE cols r) := by
  induction l with
  | nil => rfl
  | cons e l ih => rw [evalL, ih]; rfl
def evalTop (cols : List C) (r : List V) (e : E) : V × Int := if fitsB cols r && (madeE e && (typeE cols e).2 == 0) then evalE cols r e else (zeroV, 22)
end Go.Proofs.YtldleckgkgeclaaDoor
/-
  Package expr's contracts: count, Made.
-/
namespace Go.Proofs.YtldleckgkgeclaaDoor
open Go.RowKit

set_option maxHeartbeats 4000000 in
theorem count_any (s : ByteArray) (w : World) : Calls Tryd.prog 52 #[.string s] w fun e w' => e = .returned (.int .i64 (cntL s.toList : Nat)) ∧ w = w' := by
  rcases op_cases s.toList with h | h
  · simp only [opsL, opAdd, opSub, opMul, opEq, opLt, opAnd, opOr, opCat, opNeg, opNot, opLen, opIf, List.mem_cons, List.not_mem_nil, or_false] at h
    rcases h with h | h | h | h | h | h | h | h | h | h | h | h
    all_goals
      obtain ⟨q, hq⟩ : ∃ q, q = cntL s.toList := ⟨_, rfl⟩
      rw [← hq]
      rw [h] at hq
      change q = _ at hq
      simp only [cntL, opAdd, opSub, opMul, opEq, opLt, opAnd, opOr, opCat, opNeg, opNot, opLen, opIf] at hq
      simp at hq
      subst hq
      go_enter Tryd.func52, Tryd.ntmps52
      go_wp2
      go_ret
      exact ⟨rfl, rfl⟩
  · have hq : cntL s.toList = 0 := by
      have hne : ∀ x ∈ opsL, s.toList ≠ x := fun x hx e => by have := h x hx; rw [e] at this; simp at this
      simp only [opsL, List.mem_cons, List.not_mem_nil, or_false, forall_eq_or_imp, forall_eq] at hne
      obtain ⟨h0, h1, h2, h3, h4, h5, h6, h7, h8, h9, h10, h11⟩ := hne
      simp [cntL, h0, h1, h2, h3, h4, h5, h6, h7, h8, h9, h10, h11]
    rw [hq]
    clear hq
    simp only [opsL, opAdd, opSub, opMul, opEq, opLt, opAnd, opOr, opCat, opNeg, opNot, opLen, opIf, List.mem_cons, List.not_mem_nil, or_false, forall_eq_or_imp, forall_eq] at h
    obtain ⟨h0, h1, h2, h3, h4, h5, h6, h7, h8, h9, h10, h11⟩ := h
    go_enter Tryd.func52, Tryd.ntmps52
    go_wp2
    go_ret
    exact ⟨rfl, rfl⟩

def MadeExp (e : E) : Prop := ∀ (A : Option Addr) (c : Nat) (w : World), EKids w w.heap.size A e.kids →
  Calls Tryd.prog 33 #[e.val A c] w fun r w' => r = .returned (.bool (madeE e)) ∧ Below w.heap.size w w'

theorem made_closure (k : Int) (s : ByteArray) (n : Int) (l : List E) (hM : MadeExp (.mk k s n l)) (A : Option Addr) (c : Nat) (w : World) (hA : EKids w w.heap.size A l) :
    Calls Tryd.prog 54 #[.agg #[.int .i64 k, .string s, .int .i64 n, .slice A l.length c]] w fun r w' => r = .returned (.bool (!madeE (.mk k s n l))) ∧ Below w.heap.size w w' := by
  have hb0 : Below w.heap.size w (w.alloc (.cells #[.int .i64 k, .string s, .int .i64 n, .slice A l.length c] 39)) := (Below.refl _ _).alloc (Nat.le_refl _) _
  have hc := Lib.hid (hM A c _ ((hA.low hb0).more hb0.size))
  clear hM hA
  simp only [E.val, E.k, E.s, E.n, E.kids] at hc
  generalize madeE (.mk k s n l) = q at *
  generalize l.length = m at *
  go_enter Tryd.func54, Tryd.ntmps54
  go_wp2_with fail
  refine (hc.out).mono ?_
  rintro e w' ⟨rfl, hb⟩
  have hb2 := hb0.trans (hb.mono (by simp))
  clear hb hb0
  go_wp2_with fail
  go_ret
  exact ⟨rfl, hb2⟩

set_option maxHeartbeats 400000 in
theorem indexFunc_made (A : Option Addr) (c : Nat) (l : List E) (hM : ∀ e ∈ l, MadeExp e) (w : World) (hA : EKids w w.heap.size A l) :
    Calls Tryd.prog 70 #[.slice A l.length c, .func (.func 54) #[] #[]] w fun e w' =>
      e = .returned (.int .i64 (idx (fun e => !madeE e) l 0)) ∧ Below w.heap.size w w' := by
  have hn := hA.len
  have HL := Lib.hid hA.get_
  have HM := Lib.hid hM
  obtain ⟨n, en⟩ : ∃ n, n = l.length := ⟨_, rfl⟩
  have Hl := Lib.hid en
  rw [← en] at hn ⊢
  clear hA hM en
  go_enter Tryd.func70, Tryd.ntmps70
  go_wp2_with fail
  go_loopw [8] (fun i wr => ∃ k : Nat, k ≤ n ∧ i = .int .i64 k ∧ Below w.heap.size w wr ∧ Hid (idx (fun e => !madeE e) l 0 = idx (fun e => !madeE e) (l.drop k) k)) (fun i _ => n - (intOf i).toNat)
  case atStart => exact ⟨0, Nat.zero_le _, rfl, Below.refl _ _, rfl⟩
  case round =>
    obtain ⟨k, hk, rfl, hbl, hz⟩ := hrel
    by_cases hlt : k < n
    · obtain ⟨x, hx⟩ : ∃ x, l[k]? = some x := ⟨_, List.getElem?_eq_getElem (by rw [← Hl.out]; exact hlt)⟩
      have hst := Lib.hid (hz.out.trans (idx_step (p := fun e => !madeE e) hx))
      obtain ⟨b, o, A', c', rfl, hb, c1, c2, c3, c4, hK⟩ := HL.out wr hbl k x hx
      have hMx := HM.out x (List.mem_of_getElem? hx)
      clear hx hz
      obtain ⟨xk, xs, xn, xl⟩ := x
      simp only [E.k, E.s, E.n, E.kids] at c1 c2 c3 c4 hK
      have hs := hbl.size
      have hcl := Lib.hid (made_closure xk xs xn xl hMx A' c' wr hK)
      clear hMx hK
      by_cases he : madeE (.mk xk xs xn xl) = true
      · rw [he] at hcl
        have hst' : Hid (idx (fun e => !madeE e) l 0 = idx (fun e => !madeE e) (l.drop (k + 1)) (k + 1)) := by
          have := hst.out
          rwa [if_neg (by simp [he])] at this
        clear he hst
        generalize xl.length = xm at *
        go_wp2_with fail
        refine (hcl.out).mono ?_
        rintro e w' ⟨rfl, hb2⟩
        have hb3 := hbl.trans (hb2.mono hs)
        clear hb2
        go_wp2_with fail
        go_roundw
        case rel => exact ⟨k + 1, by omega, by go_num, hb3, hst'⟩
        case measure => simp [intOf]; omega
      · have he' : madeE (.mk xk xs xn xl) = false := by simpa using he
        rw [he'] at hcl
        have hst' : Hid (idx (fun e => !madeE e) l 0 = (k : Int)) := by
          have := hst.out
          rwa [if_pos (by simp [he'])] at this
        clear he he' hst
        generalize xl.length = xm at *
        go_wp2_with fail
        refine (hcl.out).mono ?_
        rintro e w' ⟨rfl, hb2⟩
        have hb3 := hbl.trans (hb2.mono hs)
        clear hb2
        go_wp2_with fail
        go_ret
        exact ⟨by rw [hst'.out]; rfl, hb3⟩
    · go_wp2_with fail
      go_ret
      have e : k = n := by omega
      subst e
      exact ⟨by rw [hz.out, List.drop_of_length_le (by rw [← Hl.out]; omega)]; rfl, hbl⟩

theorem idx_any {α : Type} (p : α → Bool) (l : List α) : ∀ k, decide (0 ≤ idx p l k) = l.any p := by
  induction l with
  | nil => intro k; rfl
  | cons x l ih =>
    intro k
    unfold idx
    by_cases h : p x = true
    · rw [if_pos h]; simp [h]
    · rw [if_neg h, ih]; simp [h]
theorem not_all_ {α : Type} (p : α → Bool) (l : List α) : (!(l.all p)) = l.any fun v => !p v := by
  induction l with
  | nil => rfl
  | cons x l ih => rw [List.all_cons, List.any_cons, Bool.not_and, ih]

theorem containsFunc_made (A : Option Addr) (c : Nat) (l : List E) (hM : ∀ e ∈ l, MadeExp e) (w : World) (hA : EKids w w.heap.size A l) :
    Calls Tryd.prog 53 #[.slice A l.length c, .func (.func 54) #[] #[]] w fun e w' =>
      e = .returned (.bool (!(madeL l))) ∧ Below w.heap.size w w' := by
  have hc := Lib.hid (indexFunc_made A c l hM w hA)
  have e0 : (!(madeL l)) = decide (0 ≤ idx (fun v => !madeE v) l 0) := by
    rw [idx_any, madeL_all]; exact not_all_ madeE l
  rw [e0]
  clear hA e0 hM
  generalize idx (fun v => !madeE v) l 0 = r at *
  generalize l.length = m at *
  go_enter Tryd.func53, Tryd.ntmps53
  go_wp2_with fail
  refine (hc.out).mono ?_
  rintro e w' ⟨rfl, hb⟩
  have HB := Lib.hid hb
  clear hb
  go_wp2_with fail
  go_ret
  exact ⟨rfl, HB.out⟩
end Go.Proofs.YtldleckgkgeclaaDoor
/-
  Package expr's contracts: Made, at every expression.
-/
namespace Go.Proofs.YtldleckgkgeclaaDoor
open Go.RowKit

theorem nat_beq0 (m : Nat) : ((m : Int) == 0) = (m == 0) := by
  cases m with
  | zero => rfl
  | succ m => have : ((m + 1 : Nat) : Int) ≠ 0 := by omega
              simp
              omega
set_option maxRecDepth 100000 in
set_option maxHeartbeats 1000000 in
theorem made_step (k : Int) (s : ByteArray) (n : Int) (l : List E) (hM : ∀ e ∈ l, MadeExp e) : MadeExp (.mk k s n l) := by
  intro A c w hA
  simp only [E.val, E.k, E.s, E.n, E.kids] at hA ⊢
  have hb0 : Below w.heap.size w (w.alloc (.cells #[.int .i64 k, .string s, .int .i64 n, .slice A l.length c] 39)) := (Below.refl _ _).alloc (Nat.le_refl _) _
  have HB0 := Lib.hid hb0
  have hc := Lib.hid (containsFunc_made A c l hM _ ((hA.low hb0).more hb0.size))
  have hN := Lib.hid (name_any s)
  have hC := Lib.hid (count_any s)
  have hlen := hA.len
  have hz : Hid (madeE (.mk k s n l) = if k = 1 then nameB s && (n == 0 && l.length == 0) else if k = 2 then s.toList.isEmpty && l.length == 0
    else if k = 3 then n == 0 && l.length == 0 else if k = 4 then decide (0 < cntL s.toList) && (cntL s.toList == l.length && (n == 0 && madeL l)) else false) := Lib.hid (by rw [madeE])
  generalize madeE (.mk k s n l) = q at *
  generalize nameB s = qn at *
  generalize cntL s.toList = cn at *
  generalize madeL l = ql at *
  generalize l.length = m at *
  clear hM hA hb0
  by_cases h1 : k = 1
  · subst h1
    have hz1 : Hid (q = (qn && (n == 0 && m == 0))) := Lib.hid (by rw [hz.out, if_pos rfl])
    clear hz hc hC
    cases qn
    · obtain rfl : q = false := by rw [hz1.out]; rfl
      go_enter Tryd.func33, Tryd.ntmps33
      go_wp2_with fail
      refine (hN.out _).mono ?_
      rintro e w' ⟨rfl, rfl⟩
      go_wp2_with fail
      go_ret
      exact ⟨rfl, HB0.out⟩
    · by_cases hn : n = 0
      · subst hn
        have hz2 : Hid (q = ((m : Int) == 0)) := Lib.hid (by rw [hz1.out, nat_beq0]; simp)
        clear hz1
        go_enter Tryd.func33, Tryd.ntmps33
        go_wp2_with fail
        refine (hN.out _).mono ?_
        rintro e w' ⟨rfl, rfl⟩
        go_wp2_with fail
        go_ret
        exact ⟨by rw [hz2.out]; rfl, HB0.out⟩
      · have hn' : (n == 0) = false := by simpa using hn
        obtain rfl : q = false := by rw [hz1.out, hn']; rfl
        clear hz1 hn
        go_enter Tryd.func33, Tryd.ntmps33
        go_wp2_with fail
        refine (hN.out _).mono ?_
        rintro e w' ⟨rfl, rfl⟩
        go_wp2_with fail
        go_ret
        exact ⟨rfl, HB0.out⟩
  have h1' : (k == 1) = false := by simpa using h1
  by_cases h2 : k = 2
  · subst h2
    have hz1 : Hid (q = (s.toList.isEmpty && m == 0)) := Lib.hid (by rw [hz.out, if_neg (by decide), if_pos rfl])
    clear hz hc hC hN h1 h1'
    by_cases he : s.toList = []
    · have hz2 : Hid (q = ((m : Int) == 0)) := Lib.hid (by rw [hz1.out, he, nat_beq0]; simp)
      clear hz1
      go_enter Tryd.func33, Tryd.ntmps33
      go_wp2_with fail
      go_ret
      exact ⟨by rw [hz2.out]; rfl, HB0.out⟩
    · have he' : (s.toList == []) = false := by simpa using he
      obtain rfl : q = false := by rw [hz1.out]; cases h : s.toList with
        | nil => exact absurd h he
        | cons a l => rfl
      clear hz1 he
      go_enter Tryd.func33, Tryd.ntmps33
      go_wp2_with fail
      go_ret
      exact ⟨rfl, HB0.out⟩
  have h2' : (k == 2) = false := by simpa using h2
  by_cases h3 : k = 3
  · subst h3
    have hz1 : Hid (q = (n == 0 && m == 0)) := Lib.hid (by rw [hz.out, if_neg (by decide), if_neg (by decide), if_pos rfl])
    clear hz hc hC hN h1 h1' h2 h2'
    by_cases hn : n = 0
    · subst hn
      have hz2 : Hid (q = ((m : Int) == 0)) := Lib.hid (by rw [hz1.out, nat_beq0]; simp)
      clear hz1
      go_enter Tryd.func33, Tryd.ntmps33
      go_wp2_with fail
      go_ret
      exact ⟨by rw [hz2.out]; rfl, HB0.out⟩
    · have hn' : (n == 0) = false := by simpa using hn
      obtain rfl : q = false := by rw [hz1.out, hn']; rfl
      clear hz1 hn
      go_enter Tryd.func33, Tryd.ntmps33
      go_wp2_with fail
      go_ret
      exact ⟨rfl, HB0.out⟩
  have h3' : (k == 3) = false := by simpa using h3
  by_cases h4 : k = 4
  · subst h4
    have hz1 : Hid (q = (decide (0 < cn) && (cn == m && (n == 0 && ql)))) := Lib.hid (by rw [hz.out, if_neg (by decide), if_neg (by decide), if_neg (by decide), if_pos rfl])
    clear hz hN h1 h1' h2 h2' h3 h3'
    by_cases hc0 : cn = 0
    · subst hc0
      obtain rfl : q = false := by rw [hz1.out]; rfl
      go_enter Tryd.func33, Tryd.ntmps33
      go_wp2_with fail
      refine (hC.out _).mono ?_
      rintro e w' ⟨rfl, rfl⟩
      go_wp2_with fail
      go_ret
      exact ⟨rfl, HB0.out⟩
    have hcp : 0 < cn := by omega
    have hcp' : decide ((0 : Int) < (cn : Int)) = true := by rw [decide_eq_true_eq]; omega
    by_cases hm : cn = m
    · subst hm
      by_cases hn : n = 0
      · subst hn
        have hz2 : Hid (q = ql) := Lib.hid (by rw [hz1.out]; simp [hcp])
        clear hz1
        go_enter Tryd.func33, Tryd.ntmps33
        go_wp2_with fail
        refine (hC.out _).mono ?_
        rintro e w' ⟨rfl, rfl⟩
        go_wp2_with fail
        refine (hc.out).mono ?_
        rintro e w' ⟨rfl, hb⟩
        have HB := Lib.hid (HB0.out.trans (hb.mono (by simp)))
        clear hb
        go_wp2_with fail
        go_ret
        exact ⟨by rw [hz2.out]; rfl, HB.out⟩
      · have hn' : (n == 0) = false := by simpa using hn
        obtain rfl : q = false := by rw [hz1.out, hn']; simp
        clear hz1 hn
        go_enter Tryd.func33, Tryd.ntmps33
        go_wp2_with fail
        refine (hC.out _).mono ?_
        rintro e w' ⟨rfl, rfl⟩
        go_wp2_with fail
        go_ret
        exact ⟨rfl, HB0.out⟩
    · have hm' : ((cn : Int) == (m : Int)) = false := by simp; omega
      have hm2 : (cn == m) = false := by simpa using hm
      obtain rfl : q = false := by rw [hz1.out, hm2]; simp
      clear hz1
      go_enter Tryd.func33, Tryd.ntmps33
      go_wp2_with fail
      refine (hC.out _).mono ?_
      rintro e w' ⟨rfl, rfl⟩
      go_wp2_with fail
      go_ret
      exact ⟨rfl, HB0.out⟩
  · have h4' : (k == 4) = false := by simpa using h4
    obtain rfl : q = false := by rw [hz.out, if_neg h1, if_neg h2, if_neg h3, if_neg h4]
    clear hz hN hc hC
    go_enter Tryd.func33, Tryd.ntmps33
    go_wp2_with fail
    go_ret
    exact ⟨rfl, HB0.out⟩
theorem made_any : ∀ e, MadeExp e := E.ind made_step
end Go.Proofs.YtldleckgkgeclaaDoor
