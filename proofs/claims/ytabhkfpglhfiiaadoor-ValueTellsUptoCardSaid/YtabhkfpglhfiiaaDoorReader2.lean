/-
  Package wire's reader: numbers.
-/
import Derived.Test.YtabhkfpglhfiiaaDoorReader
import Derived.ScopeJumps
import Derived.Laws.Bits64b
namespace Go.Proofs.YtabhkfpglhfiiaaDoor
open Go.RowKit

/-- a number of bytes, the lowest first -/
def num : List UInt8 → Nat
  | [] => 0
  | c :: l => c.toNat + 256 * num l
theorem num_lt : ∀ l : List UInt8, num l < 256 ^ l.length
  | [] => by simp [num]
  | c :: l => by
    have h := num_lt l
    have hc : c.toNat < 256 := c.toNat_lt
    rw [num, List.length_cons, Nat.pow_succ]
    omega
theorem takeL_len (R : RS) (n : Nat) : (R.takeL n).length ≤ n := by
  unfold RS.takeL
  split
  · split
    · simp
    · rw [List.length_take]; omega
  · simp
def RS.get (R : RS) (n : Nat) : Nat := num (R.takeL n)

theorem num_drop (l : List UInt8) (i : Nat) (x : UInt8) (h : l[i]? = some x) : num (l.drop i) = x.toNat + 256 * num (l.drop (i + 1)) := by
  have hlt : i < l.length := (List.getElem?_eq_some_iff.1 h).1
  rw [List.drop_eq_getElem_cons hlt, num]
  rw [List.getElem?_eq_getElem hlt] at h
  injection h with h
  rw [h]
theorem or_low (acc x : Nat) (hx : x < 256) (h : acc * 256 < 18446744073709551616) :
    bits BinOp.or IntKind.u64 (IntKind.u64.wrap ((acc : Int) * 256)) (IntKind.u64.wrap (x : Int)) = ((x + 256 * acc : Nat) : Int) := by
  have e1 : IntKind.u64.wrap ((acc : Int) * 256) = ((acc * 256 : Nat) : Int) := by rw [IntKind.wrap_u64]; omega
  have e2 : IntKind.u64.wrap (x : Int) = (x : Int) := by rw [IntKind.wrap_u64]; omega
  rw [e1, e2, bits_or_u64_nat _ _ (by omega) (by omega)]
  have : acc * 256 ||| x = x + 256 * acc := by
    rw [show acc * 256 = acc * 2 ^ 8 from rfl, ← Nat.shiftLeft_eq, ← Nat.shiftLeft_add_eq_or_of_lt (show x < 2 ^ 8 from hx), Nat.shiftLeft_eq]
    omega
  rw [this]
theorem num_bound (l : List UInt8) (m : Nat) (h : l.length ≤ 8) : num (l.drop (m + 1)) * 256 < 18446744073709551616 ∧ num l < 18446744073709551616 := by
  constructor
  · have h1 := num_lt (l.drop (m + 1))
    rw [List.length_drop] at h1
    have h2 : 256 ^ (l.length - (m + 1)) ≤ 256 ^ 7 := Nat.pow_le_pow_right (by decide) (by omega)
    have h3 : (256 : Nat) ^ 7 = 72057594037927936 := by decide
    omega
  · have h1 := num_lt l
    have h2 : 256 ^ l.length ≤ 256 ^ 8 := Nat.pow_le_pow_right (by decide) h
    have h3 : (256 : Nat) ^ 8 = 18446744073709551616 := by decide
    omega
set_option maxRecDepth 100000 in
theorem get_any (S : Nat → Prop) (g : Nat) (R : RS) (n : Nat) (hn : n ≤ 8) (hne : 0 < n) (w : World) (hR : Rd w S g R) :
    Calls Tryd.prog 45 #[.pointer (some ⟨g, 0, none⟩), .int .i64 n] w fun e w' => e = .returned (.int .u64 (R.get n)) ∧ Rd w' S g (R.take n) ∧ Out (fun k => k = g) w w' := by
  have hp := Lib.hid (take_any S g R n (by omega) (fun _ => .inl hne) w hR)
  have hl : (R.takeL n).length ≤ 8 := by have := takeL_len R n; omega
  unfold RS.get
  generalize R.takeL n = l at *
  generalize R.take n = R' at *
  clear hR
  go_enter Tryd.func45, Tryd.ntmps45
  go_wp2
  refine wp_scope_jumps 0 (fun a' w' => Out (fun k => k = g) w w' ∧ Rd w' S g R' ∧ ∃ (A : Option Addr) (c i acc : Nat) (u13 u14 u15 u16 u17 u18 u19 u20 u21 u22 u23 u24 : Value), a' = { tmps := #[.pointer (some ⟨g, 0, none⟩), .int .i64 n, undef, undef, .int .u64 0, .int .u64 acc, .slice A l.length c, .int .i64 i, .pointer (some ⟨g, 0, none⟩), .int .i64 n, .slice A l.length c, .slice A l.length c, .int .i64 l.length, u13, u14, u15, u16, u17, u18, u19, u20, u21, u22, u23, u24, undef], defers := [] } ∧
      i ≤ l.length ∧ Hid (acc = num (l.drop i)) ∧ Hid (∀ (k : Nat) (x : UInt8), l[k]? = some x → ∃ b o, A = some ⟨b, o, none⟩ ∧ w'.cell? ⟨b, o + k, none⟩ = some (.int .u8 x.toNat))) (fun a' _ => (intOf (a'.tmps.getD 7 undef)).toNat) rfl ?_ ?_
  · -- the first pass
    go_wp2_with fail
    refine hp.out.mono ?_
    rintro e w1 ⟨v, rfl, h1, h2, h3⟩
    have H2 := Lib.hid h2
    have H3 := Lib.hid h3
    clear h2 h3 hp
    have hv : ∃ A c, v = .slice A l.length c ∧ ∀ (k : Nat) (x : UInt8), l[k]? = some x → ∃ b o, A = some ⟨b, o, none⟩ ∧ w1.cell? ⟨b, o + k, none⟩ = some (.int .u8 x.toNat) := by
      rcases h1 with ⟨rfl, rfl⟩ | ⟨b, o, c, rfl, _, _, _, hA⟩
      · exact ⟨_, _, rfl, fun k x hx => by simp at hx⟩
      · exact ⟨_, _, rfl, fun k x hx => ⟨b, o, rfl, hA k x hx⟩⟩
    obtain ⟨A, c, rfl, hA⟩ := hv
    have HA := Lib.hid hA
    clear h1 hA
    by_cases h0 : l.length = 0
    · have hv : Hid (num l = 0) := Lib.hid (by rw [List.eq_nil_of_length_eq_zero h0]; rfl)
      rw [h0]
      go_wp2_with fail
      go_step3
      go_wp2_with fail
      (try simp only [Exit.jump])
      refine bodyPost_ret (results_tmp rfl _ _ _) rfl ?_
      exact ⟨by rw [hv.out]; rfl, H2.out, H3.out⟩
    · obtain ⟨x, hx⟩ : ∃ x, l[l.length - 1]? = some x := ⟨_, List.getElem?_eq_getElem (by omega)⟩
      obtain ⟨b, o, rfl, hc⟩ := HA.out _ x hx
      obtain ⟨m, hm⟩ : ∃ m, l.length = m + 1 := ⟨l.length - 1, by omega⟩
      rw [hm, Nat.add_sub_cancel] at hc hx
      have hd : decide ((0 : Int) < (l.length : Int)) = true := by simp; omega
      have hs : (l.length : Int) - 1 = m := by omega
      have hi0 : (0 : Int) ≤ m := by omega
      have hi1 : (m : Int) < (l.length : Int) := by omega
      have Hx := Lib.hid hx
      have Hm := Lib.hid hm
      clear hx hm h0
      have hb : Hid (bits BinOp.or IntKind.u64 0 (IntKind.u64.wrap (x.toNat : Int)) = ((num (l.drop m) : Nat) : Int)) := Lib.hid (by
        have h1 := or_low 0 x.toNat x.toNat_lt (by decide)
        have e0 : IntKind.u64.wrap (((0 : Nat) : Int) * 256) = 0 := by rw [IntKind.wrap_u64]; rfl
        rw [e0] at h1
        rw [h1, num_drop l m x Hx.out, List.drop_of_length_le (by rw [Hm.out]; exact Nat.le_refl _)]
        rfl)
      go_wp2_with fail
      go_step3
      go_wp2_with fail
      rw [hb.out]
      go_step3
      exact ⟨rfl, H3.out, H2.out, _, c, m, num (l.drop m), _, _, _, _, _, _, _, _, _, _, _, _, rfl, by omega, Lib.hid rfl, HA⟩
  · rintro a' w' ⟨ho, hr, A, c, i, acc, u13, u14, u15, u16, u17, u18, u19, u20, u21, u22, u23, u24, rfl, hi, hacc, hA⟩
    have HO := Lib.hid ho
    have HR := Lib.hid hr
    clear ho hr
    by_cases h0 : i = 0
    · subst h0
      go_wp2
      (try simp only [Exit.jump])
      refine bodyPost_ret (results_tmp rfl _ _ _) rfl ?_
      exact ⟨by rw [hacc.out]; rfl, HR.out, HO.out⟩
    · obtain ⟨m, rfl⟩ : ∃ m, i = m + 1 := ⟨i - 1, by omega⟩
      obtain ⟨x, hx⟩ : ∃ x, l[m]? = some x := ⟨_, List.getElem?_eq_getElem (by omega)⟩
      obtain ⟨b, o, rfl, hc⟩ := hA.out _ x hx
      have hs : ((m + 1 : Nat) : Int) - 1 = m := by omega
      have hd : decide ((0 : Int) < ((m + 1 : Nat) : Int)) = true := by rw [decide_eq_true_eq]; omega
      have hi0 : (0 : Int) ≤ m := by omega
      have hi1 : (m : Int) < (l.length : Int) := by omega
      have Hx := Lib.hid hx
      clear hx
      have hb : Hid (bits BinOp.or IntKind.u64 (IntKind.u64.wrap ((acc : Int) * 256)) (IntKind.u64.wrap (x.toNat : Int)) = ((num (l.drop m) : Nat) : Int)) := Lib.hid (by
        rw [or_low acc x.toNat x.toNat_lt (by rw [hacc.out]; exact (num_bound l m hl).1), num_drop l m x Hx.out, hacc.out])
      clear hacc
      go_wp2
      rw [hb.out]
      go_step3
      exact ⟨rfl, ⟨HO.out, HR.out, _, c, m, num (l.drop m), _, _, _, _, _, _, _, _, _, _, _, _, rfl, by omega, Lib.hid rfl, hA⟩, by simp [intOf]⟩
end Go.Proofs.YtabhkfpglhfiiaaDoor
