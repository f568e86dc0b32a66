/-
  A value that was written is read: no Go in sight.
-/
import Derived.Test.YtabhkfpglhfiiaaGet
import Derived.Test.YtabhkfpglhfiiaaValLaws
namespace Go.Proofs.Ytabhkfpglhfiiaa
open Go.RowKit
theorem num_le : ∀ (k n : Nat), num (le n k) = n % 256 ^ k
  | 0, n => by simp [le, num, Nat.mod_one]
  | k + 1, n => by
    rw [le, num, num_le k, Nat.pow_succ, Nat.mul_comm (256 ^ k) 256, Nat.mod_mul]
    have : (n % 256).toUInt8.toNat = n % 256 := by rw [UInt8.toNat_ofNat']; simp
    rw [this]
/-- a reader that stands behind p and ahead of q -/
def At (p q : List UInt8) (f : Int) : RS := ⟨p ++ q, p.length, 0, f⟩
theorem takeL_at (p x q : List UInt8) (f : Int) : (At p (x ++ q) f).takeL x.length = x := by
  simp [RS.takeL, At]
  omega
theorem take_at (p x q : List UInt8) (f : Int) : (At p (x ++ q) f).take x.length = At (p ++ x) q f := by
  simp [RS.take, At]
  omega
theorem get_leI (p q : List UInt8) (f n : Int) (k : Nat) : (At p (leI n k ++ q) f).get k = (IntKind.u64.wrap n).toNat % 256 ^ k ∧ (At p (leI n k ++ q) f).take k = At (p ++ leI n k) q f := by
  have h1 := takeL_at p (leI n k) q f
  have h2 := take_at p (leI n k) q f
  rw [leI_len] at h1 h2
  rw [RS.get, h1, h2]
  exact ⟨num_le k _, rfl⟩
theorem small_wrap (n : Nat) (k : Nat) (h : n < 256 ^ k) (h2 : n < 18446744073709551616) : (IntKind.u64.wrap (n : Int)).toNat % 256 ^ k = n := by
  have e : (IntKind.u64.wrap (n : Int)).toNat = n := by rw [IntKind.wrap_u64]; omega
  rw [e, Nat.mod_eq_of_lt h]
theorem i64_back (n : Int) (h : -9223372036854775808 ≤ n ∧ n ≤ 9223372036854775807) : i64 ((IntKind.u64.wrap n).toNat % 256 ^ 8) = n := by
  have e8 : (256 : Nat) ^ 8 = 18446744073709551616 := by decide
  rw [e8, IntKind.wrap_u64]
  unfold i64 wrap64
  omega
theorem At.why (p q : List UInt8) (f : Int) : (At p q f).why = 0 := rfl
theorem bytes_nil {s : ByteArray} (h : s.toList = []) : s = ⟨#[]⟩ := bytes_ext (by rw [h, ByteArray.toList_eq])
theorem getV_trip (v : V) (hv : V.okB v = true) (hw : -9223372036854775808 ≤ v.n ∧ v.n ≤ 9223372036854775807) (p q : List UInt8) (f : Int) :
    (At p (vB v ++ q) f).getV = v ∧ (At p (vB v ++ q) f).getR = At (p ++ vB v) q f := by
  obtain ⟨k, n, s⟩ := v
  have hsz : k = 1 ∨ s.size ≤ 40 := by
    unfold V.okB at hv
    simp only [Bool.or_eq_true, Bool.and_eq_true, beq_iff_eq, decide_eq_true_eq] at hv
    rcases hv with ⟨h, _⟩ | ⟨_, _, h⟩
    · exact .inl h
    · exact .inr (by omega)
  rcases ok_cases hv with ⟨h1, h2⟩ | ⟨h1, h2⟩
  · simp only at h1 h2
    subst h1
    obtain rfl := bytes_nil h2
    have e : vB ⟨1, n, ⟨#[]⟩⟩ = leI 1 1 ++ leI n 8 := rfl
    rw [e, List.append_assoc]
    obtain ⟨g1, g2⟩ := get_leI p (leI n 8 ++ q) f 1 1
    obtain ⟨g3, g4⟩ := get_leI (p ++ leI 1 1) q f n 8
    have e1 : (IntKind.u64.wrap 1).toNat % 256 ^ 1 = 1 := small_wrap 1 1 (by decide) (by decide)
    unfold RS.getV RS.getR
    rw [g1, g2, e1, if_pos rfl, if_pos rfl, g3, g4, i64_back n hw, At.why, List.append_assoc]
    exact ⟨rfl, rfl⟩
  · simp only at h1 h2
    subst h1 h2
    have hs : s.size ≤ 40 := by rcases hsz with h | h; omega; exact h
    have e : vB ⟨2, 0, s⟩ = leI 2 1 ++ (leI s.size 2 ++ s.data.toList) := rfl
    rw [e, List.append_assoc, List.append_assoc]
    obtain ⟨g1, g2⟩ := get_leI p (leI s.size 2 ++ (s.data.toList ++ q)) f 2 1
    obtain ⟨g3, g4⟩ := get_leI (p ++ leI 2 1) (s.data.toList ++ q) f s.size 2
    have e1 : (IntKind.u64.wrap 2).toNat % 256 ^ 1 = 2 := small_wrap 2 1 (by decide) (by decide)
    have e2 : (IntKind.u64.wrap (s.size : Int)).toNat % 256 ^ 2 = s.size := small_wrap s.size 2 (by have h : (256 : Nat) ^ 2 = 65536 := rfl; rw [h]; omega) (by omega)
    rw [e2] at g3
    have hl : s.data.toList.length = s.size := rfl
    have hmid : (At (p ++ leI 2 1) (leI s.size 2 ++ (s.data.toList ++ q)) f).mid 40 = At (p ++ leI 2 1 ++ leI s.size 2) (s.data.toList ++ q) f := by
      unfold RS.mid
      rw [g3, g4, At.why]
      rw [if_neg (by simp; omega)]
    have h5 := takeL_at (p ++ leI 2 1 ++ leI s.size 2) s.data.toList q f
    have h6 := take_at (p ++ leI 2 1 ++ leI s.size 2) s.data.toList q f
    rw [hl] at h5 h6
    have ht : (At (p ++ leI 2 1) (leI s.size 2 ++ (s.data.toList ++ q)) f).textS 40 = s := by
      unfold RS.textS
      rw [hmid, g3, h5]
    have ht2 : (At (p ++ leI 2 1) (leI s.size 2 ++ (s.data.toList ++ q)) f).text 40 = At (p ++ leI 2 1 ++ leI s.size 2 ++ s.data.toList) q f := by
      unfold RS.text
      rw [hmid, g3, h6]
    unfold RS.getV RS.getR
    have h21 : ¬ ((2 : Nat) = 1) := by decide
    rw [g1, g2, e1, if_neg h21, if_pos rfl, ht2, ht, At.why, if_neg (show ¬ ((0 : Int) != 0) = true by decide), if_neg h21, if_pos rfl]
    simp only [List.append_assoc]
    trivial
theorem value_trip (v : V) (hv : V.okB v = true) (hw : -9223372036854775808 ≤ v.n ∧ v.n ≤ 9223372036854775807) :
    (RS.mk (vB v) 0 0 0).getV = v ∧ (RS.mk (vB v) 0 0 0).getR.endE = 0 ∧ (RS.mk (vB v) 0 0 0).getR.endA = 0 := by
  have e0 : RS.mk (vB v) 0 0 0 = At [] (vB v ++ []) 0 := by simp [At]
  obtain ⟨h1, h2⟩ := getV_trip v hv hw [] [] 0
  rw [e0, h1, h2]
  simp [RS.endE, RS.endA, At]
end Go.Proofs.Ytabhkfpglhfiiaa
