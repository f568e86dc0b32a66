/-
  The evaluator's operations beside the model's: conversions, make, append, copy, calls.
-/
import Derived.Test.YtloolljoelngcaaGreatEvE
import Derived.Laws.IdiomStrings
set_option linter.unusedVariables false
namespace Go.Proofs.YtloolljoelngcaaGreat
open Go.RowKit
section
variable {P : Program} {μ : Map} {m : Mem} {w : World} {fr : Tr Value} {n : Nat} {a : Act} {o : Oper}

theorem bytesV_eq : ∀ l : List UInt8, bytesV l = l.map fun b => .int .u8 (b.toNat : Int)
  | [] => rfl
  | b :: l => by simp [bytesV, bytesV_eq l]
theorem toBytes_eq : ∀ (l : List Value) (r : List UInt8), toBytes l = some r → l = r.map fun b => .int .u8 (b.toNat : Int)
  | [], r, h => by simp [toBytes] at h; subst h; rfl
  | v :: l, r, h => by
    unfold toBytes at h
    split at h
    all_goals first
      | (simp at h; done)
      | skip
    cases hb : Nat.blt _ 256 with
    | false => rw [hb] at h; simp at h
    | true =>
      rw [hb] at h
      rw [Nat.blt_eq] at hb
      simp only at h
      cases ht : toBytes l with
      | none => rw [ht] at h; simp at h
      | some q =>
        rw [ht] at h
        simp at h
        subst h
        have := toBytes_eq l q ht
        simp [← this, Nat.mod_eq_of_lt hb]
theorem did_strBytes {s t e : TypeId} {x : Operand} (ho : o.op = .convert s t x) (hR : Rep μ m w) (hF : FrR μ m.next fr n a) {l : List UInt8} (h : opd fr x = some (.string ⟨⟨l⟩⟩))
    (hs : P.underlying s = some .string) (ht : P.underlying t = some (.slice e)) (he : P.underlying e = some (.int .u8)) {d : Did}
    (hd : (newBlk m 1 (bytesV l) fun a m => fNat (len l 0) fun n => some (.val (.slice (some a) n anyCap) m)) = some d) : DidOk P μ m w o a d := by
  have e1 := (opd_ok hF h).str_inv
  have hrun := run_bytes_of_string (P := P) w s t e ⟨⟨l⟩⟩ hs ht he
  have hC : bytesRow ⟨⟨l⟩⟩ (grownCap w l.length 0 e) = ⟨bytesV l ++ List.replicate (grownCap w l.length 0 e - l.length) (.int .u8 0)⟩ := by
    apply Array.ext'
    have : (⟨⟨l⟩⟩ : ByteArray).size = l.length := rfl
    simp [bytesRow, bytesV_eq, this]
  have hsz : (⟨⟨l⟩⟩ : ByteArray).size = l.length := rfl
  rw [hsz, hC] at hrun
  obtain ⟨μ', m', hk, hok, hn, hμ⟩ := newBlk_ok (w' := w.drew.alloc (.cells ⟨bytesV l ++ List.replicate (grownCap w l.length 0 e - l.length) (.int .u8 0)⟩ e ((⟨bytesV l ++ List.replicate (grownCap w l.length 0 e - l.length) (.int .u8 0)⟩ : Array Value).size, (⟨bytesV l ++ List.replicate (grownCap w l.length 0 e - l.length) (.int .u8 0)⟩ : Array Value).size + 1)))
    (vs := bytesV l) (ex := List.replicate (grownCap w l.length 0 e - l.length) (.int .u8 0)) hR hd (.of_flats (by rw [bytesV_eq]; intro v hv; obtain ⟨b, _, rfl⟩ := List.mem_map.1 hv; rfl)) rfl (.inr (Nat.le_refl _)) rfl rfl rfl
  rw [fNat_eq, len_eq, Nat.add_zero] at hk
  simp only [Option.some.injEq] at hk
  subst hk
  have hge := grownCap_ge w l.length 0 e
  refine ⟨μ', _, _, by simp only [execOp, ho, e1, Sem.run_bind, hrun, Result.andThen_ok, Sem.run_pure]; rfl, hok, ?_⟩
  have := VR.sliceAny (μ := μ') (nx := m'.next) (b := m.next) (o := 0) (n := l.length) (c := grownCap w l.length 0 e) (by omega) hge (by rw [hμ]; simp [bytesV_eq]; omega)
  rw [hμ] at this
  exact this
theorem did_bytesStr {s t e : TypeId} {x : Operand} (ho : o.op = .convert s t x) (hR : Rep μ m w) (hF : FrR μ m.next fr n a) {p : Option Addr} {k c : Nat} (h : opd fr x = some (.slice p k c))
    (hs : P.underlying s = some (.slice e)) (ht : P.underlying t = some .string) (he : P.underlying e = some (.int .u8)) {d : Did}
    (hd : bytesStr m p k = some d) : DidOk P μ m w o a d := by
  unfold bytesStr at hd
  have hv := opd_ok hF h
  generalize hx : a.eval x = u at hv
  cases p with
  | none =>
    simp only [Option.some.injEq] at hd
    subst hd
    obtain ⟨p', c', rfl, e1⟩ := hv.slice_inv
    obtain rfl := none_of e1
    refine did_val hR (v' := .string .empty) ?_ (.flat rfl)
    simp [execOp, ho, hx, Go.convert, run_under hs, run_under ht, run_under he, Conv.bytesToString]
  | some q =>
    simp only at hd
    cases hr : rdCells m q k with
    | none => rw [hr] at hd; simp at hd
    | some l =>
      rw [hr] at hd
      simp only at hd
      cases hb : toBytes l with
      | none => rw [hb] at hd; simp at hd
      | some r =>
        rw [hb] at hd
        simp only [Option.some.injEq] at hd
        subst hd
        have hl := toBytes_eq _ _ hb
        have hflat : ∀ v ∈ l, flat1 v = true := by rw [hl]; intro v hv; obtain ⟨b, _, rfl⟩ := List.mem_map.1 hv; rfl
        have done : ∀ (ad : Addr) (c' : Nat), u = .slice (some ad) k c' → r.length = k → (∀ j (hj : j < r.length), w.cell? (ad.add j) = some (.int .u8 (r[j].toNat : Int))) → DidOk P μ m w o a (.val (.string ⟨⟨r⟩⟩) m) := by
          intro ad c' hu hk hcell
          have := run_convert_bytes_back (P := P) w s t e ad c' r hs he ht hcell
          rw [hk] at this
          exact did_val hR (v' := .string ⟨⟨r⟩⟩) (by simp [execOp, ho, hx, hu, this]) (.flat rfl)
        have cells : ∀ b f, q = ⟨b, f, none⟩ → r.length = k ∧ ∀ j (hj : j < r.length), w.cell? ((⟨(μ b).blk, (μ b).base + f, none⟩ : Addr).add j) = some (.int .u8 (r[j].toNat : Int)) := by
          rintro b f rfl
          obtain ⟨l', hv', hlen, hrun⟩ := rd_ok (P := P) hR hr
          have hlr : r.length = l.length := by rw [hl]; simp
          refine ⟨by omega, fun j hj => ?_⟩
          unfold rdCells at hr
          split at hr
          · omega
          · simp only at hr
            cases hg : m.heap.get b with
            | none => rw [hg] at hr; simp at hr
            | some y =>
              rw [hg] at hr
              simp only at hr
              rw [dropN_eq] at hr
              obtain ⟨e1, e2⟩ := takeN_eq _ _ _ hr
              have hj2 : l[j]? = some (.int .u8 (r[j].toNat : Int)) := by rw [hl]; simp [hj]
              rw [e1, List.getElem?_take, if_pos (by omega), List.getElem?_drop] at hj2
              obtain ⟨v', hc, hv''⟩ := hR.cells b y hg _ _ hj2
              rw [add_none, Nat.add_assoc, hc, hv''.same1 rfl]
        cases hv with
        | flat hf => simp [flat1] at hf
        | slice hb hc => obtain ⟨g1, g2⟩ := cells _ _ rfl; exact done _ _ rfl g1 g2
        | sliceAny hb hc hr' => obtain ⟨g1, g2⟩ := cells _ _ rfl; exact done _ _ rfl g1 g2
        | nowhere =>
          obtain ⟨g1, _⟩ := cells _ _ rfl
          have : r = [] := List.eq_nil_of_length_eq_zero g1
          subst this
          exact done _ _ rfl rfl (fun j hj => by simp at hj)
theorem run_mark (b f : Nat) (c : Array Value) (t : TypeId) (fz : Nat × Nat) (h : w.heap[b]? = some (.cells c t fz)) : (markStringish ⟨b, f, none⟩).run P w = .ok () (w.freeze ⟨b, c.size, none⟩ 1) := by
  have hs : w.shape? b = some (t, c.size) := by unfold World.shape?; rw [h]
  simp [markStringish, shape, freeze, Sem.run, hs]
theorem freeze_heap (b n k : Nat) (hk : k ≠ b) : (w.freeze ⟨b, n, none⟩ 1).heap[k]? = w.heap[k]? := by
  unfold World.freeze
  simp only [Nat.one_ne_zero, if_false, Array.getElem?_modify]
  rw [if_neg (Ne.symm hk)]
theorem freeze_at (b : Nat) {c : Array Value} {t : TypeId} {lo hi : Nat} (h : w.heap[b]? = some (.cells c t (lo, hi))) (hl : lo = hi ∨ c.size ≤ lo) :
    ∃ lo' hi', (w.freeze ⟨b, c.size, none⟩ 1).heap[b]? = some (.cells c t (lo', hi')) ∧ c.size ≤ lo' := by
  unfold World.freeze
  simp only [Nat.one_ne_zero, if_false, Array.getElem?_modify, h, Option.map_some]
  by_cases he : lo = hi
  · refine ⟨c.size, c.size + 1, ?_, Nat.le_refl _⟩
    simp [he]
  · refine ⟨min lo c.size, max hi (c.size + 1), ?_, by omega⟩
    simp [he]
theorem did_bytesBytes {s t e0 e : TypeId} {x : Operand} (ho : o.op = .convert s t x) (hR : Rep μ m w) (hF : FrR μ m.next fr n a) {b f k c : Nat} (h : opd fr x = some (.slice (some ⟨b, f, none⟩) k c))
    (hs : P.underlying s = some (.slice e0)) (ht : P.underlying t = some (.slice e)) (hst : s = t) (he : P.underlying e = some (.int .u8)) {d : Did}
    (hd : bytesBytes m b (.slice (some ⟨b, f, none⟩) k c) k = some d) : DidOk P μ m w o a d := by
  obtain ⟨heap, next, low⟩ := m
  unfold bytesBytes at hd
  split at hd
  · simp at hd
  · rename_i k' 
    simp only at hd
    cases hx : heap.get b with
    | none => rw [hx] at hd; simp at hd
    | some y =>
      rw [hx] at hd
      simp only at hd
      split at hd
      · rename_i hown
        rw [fNat_eq] at hd
        simp only [Option.some.injEq] at hd
        subst hd
        have hv := opd_ok hF h
        generalize hu : a.eval x = u at hv
        obtain ⟨cs, tt, lo, hi, e1, e2, e3⟩ := hR.there b y hx hown
        have hmark := run_mark (P := P) (μ b).blk ((μ b).base + f) cs tt (lo, hi) e1
        obtain ⟨lo', hi', g1, g2⟩ := freeze_at (μ b).blk e1 e3
        have hcell : ∀ p : Addr, (w.freeze ⟨(μ b).blk, cs.size, none⟩ 1).cell? p = w.cell? p := fun p => by
          unfold World.cell?
          by_cases hp : p.block = (μ b).blk
          · rw [hp, g1, e1]
          · rw [freeze_heap _ _ _ hp]
        have hsz : (w.freeze ⟨(μ b).blk, cs.size, none⟩ 1).heap.size = w.heap.size := by simp [World.freeze]
        have hok : Ok μ ⟨heap, next, low⟩ w μ ⟨heap, next, Nat.min b low⟩ (w.freeze ⟨(μ b).blk, cs.size, none⟩ 1) := by
          refine ⟨⟨hR.lt, fun b' x' hx' i v hi => by rw [hcell]; exact hR.cells b' x' hx' i v hi, hR.fits, fun b' x' hx' => by rw [hsz]; exact hR.inb b' x' hx', hR.es, fun b' x' hx' ho' => ?_, hR.apart⟩,
            Nat.le_refl _, fun _ _ => rfl, fun _ _ => rfl, Nat.min_le_right _ _, fun _ _ _ => rfl, fun b' x' hx' _ => ⟨x', hx', rfl⟩, fun b' x' hx' hb' => absurd (hR.lt b' x' hx') (by simp only at hb' ⊢; omega), rfl, rfl, rfl, by rw [hsz]; exact Nat.le_refl _, fun j hj hno => freeze_heap _ _ _ fun e => hno b y hx hown (Nat.min_le_left _ _) e.symm⟩
          by_cases hb : (μ b').blk = (μ b).blk
          · obtain ⟨cs', tt', l1, h1, q1, q2, q3⟩ := hR.there b' x' hx' ho'
            rw [hb, e1] at q1
            simp only [Option.some.injEq, Obj.cells.injEq] at q1
            obtain ⟨rfl, rfl, _⟩ := q1
            exact ⟨cs, tt, lo', hi', by rw [hb]; exact g1, q2, .inr g2⟩
          · exact (hR.there b' x' hx' ho').at (freeze_heap _ _ _ hb)
        have done : ∀ c', u = .slice (some ⟨(μ b).blk, (μ b).base + f, none⟩) (k' + 1) c' → VR μ next (.slice (some ⟨b, f, none⟩) (k' + 1) c) u → DidOk P μ ⟨heap, next, low⟩ w o a (.val (.slice (some ⟨b, f, none⟩) (k' + 1) c) ⟨heap, next, Nat.min b low⟩) := by
          intro c' hc' hvr
          refine ⟨μ, _, u, ?_, hok, hvr⟩
          subst hst
          rw [hs] at ht
          simp only [Option.some.injEq, TypeDesc.slice.injEq] at ht
          subst ht
          simp [execOp, ho, hu, hc', Go.convert, run_under hs, run_under he, hmark]
        cases hv with
        | flat hf => simp [flat1] at hf
        | slice hb hc => exact done _ rfl (.slice hb hc)
        | sliceAny hb hc hr' => exact done _ rfl (.sliceAny hb hc hr')
      · simp at hd
theorem did_strStr {s t : TypeId} {x : Operand} (ho : o.op = .convert s t x) (hR : Rep μ m w) (hF : FrR μ m.next fr n a) {l : List UInt8} (h : opd fr x = some (.string ⟨⟨l⟩⟩))
    (hs : P.underlying s = some .string) (ht : P.underlying t = some .string) : DidOk P μ m w o a (.val (.string ⟨⟨l⟩⟩) m) := by
  have e1 := (opd_ok hF h).str_inv
  refine did_val hR (v' := .string ⟨⟨l⟩⟩) ?_ (.flat rfl)
  simp [execOp, ho, e1, Go.convert, run_under hs, run_under ht]
theorem wrap_nat {l : Nat} (h : l ≤ 9223372036854775807) : IntKind.i64.wrap (l : Int) = l := by
  unfold IntKind.wrap
  simp [IntKind.bits, IntKind.signed]
  omega
theorem did_makeSlice {t e : TypeId} {x y : Operand} (ho : o.op = .makeSlice t x y) (hR : Rep μ m w) (hF : FrR μ m.next fr n a) {u v : Value} {l c z by_ : Nat} {zero : List Value}
    (hu : P.underlying t = some (.slice e)) (h1 : opd fr x = some u) (h2 : opd fr y = some v) (hl : asN u = some l) (hc : asN v = some c) (hz : zeroOf P e = some zero) (hs : szOf P e = some z) (hb : (P.info? e).map (·.bytes) = some by_)
    (c1 : l ≤ c) (c2 : by_ * c ≤ 140737488355328) (c3 : c ≤ 9223372036854775807) (hf : flats zero = true) (hzl : zero.length = z) {d : Did} (hd : (newBlk m z (repN c zero) fun a m => some (.val (.slice (some a) l c) m)) = some d) : DidOk P μ m w o a d := by
  obtain ⟨i1, rfl⟩ := asN_inv hl
  obtain ⟨i2, rfl⟩ := asN_inv hc
  have e1 := (opd_ok hF h1).int_inv
  have e2 := (opd_ok hF h2).int_inv
  obtain ⟨zv, hzv, hzc⟩ := run_zero (w := w) hz
  cases hi : P.info? e with
  | none => rw [hi] at hb; simp at hb
  | some i =>
    rw [hi] at hb
    simp at hb
    have hrep : VRs μ m.next (repN c zero) (repN c zero) := .of_flats (by
      intro u hu
      rw [repN_eq] at hu
      obtain ⟨l1, hl1, hu⟩ := List.mem_flatten.1 hu
      obtain ⟨_, e1⟩ := List.mem_replicate.1 hl1
      exact flats_mem hf u (e1 ▸ hu))
    obtain ⟨μ', m', hk', hok, hn, hμ⟩ := newBlk_ok (w' := { w with heap := w.heap.push (.cells ⟨repN c zero⟩ e) }) (vs := repN c zero) (ex := []) (t := e) (lo := 0) (hi := 0) hR hd hrep (by simp) (.inl rfl) rfl rfl rfl
    simp only [Option.some.injEq] at hk'
    subst hk'
    refine ⟨μ', _, .slice (some ⟨w.heap.size, 0, none⟩) l c, ?_, hok, ?_⟩
    · have w1 := wrap_nat (l := l) (by omega)
      have w2 := wrap_nat c3
      have hn1 : ¬ ((i.bytes : Int) * (c : Int) > 2 ^ 48) := by
        have : ((i.bytes * c : Nat) : Int) ≤ 140737488355328 := by rw [hb]; omega
        rw [Int.natCast_mul] at this
        omega
      have hn1' : ¬ (281474976710656 < (i.bytes : Int) * (c : Int)) := by simpa using hn1
      simp only [execOp, ho, e1, e2, Instr.makeSlice, Sem.run_bind, run_under hu, asInt, asIntOf, Sem.run_pure, Result.andThen_ok, typeInfo, run_program, hi, w1, w2]
      rw [if_neg (by simp; omega)]
      simp only [Sem.run_bind, run_askRoom, Result.andThen_ok, run_sizeOf hs]
      by_cases h0 : c * z = 0
      · have e1 : repN c zero = [] := List.eq_nil_of_length_eq_zero (by rw [repN_length, hzl, h0])
        simp [h0, e1, newRow]
        rw [show Array.map (fun _ => (default : Value)) (Array.range 0) = ⟨[]⟩ from by simp]
      · have e2 := zeros_eq zv.cells c z (by rw [← hzl, ← hzc]; simp)
        rw [hzc] at e2
        simp [h0, hzv, e2, newRow]
    · have := VR.slice (μ := μ') (nx := m'.next) (b := m.next) (o := 0) (n := l) (c := c) (by omega) ⟨c1, by unfold anyCap; omega⟩
      rw [hμ] at this
      exact this
end
end Go.Proofs.YtloolljoelngcaaGreat
