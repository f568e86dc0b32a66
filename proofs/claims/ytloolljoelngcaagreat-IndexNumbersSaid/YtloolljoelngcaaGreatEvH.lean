/-
  The evaluator's operations beside the model's: calls; all of them.
-/
import Derived.Test.YtloolljoelngcaaGreatEvG
set_option linter.unusedVariables false
namespace Go.Proofs.YtloolljoelngcaaGreat
open Go.RowKit
section
variable {P : Program} {μ : Map} {m : Mem} {w : World} {fr : Tr Value} {n : Nat} {a : Act} {o : Oper}

theorem one_eq {l : List Value} {u : Value} {nx : Nat} (h : VRs μ nx [u] l) : ∃ u', l = [u'] ∧ VR μ nx u u' := by
  cases h with
  | cons h1 h2 => cases h2; exact ⟨_, rfl, h1⟩
theorem hd_eq {xs : Array TypeId} {t : TypeId} {l : List TypeId} (h : xs.toList = t :: l) : xs[0]? = some t := by
  rw [← Array.getElem?_toList, h]
  rfl
theorem len_pure {c : Call} (ho : o.op = .call c) (hb : c.callee = .builtin .len) (hF : FrR μ m.next fr n a) {l : List Value} (hl : opds fr c.args.toList = some l) {d : Did} (hd : lenOp P m c l = some d) : ∃ v, d = .val v m ∧ PDid P μ m.next o a v := by
  have hargs := opds_ok hF hl
  unfold lenOp at hd
  split at hd
  rotate_left
  · simp at hd
  rename_i t l0 ht
  split at hd
  rotate_left
  · simp at hd
  rename_i D hu
  split at hd
  · split at hd
    rotate_left
    · simp at hd
    simp only [Option.some.injEq] at hd
    subst hd
    obtain ⟨u, e, hv⟩ := one_eq hargs
    obtain ⟨p', c', rfl, _⟩ := hv.slice_inv
    have harr := args_eq (a := a) e
    refine ⟨_, rfl, pdid (fun w => ?_) (.flat rfl)⟩
    rw [builtin_run ho hb, harr]
    simp [Go.builtin, Builtin.len_, hd_eq ht, run_under hu, goInt]
  · split at hd
    rotate_left
    · simp at hd
    rw [fNat_eq, len_eq] at hd
    simp only [Option.some.injEq] at hd
    subst hd
    obtain ⟨u, e, hv⟩ := one_eq hargs
    obtain rfl := hv.str_inv
    have harr := args_eq (a := a) e
    refine ⟨_, rfl, pdid (fun w => ?_) (.flat rfl)⟩
    rw [builtin_run ho hb, harr]
    simp [Go.builtin, Builtin.len_, hd_eq ht, run_under hu, goInt]
    rfl
  · simp at hd
theorem did_cap {c : Call} (ho : o.op = .call c) (hb : c.callee = .builtin .cap) (hR : Rep μ m w) (hF : FrR μ m.next fr n a) {l : List Value} (hl : opds fr c.args.toList = some l) {d : Did} (hd : capOp P m c l = some d) : DidOk P μ m w o a d := by
  have hargs := opds_ok hF hl
  unfold capOp at hd
  split at hd
  rotate_left
  · simp at hd
  rename_i t l0 ht
  split at hd
  rotate_left
  · simp at hd
  rename_i e0 hu
  split at hd
  rotate_left
  · simp at hd
  rename_i p0 k0 c0
  split at hd
  · simp at hd
  rename_i hcap
  simp only [Option.some.injEq] at hd
  subst hd
  obtain ⟨u, e, hv⟩ := one_eq hargs
  have key : ∃ p' k, u = .slice p' k c0 := by
    cases hv with
    | flat hf => exact ⟨_, _, rfl⟩
    | slice _ _ => exact ⟨_, _, rfl⟩
    | sliceAny _ _ _ => simp at hcap
    | nowhere => simp at hcap
  obtain ⟨p', k, rfl⟩ := key
  have harr := args_eq (a := a) e
  refine did_val hR ?_ (.flat rfl)
  rw [builtin_run ho hb, harr]
  simp [Go.builtin, Builtin.cap_, hd_eq ht, run_under hu, goInt]
theorem did_func {c : Call} {f : Operand} (ho : o.op = .call c) (hb : c.callee = .value f) (hR : Rep μ m w) (hF : FrR μ m.next fr n a) {l : List Value} (hl : opds fr c.args.toList = some l) {g : FuncId} {first captured : Array Value}
    (hf : opd fr f = some (.func (.func g) first captured)) {d : Did} (hd : funcOp P m g (joinV first.toList (joinV l captured.toList)) = some d) : DidOk P μ m w o a d := by
  have hargs := opds_ok hF hl
  have hv := opd_ok hF hf
  have key : ∃ p' q', a.eval f = .func (.func g) ⟨p'⟩ ⟨q'⟩ ∧ VRs μ m.next first.toList p' ∧ VRs μ m.next captured.toList q' := by
    generalize a.eval f = u at hv
    cases hv with
    | flat hf => simp [flat1] at hf
    | func h1 h2 => exact ⟨_, _, rfl, h1, h2⟩
  obtain ⟨p', q', he, h1, h2⟩ := key
  have harr := args_eq (a := a) (xs := c.args) rfl
  have hall : VRs μ m.next (joinV first.toList (joinV l captured.toList)) (p' ++ (c.args.toList.map a.eval ++ q')) := by
    rw [joinV_eq, joinV_eq]
    exact h1.append (hargs.append h2)
  have hex : (execOp a.eval o).run P w = (callFunc g ⟨p' ++ (c.args.toList.map a.eval ++ q')⟩).run P w := by
    have e2 : (⟨p'⟩ : Array Value) ++ ⟨c.args.toList.map a.eval⟩ ++ ⟨q'⟩ = ⟨p' ++ (c.args.toList.map a.eval ++ q')⟩ := by apply Array.ext'; simp
    simp only [execOp, ho, resolve, hb, he, Deferred.ofValue, harr, Sem.run_bind, Sem.run_pure, Result.andThen_ok, invoke, e2]
  generalize joinV first.toList (joinV l captured.toList) = L at hd hall
  generalize p' ++ (c.args.toList.map a.eval ++ q') = L' at hall hex
  unfold funcOp at hd
  split at hd
  rotate_left
  · simp at hd
  rename_i fn hfn
  split at hd
  · simp at hd
  rename_i hname
  split at hd
  · rename_i body hbody
    simp only [Option.some.injEq] at hd
    subst hd
    refine ⟨L', ?_, hall, rfl⟩
    rw [hex]
    simp [callFunc, hfn, hbody]
    intro hh
    simp [hh] at hname
  · split at hd
    rotate_left
    · simp at hd
    rename_i hflat
    split at hd
    rotate_left
    · simp at hd
    rename_i v hrun
    split at hd
    rotate_left
    · simp at hd
    rename_i hfv
    simp only [fVal_eq, Option.some.injEq] at hd
    subst hd
    have e := hall.same2 (flat2_mem hflat)
    subst e
    exact did_val hR (by rw [hex]; exact pureRun_run P _ _ hrun w) (.of_flatV hfv)
theorem did_clear {c : Call} (ho : o.op = .call c) (hb : c.callee = .builtin .clear) (hR : Rep μ m w) (hF : FrR μ m.next fr n a) {l : List Value} (hl : opds fr c.args.toList = some l) {d : Did} (hd : clearOp P m c l = some d) : DidOk P μ m w o a d := by
  have hargs := opds_ok hF hl
  unfold clearOp at hd
  split at hd
  rotate_left
  · simp at hd
  rename_i p k cp
  split at hd
  rotate_left
  · simp at hd
  rename_i t hat
  split at hd
  rotate_left
  · simp at hd
  rename_i e hu
  have hat' : c.argTypes = #[t] := by apply Array.ext'; simpa using hat
  obtain ⟨x', hl', hv⟩ : ∃ x', c.args.toList.map a.eval = [x'] ∧ VR μ m.next (.slice p k cp) x' := by
    generalize c.args.toList.map a.eval = q at hargs
    cases hargs with
    | cons h1 h2 => cases h2; exact ⟨_, rfl, h1⟩
  have harr := args_eq (a := a) hl'
  obtain ⟨p', c', rfl, _⟩ := hv.slice_inv
  split at hd
  · simp only [Option.some.injEq] at hd
    subst hd
    refine did_val hR (v' := .tuple #[]) ?_ .undef
    rw [builtin_run ho hb, harr, hat']
    cases p' <;> simp [Go.builtin, Builtin.clear_, run_under hu]
  · rename_i k
    cases p with
    | none => simp at hd
    | some q =>
    simp only at hd
    split at hd
    rotate_left
    · simp at hd
    rename_i zero hz
    split at hd
    rotate_left
    · simp at hd
    rename_i z hs
    split at hd
    rotate_left
    · simp at hd
    rename_i hc
    rw [Bool.and_eq_true, Nat.beq_eq, len_eq, Nat.add_zero] at hc
    obtain ⟨hf, hzl⟩ := hc
    obtain ⟨zv, hzv, hzc⟩ := run_zero (w := w) hz
    have hrep : VRs μ m.next (repN k.succ zero) (repN k.succ zero) := .of_flats (by
      intro u hu
      rw [repN_eq] at hu
      obtain ⟨l1, hl1, hu⟩ := List.mem_flatten.1 hu
      obtain ⟨_, e1⟩ := List.mem_replicate.1 hl1
      exact flats_mem hf u (e1 ▸ hu))
    have e2 := zeros_eq zv.cells k.succ z (by rw [← hzl, ← hzc]; simp)
    rw [hzc] at e2
    have e3 : (Builtin.zeroCells zv.cells k.succ).toList = repN k.succ zero := by
      have h0 : zv.cells.size = z := by rw [← hzl, ← hzc]; simp
      unfold Builtin.zeroCells
      rw [h0] at e2 ⊢
      rw [e2]
    have key : ∀ b f, q = ⟨b, f, none⟩ → p' = some ⟨(μ b).blk, (μ b).base + f, none⟩ → DidOk P μ m w o a d := by
      rintro b f rfl rfl
      obtain ⟨m', w', hk, hok, _, hrun, _⟩ := wr_ok (P := P) hR hd hrep
      simp only [Option.some.injEq] at hk
      subst hk
      refine ⟨μ, w', .tuple #[], ?_, hok, .undef⟩
      rw [builtin_run ho hb, harr, hat']
      simp [Go.builtin, Builtin.clear_, run_under hu, hzv, e3, hrun]
    cases hv with
    | flat hf => simp [flat1] at hf
    | slice hb hc => exact key _ _ rfl rfl
    | sliceAny hb hc hr => exact key _ _ rfl rfl
theorem did_call {c : Call} (ho : o.op = .call c) (hR : Rep μ m w) (hF : FrR μ m.next fr n a) {d : Did} (hd : callOp P fr m o c = some d) : DidOk P μ m w o a d := by
  have hsel : ∀ cs b, o.op ≠ .select cs b := fun cs b h => by rw [ho] at h; cases h
  unfold callOp at hd
  split at hd
  rotate_left
  · simp at hd
  rename_i l hl
  split at hd
  · rename_i b hb
    split at hd
    · obtain ⟨v, e, hp⟩ := len_pure ho hb hF hl hd
      rw [e]
      exact hp.did hR
    · exact did_cap ho hb hR hF hl hd
    · exact did_append ho hb hR hF hl hd
    · exact did_clear ho hb hR hF hl hd
    · exact plain_ok hR hF hsel hd
    · exact plain_ok hR hF hsel hd
    · exact plain_ok hR hF hsel hd
    · exact plain_ok hR hF hsel hd
    · exact plain_ok hR hF hsel hd
    · simp at hd
  · rename_i f hb
    split at hd
    · rename_i g first captured hf
      exact did_func ho hb hR hF hl hf hd
    · simp at hd
  · simp at hd

theorem did_iface {t : TypeId} {x : Operand} (ho : o.op = .makeInterface t x) (hF : FrR μ m.next fr n a) {D : TypeDesc} (hu : P.underlying t = some D) (hi : isIfaceD D = false) {v : Value} (h : opd fr x = some v) : PDid P μ m.next o a (.iface t v) :=
  pdid (fun w => by
    simp only [execOp, ho, Instr.makeInterface, Sem.run_bind, run_under hu, Result.andThen_ok]
    cases D <;> first | (simp [isIfaceD] at hi; done) | simp) (.iface (opd_ok hF h))
theorem giveV_ok (hR : Rep μ m w) {v : Value} {d : Did} (hd : giveV m (some v) = some d) (h : DidOk P μ m w o a (.val v m)) : DidOk P μ m w o a d := by
  simp only [giveV, fVal_eq, Option.some.injEq] at hd
  subst hd
  exact h

theorem step_ok (hR : Rep μ m w) (hF : FrR μ m.next fr n a) {d : Did} (hd : stepOp P fr m o = some d) : DidOk P μ m w o a d := by
  rw [stepOp_eq] at hd
  split at hd
  case h_1 x ho =>
    unfold sMove at hd
    split at hd
    · rename_i v h; simp only [Option.some.injEq] at hd; subst hd; exact (did_move (.inl ho) hF h).did hR
    · simp at hd
  case h_2 x ho =>
    unfold sMove at hd
    split at hd
    · rename_i v h; simp only [Option.some.injEq] at hd; subst hd; exact (did_move (.inr ho) hF h).did hR
    · simp at hd
  case h_3 c x y ho =>
    unfold sPick at hd
    split at hd
    · rename_i hc
      split at hd
      · rename_i u v h1 h2; simp only [Option.some.injEq] at hd; subst hd; exact (did_pick ho hF hc h1 h2).did hR
      · simp at hd
    · rename_i hc
      split at hd
      · rename_i u v h1 h2; simp only [Option.some.injEq] at hd; subst hd; exact (did_pick ho hF hc h1 h2).did hR
      · simp at hd
    · simp at hd
  case h_4 e ho =>
    unfold sAlloc at hd
    split at hd
    · rename_i l h
      split at hd
      · rename_i hf; exact did_alloc ho hR h hf hd
      · simp at hd
    · simp at hd
  case h_5 e x ho =>
    unfold sBox at hd
    split at hd
    · rename_i v h; exact did_box ho hR hF h hd
    · simp at hd
  case h_6 t ps ho =>
    unfold sBuild at hd
    split at hd
    · rename_i zero D q hz hu hp
      split at hd
      · rename_i hf
        split at hd
        · rename_i fields
          split at hd
          · rename_i l hl
            split at hd
            · rename_i hall; simp only [Option.some.injEq] at hd; subst hd; exact did_build ho hR hF hz hu hp hf (.inl ⟨_, rfl, hall, hl⟩)
            · simp at hd
          · simp at hd
        · rename_i k e
          split at hd
          · rename_i z hs
            split at hd
            · rename_i l hl; simp only [Option.some.injEq] at hd; subst hd; exact did_build ho hR hF hz hu hp hf (.inr ⟨_, _, _, rfl, hs, hl⟩)
            · simp at hd
          · simp at hd
        · simp at hd
      · simp at hd
    · simp at hd
  case h_7 t k ps ho =>
    unfold sBuildSlice at hd
    split at hd
    · rename_i e hu
      split at hd
      · rename_i zero z q hz hs hp
        split at hd
        · rename_i hc
          simp only [Bool.and_eq_true, Nat.beq_eq, Nat.ble_eq, Nat.blt_eq, len_eq, Nat.add_zero] at hc
          obtain ⟨⟨⟨c1, c2⟩, c3⟩, c4⟩ := hc
          split at hd
          · rename_i l hl; exact did_buildSlice ho hR hF hu hz hs hp c1 c2 c3 c4 hl hd
          · simp at hd
        · simp at hd
      · simp at hd
    · simp at hd
  case h_8 t x ho =>
    unfold sLoad at hd
    split at hd
    · rename_i p h
      split at hd
      · rename_i v hl; simp only [Option.some.injEq] at hd; subst hd; exact did_load ho hR hF h hl
      · simp at hd
    · simp at hd
  case h_9 t x y ho =>
    unfold sStore at hd
    split at hd
    · rename_i p v z h1 h2 hz
      split at hd
      · rename_i hb; exact did_store ho hR hF h1 h2 hz (by simpa using hb) hd
      · simp at hd
    · simp at hd
  case h_10 x ho =>
    unfold sNilCheck at hd
    split at hd
    · rename_i p h; simp only [Option.some.injEq] at hd; subst hd; exact (did_nilCheck ho hF h (.inl ⟨_, rfl⟩)).did hR
    · rename_i p k c h; simp only [Option.some.injEq] at hd; subst hd; exact (did_nilCheck ho hF h (.inr (.inl ⟨_, _, _, rfl⟩))).did hR
    · rename_i f p q h; simp only [Option.some.injEq] at hd; subst hd; exact (did_nilCheck ho hF h (.inr (.inr ⟨_, _, _, rfl⟩))).did hR
    · simp at hd
  case h_11 op t x y yt ho =>
    unfold sBinOp at hd
    have hsel : ∀ cs b, o.op ≠ .select cs b := fun cs b h => by rw [ho] at h; cases h
    split at hd
    · rename_i k p k2 q h1 h2
      split at hd
      · rename_i v hv
        simp only [fVal_eq] at hd
        split at hd
        · rename_i hf; simp only [Option.some.injEq] at hd; subst hd; exact (did_binInt ho hF h1 h2 hv hf).did hR
        · simp at hd
      · simp at hd
    · rename_i p q h1 h2; obtain ⟨v, e, hp⟩ := str_pure ho hF h1 h2 hd; rw [e]; exact hp.did hR
    · rename_i u v _ _ h1 h2
      split at hd
      · split at hd
        · rename_i q hq; simp only [Option.some.injEq] at hd; subst hd; exact ((did_nilEq ho hF h1 h2 hq).1 rfl).did hR
        · exact plain_ok hR hF hsel hd
      · split at hd
        · rename_i q hq; simp only [Option.some.injEq] at hd; subst hd; exact ((did_nilEq ho hF h1 h2 hq).2 rfl).did hR
        · exact plain_ok hR hF hsel hd
      · exact plain_ok hR hF hsel hd
    · simp at hd
  case h_12 ho => exact plain_ok hR hF (fun cs b h => by rw [ho] at h; cases h) hd
  case h_13 s t x ho =>
    unfold sConvert at hd
    have hsel : ∀ cs b, o.op ≠ .select cs b := fun cs b h => by rw [ho] at h; cases h
    split at hd
    · rename_i l h
      split at hd
      · rename_i e hs ht
        split at hd
        · rename_i he; exact did_strBytes ho hR hF h hs ht he hd
        · simp at hd
      · rename_i hs ht; simp only [Option.some.injEq] at hd; subst hd; exact did_strStr ho hR hF h hs ht
      · simp at hd
    · rename_i p k c h
      split at hd
      · rename_i e hs ht
        split at hd
        · rename_i he; exact did_bytesStr ho hR hF h hs ht he hd
        · simp at hd
      · rename_i e0 e hs ht
        split at hd
        · rename_i b f hst he; exact did_bytesBytes ho hR hF h hs ht (Nat.eq_of_beq_eq_true hst) he hd
        · simp at hd
      · simp at hd
    · exact plain_ok hR hF hsel hd
  case h_14 fn first captured ho =>
    unfold sMakeFunc at hd
    split at hd
    · split at hd
      · rename_i p q h1 h2; simp only [Option.some.injEq] at hd; subst hd; exact (did_makeFunc ho hF h1 h2).did hR
      · simp at hd
    · simp at hd
  case h_15 t x y ho =>
    unfold sMakeSlice at hd
    split at hd
    · rename_i e u v hu h1 h2
      split at hd
      · rename_i l c zero z by_ hl hc hz hs hb
        split at hd
        · rename_i hcond
          simp only [Bool.and_eq_true, Nat.beq_eq, Nat.ble_eq, len_eq, Nat.add_zero] at hcond
          obtain ⟨⟨⟨⟨c1, c2⟩, c3⟩, c4⟩, c5⟩ := hcond
          exact did_makeSlice ho hR hF hu h1 h2 hl hc hz hs hb c1 c2 c3 c4 c5 hd
        · simp at hd
      · simp at hd
    · simp at hd
  case h_16 t x lo hi mx ho =>
    unfold sliceOp at hd
    split at hd
    · rename_i s l h hx hl hh hq
      split at hd
      · rename_i hu; exact did_sliceStr ho hR hF hx hl hh hq hu hd
      · simp at hd
    · rename_i p k c l h q hx hl hh hq
      split at hd
      · rename_i e hu
        split at hd
        · rename_i z hz; exact did_sliceSl ho hR hF hx hl hh hq hu hz hd
        · simp at hd
      · simp at hd
    · rename_i p l h q hx hl hh hq
      split at hd
      · rename_i k e hu
        split at hd
        · rename_i hk
          split at hd
          · rename_i z hz; exact did_sliceArr ho hR hF hx hl hh hq hu (by simpa [Nat.blt_eq] using hk) hz hd
          · simp at hd
        · simp at hd
      · simp at hd
    · simp at hd
  case h_17 s x f ho =>
    unfold sFieldAddr at hd
    split at hd
    · rename_i p fields h hu
      split at hd
      · rename_i g hg
        split at hd
        · rename_i z hz; exact giveV_ok hR hd ((did_fieldAddr ho hF h hu hg hz).did hR)
        · simp at hd
      · simp at hd
    · simp at hd
  case h_18 t x f ho =>
    unfold sField at hd
    split at hd
    · rename_i cs fields h hu
      split at hd
      · rename_i g hg
        split at hd
        · rename_i v hp; simp only [Option.some.injEq] at hd; subst hd; exact (did_field ho hF h hu hg hp).did hR
        · simp at hd
      · simp at hd
    · simp at hd
  case h_19 t x y ho =>
    unfold sIndexAddr at hd
    split at hd
    · rename_i p k c u e h hi hu
      split at hd
      · rename_i i z hin hz
        split at hd
        · rename_i hlt; exact giveV_ok hR hd ((did_indexAddrS ho hF h hi hu hin hz (by simpa [Nat.blt_eq] using hlt)).did hR)
        · simp at hd
      · simp at hd
    · rename_i p u k e h hi hu
      split at hd
      · rename_i i z hin hz
        split at hd
        · rename_i hlt; exact giveV_ok hR hd ((did_indexAddrP ho hF h hi hu hin hz (by simpa [Nat.blt_eq] using hlt)).did hR)
        · simp at hd
      · simp at hd
    · simp at hd
  case h_20 t x y ho =>
    unfold sIndex at hd
    split at hd
    · rename_i cs u k e h hi hu
      split at hd
      · rename_i i z hin hz
        split at hd
        · rename_i hlt
          split at hd
          · rename_i v hp; simp only [Option.some.injEq] at hd; subst hd; exact (did_index ho hF h hi hu hin hz (by simpa [Nat.blt_eq] using hlt) hp).did hR
          · simp at hd
        · simp at hd
      · simp at hd
    · rename_i s u h hi hu
      split at hd
      · rename_i i hin
        split at hd
        · rename_i b hb; rw [fNat_eq] at hd; simp only [Option.some.injEq] at hd; subst hd; exact (did_indexStr ho hF h hi hu hin hb).did hR
        · simp at hd
      · simp at hd
    · simp at hd
  case h_21 x i ho =>
    unfold sExtract at hd
    split at hd
    · rename_i l h
      split at hd
      · rename_i v hv; simp only [Option.some.injEq] at hd; subst hd; exact (did_extract ho hF h hv).did hR
      · simp at hd
    · simp at hd
  case h_22 c ho => exact did_call ho hR hF hd
  case h_23 t x ho =>
    unfold sMakeInterface at hd
    split at hd
    · rename_i D hu
      split at hd
      · simp at hd
      · rename_i hi
        split at hd
        · rename_i v h; simp only [Option.some.injEq] at hd; subst hd; exact (did_iface ho hF hu hi h).did hR
        · simp at hd
    · simp at hd
  case h_24 => simp at hd

theorem giveV_pure {v : Value} {d : Did} (hd : giveV m (some v) = some d) {nx : Nat} (h : PDid P μ nx o a v) : ∃ v, d = .val v m ∧ PDid P μ nx o a v := by
  simp only [giveV, fVal_eq, Option.some.injEq] at hd
  exact ⟨v, hd.symm, h⟩
theorem pure_ok (hF : FrR μ m.next fr n a) (hn : noMem o = true) {d : Did} (hd : stepOp P fr m o = some d) : ∃ v, d = .val v m ∧ PDid P μ m.next o a v := by
  rw [stepOp_eq] at hd
  split at hd
  case h_1 x ho =>
    unfold sMove at hd
    split at hd
    · rename_i v h; simp only [Option.some.injEq] at hd; exact ⟨_, hd.symm, did_move (.inl ho) hF h⟩
    · simp at hd
  case h_2 x ho =>
    unfold sMove at hd
    split at hd
    · rename_i v h; simp only [Option.some.injEq] at hd; exact ⟨_, hd.symm, did_move (.inr ho) hF h⟩
    · simp at hd
  case h_3 c x y ho =>
    unfold sPick at hd
    split at hd
    · rename_i hc
      split at hd
      · rename_i u v h1 h2; simp only [Option.some.injEq] at hd; exact ⟨_, hd.symm, did_pick ho hF hc h1 h2⟩
      · simp at hd
    · rename_i hc
      split at hd
      · rename_i u v h1 h2; simp only [Option.some.injEq] at hd; exact ⟨_, hd.symm, did_pick ho hF hc h1 h2⟩
      · simp at hd
    · simp at hd
  case h_10 x ho =>
    unfold sNilCheck at hd
    split at hd
    · rename_i p h; simp only [Option.some.injEq] at hd; exact ⟨_, hd.symm, did_nilCheck ho hF h (.inl ⟨_, rfl⟩)⟩
    · rename_i p k c h; simp only [Option.some.injEq] at hd; exact ⟨_, hd.symm, did_nilCheck ho hF h (.inr (.inl ⟨_, _, _, rfl⟩))⟩
    · rename_i f p q h; simp only [Option.some.injEq] at hd; exact ⟨_, hd.symm, did_nilCheck ho hF h (.inr (.inr ⟨_, _, _, rfl⟩))⟩
    · simp at hd
  case h_11 op t x y yt ho =>
    unfold sBinOp at hd
    have hsel : ∀ cs b, o.op ≠ .select cs b := fun cs b h => by rw [ho] at h; cases h
    split at hd
    · rename_i k p k2 q h1 h2
      split at hd
      · rename_i v hv
        simp only [fVal_eq] at hd
        split at hd
        · rename_i hf; simp only [Option.some.injEq] at hd; exact ⟨_, hd.symm, did_binInt ho hF h1 h2 hv hf⟩
        · simp at hd
      · simp at hd
    · rename_i p q h1 h2; exact str_pure ho hF h1 h2 hd
    · rename_i u v _ _ h1 h2
      split at hd
      · split at hd
        · rename_i q hq; simp only [Option.some.injEq] at hd; exact ⟨_, hd.symm, (did_nilEq ho hF h1 h2 hq).1 rfl⟩
        · exact plain_pure hF hsel hd
      · split at hd
        · rename_i q hq; simp only [Option.some.injEq] at hd; exact ⟨_, hd.symm, (did_nilEq ho hF h1 h2 hq).2 rfl⟩
        · exact plain_pure hF hsel hd
      · exact plain_pure hF hsel hd
    · simp at hd
  case h_12 ho => exact plain_pure hF (fun cs b h => by rw [ho] at h; cases h) hd
  case h_14 fn first captured ho =>
    unfold sMakeFunc at hd
    split at hd
    · split at hd
      · rename_i p q h1 h2; simp only [Option.some.injEq] at hd; exact ⟨_, hd.symm, did_makeFunc ho hF h1 h2⟩
      · simp at hd
    · simp at hd
  case h_17 s x f ho =>
    unfold sFieldAddr at hd
    split at hd
    · rename_i p fields h hu
      split at hd
      · rename_i g hg
        split at hd
        · rename_i z hz; exact giveV_pure hd (did_fieldAddr ho hF h hu hg hz)
        · simp at hd
      · simp at hd
    · simp at hd
  case h_18 t x f ho =>
    unfold sField at hd
    split at hd
    · rename_i cs fields h hu
      split at hd
      · rename_i g hg
        split at hd
        · rename_i v hp; simp only [Option.some.injEq] at hd; exact ⟨_, hd.symm, did_field ho hF h hu hg hp⟩
        · simp at hd
      · simp at hd
    · simp at hd
  case h_19 t x y ho =>
    unfold sIndexAddr at hd
    split at hd
    · rename_i p k c u e h hi hu
      split at hd
      · rename_i i z hin hz
        split at hd
        · rename_i hlt; exact giveV_pure hd (did_indexAddrS ho hF h hi hu hin hz (by simpa [Nat.blt_eq] using hlt))
        · simp at hd
      · simp at hd
    · rename_i p u k e h hi hu
      split at hd
      · rename_i i z hin hz
        split at hd
        · rename_i hlt; exact giveV_pure hd (did_indexAddrP ho hF h hi hu hin hz (by simpa [Nat.blt_eq] using hlt))
        · simp at hd
      · simp at hd
    · simp at hd
  case h_20 t x y ho =>
    unfold sIndex at hd
    split at hd
    · rename_i cs u k e h hi hu
      split at hd
      · rename_i i z hin hz
        split at hd
        · rename_i hlt
          split at hd
          · rename_i v hp; simp only [Option.some.injEq] at hd; exact ⟨_, hd.symm, did_index ho hF h hi hu hin hz (by simpa [Nat.blt_eq] using hlt) hp⟩
          · simp at hd
        · simp at hd
      · simp at hd
    · rename_i s u h hi hu
      split at hd
      · rename_i i hin
        split at hd
        · rename_i b hb; rw [fNat_eq] at hd; simp only [Option.some.injEq] at hd; exact ⟨_, hd.symm, did_indexStr ho hF h hi hu hin hb⟩
        · simp at hd
      · simp at hd
    · simp at hd
  case h_21 x i ho =>
    unfold sExtract at hd
    split at hd
    · rename_i l h
      split at hd
      · rename_i v hv; simp only [Option.some.injEq] at hd; exact ⟨_, hd.symm, did_extract ho hF h hv⟩
      · simp at hd
    · simp at hd
  case h_22 c ho =>
    unfold noMem at hn
    rw [ho] at hn
    simp only at hn
    split at hn
    · rename_i b hb
      split at hn
      · unfold callOp at hd
        rw [hb] at hd
        simp only at hd
        split at hd
        · rename_i l hl; exact len_pure ho hb hF hl hd
        · simp at hd
      · simp at hn
    · simp at hn
  case h_24 => simp at hd
  all_goals
    rename_i ho
    unfold noMem at hn
    rw [ho] at hn
    simp at hn
end
end Go.Proofs.YtloolljoelngcaaGreat
