/-
  The evaluator's plain lemmas: trees, lists, the relation of values.
-/
import Derived.Test.YtloolljoelngcaaGreatEv
import Derived.Laws.Sem
namespace Go.Proofs.YtloolljoelngcaaGreat

theorem beq_cases (n : Nat) : (Nat.beq n 0 = true ∧ n = 0) ∨ (Nat.beq n 0 = false ∧ n ≠ 0) := by
  cases n <;> simp [Nat.beq]
theorem Tr.get_leaf {α : Type} (n : Nat) : (Tr.leaf : Tr α).get n = none := by cases n <;> rfl
theorem Tr.get_node {α : Type} (l r : Tr α) (x : Option α) (n : Nat) :
    (Tr.node l x r).get n = if n = 0 then x else if (n - 1) % 2 = 0 then l.get ((n - 1) / 2) else r.get ((n - 1) / 2) := by
  cases n with
  | zero => rw [if_pos rfl]; rfl
  | succ n =>
    have h0 : (Tr.node l x r).get (n + 1) = (Bool.rec (motive := fun _ => Option α) (r.get (n / 2)) (l.get (n / 2)) (Nat.beq (n % 2) 0)) := rfl
    rw [h0]
    rcases beq_cases (n % 2) with ⟨h, e⟩ | ⟨h, e⟩ <;> simp [h, e]
theorem Tr.upd_spec {α β : Type} : ∀ (d : Nat) (t : Tr α) (n : Nat) (v : Option α) (k : Tr α → Option β) (r : β), Tr.upd d t n v k = some r →
    ∃ t', k t' = some r ∧ ∀ m, t'.get m = if m = n then v else t.get m := by
  intro d
  induction d with
  | zero => intro t n v k r h; simp [Tr.upd] at h
  | succ d ih =>
    intro t n v k r h
    cases t with
    | leaf =>
      cases n with
      | zero => exact ⟨_, h, fun m => by rw [Tr.get_node]; simp only [Tr.get_leaf]; split <;> simp⟩
      | succ n =>
        have h : (Bool.rec (motive := fun _ => Option β) (Tr.upd d .leaf (n / 2) v fun r => k (.node .leaf none r)) (Tr.upd d .leaf (n / 2) v fun l => k (.node l none .leaf)) (Nat.beq (n % 2) 0)) = some r := h
        rcases beq_cases (n % 2) with ⟨hb, e⟩ | ⟨hb, e⟩ <;> rw [hb] at h <;> simp only at h
        all_goals
          obtain ⟨t', hk, hg⟩ := ih _ _ _ _ _ h
          refine ⟨_, hk, fun m => ?_⟩
          rw [Tr.get_node]
          simp only [Tr.get_leaf, hg]
          by_cases h0 : m = 0
          · simp [h0]
          · rw [if_neg h0]
            by_cases h1 : (m - 1) % 2 = 0 <;> simp only [h1, if_true, if_false]
            all_goals
              by_cases h2 : m = n + 1
              · subst h2
                simp_all
              · rw [if_neg h2]
                try (rw [if_neg (by omega)])
    | node l x q =>
      cases n with
      | zero => exact ⟨_, h, fun m => by rw [Tr.get_node, Tr.get_node]; split <;> simp⟩
      | succ n =>
        have h : (Bool.rec (motive := fun _ => Option β) (Tr.upd d q (n / 2) v fun r => k (.node l x r)) (Tr.upd d l (n / 2) v fun l => k (.node l x q)) (Nat.beq (n % 2) 0)) = some r := h
        rcases beq_cases (n % 2) with ⟨hb, e⟩ | ⟨hb, e⟩ <;> rw [hb] at h <;> simp only at h
        all_goals
          obtain ⟨t', hk, hg⟩ := ih _ _ _ _ _ h
          refine ⟨_, hk, fun m => ?_⟩
          rw [Tr.get_node, Tr.get_node]
          simp only [hg]
          by_cases h0 : m = 0
          · simp [h0]
          · rw [if_neg h0]
            by_cases h1 : (m - 1) % 2 = 0 <;> simp only [h1, if_true, if_false]
            all_goals
              by_cases h2 : m = n + 1
              · subst h2
                simp_all
              · rw [if_neg h2]
                first | (rw [if_neg h0]; done) | (rw [if_neg (by omega), if_neg h0])

theorem setBlk_eq {β : Type} (m : Mem) (b : Nat) (x : Option EvBlk) (k : Mem → Option β) :
    setBlk m b x k = m.heap.upd deep b x fun h => fNat (Nat.min b m.low) fun l => k ⟨h, m.next, l⟩ := by cases m; rfl
theorem newBlk_eq {β : Type} (m : Mem) (z : Nat) (cells : List Value) (k : Addr → Mem → Option β) :
    newBlk m z cells k = m.heap.upd deep m.next (some ⟨z, true, cells⟩) fun h => fNat (m.next + 1) fun n => k ⟨m.next, 0, none⟩ ⟨h, n, m.low⟩ := by cases m; rfl
theorem put_eq {β : Type} (s : Stt) (dst : Option Tmp) (v : Value) (m : Mem) (k : Stt → Option β) :
    s.put dst v m k = match dst with
      | none => k ⟨s.fr, s.size, m⟩
      | some d => match Nat.blt d s.size with
        | true => s.fr.upd deep d (some v) fun fr => k ⟨fr, s.size, m⟩
        | false => none := by rw [put_old]; cases s; rfl
theorem leave_eq (m m' : Mem) (v : Value) : leave m m' v = match flatR v && Nat.ble m.next m'.low with
    | true => some (v, ⟨m.heap, m'.next, m.low⟩)
    | false => fNat (Nat.min m.low m'.low) fun low => some (v, ⟨m'.heap, m'.next, low⟩) := by cases m; cases m'; rfl
theorem openMem_eq (m : Mem) : openMem m = ⟨m.heap, m.next, big⟩ := by cases m; rfl

theorem fNat_eq {β : Type} (n : Nat) (k : Nat → Option β) : fNat n k = k n := by cases n <;> rfl
theorem fInt_eq {β : Type} (n : Int) (k : Int → Option β) : fInt n k = k n := by cases n <;> simp [fInt, fNat_eq]
theorem fBytes_eq {β : Type} : ∀ (l : List UInt8) (k : List UInt8 → Option β), fBytes l k = k l
  | [], _ => rfl
  | b :: l, k => by simp [fBytes, fBytes_eq l, fNat_eq]
theorem fVal_eq {β : Type} (v : Value) (k : Value → Option β) : fVal v k = k v := by
  unfold fVal
  split
  · simp [fInt_eq]
  · split <;> rfl
  · simp [fBytes_eq]
  · simp only [fNat_eq]
    split <;> simp
  · simp [fNat_eq]
  · rfl

/-! ### lists -/
theorem len_eq {α : Type} : ∀ (l : List α) (n : Nat), len l n = l.length + n
  | [], n => by simp [len]
  | _ :: l, n => by simp [len, len_eq l]; omega
theorem joinV_eq : ∀ a b : List Value, joinV a b = a ++ b
  | [], _ => rfl
  | v :: a, b => by simp [joinV, joinV_eq a]
theorem joinB_eq : ∀ a b : List UInt8, joinB a b = a ++ b
  | [], _ => rfl
  | v :: a, b => by simp [joinB, joinB_eq a]
theorem nth_eq : ∀ (n : Nat) (l : List Value), nth n l = l[n]?
  | n, [] => by cases n <;> simp [nth]
  | 0, v :: l => by simp [nth]
  | n + 1, v :: l => by simp [nth, nth_eq n l]
theorem nthB_eq : ∀ (n : Nat) (l : List UInt8), nthB n l = l[n]?
  | n, [] => by cases n <;> simp [nthB]
  | 0, v :: l => by simp [nthB]
  | n + 1, v :: l => by simp [nthB, nthB_eq n l]
theorem dropN_eq : ∀ (n : Nat) (l : List Value), dropN n l = l.drop n
  | 0, l => by simp [dropN]
  | n + 1, [] => by simp [dropN]
  | n + 1, v :: l => by simp [dropN, dropN_eq n l]
theorem dropB_eq : ∀ (n : Nat) (l : List UInt8), dropB n l = l.drop n
  | 0, l => by simp [dropB]
  | n + 1, [] => by simp [dropB]
  | n + 1, v :: l => by simp [dropB, dropB_eq n l]
theorem takeN_eq : ∀ (n : Nat) (l r : List Value), takeN n l = some r → r = l.take n ∧ n ≤ l.length
  | 0, l, r, h => by simp [takeN] at h; simp [h]
  | n + 1, [], r, h => by simp [takeN] at h
  | n + 1, v :: l, r, h => by
    rw [takeN] at h
    cases ht : takeN n l with
    | none => rw [ht] at h; simp at h
    | some q =>
      rw [ht] at h
      obtain ⟨h1, h2⟩ := takeN_eq n l q ht
      simp at h
      subst h
      simp [h1, h2]
theorem takeB_eq : ∀ (n : Nat) (l r : List UInt8), takeB n l = some r → r = l.take n ∧ n ≤ l.length
  | 0, l, r, h => by simp [takeB] at h; simp [h]
  | n + 1, [], r, h => by simp [takeB] at h
  | n + 1, v :: l, r, h => by
    rw [takeB] at h
    cases ht : takeB n l with
    | none => rw [ht] at h; simp at h
    | some q =>
      rw [ht] at h
      obtain ⟨h1, h2⟩ := takeB_eq n l q ht
      simp at h
      subst h
      simp [h1, h2]
theorem putN_eq : ∀ (o : Nat) (l us r : List Value), putN o l us = some r → o + us.length ≤ l.length ∧ r = l.take o ++ us ++ l.drop (o + us.length)
  | 0, l, [], r, h => by simp [putN] at h; simp [h]
  | 0, [], _ :: _, r, h => by simp [putN] at h
  | 0, v :: l, u :: us, r, h => by
    rw [putN] at h
    cases ht : putN 0 l us with
    | none => rw [ht] at h; simp at h
    | some q =>
      rw [ht] at h
      obtain ⟨h1, h2⟩ := putN_eq 0 l us q ht
      simp at h h1 h2
      subst h h2
      simp
      exact h1
  | o + 1, [], us, r, h => by simp [putN] at h
  | o + 1, v :: l, us, r, h => by
    rw [putN] at h
    cases ht : putN o l us with
    | none => rw [ht] at h; simp at h
    | some q =>
      rw [ht] at h
      obtain ⟨h1, h2⟩ := putN_eq o l us q ht
      simp at h
      subst h h2
      refine ⟨by simp; omega, ?_⟩
      rw [show o + 1 + us.length = o + us.length + 1 from by omega]
      simp
theorem repN_eq : ∀ (n : Nat) (l : List Value), repN n l = (List.replicate n l).flatten
  | 0, l => by simp [repN]
  | n + 1, l => by simp [repN, joinV_eq, repN_eq n l, List.replicate_succ]
theorem repN_length (n : Nat) (l : List Value) : (repN n l).length = n * l.length := by
  rw [repN_eq]; simp

/-! ### values -/
theorem flats_mem : ∀ {l : List Value}, flats l = true → ∀ v ∈ l, flat1 v = true
  | [], _, v, hv => by simp at hv
  | x :: l, h, v, hv => by
    rw [flats] at h
    cases hx : flat1 x <;> rw [hx] at h
    · simp at h
    · rcases List.mem_cons.1 hv with rfl | hv
      · exact hx
      · exact flats_mem h v hv
theorem oneCells_mem : ∀ {l : List Value}, oneCells l = true → ∀ v ∈ l, oneC v = true
  | [], _, v, hv => by simp at hv
  | x :: l, h, v, hv => by
    rw [oneCells] at h
    cases hx : oneC x <;> rw [hx] at h
    · simp at h
    · rcases List.mem_cons.1 hv with rfl | hv
      · exact hx
      · exact oneCells_mem h v hv
theorem oneC_eq (v : Value) : oneC v = v.oneCell' := by cases v <;> rfl

structure Loc where
  blk : Nat
  base : Nat
  room : Nat
  es : Nat
  sym : Value
abbrev Map := Nat → Loc

mutual
inductive VR (μ : Map) (nx : Nat) : Value → Value → Prop
  | flat {v : Value} : flat1 v = true → VR μ nx v v
  | ptr {b o : Nat} : b < nx → VR μ nx (.pointer (some ⟨b, o, none⟩)) (.pointer (some ⟨(μ b).blk, (μ b).base + o, none⟩))
  | slice {b o n c : Nat} : b < nx → n ≤ c ∧ c < anyCap → VR μ nx (.slice (some ⟨b, o, none⟩) n c) (.slice (some ⟨(μ b).blk, (μ b).base + o, none⟩) n c)
  | sliceAny {b o n c : Nat} : b < nx → n ≤ c → o + c * (μ b).es = (μ b).room → VR μ nx (.slice (some ⟨b, o, none⟩) n anyCap) (.slice (some ⟨(μ b).blk, (μ b).base + o, none⟩) n c)
  | nowhere {a : Addr} {c : Nat} : VR μ nx (.slice (some ⟨nowhere, 0, none⟩) 0 anyCap) (.slice (some a) 0 c)
  | func {f : FuncId} {xs ys us vs : List Value} : VRs μ nx xs ys → VRs μ nx us vs → VR μ nx (.func (.func f) ⟨xs⟩ ⟨us⟩) (.func (.func f) ⟨ys⟩ ⟨vs⟩)
  | agg {xs ys : List Value} : VRs μ nx xs ys → VR μ nx (.agg ⟨xs⟩) (.agg ⟨ys⟩)
  | tuple {xs ys : List Value} : VRs μ nx xs ys → VR μ nx (.tuple ⟨xs⟩) (.tuple ⟨ys⟩)
  | iface {t : TypeId} {v v' : Value} : VR μ nx v v' → VR μ nx (.iface t v) (.iface t v')
  | coin {b : Bool} : VR μ nx (.map (some 0)) (.bool b)
  | tok {i : Nat} : i < nx → oneC (μ i).sym = true → VR μ nx (.chan (some i)) (μ i).sym
inductive VRs (μ : Map) (nx : Nat) : List Value → List Value → Prop
  | nil : VRs μ nx [] []
  | cons {v v' : Value} {l l' : List Value} : VR μ nx v v' → VRs μ nx l l' → VRs μ nx (v :: l) (v' :: l')
end

section
variable {μ μ' : Map} {nx nx' : Nat}
mutual
theorem VR.mono (hn : nx ≤ nx') (hm : ∀ b, b < nx → μ' b = μ b) : ∀ {v v' : Value}, VR μ nx v v' → VR μ' nx' v v'
  | _, _, .flat h => .flat h
  | _, _, .ptr (b := b) h => by rw [← hm b h]; exact .ptr (Nat.lt_of_lt_of_le h hn)
  | _, _, .slice (b := b) h hc => by rw [← hm b h]; exact .slice (Nat.lt_of_lt_of_le h hn) hc
  | _, _, .sliceAny (b := b) h hc hr => by rw [← hm b h] at hr ⊢; exact .sliceAny (Nat.lt_of_lt_of_le h hn) hc hr
  | _, _, .nowhere => .nowhere
  | _, _, .func h k => .func (VRs.mono hn hm h) (VRs.mono hn hm k)
  | _, _, .agg h => .agg (VRs.mono hn hm h)
  | _, _, .tuple h => .tuple (VRs.mono hn hm h)
  | _, _, .iface h => .iface (VR.mono hn hm h)
  | _, _, .coin => .coin
  | _, _, .tok (i := i) h ho => by rw [← hm i h] at ho ⊢; exact .tok (Nat.lt_of_lt_of_le h hn) ho
theorem VRs.mono (hn : nx ≤ nx') (hm : ∀ b, b < nx → μ' b = μ b) : ∀ {l l' : List Value}, VRs μ nx l l' → VRs μ' nx' l l'
  | _, _, .nil => .nil
  | _, _, .cons h k => .cons (VR.mono hn hm h) (VRs.mono hn hm k)
end
theorem VRs.of_flats : ∀ {l : List Value}, (∀ v ∈ l, flat1 v = true) → VRs μ nx l l
  | [], _ => .nil
  | v :: _, h => .cons (.flat (h v List.mem_cons_self)) (VRs.of_flats fun u hu => h u (List.mem_cons_of_mem _ hu))
theorem VR.of_flatV {v : Value} (h : flatV v = true) : VR μ nx v v := by
  unfold flatV at h
  split at h
  · exact .agg (.of_flats (flats_mem h))
  · exact .tuple (.of_flats (flats_mem h))
  · exact .flat h
theorem flat2_mem : ∀ {l : List Value}, flat2 l = true → ∀ v ∈ l, flatV v = true
  | [], _, v, hv => by simp at hv
  | x :: l, h, v, hv => by
    rw [flat2] at h
    cases hx : flatV x <;> rw [hx] at h
    · simp at h
    · rcases List.mem_cons.1 hv with rfl | hv
      · exact hx
      · exact flat2_mem h v hv
theorem VRs.of_flat2 : ∀ {l : List Value}, (∀ v ∈ l, flatV v = true) → VRs μ nx l l
  | [], _ => .nil
  | v :: _, h => .cons (.of_flatV (h v List.mem_cons_self)) (VRs.of_flat2 fun u hu => h u (List.mem_cons_of_mem _ hu))
theorem VR.of_flatR {v : Value} (h : flatR v = true) : VR μ nx v v := by
  unfold flatR at h
  split at h
  · exact .tuple (.of_flat2 (flat2_mem h))
  · exact .of_flatV h
theorem VR.same1 {v v' : Value} (h : VR μ nx v v') (hf : flat1 v = true) : v' = v := by
  cases h with
  | iface h => cases h <;> first | rfl | (simp [flat1] at hf)
  | _ => first | rfl | (simp [flat1] at hf)
theorem VRs.same : ∀ {l l' : List Value}, VRs μ nx l l' → (∀ v ∈ l, flat1 v = true) → l' = l
  | _, _, .nil, _ => rfl
  | _, _, .cons h k, hf => by rw [h.same1 (hf _ List.mem_cons_self), VRs.same k fun v hv => hf v (List.mem_cons_of_mem _ hv)]
theorem VR.sameV {v v' : Value} (h : VR μ nx v v') (hf : flatV v = true) : v' = v := by
  unfold flatV at hf
  split at hf
  · cases h with
    | flat h => rfl
    | agg h => rw [h.same (flats_mem hf)]
  · cases h with
    | flat h => rfl
    | tuple h => rw [h.same (flats_mem hf)]
  · exact h.same1 hf
theorem VRs.same2 : ∀ {l l' : List Value}, VRs μ nx l l' → (∀ v ∈ l, flatV v = true) → l' = l
  | _, _, .nil, _ => rfl
  | _, _, .cons h k, hf => by rw [h.sameV (hf _ List.mem_cons_self), VRs.same2 k fun v hv => hf v (List.mem_cons_of_mem _ hv)]
theorem VR.sameR {v v' : Value} (h : VR μ nx v v') (hf : flatR v = true) : v' = v := by
  unfold flatR at hf
  split at hf
  · cases h with
    | flat h => rfl
    | tuple h => rw [h.same2 (flat2_mem hf)]
  · exact h.sameV hf
theorem VRs.length : ∀ {l l' : List Value}, VRs μ nx l l' → l'.length = l.length
  | _, _, .nil => rfl
  | _, _, .cons _ k => by simp [VRs.length k]
theorem VRs.append : ∀ {l l' m m' : List Value}, VRs μ nx l l' → VRs μ nx m m' → VRs μ nx (l ++ m) (l' ++ m')
  | _, _, _, _, .nil, h => h
  | _, _, _, _, .cons h k, g => .cons h (VRs.append k g)
theorem VRs.get : ∀ {l l' : List Value}, VRs μ nx l l' → ∀ (i : Nat) (v : Value), l[i]? = some v → ∃ v', l'[i]? = some v' ∧ VR μ nx v v'
  | _, _, .nil, i, v, h => by simp at h
  | _, _, .cons h k, 0, v, e => by simp at e; subst e; exact ⟨_, rfl, h⟩
  | _, _, .cons h k, i + 1, v, e => by simp at e; obtain ⟨v', e', h'⟩ := VRs.get k i v e; exact ⟨v', by simpa using e', h'⟩
theorem VRs.of_get : ∀ {l l' : List Value}, l'.length = l.length → (∀ (i : Nat) (v : Value), l[i]? = some v → ∃ v', l'[i]? = some v' ∧ VR μ nx v v') → VRs μ nx l l'
  | [], [], _, _ => .nil
  | [], _ :: _, h, _ => by simp at h
  | _ :: _, [], h, _ => by simp at h
  | v :: l, v' :: l', hl, h => by
    obtain ⟨u, e, hu⟩ := h 0 v rfl
    simp at e
    subst e
    exact .cons hu (VRs.of_get (by simpa using hl) fun i x hx => by
      obtain ⟨u, e, hu⟩ := h (i + 1) x (by simpa using hx)
      exact ⟨u, by simpa using e, hu⟩)
theorem VRs.take : ∀ {l l' : List Value} (n : Nat), VRs μ nx l l' → VRs μ nx (l.take n) (l'.take n)
  | _, _, 0, _ => by simp; exact .nil
  | _, _, _ + 1, .nil => by simp; exact .nil
  | _, _, n + 1, .cons h k => by simp; exact .cons h (VRs.take n k)
theorem VRs.drop : ∀ {l l' : List Value} (n : Nat), VRs μ nx l l' → VRs μ nx (l.drop n) (l'.drop n)
  | _, _, 0, h => by simpa using h
  | _, _, _ + 1, .nil => by simp; exact .nil
  | _, _, n + 1, .cons h k => by simp; exact VRs.drop n k
theorem VR.undef : VR μ nx undef undef := .tuple .nil
theorem oneC_cells {v : Value} (h : oneC v = true) : v.cells.toList = [v] := by cases v <;> first | rfl | simp [oneC] at h
/-- the cells of what is stored -/
theorem VR.cells {v v' : Value} (h : VR μ nx v v') : VRs μ nx v.cells.toList v'.cells.toList := by
  cases h with
  | agg h => exact h
  | flat h => cases v <;> first | exact .cons (.flat h) .nil | (simp [flat1] at h)
  | ptr h => exact .cons (.ptr h) .nil
  | slice h hc => exact .cons (.slice h hc) .nil
  | sliceAny h hc hr => exact .cons (.sliceAny h hc hr) .nil
  | nowhere => exact .cons .nowhere .nil
  | func h k => exact .cons (.func h k) .nil
  | tuple h => exact .cons (.tuple h) .nil
  | iface h => exact .cons (.iface h) .nil
  | coin => exact .cons .coin .nil
  | tok h ho => rw [oneC_cells ho]; exact .cons (.tok h ho) .nil
theorem VR.oneC {v v' : Value} (h : VR μ nx v v') : oneC v' = oneC v := by
  cases h <;> first | rfl | assumption
theorem VRs.oneC : ∀ {l l' : List Value}, VRs μ nx l l' → (∀ v ∈ l, Go.Proofs.YtloolljoelngcaaGreat.oneC v = true) → ∀ v ∈ l', Go.Proofs.YtloolljoelngcaaGreat.oneC v = true
  | _, _, .nil, _, v, hv => by simp at hv
  | _, _, .cons h k, ho, v, hv => by
    rcases List.mem_cons.1 hv with rfl | hv
    · rw [h.oneC]; exact ho _ List.mem_cons_self
    · exact VRs.oneC k (fun u hu => ho u (List.mem_cons_of_mem _ hu)) v hv
end

theorem pureRun_run {α : Type} (P : Program) (s : Sem α) : ∀ (a : α), pureRun P s = some a → ∀ w, s.run P w = .ok a w := by
  induction s with
  | pure a => intro b h w; simp [pureRun] at h; subst h; rfl
  | program k ih => intro b h w; exact ih P b h w
  | mark m k ih => intro b h w; exact ih b h w
  | _ => intro b h; simp [pureRun] at h
end Go.Proofs.YtloolljoelngcaaGreat
