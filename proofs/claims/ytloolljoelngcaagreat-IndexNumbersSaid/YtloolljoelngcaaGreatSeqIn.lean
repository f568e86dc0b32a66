/-
  AppendSeq over maps.Values, as an instance.
-/
import Derived.Test.YtloolljoelngcaaGreatCz
import Derived.Test.YtloolljoelngcaaGreatSeqOk
namespace Go.Proofs.YtloolljoelngcaaGreat
open Go.RowKit
theorem isG_enc {v : Value} (h : isG v = true) : ∃ c : VV, v = encG c := by
  unfold isG at h
  split at h
  · rename_i p n k q m j
    exact ⟨⟨p, n, k, q, m, j⟩, rfl⟩
  · cases h
theorem seqNone_here : SeqNone Tryz.prog 125 109 := fun w B off r clock hB hm hb => seq_none w B off r clock hB hm hb
theorem seqTwo_here : SeqTwo Tryz.prog 125 109 := by
  intro w B off r clock k1 k2 v1 v2 b1 b2 hB hm hb h1 h2 hk hb1 hb2 hbb hl1 hl2
  obtain ⟨c1, rfl⟩ := isG_enc h1
  obtain ⟨c2, rfl⟩ := isG_enc h2
  refine (seq_two w B off r clock k1 k2 c1 c2 b1 b2 hB hm hb hk hb1 hb2 hbb hl1 hl2).mono ?_
  rintro e w' ⟨xs, hx, g, cap, cur, rfl, h3, h4, h5, h6, h7, h8⟩
  refine ⟨xs.map encG, ?_, g, cap, cur, 68, rfl, h3, h4, h5, h6, ?_, h8⟩
  · rcases hx with rfl | rfl
    · exact .inl rfl
    · exact .inr rfl
  · rw [h7, List.flatMap_map]
    rfl
noncomputable instance seqInst : SeqOk Tryz.prog := ⟨125, 109, seqNone_here, seqTwo_here⟩
end Go.Proofs.YtloolljoelngcaaGreat
