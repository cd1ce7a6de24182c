/- A []string that came in, opened. -/
import Derived.Test.YtmapodkdnbbjgaaDoorStrs
import Derived.SliceStrings
import Derived.ProofKit
import Derived.OpenShut
namespace Go.Proofs.YtmapodkdnbbjgaaDoor
open Go.RowKit Sl Go.ChangeShapes Go.WideShapes Go.ChangeAt
theorem open_sv {H : Type} {enc : TypeId × Value → H} {w : World} {base : Nat} {spare held} {r : Reach} {b0 : Nat} {v : Value} {d : DataW H} {p : List MemPlace} (hv : Value.okWide Tryd.prog w r b0 22 v) (h : DataW.Trod enc Tryd.prog w base spare held 22 v d p) :
    ∃ (l : List ByteArray), SV w v l ∧ ∀ s ∈ l, s.size ≤ maxLen := by
  obtain ⟨a0, len, cap, rfl⟩ := okWide_slice Tryd.underlying22 hv
  obtain ⟨fuel, hf⟩ := h
  rcases open_strings Tryd.underlying22 Tryd.underlying9 (by kernel_rfl) hf with ⟨h0, _⟩ | ⟨a, len', cap', ss, hcs, _, hlc, hcm, hlen, _, hcell, hsz⟩
  · simp only [Value.cells, List.cons.injEq, Value.slice.injEq, and_true] at h0
    obtain ⟨rfl, rfl, rfl⟩ := h0
    exact ⟨[], SV.nil w, fun s hs => by cases hs⟩
  · simp only [Value.cells, List.cons.injEq, Value.slice.injEq, and_true] at hcs
    obtain ⟨rfl, rfl, rfl⟩ := hcs
    have hl : len ≤ ss.length := by rw [hlen]; split <;> omega
    have htl : (ss.take len).length = len := by rw [List.length_take]; omega
    refine ⟨ss.take len, ⟨_, cap, by rw [htl], by rw [htl]; exact hlc, hcm, ?_⟩, fun s hs => hsz s (List.mem_of_mem_take hs)⟩
    rcases Nat.eq_zero_or_pos len with h0 | h0
    · left; exact List.length_eq_zero_iff.1 (by omega)
    · obtain ⟨b, o, sp⟩ := a
      have c0 := hcell 0 (by omega)
      have hsp : sp = none := by simpa [Addr.add] using World.cell?_spot c0
      subst hsp
      refine .inr ⟨b, o, rfl, fun i hi => ?_⟩
      have := hcell i (by omega)
      rw [add_flat] at this
      rw [this]
      have hi' : i < len := by omega
      simp [List.getD_eq_getElem?_getD, hi', List.getElem?_eq_getElem (show i < ss.length by omega)]
end Go.Proofs.YtmapodkdnbbjgaaDoor
