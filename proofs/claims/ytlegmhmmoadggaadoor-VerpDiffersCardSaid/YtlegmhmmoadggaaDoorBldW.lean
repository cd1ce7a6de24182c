/- (*strings.Builder).Write at this translation. -/
import Derived.Test.YtlegmhmmoadggaaDoorBld
namespace Go.Proofs.YtlegmhmmoadggaaDoor
open Go.RowKit
set_option maxHeartbeats 2000000 in
set_option maxRecDepth 100000 in
theorem write_any (b : Nat) (l m : List UInt8) (ad : Addr) (cp : Nat) (w : World) (h : Bld b l w) (hlen : l.length + m.length ≤ 140737488355328) (hBw : b ≤ w.heap.size)
    (had : ad.block ≠ b) (hadl : ad.block < w.heap.size) (hnews : ∀ j u, (Lib.byteCells m)[j]? = some u → w.cell? (ad.add j) = some u) :
    Calls Tryd.prog 62 #[.pointer (some ⟨b, 0, none⟩), .slice (some ad) m.length cp] w fun e w' => e = .returned (.tuple #[.int .i64 m.length, .nilIface]) ∧ Bld b (l ++ m) w' ∧ Below b w w' ∧ Lib.OthersKept 5 (some b) w w' := by
  obtain ⟨i0, hi, hz0, hz1, hz2⟩ := info_parts byte_info
  unfold Bld at h
  have hbl : (Lib.byteCells l).length = l.length := by simp [Lib.byteCells]
  obtain ⟨bs, hbs⟩ : ∃ bs, bs = Lib.byteCells l := ⟨_, rfl⟩
  rw [← hbs] at h hbl
  rw [← hbl] at hlen
  have hml : (Lib.byteCells m).length = m.length := by simp [Lib.byteCells]
  have hmo : ∀ u ∈ Lib.byteCells m, u.oneCell' = true := by intro u hu; simp only [Lib.byteCells, List.mem_map] at hu; obtain ⟨_, _, rfl⟩ := hu; rfl
  obtain ⟨ms, hms⟩ : ∃ ms, ms = Lib.byteCells m := ⟨_, rfl⟩
  rw [← hms] at hml hmo hnews
  have HB := Lib.hid hbs
  have HM := Lib.hid hms
  have HN := Lib.hid hnews
  have HO := Lib.hid hmo
  have HL := Lib.hid hml
  clear hbs hbl hms hnews hmo hml
  obtain ⟨n, hn⟩ : ∃ n, n = m.length := ⟨_, rfl⟩
  rw [← hn] at HL hlen ⊢
  clear hn
  have hadd : ∀ j, (ad.add j).block = ad.block := by intro j; unfold Addr.add; split <;> rfl
  have HA := Lib.hid hadd
  clear hadd
  go_enter Tryd.func62, Tryd.ntmps62
  go_wp2_with (go_at_call 37; refine (copyCheck_any b b bs _ h).mono ?_)
  rintro e w1 ⟨rfl, h1, hb1, hk1, hf1⟩
  obtain ⟨hB, v, hbk, hown, hne⟩ := h1
  have c0 : w1.cell? ⟨b, 0, none⟩ = some (.pointer (some ⟨b, 0, none⟩)) := by rw [Lib.cell_of_heap hbk]; rfl
  have c1 : w1.cell? ⟨b, 1, none⟩ = some v := by rw [Lib.cell_of_heap hbk]; rfl
  go_wp2_with (at_builtin; refine wpList_append_ownF _ rfl _ _ 45 rfl b 5 i0 (.int .u8 0) 1 1 Tryd.underlying45 hi hz0 hz1 hz2 rfl (by decide) _ _ _ rfl hown ad n cp ms rfl ?c0 ?c1 ?c2 ?c3 ?c4 ?c5 ?_)
  case c0 => rw [HL.out]; omega
  case c1 => intro j u hj; exact (hf1.cell (p := ad.add j) (by rw [HA.out]; exact hadl) (by rw [HA.out]; exact had)).trans (HN.out j u hj)
  case c2 => exact HO.out
  case c3 => unfold maxLen; omega
  case c4 => omega
  case c5 => have := hb1.size; omega
  intro v' w2 hown' hgrow _
  have hlt : b < w1.heap.size := lt_block hbk
  have hb2 : w2.heap[b]? = some (.cells #[.pointer (some ⟨b, 0, none⟩), v] 47 (0, 0)) := by
    rw [hgrow.block b hlt (fun e => hne e.symm)]
    exact hbk
  have d0 : w2.cell? ⟨b, 0, none⟩ = some (.pointer (some ⟨b, 0, none⟩)) := by rw [Lib.cell_of_heap hb2]; rfl
  have d1 : w2.cell? ⟨b, 1, none⟩ = some v := by rw [Lib.cell_of_heap hb2]; rfl
  have f1 : w2.frozen? ⟨b, 1, none⟩ = false := Lib.frozen_of_heap hb2 1
  obtain ⟨ao, n', cap, rfl⟩ : ∃ ao n' cap, v' = .slice ao n' cap := by
    rcases hown'.2 with ⟨hv, _⟩ | ⟨g, cap, cur, fz, hv, _⟩
    · exact ⟨_, _, _, hv⟩
    · exact ⟨_, _, _, hv⟩
  go_wp2
  go_ret2
  refine ⟨rfl, .inr ?_, ?_, (hk1.grown hgrow (Lib.ownsRowF_kind hown)).setCell ⟨b, 1, none⟩ rfl _⟩
  · have e : Lib.byteCells (l ++ m) = bs ++ ms := by rw [Lib.byteCells_append, HB.out, HM.out]
    rw [e]
    exact Lib.BuilderAtF.put (T := 47) (e := 5) hB hb2 (bs' := bs ++ ms) (by simpa [HL.out] using hown') (by decide)
  · exact (hb1.grown hgrow (by have := hb1.size; omega) (fun k hk => (hown.lt k hk).1)).setCell (p := ⟨b, 1, none⟩) hB _
theorem Bld.drewN {b : Nat} {l : List UInt8} {w : World} (h : Bld b l w) (n : Nat) : Bld b l (w.drewN n) := by
  rcases h with h | h
  · exact .inl h
  · exact .inr h
end Go.Proofs.YtlegmhmmoadggaaDoor
