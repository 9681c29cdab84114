/- Proved here: the law's of. -/
import Derived.Test.YtgnffkahlniehaaGreatRtShape
import Derived.Lib.ConvBytes
namespace Go.Proofs.YtgnffkahlniehaaGreat
open Go Go.RowKit Go.Proofs.Gs Go.Proofs.Tri Go.Proofs.Rt Go.Proofs.Tp Go.Proofs.Rg

/-- What of makes of a text. -/
def ofM (s : ByteArray) : MsgV := ⟨s, s.data.toList.map (fun x => (x.toNat : Int)), 1, false⟩

theorem bytesRowF {W : World} {s : ByteArray} (hs : s.size ≤ 1000000000) : RowF (fun x => x = W.heap.size) (Lib.bytesWorld W 5 s) 1 (.slice (some ⟨W.heap.size, 0, none⟩) s.size (grownCap W s.size 0 5)) (ofM s).pay.length (payCells (ofM s).pay) := by
  have hl : (ofM s).pay.length = s.size := by simp [ofM]
  refine ⟨⟨by simp [payCells], _, _, by rw [hl], by rw [hl]; exact grownCap_ge _ _ _ _, grownCap_le_maxLen _ _ _ _ (by unfold maxLen; omega), .inr ⟨W.heap.size, 0, rfl, by rw [Lib.bytesWorld_size]; omega, fun j u hu => ?_⟩⟩, fun b e => by simpa [Value.ownBlock] using e.symm⟩
  have hj : j < s.size := by have := (List.getElem?_eq_some_iff.1 hu).1; simpa [payCells, ofM] using this
  rw [Nat.zero_add, Lib.bytesWorld_cell W _ s j hj]
  unfold payCells ofM at hu
  simp only [List.map_map, List.getElem?_map] at hu
  have hg : s.data.toList[j]? = some (s.data.toList.getD j 0) := by
    have hj' : j < s.data.toList.length := by simpa using hj
    rw [List.getD_eq_getElem?_getD, List.getElem?_eq_getElem hj']
    rfl
  rw [hg] at hu
  simpa using hu

theorem bytesBelow (W : World) (e : TypeId) (s : ByteArray) : Below W.heap.size W (Lib.bytesWorld W e s) := by
  refine ⟨?_, ?_, ?_, by rw [Lib.bytesWorld_size]; omega, fun k hk => Lib.bytesWorld_at_old W e s k hk⟩ <;> (unfold Lib.bytesWorld World.freeze; split <;> rfl)

set_option maxHeartbeats 1000000 in
set_option maxRecDepth 100000 in
theorem of_any (s : ByteArray) (w : World) (hs : s.size ≤ 1000000000) :
    Calls Tryz.prog 23 #[.string s] w fun e w' => ∃ v, e = .returned v ∧ MsgVal (Fresh w w') w' v (ofM s) ∧ Below w.heap.size w w' := by
  have hconv : ∀ W : World, (convert 9 34 (.string s)).run Tryz.prog W = .ok (.slice (some ⟨W.heap.size, 0, none⟩) s.size (grownCap W s.size 0 5)) (Lib.bytesWorld W 5 s) := fun W =>
    Lib.run_convert_string_bytes W 9 34 5 s Tryz.underlying9 Tryz.underlying34 Tryz.underlying5
  obtain ⟨W0, hW0⟩ : ∃ W0, w.alloc (.cells #[.string ⟨#[]⟩, .slice none 0 0, .int .i64 0, .bool false] 36) = W0 := ⟨_, rfl⟩
  have g0 : W0.heap[w.heap.size]? = some (.cells #[.string ⟨#[]⟩, .slice none 0 0, .int .i64 0, .bool false] 36 (0, 0)) := by rw [← hW0]; exact (MapKept.heap_alloc w _).1
  have hb0 : Below w.heap.size w W0 := by rw [← hW0]; exact (Below.refl _ _).alloc (Nat.le_refl _) _
  have hs0 : W0.heap.size = w.heap.size + 1 := by rw [← hW0]; simp
  obtain ⟨W1, hW1⟩ : ∃ W1, Lib.bytesWorld W0 5 s = W1 := ⟨_, rfl⟩
  have hrow := bytesRowF (W := W0) hs
  have hb1 := bytesBelow W0 5 s
  have hs1 := Lib.bytesWorld_size W0 5 s
  rw [hW1] at hrow hb1 hs1
  have g1 := (hb1.block w.heap.size (by omega)).trans g0
  have y0 := cell4 g1 0 _ rfl
  have y1 := cell4 g1 1 _ rfl
  have y2 := cell4 g1 2 _ rfl
  have y3 := cell4 g1 3 _ rfl
  have yf := fun j => frozen_of_row W1 w.heap.size j _ _ g1
  have HROW := Lib.hid hrow
  have H1 := Lib.hid hb1
  have HG := Lib.hid g1
  obtain ⟨cp, hcp⟩ : ∃ cp, grownCap W0 s.size 0 5 = cp := ⟨_, rfl⟩
  rw [hcp] at HROW
  clear hrow hb1 g0 g1
  go_enter Tryz.func23, Tryz.ntmps23
  go_wp2_with fail
  obtain ⟨W4, hW4⟩ : ∃ W4, (((W1.setCell ⟨w.heap.size, 0, none⟩ (.string s)).setCell ⟨w.heap.size, 1, none⟩ (.slice (some ⟨w.heap.size + 1, 0, none⟩) s.size cp)).setCell ⟨w.heap.size, 2, none⟩ (.int .i64 1)).setCell ⟨w.heap.size, 3, none⟩ (.bool false) = W4 := ⟨_, rfl⟩
  obtain ⟨g4, b4, s4⟩ := set4 HG.out hW4
  have o4 : ∀ k, k ≠ w.heap.size → W4.heap[k]? = W1.heap[k]? := fun k hk => by
    rw [← hW4]
    exact (heap_setCell_other _ _ _ _ hk).trans ((heap_setCell_other _ _ _ _ hk).trans ((heap_setCell_other _ _ _ _ hk).trans (heap_setCell_other _ _ _ _ hk)))
  rw [hW4]
  clear hW4 y0 y1 y2 y3
  have z0 : W4.cell? ⟨w.heap.size, 0, none⟩ = some (.string s) := cell4 g4 0 _ rfl
  have z1 : W4.cell? ⟨w.heap.size, 1, none⟩ = some (.slice (some ⟨w.heap.size + 1, 0, none⟩) s.size cp) := cell4 g4 1 _ rfl
  have z2 : W4.cell? ⟨w.heap.size, 2, none⟩ = some (.int .i64 1) := cell4 g4 2 _ rfl
  have z3 : W4.cell? ⟨w.heap.size, 3, none⟩ = some (.bool false) := cell4 g4 3 _ rfl
  refine bodyPost_ret (v := .agg #[.string s, .slice (some ⟨w.heap.size + 1, 0, none⟩) s.size cp, .int .i64 1, .bool false]) (by simp [results, Tryz.results23, go_sem, z0, z1, z2, z3]) rfl ?_
  have hr := HROW.out
  rw [hs0] at hr
  exact ⟨_, rfl, ⟨_, rfl, (hr.keep (fun k hk hF => o4 k (by rw [hF]; omega))).mono (fun x hx => ⟨by rw [hx]; omega, by rw [hx]; omega⟩)⟩, (hb0.trans (H1.out.mono (by omega))).trans (b4 _ (Nat.le_refl _))⟩

end Go.Proofs.YtgnffkahlniehaaGreat
