/- Proved here: the contract of topic.CheckFilter. -/
import Derived.Test.YtmjpnpnmhacknaaTpChecks
import Derived.Test.YtmjpnpnmhacknaaTpMem
import Derived.Deep.LoopGhost
namespace Go.Proofs.Ytmjpnpnmhacknaa
open Go.RowKit Go.Proofs.Tp

theorem badLv_cons (x : ByteArray) (r : List ByteArray) : badLv (x :: r) = ((sign x && decide (1 < x.size)) || (decide (x.data.toList = [35]) && !r.isEmpty) || badLv r) := rfl

/-- A level with a sign at 'pos', told by the decoding. -/
theorem level_sign (x : ByteArray) (pos : Nat) (h : pos < x.size) (h1 : (Utf8.decode x pos).1 = 43 ∨ (Utf8.decode x pos).1 = 35) (hle : x.size ≤ 1) :
    x.data.toList = [35] ↔ (Utf8.decode x pos).1 = 35 := by
  obtain rfl : pos = 0 := by omega
  have hl : x.data.toList.length = 1 := by simp; omega
  obtain ⟨c, hc⟩ : ∃ c, x.data.toList = [c] := by
    match hx : x.data.toList, hl with
    | [c], _ => exact ⟨c, rfl⟩
  have hd := (decode_byte x 0 h 35 (by decide)).1
  rw [hc]
  constructor
  · intro e
    rw [e] at hc
    rw [hc] at hd
    exact (hd.resolve_right (fun y => y.2 0 (by have := (decode_byte x 0 h 35 (by decide)).2.1; omega) rfl)).1
  · intro e
    have := (hd.resolve_right (fun y => y.1 e)).2.2
    rw [hc] at this
    simpa using this

theorem badLv_keep (x : ByteArray) (r : List ByteArray) (h1 : sign x = true → x.size ≤ 1) (h2 : x.data.toList = [35] → r = []) : badLv (x :: r) = badLv r := by
  rw [badLv_cons]
  have a : (sign x && decide (1 < x.size)) = false := by
    cases hs : sign x
    · rfl
    · rw [decide_eq_false (by have := h1 hs; omega)]; rfl
  have b : (decide (x.data.toList = [35]) && !r.isEmpty) = false := by
    by_cases e : x.data.toList = [35]
    · rw [h2 e]; simp
    · rw [decide_eq_false e]; rfl
  rw [a, b]; rfl

theorem badLv_stop (x : ByteArray) (r : List ByteArray) (h : (sign x = true ∧ 1 < x.size) ∨ (x.data.toList = [35] ∧ r ≠ [])) : badLv (x :: r) = true := by
  rw [badLv_cons]
  rcases h with ⟨h1, h2⟩ | ⟨h1, h2⟩
  · rw [h1, decide_eq_true h2]; rfl
  · rw [decide_eq_true h1]
    have : r.isEmpty = false := by cases r with | nil => exact absurd rfl h2 | cons _ _ => rfl
    rw [this]; simp

set_option maxHeartbeats 1000000 in
set_option maxRecDepth 1000000 in
theorem checkFilter_walk (s : ByteArray) (w : World) (hs : s.size ≤ 1000000000) (ht : textE s = 0) :
    Calls Try.prog 17 #[.string s] w fun e w' => e = .returned (.int .i64 (chkF s)) ∧ Below w.heap.size w w' := by
  have hc : (textE s != 0) = false := by rw [ht]; rfl
  have HT := Lib.hid ht
  clear ht
  go_enter Try.func17, Try.ntmps17
  go_wp2_with fail
  go_step3
  go_wp2_with fail
  refine (text_any s _ hs).mono ?_
  rintro e w1 ⟨rfl, hb⟩
  go_wp2_with fail
  refine (levels_any s _ hs).mono ?_
  rintro e w2 ⟨v, rfl, hown, hb2⟩
  have hlen : (levels s).length ≤ 1000000001 := by
    have := (lvTo_le s s.size).2
    simp only [levels, List.length_append, List.length_cons, List.length_nil]; omega
  have hpos : 0 < (levels s).length := by simp [levels]
  have hfin : chkF s = if badLv (levels s) then 52 else 0 := by simp [chkF, HT.out]
  have HF := Lib.hid hfin
  clear hfin
  have hst := StrsAt.of_owns hown
  clear hown
  obtain ⟨b, off, cap, rfl, hlc, hcm, hbw, hcell⟩ := hst.open hpos
  clear hst
  generalize levels s = L at *
  obtain ⟨n, hn⟩ : ∃ n, L.length = n := ⟨_, rfl⟩
  have HN := Lib.hid hn
  rw [hn] at hlen hpos hlc ⊢
  have HC := Lib.hid hcell
  have HB := Lib.hid (hb.trans (hb2.mono hb.size))
  clear hcell hn hb hb2
  go_wp2_with fail
  go_step3
  go_wp2_with fail
  go_loopg [18] n (fun g i wr => ∃ k, k + g = n ∧ i = .int .i64 (k : Nat) ∧ Aside (badLv (L.drop k) = badLv L) ∧ Below w2.heap.size w2 wr)
  case atStart => exact ⟨0, by omega, rfl, rfl, Below.refl _ _⟩
  case round =>
    obtain ⟨k, hkg, rfl, HI, hbx⟩ := hrel
    have HKG := Lib.hid hkg
    cases gk with
    | zero =>
      have hkz : ¬ ((k : Int) < (n : Int)) := by omega
      clear hkg
      go_wp2_with fail
      go_ret
      exact ⟨ret_int (by rw [HF.out, ← HI.out, List.drop_eq_nil_of_le (by rw [HN.out]; have := HKG.out; omega)]; rfl), HB.out.trans (hbx.mono HB.out.size)⟩
    | succ g =>
      have hkz : (k : Int) < (n : Int) := by omega
      have hkn : k < n := by omega
      clear hkg
      obtain ⟨x, hx⟩ : ∃ x, L[k]? = some x := ⟨L[k]'(by rw [HN.out]; exact hkn), List.getElem?_eq_getElem _⟩
      have hcx : wr.cell? ⟨b, off + k, none⟩ = some (.string x) := (hbx.cell (p := ⟨b, off + k, none⟩) hbw).trans (HC.out k x hx)
      have hdrop : L.drop k = x :: L.drop (k + 1) := by
        obtain ⟨hlt, he⟩ := List.getElem?_eq_some_iff.1 hx
        rw [List.drop_eq_getElem_cons hlt, he]
      have HX := Lib.hid hx
      have HD := Lib.hid hdrop
      clear hx hdrop
      obtain ⟨wo, rfl⟩ : ∃ wo : World, wo = wr := ⟨_, rfl⟩
      go_wp2_with fail
      go_loopg [] x.size (fun g2 wi => ∃ pos, pos + g2 = x.size ∧ wi.heap[wo.heap.size]? = some (.stringIter x pos) ∧ Aside (signL (x.data.toList.drop pos) = sign x) ∧ Below wo.heap.size wo wi)
      case atStart => exact ⟨0, by omega, by simp [World.iter_heap], rfl, (Below.refl _ _).alloc (Nat.le_refl _) _⟩
      case round =>
        obtain ⟨pos, hpg, hit, HS, hby⟩ := hrel
        have HPG := Lib.hid hpg
        by_cases hp : pos < x.size
        · have hnx : ∀ ty, (Instr.next (.pointer (some ⟨wo.heap.size, 0, none⟩)) true ty).run Try.prog wr = _ := fun ty => Lib.run_next_any_at wr _ x pos ty hit hp
          have hdb := (decode_byte x pos hp 47 (by decide)).2
          have hls := level_sign x pos hp
          have hsh := sign_here x pos hp
          have hss := sign_step x pos hp
          have hby' := Lib.below_iterAt hby (Nat.le_refl _) x (pos + (Utf8.decode x pos).2)
          have hit' := Lib.iterAt_heap wr wo.heap.size x pos (pos + (Utf8.decode x pos).2) hit
          generalize wr.iterAt wo.heap.size x (pos + (Utf8.decode x pos).2) = wi at *
          have HIT := Lib.hid hit'
          have HDB := Lib.hid hdb
          clear hit hit' hpg hdb hby
          have hbz : Below w2.heap.size w2 wi := hbx.trans (hby'.mono hbx.size)
          by_cases z : (Utf8.decode x pos).1 = 43 ∨ (Utf8.decode x pos).1 = 35
          · have hsx : sign x = true := HS.out.symm.trans (hsh z)
            by_cases hl : 1 < x.size
            · have hlI : (1 : Int) < (x.size : Int) := by omega
              have hfin : badLv L = true := by rw [← HI.out, HD.out]; exact badLv_stop _ _ (.inl ⟨hsx, hl⟩)
              have HFIN := Lib.hid hfin
              clear hfin hls hsh hss hsx hl
              rcases z with z | z
              · have z1 : (((Utf8.decode x pos).1 : Int) != 43) = false := by rw [z]; rfl
                clear z
                go_wp2
                repeat (first | rw [Exit.noGoto_ret] | simp only [Exit.inBlock] | simp only [Exit.then])
                go_ret
                exact ⟨ret_int (by rw [HF.out, HFIN.out]; rfl), HB.out.trans (hbz.mono HB.out.size)⟩
              · have z1 : (((Utf8.decode x pos).1 : Int) != 43) = true := by rw [z]; rfl
                have z2 : (((Utf8.decode x pos).1 : Int) != 35) = false := by rw [z]; rfl
                clear z
                go_wp2
                repeat (first | rw [Exit.noGoto_ret] | simp only [Exit.inBlock] | simp only [Exit.then])
                go_ret
                exact ⟨ret_int (by rw [HF.out, HFIN.out]; rfl), HB.out.trans (hbz.mono HB.out.size)⟩
            · have hlI : ¬ ((1 : Int) < (x.size : Int)) := by omega
              have hls' := hls z (by omega)
              rcases z with z | z
              · have z1 : (((Utf8.decode x pos).1 : Int) != 43) = false := by rw [z]; rfl
                have z3 : (((Utf8.decode x pos).1 : Int) == 35) = false := by rw [z]; rfl
                have hk : badLv (x :: L.drop (k + 1)) = badLv (L.drop (k + 1)) := badLv_keep _ _ (fun _ => by omega) (fun e => by have := hls'.1 e; omega)
                have HK := Lib.hid hk
                clear z hls hsh hss hls' hk hl
                go_wp2
                go_roundg g
                case measure => omega
                case rel => exact ⟨k + 1, by have := HKG.out; omega, by go_num, by show _ = _; rw [← HI.out, HD.out, HK.out], hbz⟩
              · have z1 : (((Utf8.decode x pos).1 : Int) != 43) = true := by rw [z]; rfl
                have z2 : (((Utf8.decode x pos).1 : Int) != 35) = false := by rw [z]; rfl
                have z3 : (((Utf8.decode x pos).1 : Int) == 35) = true := by rw [z]; rfl
                have hx35 := hls'.2 z
                by_cases hkl : k + 1 < n
                · have hklI : (k : Int) < (n : Int) - 1 := by omega
                  have hklI2 : (k : Int) + 1 < (n : Int) := by omega
                  have hr : L.drop (k + 1) ≠ [] := by
                    rw [Ne, List.drop_eq_nil_iff, HN.out]; omega
                  have hfin : badLv L = true := by rw [← HI.out, HD.out]; exact badLv_stop _ _ (.inr ⟨hx35, hr⟩)
                  have HFIN := Lib.hid hfin
                  clear hfin hls hsh hss hsx hl hr hx35 hls' z hkl
                  go_wp2
                  repeat (first | rw [Exit.noGoto_ret] | simp only [Exit.inBlock] | simp only [Exit.then])
                  go_ret
                  exact ⟨ret_int (by rw [HF.out, HFIN.out]; rfl), HB.out.trans (hbz.mono HB.out.size)⟩
                · have hklI : ¬ ((k : Int) < (n : Int) - 1) := by omega
                  have hklI2 : ¬ ((k : Int) + 1 < (n : Int)) := by omega
                  have hk : badLv (x :: L.drop (k + 1)) = badLv (L.drop (k + 1)) := badLv_keep _ _ (fun _ => by omega) (fun e => by rw [List.drop_eq_nil_iff, HN.out]; omega)
                  have HK := Lib.hid hk
                  clear z hls hsh hss hls' hk hl hx35 hkl
                  go_wp2
                  go_roundg g
                  case measure => omega
                  case rel => exact ⟨k + 1, by have := HKG.out; omega, by go_num, by show _ = _; rw [← HI.out, HD.out, HK.out], hbz⟩
          · have z1 : (((Utf8.decode x pos).1 : Int) != 43) = true := by rw [bne_iff_ne]; intro e; exact z (.inl (by omega))
            have z2 : (((Utf8.decode x pos).1 : Int) != 35) = true := by rw [bne_iff_ne]; intro e; exact z (.inr (by omega))
            have hs2 := hss (fun e => z (.inl e)) (fun e => z (.inr e))
            have HS2 := Lib.hid hs2
            clear hls hsh hss hs2 z
            go_wp2
            go_roundg (x.size - (pos + (Utf8.decode x pos).2))
            case measure => have := HDB.out; have := HPG.out; omega
            case rel => exact ⟨pos + (Utf8.decode x pos).2, by have := HDB.out; omega, HIT.out, by show _ = _; rw [← HS.out, HS2.out], hby'⟩
        · have hnx : ∀ ty, (Instr.next (.pointer (some ⟨wo.heap.size, 0, none⟩)) true ty).run Try.prog wr = _ := fun ty => Lib.run_next_end_at wr _ x pos ty hit hp
          have hsf : sign x = false := by rw [← HS.out, drop_end x pos hp]; rfl
          have hk : badLv (x :: L.drop (k + 1)) = badLv (L.drop (k + 1)) := badLv_keep _ _ (fun e => by rw [hsf] at e; cases e) (fun e => by unfold sign at hsf; rw [e] at hsf; cases hsf)
          have HK := Lib.hid hk
          have hbz : Below w2.heap.size w2 wr := hbx.trans (hby.mono hbx.size)
          clear hk hsf hpg
          go_wp2
          go_roundg g
          case measure => omega
          case rel => exact ⟨k + 1, by have := HKG.out; omega, by go_num, by show _ = _; rw [← HI.out, HD.out, HK.out], hbz⟩

set_option maxHeartbeats 400000 in
theorem checkFilter_any (s : ByteArray) (w : World) (hs : s.size ≤ 1000000000) :
    Calls Try.prog 17 #[.string s] w fun e w' => e = .returned (.int .i64 (chkF s)) ∧ Below w.heap.size w w' := by
  by_cases ht : textE s = 0
  · exact checkFilter_walk s w hs ht
  · have hc : (textE s != 0) = true := by rw [bne_iff_ne]; exact ht
    have hfin : chkF s = textE s := by simp [chkF, ht]
    have HF := Lib.hid hfin
    have hn := textE_nonneg s
    clear ht hfin
    go_enter Try.func17, Try.ntmps17
    go_wp2_with fail
    go_step3
    go_wp2_with fail
    refine (text_any s _ hs).mono ?_
    rintro e w1 ⟨rfl, hb⟩
    go_wp2_with fail
    repeat (first | rw [Exit.noGoto_ret] | simp only [Exit.inBlock] | simp only [Exit.then])
    go_ret
    exact ⟨ret_int HF.out.symm, hb⟩

end Go.Proofs.Ytmjpnpnmhacknaa
