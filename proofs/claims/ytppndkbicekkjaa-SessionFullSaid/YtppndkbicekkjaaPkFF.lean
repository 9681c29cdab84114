/- Proved here: the contracts of window's New, session's made and New. -/
import Derived.Test.YtppndkbicekkjaaPkFD
import Derived.Lib.MinMax
import Derived.Carry
import Derived.Test.YtppndkbicekkjaaPkFB
import Derived.Test.YtppndkbicekkjaaPkFA
import Derived.Test.YtppndkbicekkjaaPkFE
import Derived.Maps.RangeWalk
namespace Go.Proofs.Ytppndkbicekkjaa
open Go Go.RowKit Go.Proofs.Gs Go.Proofs.Rt Go.Proofs.Sw Go.Proofs.Rg
open Go.Proofs.Cc (Turn Grow)

/-- A number of a setup as it counts. -/
def within (n least most : Int) : Nat := (min (max n least) most).toNat

set_option maxHeartbeats 400000 in
theorem newW_any (a b : Int) (w : World) :
    Calls Try.prog 26 #[.int .i64 a, .int .i64 b] w fun e w' => ∃ wb rb, e = .returned (.pointer (some ⟨wb, 0, none⟩)) ∧ WinAt (fun x => x = wb ∨ x = rb) (fun _ => False) w' wb ⟨within a 1 65535, within b 0 65536, 0, [], [], false⟩ (.slice none 0 0) (.slice none 0 0) rb ∧ Below w.heap.size w w' ∧ w.heap.size ≤ wb ∧ w.heap.size ≤ rb := by
  obtain ⟨p, hp⟩ : ∃ p : Nat, (p : Int) = min (max a 1) 65535 := ⟨(min (max a 1) 65535).toNat, by omega⟩
  obtain ⟨q, hq⟩ : ∃ q : Nat, (q : Int) = min (max b 0) 65536 := ⟨(min (max b 0) 65536).toNat, by omega⟩
  have e1 : within a 1 65535 = p := by unfold within; omega
  have e2 : within b 0 65536 = q := by unfold within; omega
  rw [e1, e2]
  have HP := Lib.hid hp
  have HQ := Lib.hid hq
  clear hp hq e1 e2
  have hmm := fun W => run_makeMap (P := Try.prog) 34 W
  go_enter Try.func26, Try.ntmps26
  go_wp2_with fail
  go_ret
  rw [← HP.out, ← HQ.out]
  have hb : Below w.heap.size w (w.alloc (.map #[] 0)) := (Below.refl _ _).alloc (Nat.le_refl _) _
  have h1 := (MapKept.heap_alloc w (.map #[] 0)).1
  have h2 := (MapKept.heap_alloc (w.alloc (.map #[] 0)) (.cells #[.int .i64 (p : Nat), .int .i64 (q : Nat), .int .i64 0, .slice none 0 0, .slice none 0 0, .map (some w.heap.size), .bool false] 84)).1
  have h3 := (Below.heap_alloc (w.alloc (.map #[] 0)) (.cells #[.int .i64 (p : Nat), .int .i64 (q : Nat), .int .i64 0, .slice none 0 0, .slice none 0 0, .map (some w.heap.size), .bool false] 84) w.heap.size (by simp)).trans h1
  rw [World.size_alloc] at h2
  refine ⟨w.heap.size + 1, w.heap.size, rfl, ⟨h2, ⟨[], Els.nil, OwnAt.nil _ _ _ _⟩, ⟨[], Els.nil, OwnAt.nil _ _ _ _⟩, h3, .inl rfl, fun b e => by simp [Value.ownBlock] at e, fun b e => by simp [Value.ownBlock] at e, ⟨.inr rfl, by omega⟩, fun x hx => by rcases hx with rfl | rfl <;> simp only [World.size_alloc] <;> omega, fun b hb => hb.elim⟩, hb.alloc (by simp) _, by omega, by omega⟩

set_option maxHeartbeats 400000 in
theorem made_any {Mw : Nat → Prop} {w : World} {key : ByteArray} {lasting : Bool} {cs : Array Value} {c4 : Int} {wb rb : Nat} {W : Win} (hcs : cs.size = 12) (h4 : cs[4]? = some (.int .i64 c4)) (h1 : ∀ u ∈ cs.toList, u.oneCell' = true) (hw : WinAt Mw (fun _ => False) w wb W (.slice none 0 0) (.slice none 0 0) rb) :
    Calls Try.prog 25 #[.string key, .bool lasting, .agg cs, .pointer (some ⟨wb, 0, none⟩)] w fun e w' => ∃ sb M, e = .returned (.pointer (some ⟨sb, 0, none⟩)) ∧ SesAt M (fun _ => False) w' sb ⟨key, lasting, within c4 0 65536, [], [], W⟩ ∧ Below w.heap.size w w' ∧ (∀ x, M x → Mw x ∨ w.heap.size ≤ x) := by
  obtain ⟨p, hp⟩ : ∃ p : Nat, (p : Int) = min (max c4 0) 65536 := ⟨(min (max c4 0) 65536).toNat, by omega⟩
  have e1 : within c4 0 65536 = p := by unfold within; omega
  rw [e1]
  have HP := Lib.hid hp
  have HW := Lib.hid hw
  have hmm := fun W => run_makeMap (P := Try.prog) 34 W
  obtain ⟨V0, hV0⟩ : ∃ V0, w.alloc (.cells cs 25) = V0 := ⟨_, rfl⟩
  have g0 : V0.heap[w.heap.size]? = some (.cells cs 25 (0, 0)) := by rw [← hV0]; exact (MapKept.heap_alloc w _).1
  have y4 : V0.cell? ⟨w.heap.size, 4, none⟩ = some (.int .i64 c4) := by unfold World.cell?; simp only; rw [g0]; simpa using h4
  have hb0 : Below w.heap.size w V0 := by rw [← hV0]; exact (Below.refl _ _).alloc (Nat.le_refl _) _
  have HB0 := Lib.hid hb0
  have HV0 := Lib.hid hV0
  clear hp hw e1 g0 hb0 hV0 h4
  go_enter Try.func25, Try.ntmps25
  go_upto_region 1 with fail
  rw [HV0.out]
  go_wp2_with fail
  go_ret
  rw [← HP.out]
  obtain ⟨V1, hV1⟩ : ∃ V1, V0.alloc (.map #[] 0) = V1 := ⟨_, rfl⟩
  obtain ⟨V2, hV2⟩ : ∃ V2, V1.alloc (.cells #[.pointer (some ⟨wb, 0, none⟩), .string key, .bool lasting, .int .i64 (p : Nat), .slice none 0 0, .map (some V0.heap.size)] 36) = V2 := ⟨_, rfl⟩
  have hs1 : V1.heap.size = V0.heap.size + 1 := by rw [← hV1]; simp
  have hs2 : V2.heap.size = V0.heap.size + 2 := by rw [← hV2]; simp [hs1]
  have hb1 : Below V0.heap.size V0 V1 := by rw [← hV1]; exact (Below.refl _ _).alloc (Nat.le_refl _) _
  have hb2 : Below V1.heap.size V1 V2 := by rw [← hV2]; exact (Below.refl _ _).alloc (Nat.le_refl _) _
  have g2 : V2.heap[V0.heap.size + 1]? = some (.cells #[.pointer (some ⟨wb, 0, none⟩), .string key, .bool lasting, .int .i64 (p : Nat), .slice none 0 0, .map (some V0.heap.size)] 36 (0, 0)) := by
    rw [← hs1, ← hV2]; exact (MapKept.heap_alloc V1 _).1
  have hn : NotedAt V2 V0.heap.size [] := by
    have h1 : V1.ownsMap Try.prog 3 (unitElem (H := Unit)) V0.heap.size 0 (.map []) := by rw [← hV1]; exact World.ownsMap_made _ _ _ _
    exact ⟨.map [], by rw [← hV2]; exact h1.alloc _, fun k => rfl, rfl, List.nodup_nil⟩
  have hb : Below w.heap.size w V2 := HB0.out.trans ((hb1.trans (hb2.mono (by omega))).mono HB0.out.size)
  have hw2 := HW.out.below hb
  have hz := HB0.out.size
  simp only [hV1, hs1, hV2]
  refine ⟨V0.heap.size + 1, fun x => Mw x ∨ x = V0.heap.size + 1 ∨ x = V0.heap.size, rfl, ⟨Mw, wb, rb, V0.heap.size, _, _, .slice none 0 0, ⟨g2, hw2, fun x hx => ⟨.inl hx, by have := HW.out.lim x hx; omega, by have := HW.out.lim x hx; omega, by simp [Value.ownBlock]⟩, ⟨rfl, .inl ⟨rfl, rfl⟩⟩, fun b e => by simp [Value.ownBlock] at e, hn, .inr (.inl rfl), ⟨.inr (.inr rfl), by omega⟩, fun x hx => ?_, fun b hb => hb.elim⟩⟩, hb, fun x hx => ?_⟩
  · rcases hx with hx | rfl | rfl
    · have := HW.out.lim x hx; omega
    · omega
    · omega
  · rcases hx with hx | rfl | rfl
    · exact .inl hx
    · right; omega
    · right; omega

set_option maxHeartbeats 2000000 in
set_option maxRecDepth 100000 in
theorem newS_any {w : World} {key : ByteArray} {lasting : Bool} {a b c : Int} {v0 v1 v5 v6 v7 v8 v9 v10 v11 : Value} (h1 : ∀ u ∈ [v0, v1, v5, v6, v7, v8, v9, v10, v11], u.oneCell' = true) :
    Calls Try.prog 8 #[.string key, .bool lasting, .agg #[v0, v1, .int .i64 a, .int .i64 b, .int .i64 c, v5, v6, v7, v8, v9, v10, v11]] w fun e w' => ∃ sb M, e = .returned (.pointer (some ⟨sb, 0, none⟩)) ∧ SesAt M (fun _ => False) w' sb ⟨key, lasting, within c 0 65536, [], [], ⟨within a 1 65535, within b 0 65536, 0, [], [], false⟩⟩ ∧ Below w.heap.size w w' ∧ (∀ x, M x → w.heap.size ≤ x) := by
  obtain ⟨cs, hcs⟩ : ∃ cs, #[v0, v1, .int .i64 a, .int .i64 b, .int .i64 c, v5, v6, v7, v8, v9, v10, v11] = cs := ⟨_, rfl⟩
  obtain ⟨V0, hV0⟩ : ∃ V0, w.alloc (.cells cs 25) = V0 := ⟨_, rfl⟩
  have g0 : V0.heap[w.heap.size]? = some (.cells cs 25 (0, 0)) := by rw [← hV0]; exact (MapKept.heap_alloc w _).1
  have hb0 : Below w.heap.size w V0 := by rw [← hV0]; exact (Below.refl _ _).alloc (Nat.le_refl _) _
  rw [← hcs] at g0 hV0
  have hone : ∀ u ∈ (#[v0, v1, .int .i64 a, .int .i64 b, .int .i64 c, v5, v6, v7, v8, v9, v10, v11] : Array Value).toList, u.oneCell' = true := by
    intro u hu
    simp only [List.mem_cons, List.not_mem_nil, or_false] at hu h1
    rcases hu with rfl | rfl | rfl | rfl | rfl | rfl | rfl | rfl | rfl | rfl | rfl | rfl <;> first | rfl | exact h1 _ (by simp)
  have HMADE := Lib.hid (fun (w' : World) (wb rb : Nat) (W : Win) (Mw : Nat → Prop) (h : WinAt Mw (fun _ => False) w' wb W (.slice none 0 0) (.slice none 0 0) rb) => made_any (key := key) (lasting := lasting) (cs := #[v0, v1, .int .i64 a, .int .i64 b, .int .i64 c, v5, v6, v7, v8, v9, v10, v11]) (c4 := c) rfl rfl hone h)
  have y0 := cell4' g0 0 _ rfl
  have y1 := cell4' g0 1 _ rfl
  have y2 := cell4' g0 2 _ rfl
  have y3 := cell4' g0 3 _ rfl
  have y4 := cell4' g0 4 _ rfl
  have y5 := cell4' g0 5 _ rfl
  have y6 := cell4' g0 6 _ rfl
  have y7 := cell4' g0 7 _ rfl
  have y8 := cell4' g0 8 _ rfl
  have y9 := cell4' g0 9 _ rfl
  have y10 := cell4' g0 10 _ rfl
  have y11 := cell4' g0 11 _ rfl
  have HB0 := Lib.hid hb0
  have HV0 := Lib.hid hV0
  clear g0 hb0 hV0 hcs hone h1
  go_enter Try.func8, Try.ntmps8
  go_upto_region 1 with fail
  rw [HV0.out]
  have z0 := regr_cell y0
  have z1 := regr_cell y1
  have z2 := regr_cell y2
  have z3 := regr_cell y3
  have z4 := regr_cell y4
  have z5 := regr_cell y5
  have z6 := regr_cell y6
  have z7 := regr_cell y7
  have z8 := regr_cell y8
  have z9 := regr_cell y9
  have z10 := regr_cell y10
  have z11 := regr_cell y11
  refine wp_region_call [0, 1, 3, 5] [2, 4, 6] [] 7 [8, 9] [8, 9] (by kernel_rfl) (by kernel_rfl) (fun _ _ d _ _ h => by cases d <;> exact h) ?_
  simp only [pick, List.filterMap_cons, List.filterMap_nil, List.getElem?_toArray, List.getElem?_cons_zero, List.getElem?_cons_succ]
  repeat (first | (with_reducible refine wpQuiet_nil ?_) | quiet_step (fail))
  intro V1 hV1
  refine wpOp_do rfl rfl ?_
  clear z0 z1 z2 z3 z4 z5 z6 z7 z8 z9 z10 z11
  go_simp
  go_at_call 26
  refine (newW_any a b V1).mono ?_
  rintro e w1 ⟨wb, rb, rfl, hw1, hb1, hwb, hrb⟩
  refine ⟨hV1.trans (hb1.mono hV1.size), ?_⟩
  have HM := Lib.hid (HMADE.out w1 wb rb _ _ hw1)
  have HB1 := Lib.hid (HB0.out.trans ((hV1.trans (hb1.mono hV1.size)).mono HB0.out.size))
  have hz : w.heap.size ≤ V1.heap.size := by have := HB0.out.size; have := hV1.size; omega
  have HZ := Lib.hid (And.intro (show w.heap.size ≤ wb by omega) (show w.heap.size ≤ rb by omega))
  clear hw1 hb1 hwb hrb hV1 hz y0 y1 y2 y3 y4 y5 y6 y7 y8 y9 y10 y11
  go_wp2_with fail
  refine HM.out.mono ?_
  rintro e w2 ⟨sb, M, rfl, hs2, hb2, hM2⟩
  have HS2 := Lib.hid hs2
  have HB2 := Lib.hid hb2
  have HM2 := Lib.hid hM2
  clear hs2 hb2 hM2
  go_wp2_with fail
  go_ret
  have hz := HB1.out.size
  exact ⟨sb, M, rfl, HS2.out, HB1.out.trans (HB2.out.mono hz), fun x hx => by rcases HM2.out x hx with (rfl | rfl) | hx; exact HZ.out.1; exact HZ.out.2; omega⟩
end Go.Proofs.Ytppndkbicekkjaa

/- Plain: SessionKeeps: what was taken is sent in order, once each is acknowledged as it comes. No program in sight. -/
namespace Go.Proofs.Sw
open Go Go.Proofs.Rt

/-! ### A number that is given is nobody's. -/
theorem le_of_inside {α : Type} [DecidableEq α] : ∀ {A B : List α}, A.Nodup → (∀ a ∈ A, a ∈ B) → A.length ≤ B.length
  | [], B, _, _ => Nat.zero_le _
  | a :: A, B, hn, h => by
    obtain ⟨h1, h2⟩ := List.nodup_cons.1 hn
    have ha := h a List.mem_cons_self
    have := le_of_inside (A := A) (B := B.erase a) h2 (fun x hx => (List.mem_erase_of_ne (fun e => h1 (by rw [← e]; exact hx))).2 (h x (List.mem_cons_of_mem _ hx)))
    rw [List.length_erase_of_mem ha] at this
    have hp := List.length_pos_of_mem ha
    rw [List.length_cons]
    omega
/-- The k-th number behind l. -/
def nth (l k : Nat) : Nat := (l + k) % 65535 + 1
theorem nth_zero (l : Nat) : nth l 0 = nextId l := rfl
theorem nth_next (l k : Nat) : nth (nextId l) k = nth l (k + 1) := by unfold nth nextId; omega
theorem nth_inj {l j k : Nat} (hj : j < 65535) (hk : k < 65535) (h : nth l j = nth l k) : j = k := by unfold nth at h; omega
theorem numb_or (fl : List Fl) : ∀ (n l : Nat), 0 < n → has fl (numb fl n l) = true → ∀ k, k < n → has fl (nth l k) = true
  | 0, l, h, _, _, _ => absurd h (by omega)
  | n + 1, l, _, h, k, hk => by
    rw [numb] at h
    split at h
    · rename_i h0
      cases k with
      | zero => exact h0
      | succ k =>
        rw [← nth_next]
        exact numb_or fl n (nextId l) (by omega) h k (by omega)
    · rename_i h0
      exact absurd h h0
theorem numb_free {fl : List Fl} {l : Nat} (h : fl.length < 65535) : has fl (numb fl 65535 l) = false := by
  cases e : has fl (numb fl 65535 l) with
  | false => rfl
  | true =>
    exfalso
    have h1 := numb_or fl 65535 l (by omega) e
    have h2 : ((List.range 65535).map (nth l)).Nodup := by
      refine List.pairwise_map.2 ((List.nodup_range).imp_of_mem (fun {a b} ha hb hne he => hne (nth_inj (List.mem_range.1 ha) (List.mem_range.1 hb) he)))
    have h3 := le_of_inside h2 (B := fl.map (·.id)) (fun x hx => by
      obtain ⟨k, hk, rfl⟩ := List.mem_map.1 hx
      have := h1 k (List.mem_range.1 hk)
      unfold has at this
      obtain ⟨f, hf, he⟩ := List.any_eq_true.1 this
      exact List.mem_map.2 ⟨f, hf, by simpa using he⟩)
    simp only [List.length_map, List.length_range] at h3
    omega

/-! ### What is held, in order. -/
def ids (fl : List Fl) : List Nat := fl.map (·.id)
/-- A window that sends what it can. -/
def Filled (W : Win) : Prop := W.on = true → W.wt = [] ∨ W.win ≤ W.fl.length
structure Held (W : Win) (ms : List MsgV) : Prop where
  fresh : ∀ f ∈ W.fl, f.rel = false
  all : W.fl.map (·.msg) ++ W.wt = ms
  nodup : (ids W.fl).Nodup
  filled : Filled W
  few : ms.length ≤ 60000
theorem nodup_launch {W : Win} (h : (ids W.fl).Nodup) (hl : W.fl.length < 65535) (m : MsgV) : (ids (launchW W m).fl).Nodup := by
  have hf : has W.fl (launchN W) = false := numb_free hl
  unfold launchW ids
  rw [List.map_append]
  refine List.nodup_append.2 ⟨h, by simp, fun a ha b hb => ?_⟩
  simp at hb
  rintro rfl
  obtain ⟨f, h1, h2⟩ := List.mem_map.1 ha
  have : has W.fl (launchN W) = true := by unfold has; exact List.any_eq_true.2 ⟨f, h1, by simp [h2, hb]⟩
  rw [hf] at this
  cases this

/-- fill: what goes out stands behind what is under way, in the order in which it waited. -/
theorem fillN_spec : ∀ (n : Nat) (W : Win), W.wt.length = n → (ids W.fl).Nodup → W.fl.length + n ≤ 60000 →
    ∃ U, (fillN n W).1.fl = W.fl ++ U ∧ (∀ f ∈ U, f.rel = false) ∧ (fillN n W).2 = U.map (pub false) ∧ U.map (·.msg) ++ (fillN n W).1.wt = W.wt ∧ (ids (fillN n W).1.fl).Nodup ∧ (fillN n W).1.on = W.on ∧ (fillN n W).1.win = W.win ∧ (fillN n W).1.que = W.que ∧ Filled (fillN n W).1
  | 0, W, hn, hd, _ => ⟨[], by simp [fillN], by simp, by simp [fillN], by simp [fillN], by simpa [fillN] using hd, rfl, rfl, rfl, fun _ => .inl (List.eq_nil_of_length_eq_zero hn)⟩
  | n + 1, W, hn, hd, hl => by
    rw [fillN]
    split
    · rename_i e
      rw [e] at hn
      cases hn
    · rename_i m wt e
      split
      · rename_i hgo
        rw [e, List.length_cons] at hn
        obtain ⟨U, h1, h2, h3, h4, h5, h6, h7, h8, h9⟩ := fillN_spec n (launchW { W with wt := wt } m) (by show wt.length = n; omega) (nodup_launch (W := { W with wt := wt }) hd (by show W.fl.length < 65535; omega) m) (by show (W.fl ++ [_]).length + n ≤ 60000; rw [List.length_append, List.length_singleton]; omega)
        refine ⟨⟨launchN { W with wt := wt }, m, false⟩ :: U, ?_, ?_, ?_, ?_, h5, h6, h7, h8, h9⟩
        · rw [h1]
          show (W.fl ++ [_]) ++ U = _
          rw [List.append_assoc]
          rfl
        · intro f hf
          rcases List.mem_cons.1 hf with rfl | hf
          · rfl
          · exact h2 f hf
        · simp only [h3]
          rfl
        · rw [List.map_cons, List.cons_append, h4, e]
          rfl
      · rename_i hst
        refine ⟨[], by simp, by simp, by simp, by simp [e], hd, rfl, rfl, rfl, fun hon => .inr ?_⟩
        have h0 : ¬ W.fl.length < W.win := fun h => hst ⟨hon, h⟩
        show W.win ≤ W.fl.length
        omega
theorem fill_spec {W : Win} (hd : (ids W.fl).Nodup) (hl : W.fl.length + W.wt.length ≤ 60000) :
    ∃ U, (fillW W).1.fl = W.fl ++ U ∧ (∀ f ∈ U, f.rel = false) ∧ (fillW W).2 = U.map (pub false) ∧ U.map (·.msg) ++ (fillW W).1.wt = W.wt ∧ (ids (fillW W).1.fl).Nodup ∧ (fillW W).1.on = W.on ∧ (fillW W).1.win = W.win ∧ (fillW W).1.que = W.que ∧ Filled (fillW W).1 :=
  fillN_spec _ W rfl hd hl

theorem Held.down {W : Win} {ms : List MsgV} (h : Held W ms) : Held { W with on := false } ms := ⟨h.fresh, h.all, h.nodup, (fun e => Bool.noConfusion e), h.few⟩
theorem Held.len {W : Win} {ms : List MsgV} (h : Held W ms) : W.fl.length + W.wt.length = ms.length := by
  have := congrArg List.length h.all
  simpa using this
theorem Held.up {W : Win} {ms : List MsgV} (h : Held W ms) : Held (upW W).1 ms ∧ (upW W).1.on = true ∧ (upW W).1.win = W.win ∧ (upW W).1.que = W.que ∧ ∃ l, (upW W).2 = l ∧ l.map (fun p => (p.kind, p.id, p.msg)) = (upW W).1.fl.map (fun f => (3, f.id, f.msg)) := by
  have hl := h.len
  have hf := h.few
  obtain ⟨U, h1, h2, h3, h4, h5, h6, h7, h8, h9⟩ := fill_spec (W := { W with on := true }) h.nodup (by show W.fl.length + W.wt.length ≤ 60000; omega)
  have e1 : (upW W).1 = (fillW { W with on := true }).1 := rfl
  have e2 : (upW W).2 = W.fl.map (pub true) ++ (fillW { W with on := true }).2 := rfl
  rw [e1, e2, h1, h3]
  refine ⟨⟨fun f hx => ?_, ?_, h5, h9, hf⟩, h6, h7, h8, _, rfl, ?_⟩
  · rw [h1] at hx
    rcases List.mem_append.1 hx with hx | hx
    · exact h.fresh f hx
    · exact h2 f hx
  · rw [h1, List.map_append, List.append_assoc, h4]
    exact h.all
  · rw [List.map_append, List.map_append, List.map_map, List.map_map]
    congr 1
    · refine List.map_congr_left (fun f hx => ?_)
      have := h.fresh f hx
      simp [pub, this]
    · refine List.map_congr_left (fun f hx => ?_)
      have := h2 f hx
      simp [pub, this]
theorem Held.send {W : Win} {ms : List MsgV} (h : Held W ms) (m : MsgV) (hm : ms.length < 60000) :
    Held (sendW W m).1 (if (sendW W m).2.2 = true then ms ++ [m] else ms) ∧ (sendW W m).1.win = W.win ∧ (sendW W m).1.que = W.que := by
  have hl := h.len
  unfold sendW
  split
  · rename_i hgo
    have hw : W.wt = [] := by
      rcases h.filled hgo.1 with hw | hw
      · exact hw
      · omega
    refine ⟨⟨fun f hf => ?_, ?_, nodup_launch h.nodup (by omega) m, fun _ => .inl hw, by simp; omega⟩, rfl, rfl⟩
    · rcases List.mem_append.1 (show f ∈ W.fl ++ [_] from hf) with hf | hf
      · exact h.fresh f hf
      · rw [List.mem_singleton.1 hf]
    · show (W.fl ++ [(⟨launchN W, m, false⟩ : Fl)]).map (fun f => f.msg) ++ W.wt = ms ++ [m]
      have := h.all
      rw [hw, List.append_nil] at this ⊢
      rw [List.map_append, this]
      rfl
  · rename_i hno
    split
    · refine ⟨⟨h.fresh, ?_, h.nodup, fun hon => .inr ?_, by simp; omega⟩, rfl, rfl⟩
      · show W.fl.map (·.msg) ++ (W.wt ++ [m]) = _
        simp only [if_true]
        rw [← List.append_assoc, h.all]
      · show W.win ≤ W.fl.length
        have : ¬ W.fl.length < W.win := fun hh => hno ⟨hon, hh⟩
        omega
    · simp only [Bool.false_eq_true, if_false]
      exact ⟨h, trivial, trivial⟩

/-! ### Each is acknowledged as it comes. -/
/-- What stands between two acknowledgements: R released, U not; l: what was sent and is not yet acknowledged; told: what came. -/
structure Due (W : Win) (R U : List Fl) (l : List Pk) (told rest : List MsgV) : Prop where
  fl : W.fl = R ++ U
  rel : ∀ f ∈ R, f.rel = true
  not : ∀ f ∈ U, f.rel = false
  rels : (l.filter fun p => decide (p.kind = 6)).map (·.id) = R.map (·.id)
  pubs : (l.filter fun p => decide (p.kind = 3)).map (fun p => (p.id, p.msg)) = U.map (fun f => (f.id, f.msg))
  kinds : ∀ p ∈ l, p.kind = 3 ∨ p.kind = 6
  all : told ++ (U.map (·.msg) ++ W.wt) = rest
  nodup : (ids W.fl).Nodup
  on : W.on = true
  filled : Filled W
  few : W.fl.length + W.wt.length ≤ 60000
theorem spotF_mid : ∀ {A : List Fl} {f : Fl} {B : List Fl}, (ids (A ++ f :: B)).Nodup → spotF (A ++ f :: B) f.id = A.length
  | [], f, B, _ => by simp [spotF]
  | a :: A, f, B, h => by
    unfold ids at h
    rw [List.cons_append, List.map_cons] at h
    obtain ⟨h1, h2⟩ := List.nodup_cons.1 h
    rw [List.cons_append, spotF, if_neg (fun e => h1 (by rw [e]; exact List.mem_map.2 ⟨f, by simp, rfl⟩)), spotF_mid (A := A) h2, List.length_cons]
theorem erase_mid {α : Type} (A : List α) (f : α) (B : List α) : (A ++ f :: B).eraseIdx A.length = A ++ B := by
  rw [List.eraseIdx_append_of_length_le (Nat.le_refl _), Nat.sub_self]
  rfl
theorem nodup_drop_mid {A : List Fl} {f : Fl} {B : List Fl} (h : (ids (A ++ f :: B)).Nodup) : (ids (A ++ B)).Nodup := by
  unfold ids at h ⊢
  rw [List.map_append] at h ⊢
  exact h.sublist (List.Sublist.append (List.Sublist.refl _) (List.sublist_cons_self _ _))

theorem ack_fill {W : Win} {A B : List Fl} {f : Fl} {kind : Int} (hfl : W.fl = A ++ f :: B) (hd : (ids W.fl).Nodup) (hon : W.on = true) (hk : (kind = 4 ∧ f.rel = false ∧ f.msg.qos = 1) ∨ (kind = 7 ∧ f.rel = true)) :
    ackW W kind f.id = fillW { W with fl := A ++ B } := by
  unfold ackW
  rw [hfl] at hd
  rw [hfl, spotF_mid hd, List.getElem?_append_right (Nat.le_refl _), Nat.sub_self, List.getElem?_cons_zero]
  simp only
  rw [if_neg (by rw [hon]; simp), if_pos hk, erase_mid]
theorem ack_rec {W : Win} {A B : List Fl} {f : Fl} (hfl : W.fl = A ++ f :: B) (hd : (ids W.fl).Nodup) (hon : W.on = true) (hr : f.rel = false) (hq : f.msg.qos = 2) :
    ackW W 5 f.id = ({ W with fl := A ++ ⟨f.id, noMsg, true⟩ :: B }, [⟨6, f.id, false, noMsg⟩]) := by
  unfold ackW
  rw [hfl] at hd
  rw [hfl, spotF_mid hd, List.getElem?_append_right (Nat.le_refl _), Nat.sub_self, List.getElem?_cons_zero]
  simp only
  rw [if_neg (by rw [hon]; simp), if_neg (by simp), if_pos ⟨trivial, .inr hq⟩]
  congr 2
  rw [List.set_append_right _ _ (Nat.le_refl _), Nat.sub_self]
  rfl

def weight (W : Win) (R U : List Fl) : Nat := 2 * (U.length + W.wt.length) + R.length

/-- A message of quality 1 or 2 came. -/
theorem Due.pub1 {W : Win} {R U : List Fl} {p : Pk} {l : List Pk} {told rest : List MsgV} (h : Due W R U (p :: l) told rest) (hk : p.kind = 3) (hq : p.msg.qos = 1) :
    ∃ U', Due (ackW W 4 p.id).1 R U' (l ++ (ackW W 4 p.id).2) (told ++ [p.msg]) rest ∧ weight (ackW W 4 p.id).1 R U' < weight W R U ∧ (ackW W 4 p.id).1.win = W.win := by
  have hp := h.pubs
  rw [List.filter_cons_of_pos (by simp [hk]), List.map_cons] at hp
  cases U with
  | nil => cases hp
  | cons u U =>
    rw [List.map_cons] at hp
    injection hp with hp1 hp2
    injection hp1 with hid hmsg
    have hru := h.not u List.mem_cons_self
    have hfl := h.fl
    have e := ack_fill (kind := 4) hfl h.nodup h.on (.inl ⟨rfl, hru, by rw [← hmsg]; exact hq⟩)
    have hlen := h.few
    rw [hfl] at hlen
    simp only [List.length_append, List.length_cons] at hlen
    have hnd := h.nodup
    rw [hfl] at hnd
    obtain ⟨V, h1, h2, h3, h4, h5, h6, h7, h8, h9⟩ := fill_spec (W := { W with fl := R ++ U }) (nodup_drop_mid hnd) (by show (R ++ U).length + W.wt.length ≤ 60000; rw [List.length_append]; omega)
    rw [hid, e]
    have hwt := congrArg List.length h4
    simp only [List.length_append, List.length_map] at hwt
    have hwt' : V.length + (fillW { W with fl := R ++ U }).1.wt.length = W.wt.length := hwt
    refine ⟨U ++ V, ⟨by rw [h1]; exact List.append_assoc _ _ _, h.rel, fun f hf => ?_, ?_, ?_, fun x hx => ?_, ?_, h5, h6.trans h.on, h9, ?_⟩, ?_, h7⟩
    · rcases List.mem_append.1 hf with hf | hf
      · exact h.not f (List.mem_cons_of_mem _ hf)
      · exact h2 f hf
    · have hr := h.rels
      rw [List.filter_cons_of_neg (by simp [hk])] at hr
      rw [List.filter_append, List.map_append, hr, h3]
      have : ((V.map (pub false)).filter fun p => decide (p.kind = 6)) = [] := by
        rw [List.filter_eq_nil_iff]
        intro x hx
        obtain ⟨f, hf, rfl⟩ := List.mem_map.1 hx
        simp [pub, h2 f hf]
      rw [this]
      simp
    · rw [List.filter_append, List.map_append, hp2, h3, List.map_append]
      congr 1
      have : ((V.map (pub false)).filter fun p => decide (p.kind = 3)) = V.map (pub false) := by
        rw [List.filter_eq_self]
        intro x hx
        obtain ⟨f, hf, rfl⟩ := List.mem_map.1 hx
        simp [pub, h2 f hf]
      rw [this, List.map_map]
      refine List.map_congr_left (fun f hf => ?_)
      simp [pub, h2 f hf]
    · rcases List.mem_append.1 hx with hx | hx
      · exact h.kinds x (List.mem_cons_of_mem _ hx)
      · rw [h3] at hx
        obtain ⟨f, hf, rfl⟩ := List.mem_map.1 hx
        left
        simp [pub, h2 f hf]
    · have ha := h.all
      rw [← ha, List.map_cons, List.map_append, List.append_assoc, List.append_assoc (U.map _), h4, hmsg]
      rfl
    · rw [h1]
      simp only [List.length_append]
      show R.length + U.length + V.length + _ ≤ _
      omega
    · unfold weight
      simp only [List.length_append, List.length_cons]
      omega
theorem Due.pub2 {W : Win} {R U : List Fl} {p : Pk} {l : List Pk} {told rest : List MsgV} (h : Due W R U (p :: l) told rest) (hk : p.kind = 3) (hq : p.msg.qos = 2) :
    ∃ R' U', Due (ackW W 5 p.id).1 R' U' (l ++ (ackW W 5 p.id).2) (told ++ [p.msg]) rest ∧ weight (ackW W 5 p.id).1 R' U' < weight W R U ∧ (ackW W 5 p.id).1.win = W.win := by
  have hp := h.pubs
  rw [List.filter_cons_of_pos (by simp [hk]), List.map_cons] at hp
  cases U with
  | nil => cases hp
  | cons u U =>
    rw [List.map_cons] at hp
    injection hp with hp1 hp2
    injection hp1 with hid hmsg
    have hru := h.not u List.mem_cons_self
    have hfl := h.fl
    have e := ack_rec hfl h.nodup h.on hru (by rw [← hmsg]; exact hq)
    have hlen := h.few
    rw [hfl] at hlen
    simp only [List.length_append, List.length_cons] at hlen
    have hnd := h.nodup
    rw [hfl] at hnd
    rw [hid, e]
    refine ⟨R ++ [⟨u.id, noMsg, true⟩], U, ⟨by simp, fun f hf => ?_, fun f hf => h.not f (List.mem_cons_of_mem _ hf), ?_, ?_, fun x hx => ?_, ?_, ?_, h.on, fun _ => ?_, ?_⟩, ?_, rfl⟩
    · rcases List.mem_append.1 hf with hf | hf
      · exact h.rel f hf
      · rw [List.mem_singleton.1 hf]
    · have hr := h.rels
      rw [List.filter_cons_of_neg (by simp [hk])] at hr
      rw [List.filter_append, List.map_append, hr, List.map_append]
      rfl
    · rw [List.filter_append, List.map_append, hp2]
      simp
    · rcases List.mem_append.1 hx with hx | hx
      · exact h.kinds x (List.mem_cons_of_mem _ hx)
      · rw [List.mem_singleton.1 hx]
        exact .inr rfl
    · have ha := h.all
      rw [← ha, List.map_cons, hmsg]
      simp
    · show (ids (R ++ ⟨u.id, noMsg, true⟩ :: U)).Nodup
      unfold ids at hnd ⊢
      simpa using hnd
    · have := h.filled h.on
      rw [hfl] at this
      simp only [List.length_append, List.length_cons] at this ⊢
      exact this
    · show (R ++ ⟨u.id, noMsg, true⟩ :: U).length + W.wt.length ≤ 60000
      simp only [List.length_append, List.length_cons]
      omega
    · unfold weight
      simp only [List.length_append, List.length_cons, List.length_nil]
      omega
theorem Due.comp {W : Win} {R U : List Fl} {p : Pk} {l : List Pk} {told rest : List MsgV} (h : Due W R U (p :: l) told rest) (hk : p.kind = 6) :
    ∃ R' U', Due (ackW W 7 p.id).1 R' U' (l ++ (ackW W 7 p.id).2) told rest ∧ weight (ackW W 7 p.id).1 R' U' < weight W R U ∧ (ackW W 7 p.id).1.win = W.win := by
  have hp := h.rels
  rw [List.filter_cons_of_pos (by simp [hk]), List.map_cons] at hp
  cases R with
  | nil => cases hp
  | cons r R =>
    rw [List.map_cons] at hp
    injection hp with hid hp2
    have hrr := h.rel r List.mem_cons_self
    have hfl : W.fl = [] ++ r :: (R ++ U) := h.fl
    have e := ack_fill (kind := 7) hfl h.nodup h.on (.inr ⟨rfl, hrr⟩)
    have hlen := h.few
    rw [hfl] at hlen
    simp only [List.length_append, List.length_cons, List.nil_append] at hlen
    have hnd := h.nodup
    rw [hfl] at hnd
    obtain ⟨V, h1, h2, h3, h4, h5, h6, h7, h8, h9⟩ := fill_spec (W := { W with fl := [] ++ (R ++ U) }) (nodup_drop_mid hnd) (by show ([] ++ (R ++ U)).length + W.wt.length ≤ 60000; rw [List.nil_append, List.length_append]; omega)
    rw [hid, e]
    have hwt := congrArg List.length h4
    simp only [List.length_append, List.length_map] at hwt
    have hwt' : V.length + (fillW { W with fl := [] ++ (R ++ U) }).1.wt.length = W.wt.length := hwt
    refine ⟨R, U ++ V, ⟨by rw [h1]; simp, fun f hf => h.rel f (List.mem_cons_of_mem _ hf), fun f hf => ?_, ?_, ?_, fun x hx => ?_, ?_, h5, h6.trans h.on, h9, ?_⟩, ?_, h7⟩
    · rcases List.mem_append.1 hf with hf | hf
      · exact h.not f hf
      · exact h2 f hf
    · rw [List.filter_append, List.map_append, hp2, h3]
      have : ((V.map (pub false)).filter fun p => decide (p.kind = 6)) = [] := by
        rw [List.filter_eq_nil_iff]
        intro x hx
        obtain ⟨f, hf, rfl⟩ := List.mem_map.1 hx
        simp [pub, h2 f hf]
      rw [this]
      simp
    · have hr := h.pubs
      rw [List.filter_cons_of_neg (by simp [hk])] at hr
      rw [List.filter_append, List.map_append, hr, h3, List.map_append]
      congr 1
      have : ((V.map (pub false)).filter fun p => decide (p.kind = 3)) = V.map (pub false) := by
        rw [List.filter_eq_self]
        intro x hx
        obtain ⟨f, hf, rfl⟩ := List.mem_map.1 hx
        simp [pub, h2 f hf]
      rw [this, List.map_map]
      refine List.map_congr_left (fun f hf => ?_)
      simp [pub, h2 f hf]
    · rcases List.mem_append.1 hx with hx | hx
      · exact h.kinds x (List.mem_cons_of_mem _ hx)
      · rw [h3] at hx
        obtain ⟨f, hf, rfl⟩ := List.mem_map.1 hx
        left
        simp [pub, h2 f hf]
    · rw [List.map_append, List.append_assoc, h4]
      exact h.all
    · rw [h1]
      have e3 : ([] ++ (R ++ U) ++ V).length = R.length + U.length + V.length := by simp; omega
      rw [e3]
      omega
    · unfold weight
      simp only [List.length_append, List.length_cons]
      omega
/-- Nothing is left. -/
theorem Due.done {W : Win} {R U : List Fl} {told rest : List MsgV} (h : Due W R U [] told rest) (hw : 1 ≤ W.win) : W.fl = [] ∧ W.wt = [] ∧ told = rest := by
  have h1 : R = [] := by have := h.rels; simpa using this.symm
  have h2 : U = [] := by have := h.pubs; simpa using this.symm
  have h3 := h.fl
  rw [h1, h2] at h3
  have h4 : W.wt = [] := by
    rcases h.filled h.on with e | e
    · exact e
    · rw [h3] at e; simp at e; omega
  refine ⟨h3, h4, ?_⟩
  have := h.all
  rw [h2, h4] at this
  simpa using this
/-- Behind Up. -/
theorem Held.due {W : Win} {ms : List MsgV} (h : Held W ms) : Due (upW W).1 [] (upW W).1.fl (upW W).2 [] ms ∧ weight (upW W).1 [] (upW W).1.fl ≤ 2 * ms.length := by
  obtain ⟨hh, hon, _, _, l, hl, hm⟩ := h.up
  rw [hl]
  have hk : ∀ p ∈ l, p.kind = 3 := fun p hp => by
    have : (p.kind, p.id, p.msg) ∈ l.map (fun p => (p.kind, p.id, p.msg)) := List.mem_map.2 ⟨p, hp, rfl⟩
    rw [hm] at this
    obtain ⟨f, _, e⟩ := List.mem_map.1 this
    injection e with e _
    exact e.symm
  have hlen := hh.len
  have hf := hh.few
  refine ⟨⟨rfl, by simp, hh.fresh, ?_, ?_, fun p hp => .inl (hk p hp), hh.all, hh.nodup, hon, hh.filled, by omega⟩, by unfold weight; simp; omega⟩
  · rw [List.filter_eq_nil_iff.2 (fun p hp => by simp [hk p hp])]
    rfl
  · rw [List.filter_eq_self.2 (fun p hp => by simp [hk p hp])]
    have := congrArg (List.map (fun x : Nat × Nat × MsgV => x.2)) hm
    rw [List.map_map, List.map_map] at this
    exact this
end Go.Proofs.Sw

/- Plain: the chapter's first example, call by call. No program in sight. -/
namespace Go.Proofs.Ytppndkbicekkjaa
open Go Go.RowKit Go.Proofs.Gs Go.Proofs.Rt Go.Proofs.Sw

theorem fill_one {W : Win} {m : MsgV} (hw : W.wt = [m]) (h1 : W.on = true) (h2 : W.fl.length < W.win) : fillW W = (launchW { W with wt := [] } m, [launchP { W with wt := [] } m]) := by
  unfold fillW
  rw [hw]
  show fillN (0 + 1) W = _
  rw [fillN_go 0 W m [] hw h1 h2]
  rfl
def kA : ByteArray := ⟨#[97]⟩
def kB : ByteArray := ⟨#[98]⟩
def kW0 : Win := ⟨1, 1, 0, [], [], false⟩
def kW3 : Win := ⟨1, 1, 0, [], [tMsg 1], false⟩
def kW4 : Win := ⟨1, 1, 1, [⟨1, tMsg 1, false⟩], [], true⟩
def kW5 : Win := ⟨1, 1, 1, [⟨1, tMsg 1, false⟩], [tMsg 2], true⟩
def kW6 : Win := ⟨1, 1, 2, [⟨2, tMsg 2, false⟩], [], true⟩
def kS (l : List AskV) (n : List Int) (W : Win) : Ses := ⟨⟨#[107]⟩, true, 1, l, n, W⟩
theorem k1 : subW (kS [] [] kW0) ⟨kA, 1⟩ = (kS [⟨kA, 1⟩] [] kW0, 1) := by kernel_rfl
theorem k2 : subW (kS [⟨kA, 1⟩] [] kW0) ⟨kB, 0⟩ = (kS [⟨kA, 1⟩] [] kW0, 128) := by kernel_rfl
theorem k3 : subW (kS [⟨kA, 1⟩] [] kW0) ⟨kA, 2⟩ = (kS [⟨kA, 2⟩] [] kW0, 2) := by kernel_rfl
theorem k4 : delivW (kS [⟨kA, 2⟩] [] kW0) (tMsg 0) = (kS [⟨kA, 2⟩] [] kW0, [], false) := by kernel_rfl
theorem k5 : delivW (kS [⟨kA, 2⟩] [] kW0) (tMsg 1) = (kS [⟨kA, 2⟩] [] kW3, [], true) := by kernel_rfl
theorem k6 : upW kW3 = (kW4, [⟨3, 1, false, tMsg 1⟩]) := by
  have e : launchN ⟨1, 1, 0, [], [], true⟩ = 1 := by
    unfold launchN
    rw [numb_one (by rfl)]
    rfl
  show ((fillW ⟨1, 1, 0, [], [tMsg 1], true⟩).1, ([] : List Fl).map (pub true) ++ (fillW ⟨1, 1, 0, [], [tMsg 1], true⟩).2) = _
  rw [fill_one (W := ⟨1, 1, 0, [], [tMsg 1], true⟩) (m := tMsg 1) rfl rfl (by decide)]
  unfold launchW launchP
  rw [e]
  rfl
theorem k7 : delivW (kS [⟨kA, 2⟩] [] kW4) (tMsg 0) = (kS [⟨kA, 2⟩] [] kW4, [⟨3, 0, false, tMsg 0⟩], true) := by kernel_rfl
theorem k8 : delivW (kS [⟨kA, 2⟩] [] kW4) (tMsg 2) = (kS [⟨kA, 2⟩] [] kW5, [], true) := by kernel_rfl
theorem k9 : delivW (kS [⟨kA, 2⟩] [] kW5) (tMsg 1) = (kS [⟨kA, 2⟩] [] kW5, [], false) := by kernel_rfl
theorem k10 : ackW kW5 4 1 = (kW6, [⟨3, 2, false, tMsg 2⟩]) := by
  have e : launchN ⟨1, 1, 1, [], [], true⟩ = 2 := by
    unfold launchN
    rw [numb_one (by rfl)]
    rfl
  have e2 := ack_fill (W := kW5) (A := []) (B := []) (f := ⟨1, tMsg 1, false⟩) (kind := 4) rfl (by decide) rfl (.inl ⟨rfl, rfl, rfl⟩)
  refine e2.trans ?_
  show fillW ⟨1, 1, 1, [], [tMsg 2], true⟩ = _
  rw [fill_one (W := ⟨1, 1, 1, [], [tMsg 2], true⟩) (m := tMsg 2) rfl rfl (by decide)]
  unfold launchW launchP
  rw [e]
  rfl
theorem k11 : unsW (kS [⟨kA, 2⟩] [] kW6) kA = (kS [] [] kW6, true) := by kernel_rfl
theorem k12 : unsW (kS [] [] kW6) kA = (kS [] [] kW6, false) := by kernel_rfl
theorem k13 : noteW (kS [] [] kW6) 5 = (kS [] [5] kW6, true) := by kernel_rfl
theorem k14 : noteW (kS [] [5] kW6) 5 = (kS [] [5] kW6, false) := by kernel_rfl
theorem k15 : relsW (kS [] [5] kW6) 5 = (kS [] [] kW6, true) := by kernel_rfl
theorem k16 : relsW (kS [] [] kW6) 5 = (kS [] [] kW6, false) := by kernel_rfl
theorem k17 : noteW (kS [] [] kW6) 0 = (kS [] [] kW6, false) := by kernel_rfl
theorem kSmall0 : Small kW0 := ⟨by decide, by decide, by decide, by decide, by decide, by simp [kW0], by simp [kW0]⟩
theorem kSmall3 : Small kW3 := ⟨by decide, by decide, by decide, by decide, by decide, by simp [kW3], by simp [kW3, tMsg]⟩
theorem kSmall4 : Small kW4 := ⟨by decide, by decide, by decide, by decide, by decide, by simp [kW4, tMsg], by simp [kW4]⟩
theorem kSmall5 : Small kW5 := ⟨by decide, by decide, by decide, by decide, by decide, by simp [kW5, tMsg], by simp [kW5, tMsg]⟩
theorem kGood (l : List AskV) (n : List Int) (W : Win) (h : l = [] ∨ l = [⟨kA, 1⟩] ∨ l = [⟨kA, 2⟩]) : GoodS (kS l n W) := by
  rcases h with rfl | rfl | rfl
  · exact ⟨List.Pairwise.nil, by show (1 : Nat) ≤ 65536; omega, Nat.zero_le _, by simp [kS]⟩
  · exact ⟨List.pairwise_singleton _ _, by show (1 : Nat) ≤ 65536; omega, Nat.le_refl _, by simp [kS]; decide⟩
  · exact ⟨List.pairwise_singleton _ _, by show (1 : Nat) ≤ 65536; omega, Nat.le_refl _, by simp [kS]; decide⟩
theorem kWithin : within 1 0 65536 = 1 ∧ within 1 1 65535 = 1 := by decide
end Go.Proofs.Ytppndkbicekkjaa

/- Proved here: crierlaw13.known answers true. -/
namespace Go.Proofs.Ytppndkbicekkjaa
open Go Go.RowKit Go.Proofs.Gs Go.Proofs.Rt Go.Proofs.Sw Go.Proofs.Rg
open Go.Proofs.Cc (Turn Grow)

set_option maxHeartbeats 8000000 in
set_option maxRecDepth 100000 in
theorem known_any (w : World) : Calls Try.prog 9 #[] w fun e w' => e = .returned (.bool true) ∧ Below w.heap.size w w' := by
  go_enter Try.func9, Try.ntmps9
  go_wp2_with fail
  refine (newS_any (a := 1) (b := 1) (c := 1) (List.all_eq_true.1 (by rfl))).mono ?_
  rintro e w0 ⟨sb, M0, rfl, hs0, hb0, hm0⟩
  rw [kWithin.1, kWithin.2] at hs0
  have HB0 := Lib.hid hb0
  have HM0 := Lib.hid hm0
  have HP0 := Lib.hid (SesPost.refl (show SesAt M0 (fun _ => False) w0 sb (kS [] [] kW0) from hs0))
  clear hs0 hb0 hm0
  go_wp2_with fail
  refine (show Calls _ _ _ _ (fun e w' => e = .returned (.string ⟨#[107]⟩) ∧ w' = w0) from key_any HP0.out.at').mono ?_
  rintro e wx ⟨rfl, hwx⟩
  obtain rfl := hwx.symm
  clear hwx
  go_wp2_with fail
  refine (show Calls _ _ _ _ (fun e w' => e = .returned (.bool true) ∧ w' = w0) from lasting_any HP0.out.at').mono ?_
  rintro e wx ⟨rfl, hwx⟩
  obtain rfl := hwx.symm
  clear hwx
  go_wp2_with fail
  have hc := sub_any HP0.out.at' (kGood _ _ _ (.inl rfl)) ⟨kA, 1⟩ (by decide)
  simp only [k1] at hc
  refine hc.mono ?_
  rintro e w1 ⟨M1, rfl, hp1⟩
  have HP1 := Lib.hid (HP0.out.trans hp1)
  clear hc hp1
  go_wp2_with fail
  have hc := sub_any HP1.out.at' (kGood _ _ _ (.inr (.inl rfl))) ⟨kB, 0⟩ (by decide)
  simp only [k2] at hc
  refine hc.mono ?_
  rintro e w2 ⟨M2, rfl, hp2⟩
  have HP2 := Lib.hid (HP1.out.trans hp2)
  clear hc hp2
  go_wp2_with fail
  have hc := sub_any HP2.out.at' (kGood _ _ _ (.inr (.inl rfl))) ⟨kA, 2⟩ (by decide)
  simp only [k3] at hc
  refine hc.mono ?_
  rintro e w3 ⟨M3, rfl, hp3⟩
  have HP3 := Lib.hid (HP2.out.trans hp3)
  clear hc hp3
  go_wp2_with fail
  refine (msg_any 0 w3).mono ?_
  rintro e wm ⟨vm, rfl, hvm, hbm⟩
  have HPm := Lib.hid (HP3.out.more hbm)
  have HG := Lib.hid (fun b (hb : Fresh w3 wm b) => (⟨hb.2, fun hm => by have := HP3.out.at'.lim b hm; have := hb.1; omega⟩ : b < wm.heap.size ∧ ¬ _))
  have HVM := Lib.hid hvm
  obtain ⟨pvm, rfl, hpm⟩ := hvm
  clear hbm hpm
  go_wp2_with fail
  have hc := deliver_any HPm.out.at' kSmall0 HVM.out HG.out (by simp [tMsg]) (.inl rfl)
  simp only [k4] at hc
  refine hc.mono ?_
  rintro e w4 ⟨v4, M4, F4, rfl, hk4, hp4⟩
  have HP4 := Lib.hid (HPm.out.trans hp4)
  clear hc hk4 hp4 HPm HG HVM
  go_wp2_with fail
  refine (msg_any 1 w4).mono ?_
  rintro e wm ⟨vm, rfl, hvm, hbm⟩
  have HPm := Lib.hid (HP4.out.more hbm)
  have HG := Lib.hid (fun b (hb : Fresh w4 wm b) => (⟨hb.2, fun hm => by have := HP4.out.at'.lim b hm; have := hb.1; omega⟩ : b < wm.heap.size ∧ ¬ _))
  have HVM := Lib.hid hvm
  obtain ⟨pvm, rfl, hpm⟩ := hvm
  clear hbm hpm
  go_wp2_with fail
  have hc := deliver_any HPm.out.at' kSmall0 HVM.out HG.out (by simp [tMsg]) (.inr rfl)
  simp only [k5] at hc
  refine hc.mono ?_
  rintro e w5 ⟨v5, M5, F5, rfl, hk5, hp5⟩
  have HP5 := Lib.hid (HPm.out.trans hp5)
  clear hc hk5 hp5 HPm HG HVM
  obtain ⟨wb, cb, hc⟩ := ses_up HP5.out.at' kSmall3
  have hc := hc
  simp only [show ∀ l m, (kS l m kW3).win = kW3 from fun _ _ => rfl, k6] at hc
  have HC := Lib.hid hc
  clear hc
  go_wp2_with fail
  refine HC.out.mono ?_
  rintro e w6 ⟨v6, M6, F6, rfl, hk6, hp6⟩
  have HP6 := Lib.hid (show SesPost M0 (fun _ => False) M6 F6 w0 w6 sb (kS [⟨kA, 2⟩] [] kW4) from HP5.out.trans hp6)
  have HKL := Lib.hid hk6
  obtain ⟨aL, cL, hsL⟩ := hk6.slice
  subst hsL
  clear HC cb hk6 hp6
  go_wp2_with fail
  refine (msg_any 0 w6).mono ?_
  rintro e wm ⟨vm, rfl, hvm, hbm⟩
  have HPm := Lib.hid (HP6.out.more hbm)
  have HG := Lib.hid (fun b (hb : Fresh w6 wm b) => (⟨hb.2, fun hm => by have := HP6.out.at'.lim b hm; have := hb.1; omega⟩ : b < wm.heap.size ∧ ¬ _))
  have HKL := Lib.hid (HKL.out.below hbm)
  have HVM := Lib.hid hvm
  obtain ⟨pvm, rfl, hpm⟩ := hvm
  clear hbm hpm
  go_wp2_with fail
  have hc := deliver_any HPm.out.at' kSmall4 HVM.out HG.out (by simp [tMsg]) (.inl rfl)
  simp only [k7] at hc
  refine hc.mono ?_
  rintro e w7 ⟨v7, M7, F7, rfl, hk7, hp7⟩
  have HP7 := Lib.hid (HPm.out.trans hp7)
  have HKL := Lib.hid (HKL.out.ses hp7)
  have HKN := Lib.hid hk7
  obtain ⟨aN, cN, hsN⟩ := hk7.slice
  subst hsN
  clear hc hk7 hp7 HPm HG HVM
  go_wp2_with fail
  refine (msg_any 2 w7).mono ?_
  rintro e wm ⟨vm, rfl, hvm, hbm⟩
  have HPm := Lib.hid (HP7.out.more hbm)
  have HG := Lib.hid (fun b (hb : Fresh w7 wm b) => (⟨hb.2, fun hm => by have := HP7.out.at'.lim b hm; have := hb.1; omega⟩ : b < wm.heap.size ∧ ¬ _))
  have HKL := Lib.hid (HKL.out.below hbm)
  have HKN := Lib.hid (HKN.out.below hbm)
  have HVM := Lib.hid hvm
  obtain ⟨pvm, rfl, hpm⟩ := hvm
  clear hbm hpm
  go_wp2_with fail
  have hc := deliver_any HPm.out.at' kSmall4 HVM.out HG.out (by simp [tMsg]) (.inr rfl)
  simp only [k8] at hc
  refine hc.mono ?_
  rintro e w8 ⟨v8, M8, F8, rfl, hk8, hp8⟩
  have HP8 := Lib.hid (HPm.out.trans hp8)
  have HKL := Lib.hid (HKL.out.ses hp8)
  have HKN := Lib.hid (HKN.out.ses hp8)
  clear hc hk8 hp8 HPm HG HVM
  go_wp2_with fail
  refine (msg_any 1 w8).mono ?_
  rintro e wm ⟨vm, rfl, hvm, hbm⟩
  have HPm := Lib.hid (HP8.out.more hbm)
  have HG := Lib.hid (fun b (hb : Fresh w8 wm b) => (⟨hb.2, fun hm => by have := HP8.out.at'.lim b hm; have := hb.1; omega⟩ : b < wm.heap.size ∧ ¬ _))
  have HKL := Lib.hid (HKL.out.below hbm)
  have HKN := Lib.hid (HKN.out.below hbm)
  have HVM := Lib.hid hvm
  obtain ⟨pvm, rfl, hpm⟩ := hvm
  clear hbm hpm
  go_wp2_with fail
  have hc := deliver_any HPm.out.at' kSmall5 HVM.out HG.out (by simp [tMsg]) (.inr rfl)
  simp only [k9] at hc
  refine hc.mono ?_
  rintro e w9 ⟨v9, M9, F9, rfl, hk9, hp9⟩
  have HP9 := Lib.hid (HPm.out.trans hp9)
  have HKL := Lib.hid (HKL.out.ses hp9)
  have HKN := Lib.hid (HKN.out.ses hp9)
  clear hc hk9 hp9 HPm HG HVM
  obtain ⟨wb, cb, hc⟩ := ses_ack HP9.out.at' kSmall5
  have hc := hc 4 1
  simp only [show ∀ l m, (kS l m kW5).win = kW5 from fun _ _ => rfl, k10] at hc
  have HC := Lib.hid hc
  clear hc
  go_wp2_with fail
  refine HC.out.mono ?_
  rintro e w10 ⟨v10, M10, F10, rfl, hk10, hp10⟩
  have HP10 := Lib.hid (show SesPost M0 (fun _ => False) M10 F10 w0 w10 sb (kS [⟨kA, 2⟩] [] kW6) from HP9.out.trans hp10)
  have HKL := Lib.hid (HKL.out.ses hp10)
  have HKN := Lib.hid (HKN.out.ses hp10)
  have HKA := Lib.hid hk10
  obtain ⟨aA, cA, hsA⟩ := hk10.slice
  subst hsA
  clear HC cb hk10 hp10
  obtain ⟨bL, oL, cL', pvL, eL, hL⟩ := HKL.out.at (i := 0) (p := ⟨3, 1, false, tMsg 1⟩) rfl
  obtain ⟨bA, oA, cA', pvA, eA, hA⟩ := HKA.out.at (i := 0) (p := ⟨3, 2, false, tMsg 2⟩) rfl
  injection eL with e1 e2 e3
  injection eA with e4 e5 e6
  subst e1 e4
  have xL := hL 21 _ rfl
  have xA := hA 21 _ rfl
  simp only [Nat.zero_mul, Nat.zero_add] at xL xA
  clear hL hA e2 e3 e5 e6
  go_wp2_with fail
  refine (subs_any HP10.out.at' (kGood _ _ _ (.inr (.inr rfl)))).mono ?_
  rintro e ws ⟨vs, rfl, hown, hbs⟩
  have HP11 := Lib.hid (HP10.out.more hbs)
  obtain ⟨bs, os, cs, rfl, _, hcs, s0, s1⟩ : ∃ bs os cs, vs = .slice (some ⟨bs, os, none⟩) 1 cs ∧ 1 ≤ cs ∧ cs ≤ 9223372036854775807 ∧ ws.cell? ⟨bs, os, none⟩ = some (.string ⟨#[97]⟩) ∧ ws.cell? ⟨bs, os + 1, none⟩ = some (.int .i64 2) := by
    rcases RowAt.cases (RowAt.of_owns hown) with ⟨h0, _⟩ | ⟨_, b, o, c, e, h1, h2, _, hc⟩
    · cases h0
    · exact ⟨b, o, c, e, h1, h2, hc 0 _ rfl, hc 1 _ rfl⟩
  clear HKL HKN HKA xL xA hown hbs
  go_wp2_with fail
  have hc := unsub_any HP11.out.at' (kGood _ _ _ (.inr (.inr rfl))) kA (by decide)
  simp only [k11] at hc
  refine hc.mono ?_
  rintro e w12 ⟨M12, rfl, hp12⟩
  have HP12 := Lib.hid (HP11.out.trans hp12)
  clear s0 s1
  clear hc hp12
  go_wp2_with fail
  have hc := unsub_any HP12.out.at' (kGood _ _ _ (.inl rfl)) kA (by decide)
  simp only [k12] at hc
  refine hc.mono ?_
  rintro e w13 ⟨M13, rfl, hp13⟩
  have HP13 := Lib.hid (HP12.out.trans hp13)
  clear hc hp13
  go_wp2_with fail
  refine (subs_any HP13.out.at' (kGood _ _ _ (.inl rfl))).mono ?_
  rintro e ws2 ⟨vs2, rfl, hown2, hbs2⟩
  have HP14 := Lib.hid (HP13.out.more hbs2)
  obtain ⟨_, as2, cs2, hvs2, _⟩ := RowAt.of_owns hown2
  rw [show (kS [] [] kW6).subs.length = 0 from rfl] at hvs2
  subst hvs2
  clear hown2 hbs2
  go_wp2_with fail
  have hc := note_any HP14.out.at' 5 (by decide) (by decide)
  simp only [k13] at hc
  refine hc.mono ?_
  rintro e w15 ⟨rfl, hp15⟩
  have HP15 := Lib.hid (HP14.out.trans hp15)
  clear hc hp15
  go_wp2_with fail
  have hc := note_any HP15.out.at' 5 (by decide) (by decide)
  simp only [k14] at hc
  refine hc.mono ?_
  rintro e w16 ⟨rfl, hp16⟩
  have HP16 := Lib.hid (HP15.out.trans hp16)
  clear hc hp16
  go_wp2_with fail
  have hc := release_any HP16.out.at' 5 (by decide)
  simp only [k15] at hc
  refine hc.mono ?_
  rintro e w17 ⟨rfl, hp17⟩
  have HP17 := Lib.hid (HP16.out.trans hp17)
  clear hc hp17
  go_wp2_with fail
  have hc := release_any HP17.out.at' 5 (by decide)
  simp only [k16] at hc
  refine hc.mono ?_
  rintro e w18 ⟨rfl, hp18⟩
  have HP18 := Lib.hid (HP17.out.trans hp18)
  clear hc hp18
  go_wp2_with fail
  have hc := note_any HP18.out.at' 0 (by decide) (by decide)
  simp only [k17] at hc
  refine hc.mono ?_
  rintro e w19 ⟨rfl, hp19⟩
  have HP19 := Lib.hid (HP18.out.trans hp19)
  clear hc hp19
  go_wp2_with fail
  go_ret
  exact ⟨rfl, HP19.out.back HB0.out HM0.out⟩
end Go.Proofs.Ytppndkbicekkjaa

/- Proved here: the contract of window's Image. -/
namespace Go.Proofs.Ytppndkbicekkjaa
open Go Go.RowKit Go.Proofs.Gs Go.Proofs.Rt Go.Proofs.Sw Go.Proofs.Rg
open Go.Proofs.Cc (Turn Grow)

theorem infoAF : (Try.prog.info? 125).map (fun i => (i.zero, i.size, i.bytes)) = some (some (.agg #[.int .i64 0, .string ⟨#[]⟩, .slice none 0 0, .int .i64 0, .bool false, .bool false]), 6, 72) := by kernel_rfl

theorem gro_store {Z k : Nat} {α : Type} {El : (Nat → Prop) → World → List Value → α → Prop} (K : Elt k El) {E : TypeId} {w V : World} {v : Value} {xs : List α} {mb j : Nat} {u : Value} (h : Gro Z E k El (Out (fun _ => False) Z w v) w v xs) (hm : mb < Z) (hV : w.setCell ⟨mb, j, none⟩ u = V) : Gro Z E k El (Out (fun _ => False) Z V v) V v xs := by
  have hs : V.heap.size = w.heap.size := by rw [← hV]; exact size_set _ _ _
  have h1 := h.keep K (w' := V) (fun b hb hx => by
    rw [← hV]
    refine heap_setCell_other _ _ _ _ (fun e => ?_)
    have e2 : b = mb := e
    rcases hx with (hx | hx) | hx
    · exact hx
    · have := hx.1; omega
    · have := (h.bound hx.symm).1; omega) (by omega)
  exact h1.mono K (fun b hb => hb.imp id (fun hx => ⟨hx.1, by omega, hx.2.2⟩)) (fun b hb => by
    rcases hb with hb | hb
    · exact hb.elim
    · exact hb.2)

theorem gro_kept {Z k : Nat} {α : Type} {El : (Nat → Prop) → World → List Value → α → Prop} (K : Elt k El) {E : TypeId} {w V : World} {v : Value} {xs : List α} (h : Gro Z E k El (Out (fun _ => False) Z w v) w v xs) (hk : ∀ b, Z ≤ b → b < w.heap.size → V.heap[b]? = w.heap[b]?) (hs : w.heap.size ≤ V.heap.size) : Gro Z E k El (Out (fun _ => False) Z V v) V v xs := by
  have h1 := h.keep K (w' := V) (fun b hb hx => by
    rcases hx with (hx | hx) | hx
    · exact hx.elim
    · exact hk b hx.1 hb
    · exact hk b (h.bound hx.symm).1 hb) hs
  exact h1.mono K (fun b hb => hb.imp id (fun hx => ⟨hx.1, by omega, hx.2.2⟩)) (fun b hb => by
    rcases hb with hb | hb
    · exact hb.elim
    · exact hb.2)
theorem set3 {w V : World} {g : Nat} {z0 z1 z2 a0 a1 a2 : Value} {t : TypeId} (hg : w.heap[g]? = some (.cells #[z0, z1, z2] t (0, 0))) (h : ((w.setCell ⟨g, 0, none⟩ a0).setCell ⟨g, 1, none⟩ a1).setCell ⟨g, 2, none⟩ a2 = V) :
    V.heap[g]? = some (.cells #[a0, a1, a2] t (0, 0)) ∧ (∀ B, B ≤ g → Below B w V) ∧ V.heap.size = w.heap.size ∧ ∀ k, k ≠ g → V.heap[k]? = w.heap[k]? := by
  subst h
  have e1 := heap_setCell_same w g 0 _ t a0 hg
  have e2 := heap_setCell_same _ g 1 _ t a1 e1
  have e3 := heap_setCell_same _ g 2 _ t a2 e2
  refine ⟨e3, fun B hB => (((Below.refl B w).setCell (p := ⟨g, 0, none⟩) hB _).setCell (p := ⟨g, 1, none⟩) hB _).setCell (p := ⟨g, 2, none⟩) hB _, by simp [World.setCell], fun k hk => ?_⟩
  rw [heap_setCell_other _ _ _ _ hk, heap_setCell_other _ _ _ _ hk, heap_setCell_other _ _ _ _ hk]

set_option maxHeartbeats 4000000 in
set_option maxRecDepth 100000 in
theorem imageW_any {M F : Nat → Prop} {w : World} {wb rb : Nat} {W : Win} {fv wv : Value} (h : WinAt M F w wb W fv wv rb) (hs : Small W) :
    Calls Try.prog 41 #[.pointer (some ⟨wb, 0, none⟩)] w fun e w' => ∃ s1 s2 Z1 Z2, e = .returned (.agg #[.int .i64 (W.last : Nat), s1, s2]) ∧ Gro Z1 125 6 ElFl (Out (fun _ => False) Z1 w' s1) w' s1 W.fl ∧ Gro Z2 41 4 ElMg (Out (fun _ => False) Z2 w' s2) w' s2 W.wt ∧ w.heap.size ≤ Z1 ∧ w.heap.size ≤ Z2 ∧ Below w.heap.size w w' := by
  obtain ⟨Wa, hWa⟩ : ∃ Wa, w.alloc (.cells #[.int .i64 0, .slice none 0 0, .slice none 0 0] 50) = Wa := ⟨_, rfl⟩
  have hba : Below w.heap.size w Wa := by rw [← hWa]; exact (Below.refl _ _).alloc (Nat.le_refl _) _
  have ga : Wa.heap[w.heap.size]? = some (.cells #[.int .i64 0, .slice none 0 0, .slice none 0 0] 50 (0, 0)) := by rw [← hWa]; exact (MapKept.heap_alloc w _).1
  have hsa : Wa.heap.size = w.heap.size + 1 := by rw [← hWa]; simp
  obtain ⟨W0, hW0⟩ : ∃ W0, Wa.alloc (.cells #[.int .i64 (W.last : Nat), .slice none 0 0, .slice none 0 0] 50) = W0 := ⟨_, rfl⟩
  have hb0' : Below Wa.heap.size Wa W0 := by rw [← hW0]; exact (Below.refl _ _).alloc (Nat.le_refl _) _
  have g0 : W0.heap[w.heap.size + 1]? = some (.cells #[.int .i64 (W.last : Nat), .slice none 0 0, .slice none 0 0] 50 (0, 0)) := by rw [← hW0, ← hsa]; exact (MapKept.heap_alloc Wa _).1
  have ga0 := (hb0'.block _ (by omega)).trans ga
  have hs0 : W0.heap.size = w.heap.size + 2 := by rw [← hW0]; simp [hsa]
  have hb0 : Below w.heap.size w W0 := hba.trans (hb0'.mono hba.size)
  have c2 : Wa.cell? ⟨wb, 2, none⟩ = some (.int .i64 (W.last : Nat)) := (h.below hba).cell 2 _ rfl
  have h0 := h.below hb0
  obtain ⟨fa, fc, rfl⟩ := h.fslice
  obtain ⟨wa, wcp, rfl⟩ := h.wslice
  have c3 : W0.cell? ⟨wb, 3, none⟩ = some (.slice fa W.fl.length fc) := h0.cell 3 _ rfl
  obtain ⟨K, hK⟩ : ∃ K, W.fl.length = K := ⟨_, rfl⟩
  obtain ⟨N, hN⟩ : ∃ N, W.wt.length = N := ⟨_, rfl⟩
  have hKm : K ≤ 65535 := by have := hs.fl; have := hs.win; omega
  have hNm : N ≤ 65536 := by have := hs.wt; have := hs.que; omega
  rw [hK] at c3
  have HLIM := Lib.hid (fun b (hb : F b ∨ M b) => show b < w.heap.size from hb.elim (fun x => (h.hF b x).1) (h.lim b))
  have HWA := Lib.hid hWa
  have HSA := Lib.hid hsa
  have HW0 := Lib.hid hW0
  have HS0 := Lib.hid hs0
  have HB0 := Lib.hid hb0
  have HH0 := Lib.hid h0
  have HS := Lib.hid hs
  have HK := Lib.hid hK
  have HN := Lib.hid hN
  have HGA := Lib.hid ga0
  have HG0 := Lib.hid g0
  clear hWa hba ga hsa hW0 hb0' ga0 hs0 hb0 h0 h hs hK hN g0
  go_enter Try.func41, Try.ntmps41
  go_upto_region 1 with fail
  rw [HWA.out]
  go_upto_region 2 with fail
  rw [HW0.out]
  clear c2
  have hsa := HSA.out
  simp only [hsa]
  clear hsa
  go_wp2_with fail
  go_loopg [18] K (fun g s18 wr => ∃ (i : Nat) (s1 : Value), i + g = K ∧ s18 = .int .i64 (i : Nat) ∧ wr.heap[w.heap.size + 1]? = some (.cells #[.int .i64 (W.last : Nat), s1, .slice none 0 0] 50 (0, 0)) ∧ Gro W0.heap.size 125 6 ElFl (Out (fun _ => False) W0.heap.size wr s1) wr s1 (W.fl.take i) ∧ Below (w.heap.size + 1) W0 wr)
  case atStart => exact ⟨0, _, by omega, rfl, HG0.out, by rw [List.take_zero]; exact Gro.start eltFl (fun b hb => hb.elim), Below.refl _ _⟩
  case round =>
    obtain ⟨i, s1, hig, rfl, hm, hgr, hbw⟩ := hrel
    have hz0 := hbw.size
    have hat : WinAt M F wr wb W (.slice fa W.fl.length fc) (.slice wa W.wt.length wcp) rb := HH0.out.keep (fun b hb hx => hbw.block b (by have := HLIM.out b hx; omega)) hz0
    obtain ⟨L1, hL1⟩ : ∃ L1, (W.fl.take i).length = L1 := ⟨_, rfl⟩
    obtain ⟨a1, c1, hs1⟩ := hgr.slice
    rw [hL1] at hs1
    cases gk with
    | zero =>
      obtain rfl : i = K := by omega
      have hd : decide ((i : Int) < (i : Int)) = false := decide_eq_false (by omega)
      have hgr1 : Gro W0.heap.size 125 6 ElFl (Out (fun _ => False) W0.heap.size wr s1) wr s1 W.fl := by rw [← HK.out, List.take_length] at hgr; exact hgr
      have c4 : wr.cell? ⟨wb, 4, none⟩ = some (.slice wa W.wt.length wcp) := hat.cell 4 _ rfl
      rw [HN.out] at c4
      have HG1 := Lib.hid hgr1
      have HMR := Lib.hid hm
      have HBR := Lib.hid hbw
      have HAT := Lib.hid hat
      have HL1 := Lib.hid hL1
      clear hgr1 hm hbw hat hgr hL1 hz0 hig
      obtain ⟨wo, rfl⟩ : ∃ wo : World, wo = wr := ⟨_, rfl⟩
      go_wp2_with fail
      go_loopg [41] N (fun g s41 wq => ∃ (j : Nat) (s2 : Value), j + g = N ∧ s41 = .int .i64 (j : Nat) ∧ wq.heap[w.heap.size + 1]? = some (.cells #[.int .i64 (W.last : Nat), s1, s2] 50 (0, 0)) ∧ Gro wo.heap.size 41 4 ElMg (Out (fun _ => False) wo.heap.size wq s2) wq s2 (W.wt.take j) ∧ Below (w.heap.size + 1) wo wq ∧ ∀ k, k < wo.heap.size → k ≠ w.heap.size + 1 → wq.heap[k]? = wo.heap[k]?)
      case atStart => exact ⟨0, _, by omega, rfl, HMR.out, by rw [List.take_zero]; exact Gro.start eltMg (fun b hb => hb.elim), Below.refl _ _, fun _ _ _ => rfl⟩
      case round =>
        obtain ⟨j, s2, hjg, rfl, hm2, hg2, hb2, hk2⟩ := hrel
        have hz2 := hb2.size
        have hat2 : WinAt M F wr wb W (.slice fa W.fl.length fc) (.slice wa W.wt.length wcp) rb := HAT.out.keep (fun b hb hx => hk2 b hb (by have := HLIM.out b hx; omega)) hz2
        obtain ⟨L2, hL2⟩ : ∃ L2, (W.wt.take j).length = L2 := ⟨_, rfl⟩
        obtain ⟨a2, c2, hs2⟩ := hg2.slice
        rw [hL2] at hs2
        have hwo := HBR.out.size
        have hs0 := HS0.out
        subst hs2
        subst hs1
        have x0 := cell4' hm2 0 _ rfl
        have x1 := cell4' hm2 1 _ rfl
        have x2 := cell4' hm2 2 _ rfl
        have hga : wr.heap[w.heap.size]? = some (.cells #[.int .i64 0, .slice none 0 0, .slice none 0 0] 50 (0, 0)) := (hk2 _ (by omega) (by omega)).trans ((HBR.out.block _ (by omega)).trans HGA.out)
        cases gk with
        | zero =>
          obtain rfl : j = N := by omega
          have hd2 : decide ((j : Int) < (j : Int)) = false := decide_eq_false (by omega)
          have hgw : Gro wo.heap.size 41 4 ElMg (Out (fun _ => False) wo.heap.size wr (.slice a2 L2 c2)) wr (.slice a2 L2 c2) W.wt := by rw [← HN.out, List.take_length] at hg2; exact hg2
          have hgf := gro_kept eltFl HG1.out (V := wr) (fun b h1 h2 => hk2 b h2 (by omega)) hz2
          have y0 := cell4' hga 0 _ rfl
          have y1 := cell4' hga 1 _ rfl
          have y2 := cell4' hga 2 _ rfl
          have ff := fun j => frozen_of_row wr w.heap.size j _ _ hga
          have hbw : Below w.heap.size w wr := by
            refine HB0.out.trans (((HBR.out.trans (hb2.mono (Nat.le_refl _))).mono (by omega)))
          have HGW := Lib.hid hgw
          have HGF := Lib.hid hgf
          have HGA2 := Lib.hid hga
          have HBW := Lib.hid hbw
          clear hgw hgf hga hbw hat2 hm2 hg2 hb2 hk2 hz2 hwo hs0 hL2 hjg c4
          go_wp2_with fail
          obtain ⟨V, hV⟩ : ∃ V, ((wr.setCell ⟨w.heap.size, 0, none⟩ (.int .i64 (W.last : Nat))).setCell ⟨w.heap.size, 1, none⟩ (.slice a1 L1 c1)).setCell ⟨w.heap.size, 2, none⟩ (.slice a2 L2 c2) = V := ⟨_, rfl⟩
          rw [hV]
          obtain ⟨q1, q2, q3, q4⟩ := set3 HGA2.out hV
          have r0 := cell4' q1 0 _ rfl
          have r1 := cell4' q1 1 _ rfl
          have r2 := cell4' q1 2 _ rfl
          have hwo := HBR.out.size
          have hs0 := HS0.out
          have e1 := gro_kept eltFl HGF.out (V := V) (fun b h1 h2 => q4 b (by omega)) (by omega)
          have e2 := gro_kept eltMg HGW.out (V := V) (fun b h1 h2 => q4 b (by omega)) (by omega)
          have e3 := HBW.out.trans ((q2 w.heap.size (Nat.le_refl _)))
          clear hV q1 q2 q3 q4 x0 x1 x2 y0 y1 y2 ff
          refine bodyPost_ret (v := .agg #[.int .i64 (W.last : Nat), .slice a1 L1 c1, .slice a2 L2 c2]) (by simp [results, Try.results41, go_sem, r0, r1, r2]) rfl ?_
          exact ⟨_, _, W0.heap.size, wo.heap.size, rfl, e1, e2, by omega, by omega, e3⟩
        | succ gk =>
          have hd2 : decide ((j : Int) < (N : Int)) = true := decide_eq_true (by omega)
          have hq1 : (0 : Int) ≤ (j : Int) := by omega
          have hq2 : (j : Int) < (N : Int) := by omega
          have hlj : L2 = j := by rw [← hL2, List.length_take]; have := HN.out; omega
          obtain ⟨m, hm⟩ : ∃ m, W.wt[j]? = some m := ⟨_, List.getElem?_eq_getElem (by rw [HN.out]; omega)⟩
          have hrow := hat2.wreads
          obtain ⟨gb, go, rfl⟩ : ∃ gb go, wa = some ⟨gb, go, none⟩ := by
            obtain ⟨css, _, hr⟩ := hrow
            rcases RowAt.cases hr with ⟨h0, _⟩ | ⟨_, b, o, c, e, _⟩
            · have := HN.out; omega
            · injection e with e1 e2 e3
              exact ⟨b, o, e1⟩
          obtain ⟨cs, ⟨pv, rfl, hpf⟩, hc⟩ := hrow.one eltMg hm
          obtain ⟨pa, pc, rfl⟩ := pay_slice hpf
          obtain ⟨pn, hpn⟩ : ∃ pn, m.pay.length = pn := ⟨_, rfl⟩
          rw [hpn] at hc
          have k0 : wr.cell? ⟨gb, go + (j * 4 + 0), none⟩ = some (.string m.topic) := hc 0 _ rfl
          have k1 : wr.cell? ⟨gb, go + (j * 4 + 1), none⟩ = some (.slice pa pn pc) := hc 1 _ rfl
          have k2 : wr.cell? ⟨gb, go + (j * 4 + 2), none⟩ = some (.int .i64 m.qos) := hc 2 _ rfl
          have k3 : wr.cell? ⟨gb, go + (j * 4 + 3), none⟩ = some (.bool m.ret) := hc 3 _ rfl
          rw [Nat.add_zero] at k0
          rw [← Nat.add_assoc] at k1 k2 k3
          obtain ⟨V0, hV0⟩ : ∃ V0, wr.alloc (.cells #[.string m.topic, .slice pa pn pc, .int .i64 m.qos, .bool m.ret] 41) = V0 := ⟨_, rfl⟩
          have hbV : Below wr.heap.size wr V0 := by rw [← hV0]; exact (Below.refl _ _).alloc (Nat.le_refl _) _
          have gV : V0.heap[wr.heap.size]? = some (.cells #[.string m.topic, .slice pa pn pc, .int .i64 m.qos, .bool m.ret] 41 (0, 0)) := by rw [← hV0]; exact (MapKept.heap_alloc wr _).1
          have hpV := hpf.keep (Same.below hbV)
          have hfm : m.pay.length ≤ 1000000000 := HS.out.ws m (List.mem_of_getElem? hm)
          have HOWN := Lib.hid (fun (X : World) (hb : Below V0.heap.size V0 X) => own_any (F := F) (w := X) (v := .agg #[.string m.topic, .slice pa pn pc, .int .i64 m.qos, .bool m.ret]) (m := m) ⟨_, rfl, by have h1 := hpV.keep (Same.below hb); rw [hpn] at h1 ⊢; exact h1⟩ hfm)
          have n0 := cell4' gV 0 _ rfl
          have n1 := cell4' gV 1 _ rfl
          have n2 := cell4' gV 2 _ rfl
          have n3 := cell4' gV 3 _ rfl
          have m2 := cell_below' hbV x2
          have hmV := (hbV.block _ (Array.getElem?_eq_some_iff.1 hm2).1).trans hm2
          have HMV := Lib.hid hmV
          have HV0 := Lib.hid hV0
          have HBV := Lib.hid hbV
          have HGR := Lib.hid hg2
          have HB2 := Lib.hid hb2
          have HK2 := Lib.hid hk2
          have HM := Lib.hid hm
          have HJG := Lib.hid hjg
          have HPN := Lib.hid hpn
          have HL2 := Lib.hid hL2
          have HLJ := Lib.hid hlj
          have HWO := Lib.hid (And.intro hwo (And.intro hs0 hz2))
          clear hV0 hbV gV hpV hfm hpn hg2 hb2 hk2 hm hrow hc hpf hjg hm2 hmV hat2 hL2 hz2 hlj hwo hs0 hga x0 x1 x2 c4
          go_upto_region 10 with fail
          clear k0 k1 k2 k3
          rw [HV0.out]
          clear HV0
          have z0 := regr_cell n0
          have z1 := regr_cell n1
          have z2 := regr_cell n2
          have z3 := regr_cell n3
          have zm := regr_cell m2
          refine wp_region_call [0] [1, 2] [] 3 [4, 5, 6, 7] [5, 6, 7] (by kernel_rfl) (by kernel_rfl) (fun _ _ d _ _ h => by cases d <;> exact h) ?_
          simp only [pick, List.filterMap_cons, List.filterMap_nil, List.getElem?_toArray, List.getElem?_cons_zero, List.getElem?_cons_succ]
          repeat (first | (with_reducible refine wpQuiet_nil ?_) | quiet_step (fail))
          intro V1 hV1
          refine wpOp_do rfl rfl ?_
          have HC := Lib.hid (HOWN.out V1 hV1)
          clear z0 z1 z2 z3 zm n0 n1 n2 n3 m2
          go_simp
          go_at_call 65
          refine HC.out.mono ?_
          rintro e w5 ⟨v5, rfl, hv5, hb5⟩
          obtain ⟨pv5, rfl, hp5⟩ := hv5
          obtain ⟨pa5, pc5, rfl⟩ := pay_slice hp5
          have hb15 := hV1.trans (hb5.mono hV1.size)
          refine ⟨hb15, ?_⟩
          have hbr5 : Below wr.heap.size wr w5 := HBV.out.trans (hb15.mono HBV.out.size)
          have hel : ElMg (Out (fun _ => False) wo.heap.size w5 (.slice a2 L2 c2)) w5 (mgCells m (.slice pa5 m.pay.length pc5)) m := ⟨_, rfl, hp5.mono (fun b hb => .inr ⟨?p1, hb.2, ?p2⟩)⟩
          case p1 => have := hb.1; have := hV1.size; have := HBV.out.size; have := HWO.out.2.2; omega
          case p2 => intro e; have := (HGR.out.bound e.symm).2; have := hb.1; have := hV1.size; have := HBV.out.size; omega
          obtain ⟨i9, q1, q2, q3, q4⟩ := info_of infoMg
          obtain ⟨v6, w6, hrun, hgr6, hbz6, hsz6⟩ := gro_one eltMg (P := Try.prog) i9 _ 56 Try.underlying48 q1 q2 q3 q4 (by rfl) (by omega) (fun b hb => hb.elim) HWO.out.2.2 HGR.out hbr5 hel (by rw [HL2.out, HLJ.out]; unfold maxLen; omega) (by rw [HL2.out, HLJ.out]; omega)
          obtain ⟨a6, c6, hs6⟩ := hgr6.slice
          have hm6 : w6.heap[w.heap.size + 1]? = some (.cells #[.int .i64 (W.last : Nat), .slice a1 L1 c1, .slice a2 L2 c2] 50 (0, 0)) := by
            have e0 := (hb15.block _ (Array.getElem?_eq_some_iff.1 HMV.out).1).trans HMV.out
            have e1 : w6.heap[w.heap.size + 1]? = wr.heap[w.heap.size + 1]? := hbz6.block _ (by have := HWO.out.1; have := HWO.out.2.1; omega)
            have e2 : V0.heap[w.heap.size + 1]? = wr.heap[w.heap.size + 1]? := HBV.out.block _ (by have := HWO.out; omega)
            rw [e1, ← e2]
            exact HMV.out
          subst hs6
          have f6 := frozen_of_row w6 (w.heap.size + 1) 2 _ _ hm6
          have x6 := cell4' hm6 2 _ rfl
          obtain ⟨L6, hL6⟩ : ∃ L6, (W.wt.take j ++ [m]).length = L6 := ⟨_, rfl⟩
          rw [hL6] at hrun hgr6
          have HGR6 := Lib.hid hgr6
          have HM6 := Lib.hid hm6
          have HBZ6 := Lib.hid hbz6
          have HPN5 := HPN.out
          simp only [HPN5]
          simp only [HPN5] at hrun
          clear hel hb15 hbr5 hgr6 hm6 hbz6 hsz6 hL6 hp5 hb5 hV1 HPN5
          refine wpList_plain rfl (fun K hK => ?_)
          go_simp
          refine hK _ _ ?_
          clear hK K
          refine Lib.wpList_append_run _ rfl _ _ _ _ rfl _ _ rfl rfl _ _ (hrun _) ?_
          clear hrun
          go_wp2_with fail
          obtain ⟨V, hV⟩ : ∃ V, w6.setCell ⟨w.heap.size + 1, 2, none⟩ (.slice a6 L6 c6) = V := ⟨_, rfl⟩
          try rw [hV]
          have hgrV := gro_store (mb := w.heap.size + 1) eltMg HGR6.out (by have := HWO.out; omega) hV
          have hmV : V.heap[w.heap.size + 1]? = some (.cells #[.int .i64 (W.last : Nat), .slice a1 L1 c1, .slice a6 L6 c6] 50 (0, 0)) := by rw [← hV]; exact heap_setCell_same _ _ 2 _ _ _ HM6.out
          have hbV : Below (w.heap.size + 1) wo V := by
            have h1 : Below (w.heap.size + 1) wr w6 := HBZ6.out.mono (by have := HWO.out; omega)
            have h2 := (HB2.out.trans h1).setCell (p := ⟨w.heap.size + 1, 2, none⟩) (Nat.le_refl _) (.slice a6 L6 c6)
            rw [hV] at h2
            exact h2
          have hkV : ∀ k, k < wo.heap.size → k ≠ w.heap.size + 1 → V.heap[k]? = wo.heap[k]? := fun k hk hne => by
            rw [← hV]
            exact (heap_setCell_other _ _ _ _ hne).trans ((HBZ6.out.block k hk).trans (HK2.out k hk hne))
          have HGV := Lib.hid hgrV
          have HMV2 := Lib.hid hmV
          have HBV2 := Lib.hid hbV
          have HKV := Lib.hid hkV
          clear hV hgrV hmV hbV f6 x6 hkV
          go_roundg gk
          case measure => omega
          case rel => exact ⟨j + 1, _, by have := HJG.out; omega, by go_num, HMV2.out, by rw [List.take_add_one, HM.out]; exact HGV.out, HBV2.out, HKV.out⟩
    | succ gk =>
      have hd : decide ((i : Int) < (K : Int)) = true := decide_eq_true (by omega)
      have hq1 : (0 : Int) ≤ (i : Int) := by omega
      have hq2 : (i : Int) < (K : Int) := by omega
      have hli : L1 = i := by rw [← hL1, List.length_take]; have := HK.out; omega
      obtain ⟨f, hf⟩ : ∃ f, W.fl[i]? = some f := ⟨_, List.getElem?_eq_getElem (by rw [HK.out]; omega)⟩
      have hrow := hat.freads
      obtain ⟨gb, go, rfl⟩ : ∃ gb go, fa = some ⟨gb, go, none⟩ := by
        obtain ⟨css, _, hr⟩ := hrow
        rcases RowAt.cases hr with ⟨h0, _⟩ | ⟨_, b, o, c, e, _⟩
        · have := HK.out; omega
        · injection e with e1 e2 e3
          exact ⟨b, o, e1⟩
      obtain ⟨cs, ⟨pv, rfl, hpf⟩, hc⟩ := hrow.one eltFl hf
      obtain ⟨pa, pc, rfl⟩ := pay_slice hpf
      obtain ⟨pn, hpn⟩ : ∃ pn, f.msg.pay.length = pn := ⟨_, rfl⟩
      rw [hpn] at hc
      have k0 : wr.cell? ⟨gb, go + (i * 6 + 0), none⟩ = some (.int .i64 (f.id : Nat)) := hc 0 _ rfl
      have k1 : wr.cell? ⟨gb, go + (i * 6 + 1), none⟩ = some (.string f.msg.topic) := hc 1 _ rfl
      have k2 : wr.cell? ⟨gb, go + (i * 6 + 2), none⟩ = some (.slice pa pn pc) := hc 2 _ rfl
      have k3 : wr.cell? ⟨gb, go + (i * 6 + 3), none⟩ = some (.int .i64 f.msg.qos) := hc 3 _ rfl
      have k4 : wr.cell? ⟨gb, go + (i * 6 + 4), none⟩ = some (.bool f.msg.ret) := hc 4 _ rfl
      have k5 : wr.cell? ⟨gb, go + (i * 6 + 5), none⟩ = some (.bool f.rel) := hc 5 _ rfl
      rw [Nat.add_zero] at k0
      rw [← Nat.add_assoc] at k1 k2 k3 k4 k5
      obtain ⟨V0, hV0⟩ : ∃ V0, wr.alloc (.cells #[.int .i64 (f.id : Nat), .string f.msg.topic, .slice pa pn pc, .int .i64 f.msg.qos, .bool f.msg.ret, .bool f.rel] 86) = V0 := ⟨_, rfl⟩
      have hbV : Below wr.heap.size wr V0 := by rw [← hV0]; exact (Below.refl _ _).alloc (Nat.le_refl _) _
      have gV : V0.heap[wr.heap.size]? = some (.cells #[.int .i64 (f.id : Nat), .string f.msg.topic, .slice pa pn pc, .int .i64 f.msg.qos, .bool f.msg.ret, .bool f.rel] 86 (0, 0)) := by rw [← hV0]; exact (MapKept.heap_alloc wr _).1
      have hpV := hpf.keep (Same.below hbV)
      have hfm : f.msg.pay.length ≤ 1000000000 := HS.out.fs f (List.mem_of_getElem? hf)
      have HOWN := Lib.hid (fun (X : World) (hb : Below V0.heap.size V0 X) => own_any (F := F) (w := X) (v := .agg #[.string f.msg.topic, .slice pa pn pc, .int .i64 f.msg.qos, .bool f.msg.ret]) (m := f.msg) ⟨_, rfl, by have h1 := hpV.keep (Same.below hb); rw [hpn] at h1 ⊢; exact h1⟩ hfm)
      have n0 := cell4' gV 0 _ rfl
      have n1 := cell4' gV 1 _ rfl
      have n2 := cell4' gV 2 _ rfl
      have n3 := cell4' gV 3 _ rfl
      have n4 := cell4' gV 4 _ rfl
      have n5 := cell4' gV 5 _ rfl
      subst hs1
      have m1 := cell_below' hbV (cell4' hm 1 _ rfl)
      have hmV := (hbV.block _ (Array.getElem?_eq_some_iff.1 hm).1).trans hm
      have HMV := Lib.hid hmV
      have HV0 := Lib.hid hV0
      have HBV := Lib.hid hbV
      have HGR := Lib.hid hgr
      have HBW := Lib.hid hbw
      have HF := Lib.hid hf
      have HIG := Lib.hid hig
      have HPN := Lib.hid hpn
      have HL1 := Lib.hid hL1
      have HLI := Lib.hid hli
      clear hV0 hbV gV hpV hfm hpn hgr hbw hf hrow hc hpf hig hm hmV hat hL1 hz0 hli
      go_upto_region 5 with fail
      clear k0 k1 k2 k3 k4 k5
      rw [HV0.out]
      clear HV0
      go_upto_region 5 with fail
      have z0 := regr_cell n0
      have z1 := regr_cell n1
      have z2 := regr_cell n2
      have z3 := regr_cell n3
      have z4 := regr_cell n4
      have z5 := regr_cell n5
      have zm := regr_cell m1
      refine wp_region_call [0, 2, 4, 7] [1, 3, 5, 8] [] 6 [9, 10, 11, 12, 13] [11, 12, 13] (by kernel_rfl) (by kernel_rfl) (fun _ _ d _ _ h => by cases d <;> exact h) ?_
      simp only [pick, List.filterMap_cons, List.filterMap_nil, List.getElem?_toArray, List.getElem?_cons_zero, List.getElem?_cons_succ]
      repeat (first | (with_reducible refine wpQuiet_nil ?_) | quiet_step (fail))
      intro V1 hV1
      refine wpOp_do rfl rfl ?_
      have HC := Lib.hid (HOWN.out V1 hV1)
      clear z0 z1 z2 z3 z4 z5 zm n0 n1 n2 n3 n4 n5 m1
      go_simp
      go_at_call 65
      refine HC.out.mono ?_
      rintro e w5 ⟨v5, rfl, hv5, hb5⟩
      obtain ⟨pv5, rfl, hp5⟩ := hv5
      obtain ⟨pa5, pc5, rfl⟩ := pay_slice hp5
      have hb15 := hV1.trans (hb5.mono hV1.size)
      refine ⟨hb15, ?_⟩
      have hbr5 : Below wr.heap.size wr w5 := HBV.out.trans (hb15.mono HBV.out.size)
      have hel : ElFl (Out (fun _ => False) W0.heap.size w5 (.slice a1 L1 c1)) w5 (flCells f (.slice pa5 f.msg.pay.length pc5)) f := ⟨_, rfl, hp5.mono (fun b hb => .inr ⟨?p1, hb.2, ?p2⟩)⟩
      case p1 => have := hb.1; have := hV1.size; have := HBV.out.size; have := HBW.out.size; omega
      case p2 => intro e; have := (HGR.out.bound e.symm).2; have := hb.1; have := hV1.size; have := HBV.out.size; omega
      obtain ⟨i9, q1, q2, q3, q4⟩ := info_of infoAF
      obtain ⟨v6, w6, hrun, hgr6, hbz6, hsz6⟩ := gro_one eltFl (P := Try.prog) i9 _ 72 Try.underlying47 q1 q2 q3 q4 (by rfl) (by omega) (fun b hb => hb.elim) (by have := HBW.out.size; omega) HGR.out hbr5 hel (by rw [HL1.out, HLI.out]; unfold maxLen; omega) (by rw [HL1.out, HLI.out]; omega)
      obtain ⟨a6, c6, hs6⟩ := hgr6.slice
      have hm6 : w6.heap[w.heap.size + 1]? = some (.cells #[.int .i64 (W.last : Nat), .slice a1 L1 c1, .slice none 0 0] 50 (0, 0)) := by
        have e0 := (hb15.block _ (Array.getElem?_eq_some_iff.1 HMV.out).1).trans HMV.out
        have e1 : w6.heap[w.heap.size + 1]? = wr.heap[w.heap.size + 1]? := hbz6.block _ (by have := HS0.out; omega)
        have e2 : V0.heap[w.heap.size + 1]? = wr.heap[w.heap.size + 1]? := HBV.out.block _ (by have := HS0.out; have := HBW.out.size; omega)
        rw [e1, ← e2]
        exact HMV.out
      subst hs6
      have f6 := frozen_of_row w6 (w.heap.size + 1) 1 _ _ hm6
      have x6 := cell4' hm6 1 _ rfl
      obtain ⟨L6, hL6⟩ : ∃ L6, (W.fl.take i ++ [f]).length = L6 := ⟨_, rfl⟩
      rw [hL6] at hrun hgr6
      have HGR6 := Lib.hid hgr6
      have HM6 := Lib.hid hm6
      have HBZ6 := Lib.hid hbz6
      have HPN5 := HPN.out
      simp only [HPN5]
      simp only [HPN5] at hrun
      clear hel hb15 hbr5 hgr6 hm6 hbz6 hsz6 hL6 hp5 hb5 hV1 HPN5
      refine wpList_plain rfl (fun K hK => ?_)
      go_simp
      refine hK _ _ ?_
      clear hK K
      refine wpList_plain rfl (fun K hK => ?_)
      go_simp
      refine hK _ _ ?_
      clear hK K
      refine Lib.wpList_append_run _ rfl _ _ _ _ rfl _ _ rfl rfl _ _ (hrun _) ?_
      clear hrun
      go_wp2_with fail
      obtain ⟨V, hV⟩ : ∃ V, w6.setCell ⟨w.heap.size + 1, 1, none⟩ (.slice a6 L6 c6) = V := ⟨_, rfl⟩
      try rw [hV]
      have hgrV := gro_store (mb := w.heap.size + 1) eltFl HGR6.out (by have := HS0.out; omega) hV
      have hmV : V.heap[w.heap.size + 1]? = some (.cells #[.int .i64 (W.last : Nat), .slice a6 L6 c6, .slice none 0 0] 50 (0, 0)) := by rw [← hV]; exact heap_setCell_same _ _ 1 _ _ _ HM6.out
      have hbV : Below (w.heap.size + 1) W0 V := by
        have h1 : Below (w.heap.size + 1) wr w6 := HBZ6.out.mono (by have := HS0.out; omega)
        have h2 := (HBW.out.trans h1).setCell (p := ⟨w.heap.size + 1, 1, none⟩) (Nat.le_refl _) (.slice a6 L6 c6)
        rw [hV] at h2
        exact h2
      have HGV := Lib.hid hgrV
      have HMV2 := Lib.hid hmV
      have HBV2 := Lib.hid hbV
      clear hV hgrV hmV hbV f6 x6
      go_roundg gk
      case measure => omega
      case rel => exact ⟨i + 1, _, by have := HIG.out; omega, by go_num, HMV2.out, by rw [List.take_add_one, HF.out]; exact HGV.out, HBV2.out⟩
end Go.Proofs.Ytppndkbicekkjaa

/- Proved here: the library's sort of no numbers; session's Image of a session that notes none. -/
namespace Go.Proofs.Ytppndkbicekkjaa
open Go Go.RowKit Go.Proofs.Gs Go.Proofs.Rt Go.Proofs.Sw Go.Proofs.Rg
open Go.Proofs.Cc (Turn Grow)

set_option maxHeartbeats 1000000 in
set_option maxRecDepth 100000 in
theorem len64_zero (w : World) : Calls Try.prog 95 #[.int .u64 0] w fun e w' => e = .returned (.int .i64 0) ∧ w' = w := by
  go_enter Try.func95, Try.ntmps95
  go_wp2_with fail
  go_ret
  exact ⟨by kernel_rfl, rfl⟩
theorem len_zero (w : World) : Calls Try.prog 71 #[.int .u64 0] w fun e w' => e = .returned (.int .i64 0) ∧ w' = w := by
  go_enter Try.func71, Try.ntmps71
  go_wp2_with fail
  refine (len64_zero w).mono ?_
  rintro e w1 ⟨rfl, rfl⟩
  go_wp2_with fail
  go_ret
  exact ⟨rfl, rfl⟩
set_option maxRecDepth 100000 in
theorem insert_none (f : Value) (w : World) : Calls Try.prog 86 #[.slice none 0 0, .int .i64 0, .int .i64 0, f] w fun e w' => e = .returned (.tuple #[]) ∧ w' = w := by
  go_enter Try.func86, Try.ntmps86
  go_wp2_with fail
  go_loopg [8] 0 (fun g s8 wr => s8 = .int .i64 1 ∧ wr = w)
  case atStart => exact ⟨rfl, rfl⟩
  case round =>
    obtain ⟨rfl, rfl⟩ := hrel
    go_wp2_with fail
    go_end0
    exact ⟨rfl, rfl⟩
set_option maxRecDepth 100000 in
set_option maxHeartbeats 1000000 in
theorem pdq_none (f : Value) (w : World) : Calls Try.prog 70 #[.slice none 0 0, .int .i64 0, .int .i64 0, .int .i64 0, f] w fun e w' => e = .returned (.tuple #[]) ∧ w' = w := by
  go_enter Try.func70, Try.ntmps70
  go_wp2_with fail
  go_loopg [1, 2] 0 (fun g s1 s2 wr => s1 = .int .i64 0 ∧ s2 = .int .i64 0 ∧ wr = w)
  case atStart => exact ⟨rfl, rfl, rfl⟩
  case round =>
    obtain ⟨rfl, rfl, rfl⟩ := hrel
    go_wp2_with fail
    refine (insert_none f _).mono ?_
    rintro e w1 ⟨rfl, rfl⟩
    go_wp2_with fail
    refine bodyPost_ret (v := .tuple #[]) (results_none rfl _ _ _) rfl ?_
    exact ⟨rfl, rfl⟩
set_option maxRecDepth 100000 in
theorem sort_none (f : Value) (w : World) : Calls Try.prog 42 #[.slice none 0 0, f] w fun e w' => e = .returned (.tuple #[]) ∧ w' = w := by
  go_enter Try.func42, Try.ntmps42
  go_wp2_with fail
  refine (len_zero w).mono ?_
  rintro e w1 ⟨rfl, rfl⟩
  go_wp2_with fail
  refine (pdq_none f _).mono ?_
  rintro e w1 ⟨rfl, rfl⟩
  go_wp2_with fail
  go_end0
  exact ⟨rfl, rfl⟩

theorem set6g {w V : World} {g : Nat} {z0 z1 z2 z3 z4 z5 a0 a1 a2 a3 a4 a5 : Value} {t : TypeId} (hg : w.heap[g]? = some (.cells #[z0, z1, z2, z3, z4, z5] t (0, 0))) (h : (((((w.setCell ⟨g, 0, none⟩ a0).setCell ⟨g, 1, none⟩ a1).setCell ⟨g, 2, none⟩ a2).setCell ⟨g, 3, none⟩ a3).setCell ⟨g, 4, none⟩ a4).setCell ⟨g, 5, none⟩ a5 = V) :
    V.heap[g]? = some (.cells #[a0, a1, a2, a3, a4, a5] t (0, 0)) ∧ (∀ B, B ≤ g → Below B w V) ∧ V.heap.size = w.heap.size ∧ ∀ k, k ≠ g → V.heap[k]? = w.heap[k]? := set6 hg h

/-- What Image tells of a session that notes none. -/
def ImageAt (w w' : World) (S : Ses) (v : Value) : Prop :=
  ∃ sv s1 s2 Z1 Z2, v = .agg #[.string S.key, sv, .int .i64 (S.win.last : Nat), s1, s2, .slice none 0 0] ∧ w'.ownsRow w.heap.size 59 2 sv S.subs.length (subCells S.subs) ∧ Gro Z1 125 6 ElFl (Out (fun _ => False) Z1 w' s1) w' s1 S.win.fl ∧ Gro Z2 41 4 ElMg (Out (fun _ => False) Z2 w' s2) w' s2 S.win.wt ∧ w.heap.size ≤ Z1 ∧ w.heap.size ≤ Z2

/-- Behind Image's first step. -/
def Shown (Wa : World) (S : Ses) (s3 : Value) (V : World) : Prop :=
  ∃ fb sv s1 s2 Z1 Z2, s3 = .pointer (some ⟨fb, 0, none⟩) ∧ V.heap[fb]? = some (.cells #[.string S.key, sv, .int .i64 (S.win.last : Nat), s1, s2, .slice none 0 0] 52 (0, 0)) ∧ Wa.heap.size ≤ fb ∧ V.ownsRow Wa.heap.size 59 2 sv S.subs.length (subCells S.subs) ∧ sv.ownBlock ≠ some fb ∧ Gro Z1 125 6 ElFl (Out (fun _ => False) Z1 V s1) V s1 S.win.fl ∧ Gro Z2 41 4 ElMg (Out (fun _ => False) Z2 V s2) V s2 S.win.wt ∧ Wa.heap.size ≤ Z1 ∧ Wa.heap.size ≤ Z2 ∧ Below Wa.heap.size Wa V

theorem shown_end {Wa w1 w2 V : World} {S : Ses} {fb B1 Z1 Z2 : Nat} {sv s1 s2 : Value} (hB1 : Wa.heap.size ≤ B1) (hO : w1.ownsRow B1 59 2 sv S.subs.length (subCells S.subs)) (h01 : Below Wa.heap.size Wa w1) (h12 : Below w1.heap.size w1 w2) (hfs : sv.ownBlock ≠ some fb) (hG1 : Gro Z1 125 6 ElFl (Out (fun _ => False) Z1 w2 s1) w2 s1 S.win.fl) (hG2 : Gro Z2 41 4 ElMg (Out (fun _ => False) Z2 w2 s2) w2 s2 S.win.wt) (hz1 : w1.heap.size ≤ Z1) (hz2 : w1.heap.size ≤ Z2)
    (hf1 : (fb < Z1 ∧ fb < Z2) ∨ w2.heap.size ≤ fb) (hfb : Wa.heap.size ≤ fb) (hV : V.heap[fb]? = some (.cells #[.string S.key, sv, .int .i64 (S.win.last : Nat), s1, s2, .slice none 0 0] 52 (0, 0))) (hoth : ∀ k, k < w2.heap.size → k ≠ fb → V.heap[k]? = w2.heap[k]?) (hs : w2.heap.size ≤ V.heap.size) (ho : V.os = w2.os ∧ V.tape = w2.tape ∧ V.output = w2.output) :
    Shown Wa S (.pointer (some ⟨fb, 0, none⟩)) V := by
  have s1' := h01.size
  have s2' := h12.size
  have hown : V.ownsRow Wa.heap.size 59 2 sv S.subs.length (subCells S.subs) := by
    have h1 := ownsRow_keep (w' := V) hO (fun b e => (hoth b (by have := (ownsRow_bd hO e).2; omega) (fun e2 => hfs (e2 ▸ e))).trans (h12.block b (ownsRow_bd hO e).2))
    refine ⟨h1.1, h1.2.imp id (fun ⟨g, cap, cur, e, q, r⟩ => ⟨g, cap, cur, e, by omega, r⟩)⟩
  refine ⟨fb, sv, s1, s2, Z1, Z2, rfl, hV, hfb, hown, hfs, gro_kept eltFl hG1 (fun b h1 h2 => hoth b h2 (by omega)) hs, gro_kept eltMg hG2 (fun b h1 h2 => hoth b h2 (by omega)) hs, by omega, by omega, ⟨ho.1.trans (h12.os.trans h01.os), ho.2.1.trans (h12.tape.trans h01.tape), ho.2.2.trans (h12.output.trans h01.output), by omega, fun k hk => (hoth k (by omega) (by omega)).trans ((h12.block k (by omega)).trans (h01.block k hk))⟩⟩
theorem shown_new {Wa w1 w2 V : World} {S : Ses} {B1 Z1 Z2 : Nat} {a1 a2 a3 : Option Addr} {r1 r2 r3 : Nat} (hB1 : Wa.heap.size ≤ B1) (hO : w1.ownsRow B1 59 2 (.slice a1 S.subs.length r1) S.subs.length (subCells S.subs)) (h01 : Below Wa.heap.size Wa w1) (h12 : Below w1.heap.size w1 w2) (hG1 : Gro Z1 125 6 ElFl (Out (fun _ => False) Z1 w2 (.slice a2 S.win.fl.length r2)) w2 (.slice a2 S.win.fl.length r2) S.win.fl) (hG2 : Gro Z2 41 4 ElMg (Out (fun _ => False) Z2 w2 (.slice a3 S.win.wt.length r3)) w2 (.slice a3 S.win.wt.length r3) S.win.wt) (hz1 : w1.heap.size ≤ Z1) (hz2 : w1.heap.size ≤ Z2)
    (hV : w2.alloc (.cells #[.string S.key, .slice a1 S.subs.length r1, .int .i64 (S.win.last : Nat), .slice a2 S.win.fl.length r2, .slice a3 S.win.wt.length r3, .slice none 0 0] 52) = V) : Shown Wa S (.pointer (some ⟨w2.heap.size, 0, none⟩)) V := by
  have s1' := h01.size
  have s2' := h12.size
  refine shown_end hB1 hO h01 h12 (fun e => by have := (ownsRow_bd hO e).2; omega) hG1 hG2 hz1 hz2 (.inr (Nat.le_refl _)) (by omega) (by rw [← hV]; exact (MapKept.heap_alloc w2 _).1) (fun k hk _ => by rw [← hV]; exact Below.heap_alloc w2 _ k hk) (by rw [← hV]; simp) ⟨by rw [← hV]; rfl, by rw [← hV]; rfl, by rw [← hV]; rfl⟩
theorem shown_set {Wa w1 w2 V : World} {S : Ses} {B1 Z1 Z2 fb : Nat} {a1 a2 a3 : Option Addr} {r1 r2 r3 : Nat} {y0 y1 y2 y3 y4 y5 : Value} (hB1 : Wa.heap.size ≤ B1) (hO : w1.ownsRow B1 59 2 (.slice a1 S.subs.length r1) S.subs.length (subCells S.subs)) (h01 : Below Wa.heap.size Wa w1) (h12 : Below w1.heap.size w1 w2) (hG1 : Gro Z1 125 6 ElFl (Out (fun _ => False) Z1 w2 (.slice a2 S.win.fl.length r2)) w2 (.slice a2 S.win.fl.length r2) S.win.fl) (hG2 : Gro Z2 41 4 ElMg (Out (fun _ => False) Z2 w2 (.slice a3 S.win.wt.length r3)) w2 (.slice a3 S.win.wt.length r3) S.win.wt) (hz1 : w1.heap.size ≤ Z1) (hz2 : w1.heap.size ≤ Z2)
    (hq : w2.heap[fb]? = some (.cells #[y0, y1, y2, y3, y4, y5] 52 (0, 0))) (hf1 : fb < Z1 ∧ fb < Z2) (hfb : Wa.heap.size ≤ fb) (hfs : fb < B1 ∨ w1.heap.size ≤ fb)
    (hV : (((((w2.setCell ⟨fb, 0, none⟩ (.string S.key)).setCell ⟨fb, 1, none⟩ (.slice a1 S.subs.length r1)).setCell ⟨fb, 2, none⟩ (.int .i64 (S.win.last : Nat))).setCell ⟨fb, 3, none⟩ (.slice a2 S.win.fl.length r2)).setCell ⟨fb, 4, none⟩ (.slice a3 S.win.wt.length r3)).setCell ⟨fb, 5, none⟩ (.slice none 0 0) = V) : Shown Wa S (.pointer (some ⟨fb, 0, none⟩)) V := by
  obtain ⟨q1, q2, q3, q4⟩ := set6g hq hV
  exact shown_end hB1 hO h01 h12 (fun e => by have := ownsRow_bd hO e; omega) hG1 hG2 hz1 hz2 (.inl hf1) hfb q1 (fun k _ hk => q4 k hk) (by omega) ⟨(q2 fb (Nat.le_refl _)).os, (q2 fb (Nat.le_refl _)).tape, (q2 fb (Nat.le_refl _)).output⟩

set_option maxHeartbeats 2000000 in
set_option maxRecDepth 100000 in
theorem image0_any {M F : Nat → Prop} {w : World} {sb : Nat} {S : Ses} (h : SesAt M F w sb S) (hs : Small S.win) (hg : GoodS S) (hn : S.noted = []) :
    Calls Try.prog 13 #[.pointer (some ⟨sb, 0, none⟩)] w fun e w' => ∃ v, e = .returned v ∧ ImageAt w w' S v ∧ Below w.heap.size w w' := by
  obtain ⟨Wa, hWa⟩ : ∃ Wa, w.alloc (.cells #[.string ⟨#[]⟩, .slice none 0 0, .int .i64 0, .slice none 0 0, .slice none 0 0, .slice none 0 0] 52) = Wa := ⟨_, rfl⟩
  have hba : Below w.heap.size w Wa := by rw [← hWa]; exact (Below.refl _ _).alloc (Nat.le_refl _) _
  have ga : Wa.heap[w.heap.size]? = some (.cells #[.string ⟨#[]⟩, .slice none 0 0, .int .i64 0, .slice none 0 0, .slice none 0 0, .slice none 0 0] 52 (0, 0)) := by rw [← hWa]; exact (MapKept.heap_alloc w _).1
  have hsa : Wa.heap.size = w.heap.size + 1 := by rw [← hWa]; simp
  have HSUB := Lib.hid (fun (X : World) (hb : Below Wa.heap.size Wa X) => subs_any ((h.below hba).below hb) hg)
  obtain ⟨Mw, wb, rb, nb, fv, wv, sv, h⟩ := h
  have ha := h.below hba
  have HIMG := Lib.hid (fun (X : World) (hb : Below Wa.heap.size Wa X) => imageW_any (ha.below hb).win hs)
  have c0 : Wa.cell? ⟨sb, 0, none⟩ = some (.pointer (some ⟨wb, 0, none⟩)) := ha.cell 0 _ rfl
  have c1 : Wa.cell? ⟨sb, 1, none⟩ = some (.string S.key) := ha.cell 1 _ rfl
  have c5 : Wa.cell? ⟨sb, 5, none⟩ = some (.map (some nb)) := ha.cell 5 _ rfl
  obtain ⟨D, hown, hhas, -⟩ := ha.noted
  rw [hn] at hown hhas
  have HNB := Lib.hid (And.intro hown (ha.lim _ ha.mn.1))
  have HHAS := Lib.hid hhas
  have HWA := Lib.hid hWa
  have HBA := Lib.hid hba
  have HSA := Lib.hid hsa
  have HGA := Lib.hid ga
  clear h hs hg hn hWa hba ga hsa ha hown hhas
  go_enter Try.func13, Try.ntmps13
  go_upto_region 1 with fail
  rw [HWA.out]
  have k0 := cell_below' ((Below.refl _ Wa).alloc (Nat.le_refl _) (.cells #[.string ⟨#[]⟩, .slice none 0 0, .int .i64 0, .slice none 0 0, .slice none 0 0, .slice none 0 0] 52)) c0
  have k1 := cell_below' ((Below.refl _ Wa).alloc (Nat.le_refl _) (.cells #[.string ⟨#[]⟩, .slice none 0 0, .int .i64 0, .slice none 0 0, .slice none 0 0, .slice none 0 0] 52)) c1
  go_cut [3] (fun s3 wx => Shown Wa S s3 wx)
  case first =>
    go_region_law (first
      | (go_simp; go_at_call 17; refine (HSUB.out _ (by first | exact (Below.refl _ Wa).drew | exact ((Below.refl _ Wa).drew).alloc (Nat.le_refl _) _ | exact ((Below.refl _ Wa).alloc (Nat.le_refl _) _).drew)).mono ?_; rintro e w1 ⟨v1, rfl, hown1, hb1⟩; obtain ⟨_, a1, r1, hv1, _⟩ := RowAt.of_owns hown1; subst hv1; have hb1' : Below Wa.heap.size Wa w1 := (by first | exact ((Below.refl _ Wa).drew).trans hb1 | exact (((Below.refl _ Wa).drew).alloc (Nat.le_refl _) _).trans (hb1.mono (by simp)) | exact (((Below.refl _ Wa).alloc (Nat.le_refl _) _).drew).trans (hb1.mono (by simp))); have u0 := cell_below' hb1' c0; have u1 := cell_below' hb1' c1; have uu0 := cell_below' (hb1'.alloc hb1'.size (.cells #[.string ⟨#[]⟩, .slice none 0 0, .int .i64 0, .slice none 0 0, .slice none 0 0, .slice none 0 0] 52)) c0; have uu1 := cell_below' (hb1'.alloc hb1'.size (.cells #[.string ⟨#[]⟩, .slice none 0 0, .int .i64 0, .slice none 0 0, .slice none 0 0, .slice none 0 0] 52)) c1; (try (have nq := (hb1.block Wa.heap.size (by simp)).trans (MapKept.heap_alloc Wa.drew (.cells #[.string ⟨#[]⟩, .slice none 0 0, .int .i64 0, .slice none 0 0, .slice none 0 0, .slice none 0 0] 52)).1)); have HO1 := Lib.hid hown1; have HB1 := Lib.hid hb1'; clear hown1 hb1 hb1')
      | (go_simp; go_at_call 41; refine (HIMG.out _ (by first | exact HB1.out | exact HB1.out.alloc HB1.out.size _)).mono ?_; rintro e w2 ⟨s1, s2, Z1, Z2, rfl, hg1, hg2, hz1, hz2, hb2⟩; obtain ⟨a2, r2, hs1⟩ := hg1.slice; obtain ⟨a3, r3, hs2⟩ := hg2.slice; subst hs1; subst hs2; have hb2' : Below Wa.heap.size Wa w2 := (by first | exact HB1.out.trans (hb2.mono HB1.out.size) | exact (HB1.out.alloc HB1.out.size _).trans (hb2.mono (by have := HB1.out.size; simp; omega))); have x1 := cell_below' hb2' c1; have xx1 := cell_below' (hb2'.alloc hb2'.size (.cells #[.string ⟨#[]⟩, .slice none 0 0, .int .i64 0, .slice none 0 0, .slice none 0 0, .slice none 0 0] 52)) c1; (try (have nr := (hb2.block w1.heap.size (by simp)).trans (MapKept.heap_alloc w1 (.cells #[.string ⟨#[]⟩, .slice none 0 0, .int .i64 0, .slice none 0 0, .slice none 0 0, .slice none 0 0] 52)).1)); (try (have nr := (hb2.block Wa.heap.size (Array.getElem?_eq_some_iff.1 nq).1).trans nq)); (try (have nc0 := cell4' nr 0 _ rfl; have nc1 := cell4' nr 1 _ rfl; have nc2 := cell4' nr 2 _ rfl; have nc3 := cell4' nr 3 _ rfl; have nc4 := cell4' nr 4 _ rfl; have nc5 := cell4' nr 5 _ rfl; have nf := fun j => frozen_of_row w2 _ j _ _ nr)); have hb12 : Below w1.heap.size w1 w2 := (by first | exact hb2 | exact ((Below.refl _ w1).alloc (Nat.le_refl _) _).trans (hb2.mono (by simp))); have HB12 := Lib.hid hb12; clear hb12; have HG1 := Lib.hid hg1; have HG2 := Lib.hid hg2; have HZZ := Lib.hid (And.intro hz1 hz2); have HB2 := Lib.hid hb2; have HB2A := Lib.hid hb2'; clear hg1 hg2 hz1 hz2 hb2 hb2'))
    all_goals
      have hz1 := HZZ.out.1
      have hz2 := HZZ.out.2
      (try simp only [World.size_alloc] at hz1 hz2)
      go_wp2_with fail
      go_meet
    all_goals
      first
      | exact shown_new (by simp) HO1.out HB1.out HB12.out HG1.out HG2.out (by omega) (by omega) rfl
      | exact shown_set (by simp) HO1.out HB1.out HB12.out HG1.out HG2.out (by omega) (by omega) nr (by (try have hnq := (Array.getElem?_eq_some_iff.1 nq).1); omega) (by have := HB1.out.size; omega) (by first | exact .inr (Nat.le_refl _) | (left; simp)) rfl
  case rest =>
    obtain ⟨fb, sv2, s1, s2, Z1, Z2, rfl, hg, hfb, ho, hos, hg1, hg2, hz1, hz2, hb⟩ := hcut
    have c5' := cell_below' hb c5
    have hown : wc.ownsMap Try.prog 3 (unitElem (H := Unit)) nb 0 D := by
      obtain ⟨es, clock, hb', r⟩ := HNB.out.1
      exact ⟨es, clock, (hb.block _ HNB.out.2).trans hb', r⟩
    obtain ⟨_, a1, r1, hs1, _⟩ := RowAt.of_owns ho
    obtain ⟨a2, r2, hs2⟩ := hg1.slice
    obtain ⟨a3, r3, hs3⟩ := hg2.slice
    subst hs1
    subst hs2
    subst hs3
    obtain ⟨L1, hL1⟩ : ∃ L1, S.subs.length = L1 := ⟨_, rfl⟩
    obtain ⟨L2, hL2⟩ : ∃ L2, S.win.fl.length = L2 := ⟨_, rfl⟩
    obtain ⟨L3, hL3⟩ : ∃ L3, S.win.wt.length = L3 := ⟨_, rfl⟩
    have HALL := Lib.hid (And.intro hg (And.intro hfb (And.intro ho (And.intro hos (And.intro hg1 (And.intro hg2 (And.intro hz1 (And.intro hz2 hb))))))))
    simp only [hL1, hL2, hL3] at HALL
    rw [hL1, hL2, hL3] at hg
    have HL := Lib.hid (And.intro hL1 (And.intro hL2 hL3))
    clear hg hfb ho hos hg1 hg2 hz1 hz2 hb k0 k1 c0 c1 c5 hL1 hL2 hL3
    go_wp2_with (at_range; refine wpList_range_own _ rfl _ 34 rfl 3 110 keyedI Try.underlying34 _ nb _ D rfl hown ?_; intro w0 hrg0 hg0 hs0)
    have hb0 : Below wc.heap.size wc w0 := ⟨hg0.os, hg0.tape, hg0.output, hg0.size, fun k hk => hg0.block k hk (by simp)⟩
    have HB0 := Lib.hid hb0
    clear hb0 hg0 hs0 hown c5'
    (try go_frame)
    go_loopg [] 0 (fun g wr => wr = w0)
    case atStart => exact rfl
    case round =>
      obtain rfl := hrel
      have hq := (HB0.out.block _ (Array.getElem?_eq_some_iff.1 HALL.out.1).1).trans HALL.out.1
      have x0 := cell4' hq 0 _ rfl
      have x1 := cell4' hq 1 _ rfl
      have x2 := cell4' hq 2 _ rfl
      have x3 := cell4' hq 3 _ rfl
      have x4 := cell4' hq 4 _ rfl
      have x5 := cell4' hq 5 _ rfl
      have hwc := HALL.out.2.2.2.2.2.2.2.2.size
      have hga : wr.heap[w.heap.size]? = some (.cells #[.string ⟨#[]⟩, .slice none 0 0, .int .i64 0, .slice none 0 0, .slice none 0 0, .slice none 0 0] 52 (0, 0)) := (HB0.out.block _ (by have := HSA.out; omega)).trans ((HALL.out.2.2.2.2.2.2.2.2.block _ (by have := HSA.out; omega)).trans HGA.out)
      have y0 := cell4' hga 0 _ rfl
      have y1 := cell4' hga 1 _ rfl
      have y2 := cell4' hga 2 _ rfl
      have y3 := cell4' hga 3 _ rfl
      have y4 := cell4' hga 4 _ rfl
      have y5 := cell4' hga 5 _ rfl
      have ff := fun j => frozen_of_row wr w.heap.size j _ _ hga
      have HQA := Lib.hid hga
      clear hq hwc hga
      go_wp2_with (at_next; refine wpList_next_ranges _ rfl _ rfl 3 keyedI _ (Value.int .i64) (fun _ : Unit => .agg #[]) (fun key kl hk => by obtain ⟨x, hx, _⟩ := Maps.keyOf_int_inv Try.underlying3 hk; exact ⟨x, hx⟩) (fun v y hv => ⟨(), (unitElem_inv hv).1⟩) nb _ _ _ _ _ rfl hrg0 ?_ ?_)
      rotate_left
      · intro x kl a b w' cnt' hk hl
        exfalso
        obtain ⟨x', _, rfl, _⟩ := Maps.keyOf_int_inv Try.underlying3 hk
        rw [HHAS.out] at hl
        cases hl
      intro _ _
      go_wp2_with fail
      refine (sort_none _ _).mono ?_
      rintro e w5 ⟨rfl, rfl⟩
      go_wp2_with fail
      obtain ⟨V, hV⟩ : ∃ V, (((((w5.setCell ⟨w.heap.size, 0, none⟩ (.string S.key)).setCell ⟨w.heap.size, 1, none⟩ (.slice a1 L1 r1)).setCell ⟨w.heap.size, 2, none⟩ (.int .i64 (S.win.last : Nat))).setCell ⟨w.heap.size, 3, none⟩ (.slice a2 L2 r2)).setCell ⟨w.heap.size, 4, none⟩ (.slice a3 L3 r3)).setCell ⟨w.heap.size, 5, none⟩ (.slice none 0 0) = V := ⟨_, rfl⟩
      rw [hV]
      obtain ⟨q1, q2, q3, q4⟩ := set6g HQA.out hV
      have r0 := cell4' q1 0 _ rfl
      have r1' := cell4' q1 1 _ rfl
      have r2' := cell4' q1 2 _ rfl
      have r3' := cell4' q1 3 _ rfl
      have r4' := cell4' q1 4 _ rfl
      have r5' := cell4' q1 5 _ rfl
      obtain ⟨_, hfb, ho, hos, hg1, hg2, hz1, hz2, hb⟩ := HALL.out
      have hsa := HSA.out
      have hwc := hb.size
      have hw5 := HB0.out.size
      have hkeep : ∀ k, k < wc.heap.size → k ≠ w.heap.size → V.heap[k]? = wc.heap[k]? := fun k hk hne => (q4 k hne).trans (HB0.out.block k hk)
      have e1 := gro_kept eltFl hg1 (V := V) (fun b h1 h2 => hkeep b h2 (by omega)) (by omega)
      have e2 := gro_kept eltMg hg2 (V := V) (fun b h1 h2 => hkeep b h2 (by omega)) (by omega)
      have e3 : V.ownsRow w.heap.size 59 2 (.slice a1 L1 r1) L1 (subCells S.subs) := by
        have h1 := ownsRow_keep (w' := V) ho (fun b e => hkeep b (ownsRow_bd ho e).2 (by have := (ownsRow_bd ho e).1; omega))
        exact ⟨h1.1, h1.2.imp id (fun ⟨g, cap, cur, e, q, r⟩ => ⟨g, cap, cur, e, by omega, r⟩)⟩
      have e4 : Below w.heap.size w V := HBA.out.trans ((hb.trans (HB0.out.mono hwc)).mono (by omega)) |>.trans (q2 w.heap.size (Nat.le_refl _))
      have hL := HL.out
      have HFIN := Lib.hid (show ImageAt w V S (.agg #[.string S.key, .slice a1 L1 r1, .int .i64 (S.win.last : Nat), .slice a2 L2 r2, .slice a3 L3 r3, .slice none 0 0]) from ⟨_, _, _, Z1, Z2, rfl, by rw [hL.1]; exact e3, e1, e2, by omega, by omega⟩)
      have HE4 := Lib.hid e4
      clear hV q1 q2 q3 q4 e1 e2 e3 e4 hL hkeep ho hos hg1 hg2 hz1 hz2 hb hfb hsa hwc hw5 x0 x1 x2 x3 x4 x5 y0 y1 y2 y3 y4 y5 ff
      refine bodyPost_ret (v := .agg #[.string S.key, .slice a1 L1 r1, .int .i64 (S.win.last : Nat), .slice a2 L2 r2, .slice a3 L3 r3, .slice none 0 0]) (by simp [results, Try.results13, go_sem, r0, r1', r2', r3', r4', r5']) rfl ?_
      exact ⟨_, rfl, HFIN.out, HE4.out⟩
end Go.Proofs.Ytppndkbicekkjaa

/- Plain: what a window does in the laws: one message behind the other (SessionLong); what waits while it is offline (SessionFull). No program in sight. -/
namespace Go.Proofs.Sw
open Go Go.Proofs.Rt

/-- What was given last, ahead of round i. -/
def lastAt (i : Nat) : Nat := if i = 0 then 0 else (i - 1) % 65535 + 1
theorem lastAt_le (i : Nat) : lastAt i ≤ 65535 := by unfold lastAt; split; omega; have := Nat.mod_lt (i - 1) (show 0 < 65535 by omega); omega
theorem lastAt_succ (i : Nat) : lastAt (i + 1) = i % 65535 + 1 := by unfold lastAt; rw [if_neg (by omega), Nat.add_sub_cancel]
theorem nextId_lastAt (i : Nat) : nextId (lastAt i) = i % 65535 + 1 := by
  unfold nextId lastAt
  split
  · next h => subst h; rfl
  · next h =>
    obtain ⟨j, rfl⟩ : ∃ j, i = j + 1 := ⟨i - 1, by omega⟩
    rw [Nat.add_sub_cancel]
    congr 1
    rw [Nat.add_mod (j % 65535) 1, Nat.mod_mod, ← Nat.add_mod]

/-- The window of SessionLong ahead of round i. -/
def longW (win que i : Nat) : Win := ⟨win, que, lastAt i, [], [], true⟩
def oneW (win que i : Nat) (m : MsgV) : Win := ⟨win, que, i % 65535 + 1, [⟨i % 65535 + 1, m, false⟩], [], true⟩
def relW (win que i : Nat) : Win := ⟨win, que, i % 65535 + 1, [⟨i % 65535 + 1, noMsg, true⟩], [], true⟩
theorem long_launch (win que i : Nat) : launchN (longW win que i) = i % 65535 + 1 := by
  unfold launchN longW
  rw [show (65535 : Nat) = 65534 + 1 from rfl, numb, if_neg (by simp [has])]
  exact nextId_lastAt i
theorem long_send (win que i : Nat) (m : MsgV) (h : 0 < win) : sendW (longW win que i) m = (oneW win que i m, [⟨3, i % 65535 + 1, false, m⟩], true) := by
  have e := long_launch win que i
  unfold sendW
  rw [if_pos ⟨rfl, by show ([] : List Fl).length < win; exact h⟩]
  unfold launchW launchP
  rw [e]
  rfl
theorem long_ack (win que i : Nat) (m : MsgV) (h : m.qos = 1) : ackW (oneW win que i m) 4 (i % 65535 + 1) = (longW win que (i + 1), []) := by
  unfold ackW
  have e : spotF (oneW win que i m).fl (i % 65535 + 1) = 0 := by unfold oneW; simp only [spotF, if_true]
  rw [e]
  show (if true = false then _ else _) = _
  rw [if_neg (by simp), if_pos (.inl ⟨rfl, rfl, h⟩), fill_none rfl]
  unfold longW
  rw [lastAt_succ]
  rfl
theorem long_rec (win que i : Nat) (m : MsgV) (h : m.qos = 2) : ackW (oneW win que i m) 5 (i % 65535 + 1) = (relW win que i, [⟨6, i % 65535 + 1, false, noMsg⟩]) := by
  unfold ackW
  have e : spotF (oneW win que i m).fl (i % 65535 + 1) = 0 := by unfold oneW; simp only [spotF, if_true]
  rw [e]
  show (if true = false then _ else if _ then _ else _) = _
  rw [if_neg (by simp), if_neg (by simp), if_pos ⟨rfl, .inr h⟩]
  rfl
theorem long_comp (win que i : Nat) : ackW (relW win que i) 7 (i % 65535 + 1) = (longW win que (i + 1), []) := by
  unfold ackW
  have e : spotF (relW win que i).fl (i % 65535 + 1) = 0 := by unfold relW; simp only [spotF, if_true]
  rw [e]
  show (if true = false then _ else _) = _
  rw [if_neg (by simp), if_pos (.inr ⟨rfl, rfl⟩), fill_none rfl]
  unfold longW
  rw [lastAt_succ]
  rfl

/-- The window of SessionFull behind i messages. -/
def fullW (win que i : Nat) (m : MsgV) : Win := ⟨win, que, 0, [], List.replicate i m, false⟩
theorem full_send (win que i : Nat) (m : MsgV) (h : i < que) : sendW (fullW win que i m) m = (fullW win que (i + 1) m, [], true) := by
  unfold sendW
  rw [if_neg (by simp [fullW]), if_pos (by simpa [fullW] using h)]
  unfold fullW
  rw [List.replicate_succ']
theorem full_not (win que : Nat) (m : MsgV) : sendW (fullW win que que m) m = (fullW win que que m, [], false) := by
  unfold sendW
  rw [if_neg (by simp [fullW]), if_neg (by simp [fullW])]
end Go.Proofs.Sw

/- Proved here: the contract of crierlaw13's place (a number from 0 to n - 1 out of any number). -/
namespace Go.Proofs.Ytppndkbicekkjaa
open Go Go.RowKit Go.Proofs.Gs Go.Proofs.Rt Go.Proofs.Sw
open Go.Proofs.Cc (Turn Grow)

theorem ret_nat {x : Int} (h : 0 ≤ x) : Ending.returned (.int .i64 x) = .returned (.int .i64 (x.toNat : Nat)) := by rw [Int.toNat_of_nonneg h]

theorem lwPlace_any (k n : Int) (w : World) (hn : 0 < n) (hn2 : n ≤ 4000000000) (_hk1 : -9223372036854775808 ≤ k) (_hk2 : k ≤ 9223372036854775807) :
    Calls Try.prog 7 #[.int .i64 k, .int .i64 n] w fun e w' => (∃ r : Nat, e = .returned (.int .i64 (r : Nat)) ∧ (r : Int) < n) ∧ w = w' := by
  have h1 := Int.tmod_lt_of_pos k hn
  have h2 : -n < k.tmod n := Int.lt_tmod_of_pos k hn
  go_enter Try.func7, Try.ntmps7
  go_wp2_with fail
  · have h3 : k.tmod n < 0 := by assumption
    go_ret
    exact ⟨⟨(k.tmod n + n).toNat, ret_nat (by omega), by omega⟩, rfl⟩
  · have h3 : 0 ≤ k.tmod n := by assumption
    go_ret
    exact ⟨⟨(k.tmod n).toNat, ret_nat (by omega), by omega⟩, rfl⟩

/-- A message without a payload. -/
def nMsg (q : Int) : MsgV := ⟨⟨#[116]⟩, [], q, false⟩
theorem nMsg_val (F : Nat → Prop) (w : World) (q : Int) : MsgVal F w (.agg #[.string ⟨#[116]⟩, .slice none 0 0, .int .i64 q, .bool false]) (nMsg q) := ⟨_, rfl, no_pay F w⟩
theorem within_range (n least most : Int) (h0 : 0 ≤ least) (h : least ≤ most) : least ≤ within n least most ∧ (within n least most : Int) ≤ most := by unfold within; omega
end Go.Proofs.Ytppndkbicekkjaa

/- Plain: numbers of six figures as filters: each is one; a greater number stands behind. No program in sight. -/
namespace Go.Proofs.Sw
open Go Go.Proofs.Rt Go.Proofs.Tp

/-- The j-th of six figures (from the left). -/
def fig (n j : Nat) : Nat := 48 + n / 10 ^ (5 - j) % 10
theorem fig_range (n j : Nat) : 48 ≤ fig n j ∧ fig n j ≤ 57 := by unfold fig; omega
/-- What k rounds have laid. -/
def dl (n k : Nat) : List UInt8 := (List.range 6).map fun j => if 6 - k ≤ j then UInt8.ofNat (fig n j) else 48
theorem dl_len (n k : Nat) : (dl n k).length = 6 := by simp [dl]
theorem dl_start (n : Nat) : dl n 0 = [48, 48, 48, 48, 48, 48] := rfl
theorem dl_set (n k : Nat) (h : k < 6) : (dl n k).set (5 - k) (UInt8.ofNat (fig n (5 - k))) = dl n (k + 1) := by
  apply List.ext_getElem?
  intro j
  unfold dl
  rw [List.getElem?_set, List.getElem?_map, List.getElem?_map]
  by_cases hj : j < 6
  · rw [List.getElem?_range hj]
    simp only [Option.map_some, List.length_map, List.length_range]
    by_cases e : 5 - k = j
    · rw [if_pos e, if_pos (by omega), if_pos (by omega), e]
    · rw [if_neg e]
      by_cases h1 : 6 - k ≤ j
      · rw [if_pos h1, if_pos (by omega)]
      · rw [if_neg h1, if_neg (by omega)]
  · rw [if_neg (by omega), List.getElem?_eq_none (by simp; omega)]
    rfl
/-- A number as a text. -/
def dg (n : Nat) : ByteArray := ⟨(dl n 6).toArray⟩
theorem dg_list (n : Nat) : (dg n).data.toList = [UInt8.ofNat (fig n 0), UInt8.ofNat (fig n 1), UInt8.ofNat (fig n 2), UInt8.ofNat (fig n 3), UInt8.ofNat (fig n 4), UInt8.ofNat (fig n 5)] := rfl
theorem dg_mem {n : Nat} {c : UInt8} (h : c ∈ (dg n).data.toList) : 48 ≤ c.toNat ∧ c.toNat ≤ 57 := by
  rw [dg_list] at h
  have key : ∀ j, 48 ≤ (UInt8.ofNat (fig n j)).toNat ∧ (UInt8.ofNat (fig n j)).toNat ≤ 57 := fun j => by
    have := fig_range n j
    rw [UInt8.toNat_ofNat']
    omega
  simp only [List.mem_cons, List.not_mem_nil, or_false] at h
  rcases h with rfl | rfl | rfl | rfl | rfl | rfl <;> exact key _
theorem dg_plain (n : Nat) : levels (dg n) = [dg n] := levels_plain (fun h => by have := dg_mem h; simp at this)
theorem dg_size (n : Nat) : (dg n).size = 6 := rfl
theorem utf_low : ∀ {l : List UInt8}, (∀ c ∈ l, 48 ≤ c.toNat ∧ c.toNat ≤ 57) → utf [] l = true
  | [], _ => rfl
  | c :: l, h => by
    have hc := h c List.mem_cons_self
    have ih := utf_low (l := l) (fun x hx => h x (List.mem_cons_of_mem _ hx))
    rw [utf_nil]
    unfold need
    rw [if_neg (by omega), if_pos (by omega)]
    exact ih
theorem dg_right (n : Nat) : right ⟨dg n, 1⟩ = true := by
  have h1 : isText (dg n) = true := by unfold isText; rw [utf_low (fun c hc => dg_mem hc)]; rfl
  have h2 : sign (dg n) = false := by
    unfold sign signL
    rw [List.any_eq_false]
    intro c hc
    have := dg_mem hc
    simp only [Bool.or_eq_true, beq_iff_eq, not_or]
    constructor <;> (rintro rfl; simp at this)
  have h3 : badLv (levels (dg n)) = false := by
    rw [dg_plain]
    unfold badLv
    rw [h2]
    simp [badLv]
  have h4 : textE (dg n) = 0 := by unfold textE; rw [dg_size, h1]; rfl
  unfold right chkF
  rw [h4, h3]
  rfl
theorem ofNat_lt {a b : Nat} (ha : a ≤ 57) (hb : b ≤ 57) (h : a < b) : UInt8.ofNat a < UInt8.ofNat b := by
  rw [UInt8.lt_iff_toNat_lt, UInt8.toNat_ofNat', UInt8.toNat_ofNat']
  omega
theorem div_chain (n : Nat) : ∃ a b c d e, n / 10 = a ∧ a / 10 = b ∧ b / 10 = c ∧ c / 10 = d ∧ d / 10 = e ∧ fig n 0 = 48 + e % 10 ∧ fig n 1 = 48 + d % 10 ∧ fig n 2 = 48 + c % 10 ∧ fig n 3 = 48 + b % 10 ∧ fig n 4 = 48 + a % 10 ∧ fig n 5 = 48 + n % 10 := by
  refine ⟨_, _, _, _, _, rfl, rfl, rfl, rfl, rfl, ?_, ?_, ?_, ?_, rfl, ?_⟩
  · unfold fig; simp only [Nat.div_div_eq_div_mul]
  · unfold fig; simp only [Nat.div_div_eq_div_mul]
  · unfold fig; simp only [Nat.div_div_eq_div_mul]
  · unfold fig; simp only [Nat.div_div_eq_div_mul]
  · unfold fig; simp
theorem figs_lt {i j : Nat} (h : i < j) (hj : j < 1000000) : fig i 0 < fig j 0 ∨ fig i 0 = fig j 0 ∧ (fig i 1 < fig j 1 ∨ fig i 1 = fig j 1 ∧ (fig i 2 < fig j 2 ∨ fig i 2 = fig j 2 ∧ (fig i 3 < fig j 3 ∨ fig i 3 = fig j 3 ∧ (fig i 4 < fig j 4 ∨ fig i 4 = fig j 4 ∧ fig i 5 < fig j 5)))) := by
  obtain ⟨a, b, c, d, e, h1, h2, h3, h4, h5, f0, f1, f2, f3, f4, f5⟩ := div_chain i
  obtain ⟨a', b', c', d', e', k1, k2, k3, k4, k5, g0, g1, g2, g3, g4, g5⟩ := div_chain j
  rw [f0, f1, f2, f3, f4, f5, g0, g1, g2, g3, g4, g5]
  clear f0 f1 f2 f3 f4 f5 g0 g1 g2 g3 g4 g5
  by_cases q5 : e < e'
  · left; omega
  by_cases q4 : d < d'
  · right; refine ⟨by omega, .inl (by omega)⟩
  by_cases q3 : c < c'
  · right; refine ⟨by omega, .inr ⟨by omega, .inl (by omega)⟩⟩
  by_cases q2 : b < b'
  · right; refine ⟨by omega, .inr ⟨by omega, .inr ⟨by omega, .inl (by omega)⟩⟩⟩
  by_cases q1 : a < a'
  · right; refine ⟨by omega, .inr ⟨by omega, .inr ⟨by omega, .inr ⟨by omega, .inl (by omega)⟩⟩⟩⟩
  · right; refine ⟨by omega, .inr ⟨by omega, .inr ⟨by omega, .inr ⟨by omega, .inr ⟨by omega, by omega⟩⟩⟩⟩⟩
theorem dg_lt {i j : Nat} (h : i < j) (hj : j < 1000000) : (dg i).data.toList < (dg j).data.toList := by
  rw [dg_list, dg_list]
  have f0 := fig_range i 0
  have key : ∀ k, fig i k ≤ 57 ∧ fig j k ≤ 57 := fun k => ⟨(fig_range i k).2, (fig_range j k).2⟩
  have e : ∀ k, fig i k = fig j k → UInt8.ofNat (fig i k) = UInt8.ofNat (fig j k) := fun k h => by rw [h]
  have l : ∀ k, fig i k < fig j k → UInt8.ofNat (fig i k) < UInt8.ofNat (fig j k) := fun k h => ofNat_lt (key k).1 (key k).2 h
  have hc : fig i 0 < fig j 0 ∨ fig i 0 = fig j 0 ∧ (fig i 1 < fig j 1 ∨ fig i 1 = fig j 1 ∧ (fig i 2 < fig j 2 ∨ fig i 2 = fig j 2 ∧ (fig i 3 < fig j 3 ∨ fig i 3 = fig j 3 ∧ (fig i 4 < fig j 4 ∨ fig i 4 = fig j 4 ∧ fig i 5 < fig j 5)))) := figs_lt h hj
  simp only [List.cons_lt_cons_iff]
  rcases hc with h | ⟨h0, h | ⟨h1, h | ⟨h2, h | ⟨h3, h | ⟨h4, h⟩⟩⟩⟩⟩
  · exact .inl (l 0 h)
  · exact .inr ⟨e 0 h0, .inl (l 1 h)⟩
  · exact .inr ⟨e 0 h0, .inr ⟨e 1 h1, .inl (l 2 h)⟩⟩
  · exact .inr ⟨e 0 h0, .inr ⟨e 1 h1, .inr ⟨e 2 h2, .inl (l 3 h)⟩⟩⟩
  · exact .inr ⟨e 0 h0, .inr ⟨e 1 h1, .inr ⟨e 2 h2, .inr ⟨e 3 h3, .inl (l 4 h)⟩⟩⟩⟩
  · exact .inr ⟨e 0 h0, .inr ⟨e 1 h1, .inr ⟨e 2 h2, .inr ⟨e 3 h3, .inr ⟨e 4 h4, .inl (l 5 h)⟩⟩⟩⟩⟩
theorem dg_cmp {i j : Nat} (h : i < j) (hj : j < 1000000) : cmpT (dg i) (dg j) < 0 := by
  unfold cmpT
  have e : cmpB (dg i) (dg j) = -1 := by unfold cmpB; rw [if_pos (dg_lt h hj)]
  rw [dg_plain, dg_plain, cmpL_cons, e, if_neg (by decide)]
  decide

/-- The filters laid so far. -/
def dgs (i : Nat) : List AskV := (List.range i).map fun j => ⟨dg j, 1⟩
theorem dgs_len (i : Nat) : (dgs i).length = i := by simp [dgs]
theorem dgs_order {i : Nat} (h : i ≤ 1000000) : InOrder (dgs i) := by
  unfold InOrder dgs
  refine List.pairwise_map.2 (List.pairwise_iff_getElem.2 (fun a b ha hb hab => ?_))
  rw [List.getElem_range, List.getElem_range]
  rw [List.length_range] at hb
  exact dg_cmp hab (by omega)
theorem dgs_end {i : Nat} (h : i < 1000000) : spotA (dg i) (dgs i) = i ∧ hasA (dgs i) (dg i) = false := by
  have e : spotA (dg i) (dgs i) = i := by
    rw [spotA_end (fun a ha => ?_), dgs_len]
    obtain ⟨j, hj, rfl⟩ := List.mem_map.1 ha
    exact dg_cmp (List.mem_range.1 hj) h
  refine ⟨e, ?_⟩
  unfold hasA
  rw [e, List.getElem?_eq_none (by rw [dgs_len]; exact Nat.le_refl _)]
theorem dgs_sub {S : Ses} {i : Nat} (hs : S.subs = dgs i) (h : i < S.most) (hm : S.most ≤ 65536) : subW S ⟨dg i, 1⟩ = ({ S with subs := dgs (i + 1) }, 1) := by
  obtain ⟨e1, e2⟩ := dgs_end (i := i) (by omega)
  unfold subW
  rw [if_neg (by rw [dg_right]; simp), hs]
  simp only [e1, e2, Bool.false_eq_true, if_false, dgs_len]
  rw [if_pos h]
  have e3 : (dgs i).take i ++ (⟨dg i, 1⟩ : AskV) :: (dgs i).drop i = dgs (i + 1) := by
    have := dgs_len i
    rw [List.take_of_length_le (by omega), List.drop_of_length_le (by omega)]
    unfold dgs
    rw [List.range_succ, List.map_append]
    rfl
  rw [e3]
theorem dgs_not {S : Ses} (hs : S.subs = dgs S.most) (hm : S.most ≤ 65536) : subW S ⟨dg S.most, 1⟩ = (S, 128) := by
  obtain ⟨e1, e2⟩ := dgs_end (i := S.most) (by omega)
  unfold subW
  rw [if_neg (by rw [dg_right]; simp), hs]
  simp only [e2, Bool.false_eq_true, if_false, dgs_len]
  rw [if_neg (by omega)]
end Go.Proofs.Sw
