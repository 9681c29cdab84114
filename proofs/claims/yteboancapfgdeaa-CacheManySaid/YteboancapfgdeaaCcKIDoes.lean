/- Proved here: does, one call of a pair. -/
import Derived.Test.YteboancapfgdeaaCcKIAllB
import Derived.Test.YteboancapfgdeaaCcKIOldestB
import Derived.Test.YteboancapfgdeaaCcDoesP
import Derived.Test.YteboancapfgdeaaCcCodesK
namespace Go.Proofs.Yteboancapfgdeaa.KI
open Go.RowKit Go.Proofs.Cc
attribute [local go_sem ↓] Go.wp_at_zero Go.wp_at_succ

abbrev QuadKI := Quad (K := KeyV) (V := I64) Try.prog 31 31 3 2 1 120 kdK kdI zeroK zeroI

structure DoesAt (o : Nat → Nat) (i : Nat) (w : World) (c mp kp vp most : Nat) (E : List (Ent KeyV I64)) (KL : List KeyV) (VL : List I64) : Prop where
  quad : QuadKI o i w c mp kp vp most E (codeL KL VL (E.map kv)) KL VL
  key : ∀ p ∈ E.map kv, p.1 ∈ KL
  val : ∀ p ∈ E.map kv, p.2 ∈ VL
  len : E.length ≤ most

structure BoxAt (w : World) (b c mp kp vp : Nat) : Prop where
  p0 : w.cell? ⟨b, 0, none⟩ = some (.pointer (some ⟨c, 0, none⟩))
  p1 : w.cell? ⟨b, 1, none⟩ = some (.pointer (some ⟨mp, 0, none⟩))
  p2 : w.cell? ⟨b, 2, none⟩ = some (.pointer (some ⟨kp, 0, none⟩))
  p3 : w.cell? ⟨b, 3, none⟩ = some (.pointer (some ⟨vp, 0, none⟩))

theorem BoxAt.turn {A B : World} {S : Nat → Prop} {b c mp kp vp : Nat} (h : BoxAt A b c mp kp vp) (hT : Turn S A B) (hn : ¬ S b) : BoxAt B b c mp kp vp := by
  have hs : Same (fun x => x = b) A B := hT.same (fun x hx hS => hn (hx ▸ hS))
  exact ⟨hs.cell rfl h.p0, hs.cell rfl h.p1, hs.cell rfl h.p2, hs.cell rfl h.p3⟩

theorem BoxAt.drew {A : World} {b c mp kp vp : Nat} (h : BoxAt A b c mp kp vp) : BoxAt A.drew b c mp kp vp := ⟨h.p0, h.p1, h.p2, h.p3⟩

theorem box_new (w : World) (c mp kp vp : Nat) {w1 : World} {t : TypeId} (h : w.alloc (.cells #[.pointer (some ⟨c, 0, none⟩), .pointer (some ⟨mp, 0, none⟩), .pointer (some ⟨kp, 0, none⟩), .pointer (some ⟨vp, 0, none⟩)] t) = w1) :
    Below w.heap.size w w1 ∧ w1.heap.size = w.heap.size + 1 ∧ BoxAt w1 w.heap.size c mp kp vp := by
  subst h
  have g0 := (MapKept.heap_alloc w (.cells #[.pointer (some ⟨c, 0, none⟩), .pointer (some ⟨mp, 0, none⟩), .pointer (some ⟨kp, 0, none⟩), .pointer (some ⟨vp, 0, none⟩)] t)).1
  exact ⟨(Below.refl _ w).alloc (Nat.le_refl _) _, by simp, by unfold World.cell?; simp only; rw [g0]; rfl, by unfold World.cell?; simp only; rw [g0]; rfl, by unfold World.cell?; simp only; rw [g0]; rfl, by unfold World.cell?; simp only; rw [g0]; rfl⟩

/-- .. and the key in the block behind it. -/
structure Box2At (w : World) (b c mp kp vp : Nat) (x : KeyV) : Prop where
  p0 : w.cell? ⟨b, 0, none⟩ = some (.pointer (some ⟨c, 0, none⟩))
  p1 : w.cell? ⟨b, 1, none⟩ = some (.pointer (some ⟨mp, 0, none⟩))
  p2 : w.cell? ⟨b, 2, none⟩ = some (.pointer (some ⟨kp, 0, none⟩))
  p3 : w.cell? ⟨b, 3, none⟩ = some (.pointer (some ⟨vp, 0, none⟩))
  x0 : w.cell? ⟨b + 1, 0, none⟩ = some (.string x.name.1)
  x1 : w.cell? ⟨b + 1, 1, none⟩ = some (.int .i64 x.n.1)

theorem Box2At.turn {A B : World} {S : Nat → Prop} {b c mp kp vp : Nat} {x : KeyV} (h : Box2At A b c mp kp vp x) (hT : Turn S A B) (hn : ∀ y, b ≤ y → y < b + 2 → ¬ S y) : Box2At B b c mp kp vp x := by
  have hs : Same (fun y => b ≤ y ∧ y < b + 2) A B := hT.same (fun y hy hS => hn y hy.1 hy.2 hS)
  have h0 : b ≤ b ∧ b < b + 2 := by omega
  have h1 : b ≤ b + 1 ∧ b + 1 < b + 2 := by omega
  exact ⟨hs.cell h0 h.p0, hs.cell h0 h.p1, hs.cell h0 h.p2, hs.cell h0 h.p3, hs.cell h1 h.x0, hs.cell h1 h.x1⟩

theorem Box2At.below {A B : World} {b c mp kp vp : Nat} {x : KeyV} (h : Box2At A b c mp kp vp x) (hb : Below A.heap.size A B) : Box2At B b c mp kp vp x := by
  have hs : Same (fun _ => True) A B := Below.toSame hb
  exact ⟨hs.cell trivial h.p0, hs.cell trivial h.p1, hs.cell trivial h.p2, hs.cell trivial h.p3, hs.cell trivial h.x0, hs.cell trivial h.x1⟩

theorem Box2At.drew {A : World} {b c mp kp vp : Nat} {x : KeyV} (h : Box2At A b c mp kp vp x) : Box2At A.drew b c mp kp vp x := ⟨h.p0, h.p1, h.p2, h.p3, h.x0, h.x1⟩

theorem box2_new (w : World) (c mp kp vp : Nat) (x : KeyV) {w1 : World} {t t2 : TypeId} (h : (w.alloc (.cells #[.pointer (some ⟨c, 0, none⟩), .pointer (some ⟨mp, 0, none⟩), .pointer (some ⟨kp, 0, none⟩), .pointer (some ⟨vp, 0, none⟩)] t)).alloc (.cells #[.string x.name.1, .int .i64 x.n.1] t2) = w1) :
    Below w.heap.size w w1 ∧ w1.heap.size = w.heap.size + 2 ∧ Box2At w1 w.heap.size c mp kp vp x := by
  obtain ⟨b1, s1, B⟩ := box_new w c mp kp vp (t := t) rfl
  obtain ⟨b2, s2, x0, x1⟩ := box2 _ _ _ t2 h
  rw [s1] at x0 x1 s2
  have hs : Same (fun _ => True) _ w1 := Below.toSame b2
  exact ⟨b1.trans (b2.mono (by omega)), s2, hs.cell trivial B.p0, hs.cell trivial B.p1, hs.cell trivial B.p2, hs.cell trivial B.p3, x0, x1⟩

/-- What a call of a pair leaves. -/
def DonePost (o : Nat → Nat) (i : Nat) (w : World) (c mp kp vp most : Nat) (KL : List KeyV) (VL : List I64) (w' : World) : Prop :=
  ∃ o' E' KL' VL', DoesAt o' i w' c mp kp vp most E' KL' VL' ∧ KL'.length ≤ KL.length + 2 ∧ VL'.length ≤ VL.length + 2 ∧ (∀ x, x < w.heap.size → o' x = o x) ∧ Turn (fun x => i < o x ∧ o x ≤ i + 4) w w'

/-- What has turned since the call began, and the colours. -/
structure Sub (o : Nat → Nat) (i : Nat) (w : World) (o' : Nat → Nat) (w' : World) : Prop where
  same : ∀ x, x < w.heap.size → o' x = o x
  turn : Turn (fun x => i < o x ∧ o x ≤ i + 4) w w'

theorem Sub.step {o o3 : Nat → Nat} {i j : Nat} {w W W' : World} (h : Sub o i w o3 W) (hj : 1 ≤ j ∧ j ≤ 4) (hT : Turn (fun x => recolor o3 W (i + j) x = i + j) W W') : Sub o i w (recolor o3 W (i + j)) W' := by
  have hs := h.turn.size
  refine ⟨fun x hx => (recolor_old o3 W (i + j) x (by omega)).trans (h.same x hx), h.turn.trans' hT (fun x hx => ?_)⟩
  by_cases hl : x < w.heap.size
  · left
    rw [recolor_old o3 W (i + j) x (by omega), h.same x hl] at hx
    show i < o x ∧ o x ≤ i + 4
    omega
  · exact .inr (by omega)

theorem Sub.below {o o3 : Nat → Nat} {i : Nat} {w W W' : World} (h : Sub o i w o3 W) (hb : Below W.heap.size W W') : Sub o i w o3 W' := ⟨h.same, h.turn.trans (Turn.of_below hb)⟩

theorem codeE_L {KL : List KeyV} {VL : List I64} {E : List (Ent KeyV I64)} : codeE KL VL E = codeL KL VL (E.map kv) := by unfold codeE codeL; rw [List.map_map]; rfl

theorem head_idxKI {K : Type} [DecidableEq K] {eT sz : Nat} {KK : Kd K} {z : K} {w : World} {k : Nat} {S : Nat → Prop} {L : List K} (R : CodesAt eT sz KK z w k S L) (h : L ≠ []) : z ∈ L ∧ idx L z = 0 := by
  rcases R.head with h' | ⟨r, rfl⟩
  · exact absurd h' h
  · exact ⟨by simp, by unfold idx; simp⟩

theorem DoesAt.pair {o : Nat → Nat} {i : Nat} {w : World} {c mp kp vp most : Nat} {E : List (Ent KeyV I64)} {KL : List KeyV} {VL : List I64} (R : DoesAt o i w c mp kp vp most E KL VL) (hm : most ≤ 1048576) :
    PairAt w c mp kp vp (fun x => o x = i + 1) (fun x => o x = i + 2) (fun x => o x = i + 3) (fun x => o x = i + 4) most E KL VL :=
  ⟨R.quad.cache, by rw [codeE_L]; exact R.quad.ref, R.quad.keys, R.quad.vals, fun e he => R.key _ (List.mem_map_of_mem he), fun e he => R.val _ (List.mem_map_of_mem he), R.len, hm⟩

theorem DoesAt.below {o : Nat → Nat} {i : Nat} {w w' : World} {c mp kp vp most : Nat} {E : List (Ent KeyV I64)} {KL : List KeyV} {VL : List I64} (R : DoesAt o i w c mp kp vp most E KL VL) (hb : Below w.heap.size w w') : DoesAt o i w' c mp kp vp most E KL VL :=
  ⟨R.quad.below hb, R.key, R.val, R.len⟩

/-- The entries' keys stand once. -/
theorem Quad.nodup {o : Nat → Nat} {i : Nat} {w : World} {c mp kp vp most : Nat} {E : List (Ent KeyV I64)} {L : List (Int × Int)} {KL : List KeyV} {VL : List I64} (Q : QuadKI o i w c mp kp vp most E L KL VL) : (E.map Ent.key).Nodup := by
  obtain ⟨b, h, D, C⟩ := Q.cache
  exact C.keys

theorem mem_code {KL : List KeyV} {VL : List I64} {D : List (KeyV × I64)} {n v : Int} (h : (n, v) ∈ codeL KL VL D) : ∃ p ∈ D, n = ((idx KL p.1 : Nat) : Int) ∧ v = ((idx VL p.2 : Nat) : Int) := by
  obtain ⟨p, hp, e⟩ := List.mem_map.1 h
  injection e with e1 e2
  exact ⟨p, hp, e1.symm, e2.symm⟩

set_option maxRecDepth 100000 in
set_option maxHeartbeats 8000000 in
theorem doesKI_any {o : Nat → Nat} {i : Nat} {w : World} {c mp kp vp most : Nat} {E : List (Ent KeyV I64)} {KL : List KeyV} {VL : List I64} (R : DoesAt o i w c mp kp vp most E KL VL) (hm : most ≤ 1048576) (hKL : KL.length ≤ 900000) (hVL : VL.length ≤ 900000) (kind : Int) (k : KeyV) (v : I64) (stop : Int) :
    Calls Try.prog 25 #[.agg #[.pointer (some ⟨c, 0, none⟩), .pointer (some ⟨mp, 0, none⟩), .pointer (some ⟨kp, 0, none⟩), .pointer (some ⟨vp, 0, none⟩)], .int .i64 kind, .agg #[.string k.name.1, .int .i64 k.n.1], .int .i64 v.1, .int .i64 stop] w
      fun ex w' => ex = .returned (.bool true) ∧ DonePost o i w c mp kp vp most KL VL w' := by
  have HR := Lib.hid R
  clear R
  go_enter Try.func25, Try.ntmps25
  go_wp2_with fail
  generalize hw1 : (w.alloc (.cells #[.pointer (some ⟨c, 0, none⟩), .pointer (some ⟨mp, 0, none⟩), .pointer (some ⟨kp, 0, none⟩), .pointer (some ⟨vp, 0, none⟩)] 66)).alloc (.cells #[.string k.name.1, .int .i64 k.n.1] 31) = w1
  obtain ⟨hb1, hs1, hbox⟩ := box2_new w c mp kp vp k hw1
  obtain ⟨oA, hoA⟩ : ∃ oA, recolor o w 0 = oA := ⟨_, rfl⟩
  have QA : QuadKI oA i w1 c mp kp vp most E (codeL KL VL (E.map kv)) KL VL := by rw [← hoA]; exact (HR.out.quad.recolor 0).below hb1
  have hA0 := Lib.hid (show ∀ x, w.heap.size ≤ x → x < w.heap.size + 2 → oA x = 0 from fun x hx _ => by rw [← hoA]; exact recolor_new o w 0 _ hx)
  have hAo : ∀ x, x < w.heap.size → oA x = o x := fun x hx => by rw [← hoA]; exact recolor_old o w 0 x hx
  have HB1 := Lib.hid hb1
  clear hw1 hoA hb1
  have Q1 := (QA.below ((Below.refl _ w1).drew)).recolor (i + 3)
  have hn1 := recolor_new oA w1.drew (i + 3)
  have ho1 := recolor_old oA w1.drew (i + 3)
  obtain ⟨o1, ho1e⟩ : ∃ o1, recolor oA w1.drew (i + 3) = o1 := ⟨_, rfl⟩
  rw [ho1e] at Q1 hn1 ho1
  clear ho1e QA
  have hbo1 := Lib.hid (show ∀ x, w.heap.size ≤ x → x < w.heap.size + 2 → o1 x = 0 from fun x hx hx2 => (ho1 x (by show x < w1.heap.size; omega)).trans (hA0.out x hx hx2))
  have c2 := hbox.p2
  have c3 := hbox.p3
  have c4 := hbox.x0
  have c5 := hbox.x1
  have HBX := Lib.hid hbox
  have HQ1 := Lib.hid Q1
  have HN1 := Lib.hid hn1
  have HO1 := Lib.hid ho1
  clear hbox Q1 hn1 ho1
  go_wp2_with fail
  go_region_held3 (fun w' => w'.cell? ⟨w.heap.size, 2, none⟩ = some (.pointer (some ⟨kp, 0, none⟩)) ∧ w'.cell? ⟨w.heap.size, 3, none⟩ = some (.pointer (some ⟨vp, 0, none⟩)) ∧ w'.cell? ⟨w.heap.size + 1, 0, none⟩ = some (.string k.name.1) ∧ w'.cell? ⟨w.heap.size + 1, 1, none⟩ = some (.int .i64 k.n.1))
    (first
      | go_keep
      | exact ⟨(HBX3.out).p2, (HBX3.out).p3, (HBX3.out).x0, (HBX3.out).x1⟩
      | exact ⟨(HBX2.out).p2, (HBX2.out).p3, (HBX2.out).x0, (HBX2.out).x1⟩
      | exact ⟨(HBX.out.drew).p2, (HBX.out.drew).p3, (HBX.out.drew).x0, (HBX.out.drew).x1⟩)
    (first
      | (go_at_call_of 66 (Value.pointer (some (Addr.mk kp 0 none))); refine (ofK_any (w := w1.drew) HQ1.out.keys k (by omega)).mono ?_; rintro ex W2 ⟨KL', rfl, hK2, hkin, hT2, hpreK, hlK⟩; have HBX2 := Lib.hid (HBX.out.drew.turn hT2 (fun y hy1 hy2 => by show ¬ (o1 y = i + 3); have := hbo1.out y hy1 hy2; omega)); have HQ2 := Lib.hid ((HQ1.out.turnK HN1.out hT2 hK2).recolor (i + 4)); have HT2 := Lib.hid hT2)
      | (go_at_call_of 46 (Value.pointer (some (Addr.mk vp 0 none))); refine (ofI_any (w := W2) HQ2.out.vals v (by omega)).mono ?_; rintro ex W3 ⟨VL', rfl, hV3, hvin, hT3, hpreV, hlV⟩; have HBX3 := Lib.hid (HBX2.out.turn hT3 (fun y hy1 hy2 => by show ¬ (recolor o1 W2 (i + 4) y = i + 4); rw [recolor_old o1 W2 (i + 4) _ (by have := HT2.out.size; have e : w1.drew.heap.size = w1.heap.size := rfl; omega)]; have := hbo1.out y hy1 hy2; omega)); have HQ3 := Lib.hid (HQ2.out.turnV (recolor_new o1 W2 (i + 4)) hT3 hV3); have HT3 := Lib.hid hT3))
  have hpre : codeL KL VL (E.map kv) = codeL KL' VL' (E.map kv) := (codeL_pre HR.out.key HR.out.val hpreK hpreV).symm
  have HQ := HQ3.out
  rw [hpre] at HQ
  obtain ⟨o3, ho3⟩ : ∃ o3, recolor o1 W2 (i + 4) = o3 := ⟨_, rfl⟩
  have hS3 : Sub o i w o3 W3 := by
    have s1 : Sub o i w oA w1.drew := ⟨hAo, (Turn.of_below HB1.out).drew⟩
    have e1 : recolor oA w1.drew (i + 3) = o1 := by
      funext x
      by_cases hx : x < w1.drew.heap.size
      · rw [recolor_old _ _ _ _ hx, HO1.out x hx]
      · rw [recolor_new _ _ _ _ (by omega), HN1.out x (by omega)]
    have s2 : Sub o i w (recolor oA w1.drew (i + 3)) W2 := s1.step (j := 3) (by omega) (by rw [e1]; exact HT2.out)
    rw [e1] at s2
    have s3 := s2.step (j := 4) (by omega) HT3.out
    rw [ho3] at s3
    exact s3
  have hb3 := Lib.hid (show ∀ x, w.heap.size ≤ x → x < w.heap.size + 2 → o3 x = 0 from fun x hx hx2 => by
    rw [← ho3, recolor_old o1 W2 (i + 4) _ (by have := HT2.out.size; have e : w1.drew.heap.size = w1.heap.size := rfl; omega)]
    exact hbo1.out x hx hx2)
  rw [ho3] at HQ
  have hbs : w.heap.size + 2 ≤ W3.heap.size := by have := HT2.out.size; have := HT3.out.size; have e : w1.drew.heap.size = w1.heap.size := rfl; omega
  have D3 : DoesAt o3 i W3 c mp kp vp most E KL' VL' := ⟨HQ, fun p hp => hpreK.subset (HR.out.key p hp), fun p hp => hpreV.subset (HR.out.val p hp), HR.out.len⟩
  have HD := Lib.hid D3
  have HS := Lib.hid hS3
  have HK := Lib.hid hkin
  have HV := Lib.hid hvin
  have HLK := Lib.hid hlK
  have HLV := Lib.hid hlV
  have done : ∀ (o4 : Nat → Nat) (E4 : List (Ent KeyV I64)) (W4 : World), DoesAt o4 i W4 c mp kp vp most E4 KL' VL' → Sub o i w o4 W4 → DonePost o i w c mp kp vp most KL VL W4 := fun _ _ _ d s => ⟨_, _, _, _, d, HLK.out, HLV.out, s.same, s.turn⟩
  have HDONE := Lib.hid done
  have q0 := HBX3.out.p0
  have q1 := HBX3.out.p1
  have q2 := HBX3.out.p2
  have q3 := HBX3.out.p3
  have q4 := HBX3.out.x0
  have q5 := HBX3.out.x1
  clear hpre HQ ho3 hS3 D3 hkin hvin hlK hlV hpreK hpreV hV3 hT3 hK2 hT2 done c2 c3 c4 c5 HQ1 HQ2 HQ3 HT2 HT3 HBX HBX2 HO1 HN1 hbo1 hA0 hAo HB1
  have hVne : VL' ≠ [] := List.ne_nil_of_mem HV.out
  have hKne : KL' ≠ [] := List.ne_nil_of_mem HK.out
  have hlL : (codeL KL' VL' (E.map kv)).length ≤ 1048576 := by unfold codeL; rw [List.length_map, List.length_map]; exact Nat.le_trans HD.out.len hm
  have HLL := Lib.hid hlL
  have HVZ := Lib.hid (head_idxKI HD.out.quad.vals hVne)
  have HKZ := Lib.hid (head_idxKI HD.out.quad.keys hKne)
  have HN0 := Lib.hid (show ((E.map kv).map (·.1)).Nodup from by rw [keys_kv]; exact Quad.nodup HD.out.quad)
  clear hVne hKne hlL
  by_cases h7 : kind = 7
  · subst h7
    go_wp2_with fail
    refine (allKI_pair (HD.out.pair hm) stop).mono ?_
    rintro ex W4 ⟨rfl, hb4⟩
    have HF := Lib.hid (HDONE.out _ _ _ (HD.out.below hb4) (HS.out.below hb4))
    clear hb4
    go_wp2_with fail
    go_ret
    exact ⟨rfl, HF.out⟩
  by_cases h1 : kind = 1
  · subst h1
    go_wp2_with fail
    have hQa := HD.out.quad.recolor (i + 1)
    have HQa := Lib.hid hQa
    clear hQa
    refine (getKI_any HQa.out.cache k).mono ?_
    rintro ex W4 (⟨hnk, rfl, hb4⟩ | ⟨p, e, q, hE, he, rfl, hC4, hT4⟩)
    · have HNK := Lib.hid (show ∀ x ∈ codeL KL' VL' (E.map kv), x.1 ≠ ((idx KL' k : Nat) : Int) from code_ne HD.out.key (fun p hp e => by obtain ⟨y, hy, rfl⟩ := List.mem_map.1 hp; exact hnk (List.mem_map.2 ⟨y, hy, e⟩)))
      have HD4 := Lib.hid (HD.out.below hb4)
      have HS4 := Lib.hid (HS.out.below hb4)
      have hbx4 := HBX3.out.below hb4
      have r1 := hbx4.p1
      have r3 := hbx4.p3
      clear hnk hb4 hbx4
      go_wp2_with fail
      refine (refGet_any HD4.out.quad.ref ((idx KL' k : Nat) : Int) HLL.out).mono ?_
      rintro ex W5 (⟨hno, rfl, rfl⟩ | ⟨p', v', q', hL, hp', rfl, hM, hT⟩)
      · clear hno
        go_wp2_with fail
        refine (ofI_q HD4.out.quad.vals zeroI HVZ.out.1).mono ?_
        rintro ex W6 ⟨rfl, rfl⟩
        rw [HVZ.out.2]
        go_wp2_with fail
        go_ret
        exact ⟨rfl, HDONE.out _ _ _ HD4.out HS4.out⟩
      · exact absurd rfl (HNK.out (((idx KL' k : Nat) : Int), v') (by rw [hL]; simp))
    · have HQ4 := Lib.hid (HQa.out.turnC (recolor_new o3 W3 (i + 1)) hT4 (hC4.wider (fun x hx => .inl hx)))
      have HS4 := Lib.hid (HS.out.step (j := 1) (by omega) hT4)
      have hbx4 := HBX3.out.turn hT4 (fun y hy1 hy2 => by show ¬ (recolor o3 W3 (i + 1) y = i + 1); rw [recolor_old o3 W3 (i + 1) _ (by omega)]; have := hb3.out y hy1 hy2; omega)
      have hs4 := hT4.size
      have hb4 : ∀ x, w.heap.size ≤ x → x < w.heap.size + 2 → recolor o3 W3 (i + 1) x = 0 := fun x hx hx2 => (recolor_old o3 W3 (i + 1) _ (by omega)).trans (hb3.out x hx hx2)
      obtain ⟨o4, ho4⟩ : ∃ o4, recolor o3 W3 (i + 1) = o4 := ⟨_, rfl⟩
      rw [ho4] at HQ4 HS4 hb4
      have hLs : codeL KL' VL' (E.map kv) = codeL KL' VL' (p.map kv) ++ (((idx KL' k : Nat) : Int), ((idx VL' e.val : Nat) : Int)) :: codeL KL' VL' (q.map kv) := by rw [hE, ← he]; simp [codeL, kv]
      have hpk : ∀ x ∈ codeL KL' VL' (p.map kv), x.1 ≠ ((idx KL' k : Nat) : Int) := by
        have hn := HN0.out
        rw [hE, List.map_append, List.map_append] at hn
        have hn2 := List.nodup_append.1 hn
        refine code_ne (fun y hy => HD.out.key y (by rw [hE, List.map_append]; exact List.mem_append_left _ hy)) (fun y hy hyk => ?_)
        exact hn2.2.2 y.1 (List.mem_map_of_mem hy) k (by simp [kv, he]) hyk
      have HLS := Lib.hid hLs
      have HPK := Lib.hid hpk
      have HE := Lib.hid hE
      have HEV := Lib.hid (HD.out.val (kv e) (by rw [hE]; simp))
      have HEK := Lib.hid he
      have q0 := hbx4.p0
      have q1 := hbx4.p1
      have q2 := hbx4.p2
      have q3 := hbx4.p3
      have HBX4 := Lib.hid hbx4
      have hbs4 : w.heap.size + 2 ≤ W4.heap.size := by omega
      replace hb4 := Lib.hid hb4
      clear hT4 hC4 hLs hpk hE he hbx4 ho4 hs4
      go_wp2_with fail
      have HQb := Lib.hid (HQ4.out.recolor (i + 2))
      refine (refGet_any HQb.out.ref ((idx KL' k : Nat) : Int) HLL.out).mono ?_
      rintro ex W5 (⟨hno, rfl, rfl⟩ | ⟨p', v', q', hL, hp', rfl, hM, hT⟩)
      · exact absurd rfl (hno (((idx KL' k : Nat) : Int), ((idx VL' e.val : Nat) : Int)) (by rw [HLS.out]; simp))
      · obtain ⟨e1, e2, e3⟩ := split_unique (HLS.out.symm.trans hL) HPK.out hp'
        subst e2
        have HQ5 := Lib.hid (HQb.out.turnM (recolor_new o4 W4 (i + 2)) hT hM)
        have HS5 := Lib.hid (HS4.out.step (j := 2) (by omega) hT)
        have hbx5 := HBX4.out.turn hT (fun y hy1 hy2 => by show ¬ (recolor o4 W4 (i + 2) y = i + 2); rw [recolor_old o4 W4 (i + 2) _ (by omega)]; have := hb4.out y hy1 hy2; omega)
        have q3 := hbx5.p3
        have hLL : (((idx KL' k : Nat) : Int), ((idx VL' e.val : Nat) : Int)) :: (p' ++ q') = codeL KL' VL' ((e :: (p ++ q)).map kv) := by rw [← e1, ← e3, ← HEK.out]; simp [codeL, kv]
        have HLX := Lib.hid hLL
        clear hL hp' e1 e3 hM hT hbx5 hLL
        go_wp2_with fail
        refine (ofI_q HQ5.out.vals e.val HEV.out).mono ?_
        rintro ex W6 ⟨rfl, rfl⟩
        go_wp2_with fail
        go_ret
        have hmem : ∀ y, y ∈ (e :: (p ++ q)).map kv → y ∈ E.map kv := by
          intro y hy
          rw [HE.out]
          simp only [List.map_cons, List.map_append, List.mem_cons, List.mem_append] at hy ⊢
          rcases hy with h | h | h
          · exact .inr (.inl h)
          · exact .inl h
          · exact .inr (.inr h)
        refine ⟨rfl, HDONE.out _ (e :: (p ++ q)) _ ⟨by have := HQ5.out; rw [HLX.out] at this; exact this, fun y hy => HD.out.key y (hmem y hy), fun y hy => HD.out.val y (hmem y hy), ?_⟩ HS5.out⟩
        have := HD.out.len
        rw [HE.out] at this
        simp at this ⊢
        omega
  have k1 : (kind == 1) = false := by rw [beq_eq_false_iff_ne]; exact h1
  have k7 : (kind == 7) = false := by rw [beq_eq_false_iff_ne]; exact h7
  clear h1 h7
  by_cases h2 : kind = 2
  · subst h2
    have HQa := Lib.hid (HD.out.quad.recolor (i + 1))
    go_wp2_with fail
    refine (putKI_any HQa.out.cache k v (Nat.le_trans HD.out.len hm) hm).mono ?_
    rintro ex W4 ⟨rfl, E2, hC4, hE2, hT4⟩
    have HQ4 := Lib.hid (HQa.out.turnC (recolor_new o3 W3 (i + 1)) hT4 hC4)
    have HS4 := Lib.hid (HS.out.step (j := 1) (by omega) hT4)
    have hbx4 := HBX3.out.turn hT4 (fun y hy1 hy2 => by show ¬ (recolor o3 W3 (i + 1) y = i + 1); rw [recolor_old o3 W3 (i + 1) _ (by omega)]; have := hb3.out y hy1 hy2; omega)
    have hs4 := hT4.size
    have hb4 : ∀ x, w.heap.size ≤ x → x < w.heap.size + 2 → recolor o3 W3 (i + 1) x = 0 := fun x hx hx2 => (recolor_old o3 W3 (i + 1) _ (by omega)).trans (hb3.out x hx hx2)
    obtain ⟨o4, ho4⟩ : ∃ o4, recolor o3 W3 (i + 1) = o4 := ⟨_, rfl⟩
    rw [ho4] at HQ4 HS4 hb4
    have q1 := hbx4.p1
    have hbs4 : w.heap.size + 2 ≤ W4.heap.size := by omega
    replace hb4 := Lib.hid hb4
    have HE2 := Lib.hid hE2
    have HQb := Lib.hid (HQ4.out.recolor (i + 2))
    clear hT4 hC4 hE2 hbx4 ho4 hs4
    go_wp2_with fail
    refine (refPut_any HQb.out.ref ((idx KL' k : Nat) : Int) ((idx VL' v : Nat) : Int) HLL.out).mono ?_
    rintro ex W5 ⟨rfl, hM, hT⟩
    have HQ5 := Lib.hid (HQb.out.turnM (recolor_new o4 W4 (i + 2)) hT hM)
    have HS5 := Lib.hid (HS4.out.step (j := 2) (by omega) hT)
    clear hM hT
    go_wp2_with fail
    go_ret
    have hcode := code_put (VL := VL') (k := k) (v := v) HD.out.key HN0.out (by rw [List.length_map]; exact HD.out.len : (E.map kv).length ≤ most)
    refine ⟨rfl, HDONE.out _ E2 _ ⟨by have := HQ5.out; rw [hcode, ← HE2.out] at this; exact this, fun y hy => ?_, fun y hy => ?_, ?_⟩ HS5.out⟩
    · rw [HE2.out] at hy
      rcases mem_putD hy with rfl | h
      · exact HK.out
      · exact HD.out.key y h
    · rw [HE2.out] at hy
      rcases mem_putD hy with rfl | h
      · exact HV.out
      · exact HD.out.val y h
    · have := length_putD (k := k) (v := v) (by rw [List.length_map]; exact HD.out.len : (E.map kv).length ≤ most)
      rw [← HE2.out, List.length_map] at this
      exact this
  have k2 : (kind == 2) = false := by rw [beq_eq_false_iff_ne]; exact h2
  clear h2
  by_cases h3 : kind = 3
  · subst h3
    have HQa := Lib.hid ((HD.out.quad.below ((Below.refl _ W3).drew)).recolor (i + 1))
    have HSd := Lib.hid (HS.out.below ((Below.refl _ W3).drew))
    have hbx := Box2At.drew HBX3.out
    have HBXd := Lib.hid hbx
    have hany : (codeL KL' VL' (E.map kv)).any (fun p => decide (p.1 = ((idx KL' k : Nat) : Int))) = decide (k ∈ E.map Ent.key) := by
      rw [code_any HD.out.key, Bool.eq_iff_iff, List.any_eq_true, decide_eq_true_iff]
      constructor
      · rintro ⟨y, hy, hk⟩
        obtain ⟨e, he, rfl⟩ := List.mem_map.1 hy
        exact List.mem_map.2 ⟨e, he, of_decide_eq_true hk⟩
      · intro h
        obtain ⟨e, he, hk⟩ := List.mem_map.1 h
        exact ⟨kv e, List.mem_map_of_mem he, decide_eq_true hk⟩
    have HANY := Lib.hid hany
    have hbsd : w.heap.size + 2 ≤ W3.drew.heap.size := hbs
    clear hany hbx
    go_wp2_with fail
    go_region_held3 (fun w' => w'.cell? ⟨w.heap.size, 0, none⟩ = some (.pointer (some ⟨c, 0, none⟩)) ∧ w'.cell? ⟨w.heap.size, 1, none⟩ = some (.pointer (some ⟨mp, 0, none⟩)) ∧ w'.cell? ⟨w.heap.size + 1, 0, none⟩ = some (.string k.name.1) ∧ w'.cell? ⟨w.heap.size + 1, 1, none⟩ = some (.int .i64 k.n.1))
      (first
        | go_keep
        | exact ⟨(HBX5.out).p0, (HBX5.out).p1, (HBX5.out).x0, (HBX5.out).x1⟩
        | exact ⟨(HBX4.out).p0, (HBX4.out).p1, (HBX4.out).x0, (HBX4.out).x1⟩
        | exact ⟨(HBXd.out).p0, (HBXd.out).p1, (HBXd.out).x0, (HBXd.out).x1⟩)
      (first
        | (go_at_call 32; refine (dropKI_any (w := W3.drew) HQa.out.cache k).mono ?_; rintro ex W4 ⟨rfl, hC4, hT4⟩; have HQ4 := Lib.hid (HQa.out.turnC (recolor_new o3 W3.drew (i + 1)) hT4 (hC4.wider (fun x hx => .inl hx))); have HS4 := Lib.hid (HSd.out.step (j := 1) (by omega) hT4); have HBX4 := Lib.hid (HBXd.out.turn hT4 (fun y hy1 hy2 => by show ¬ (recolor o3 W3.drew (i + 1) y = i + 1); rw [recolor_old o3 W3.drew (i + 1) _ (by omega)]; have := hb3.out y hy1 hy2; omega)); have HSZ4 := Lib.hid hT4.size; have HQb := Lib.hid (HQ4.out.recolor (i + 2)))
        | (go_at_call 52; refine (refDrop_any (w := W4) HQb.out.ref ((idx KL' k : Nat) : Int) HLL.out).mono ?_; rintro ex W5 ⟨hex, hM, hT⟩; rw [HANY.out] at hex; subst hex; have HQ5 := Lib.hid (HQb.out.turnM (recolor_new (recolor o3 W3.drew (i + 1)) W4 (i + 2)) hT hM); have HS5 := Lib.hid (HS4.out.step (j := 2) (by omega) hT); have HBX5 := Lib.hid (HBX4.out.turn hT (fun y hy1 hy2 => by show ¬ (recolor (recolor o3 W3.drew (i + 1)) W4 (i + 2) y = i + 2); rw [recolor_old _ W4 (i + 2) _ (by have := HSZ4.out; omega), recolor_old o3 W3.drew (i + 1) _ (by omega)]; have := hb3.out y hy1 hy2; omega))))
    all_goals
      go_wp2_with fail
      go_ret
      have hcode := code_rm (VL := VL') (k := k) HD.out.key HN0.out
      refine ⟨by simp, HDONE.out _ (rmE k E) _ ⟨by have := HQ5.out; rw [hcode, ← map_rmE] at this; exact this, fun y hy => ?_, fun y hy => ?_, Nat.le_trans (List.length_filter_le _ _) HD.out.len⟩ HS5.out⟩
      · rw [map_rmE] at hy
        exact HD.out.key y (List.mem_filter.1 hy).1
      · rw [map_rmE] at hy
        exact HD.out.val y (List.mem_filter.1 hy).1
  have k3 : (kind == 3) = false := by rw [beq_eq_false_iff_ne]; exact h3
  clear h3
  have hlen : (codeL KL' VL' (E.map kv)).length = E.length := by unfold codeL; rw [List.length_map, List.length_map]
  have HLEN := Lib.hid hlen
  clear hlen
  by_cases h4 : kind = 4
  · subst h4
    have HQa := Lib.hid ((HD.out.quad.below ((Below.refl _ W3).drew)).recolor (i + 1))
    have HSd := Lib.hid (HS.out.below ((Below.refl _ W3).drew))
    have hbx := Box2At.drew HBX3.out
    have HBXd := Lib.hid hbx
    have hbsd : w.heap.size + 2 ≤ W3.drew.heap.size := hbs
    clear hbx
    go_wp2_with fail
    go_region_held3 (fun w' => w'.cell? ⟨w.heap.size, 0, none⟩ = some (.pointer (some ⟨c, 0, none⟩)) ∧ w'.cell? ⟨w.heap.size, 1, none⟩ = some (.pointer (some ⟨mp, 0, none⟩)))
      (first
        | go_keep
        | exact ⟨(HBX5.out).p0, (HBX5.out).p1⟩
        | exact ⟨(HBX4.out).p0, (HBX4.out).p1⟩
        | exact ⟨(HBXd.out).p0, (HBXd.out).p1⟩)
      (first
        | (go_at_call 33; refine (clearKI_any (w := W3.drew) HQa.out.cache).mono ?_; rintro ex W4 ⟨rfl, hC4, hT4⟩; have HQ4 := Lib.hid (HQa.out.turnC (recolor_new o3 W3.drew (i + 1)) hT4 hC4); have HS4 := Lib.hid (HSd.out.step (j := 1) (by omega) hT4); have HBX4 := Lib.hid (HBXd.out.turn hT4 (fun y hy1 hy2 => by show ¬ (recolor o3 W3.drew (i + 1) y = i + 1); rw [recolor_old o3 W3.drew (i + 1) _ (by omega)]; have := hb3.out y hy1 hy2; omega)); have HSZ4 := Lib.hid hT4.size; have HQb := Lib.hid (HQ4.out.recolor (i + 2)))
        | (go_at_call 54; refine (refClear_any (w := W4) HQb.out.ref).mono ?_; rintro ex W5 ⟨hex, hM, hT⟩; rw [HLEN.out] at hex; subst hex; have HQ5 := Lib.hid (HQb.out.turnM (recolor_new (recolor o3 W3.drew (i + 1)) W4 (i + 2)) hT hM); have HS5 := Lib.hid (HS4.out.step (j := 2) (by omega) hT); have HBX5 := Lib.hid (HBX4.out.turn hT (fun y hy1 hy2 => by show ¬ (recolor (recolor o3 W3.drew (i + 1)) W4 (i + 2) y = i + 2); rw [recolor_old _ W4 (i + 2) _ (by have := HSZ4.out; omega), recolor_old o3 W3.drew (i + 1) _ (by omega)]; have := hb3.out y hy1 hy2; omega))))
    all_goals
      go_wp2_with fail
      go_ret
      exact ⟨by simp, HDONE.out _ [] _ ⟨HQ5.out, by simp, by simp, Nat.zero_le _⟩ HS5.out⟩
  have k4 : (kind == 4) = false := by rw [beq_eq_false_iff_ne]; exact h4
  clear h4
  by_cases h5 : kind = 5
  · subst h5
    obtain ⟨vm, hmc, hom, hvm⟩ := HD.out.quad.ref.list
    obtain ⟨am, cm, rfl⟩ := owns_shape hom
    rw [HLEN.out] at hmc
    have HDd := Lib.hid (HD.out.below ((Below.refl _ W3).drew))
    have HSd := Lib.hid (HS.out.below ((Below.refl _ W3).drew))
    clear hom hvm
    go_wp2_with fail
    go_region_held3 (fun w' => w'.cell? ⟨w.heap.size, 0, none⟩ = some (.pointer (some ⟨c, 0, none⟩)) ∧ w'.cell? ⟨w.heap.size, 1, none⟩ = some (.pointer (some ⟨mp, 0, none⟩)) ∧ w'.cell? ⟨mp, 1, none⟩ = some (.slice am E.length cm)) (go_keep)
      ((go_at_call 34; refine (lenKI_any (w := W3.drew) HDd.out.quad.cache).mono ?_; rintro ex W4 ⟨rfl, rfl⟩))
    all_goals
      go_wp2_with fail
      go_ret
      exact ⟨by simp, HDONE.out _ _ _ HDd.out HSd.out⟩
  have k5 : (kind == 5) = false := by rw [beq_eq_false_iff_ne]; exact h5
  clear h5
  by_cases h6 : kind = 6
  · subst h6
    go_wp2_with fail
    refine (oldestKI_any HD.out.quad.cache).mono ?_
    rintro ex W4 ⟨rfl, hb4⟩
    have hval : ((codeL KL' VL' (E.map kv)).getLast?.map (·.1)).getD 0 = ((idx KL' ((E.getLast?.map (·.key)).getD zeroK) : Nat) : Int) := by
      unfold codeL
      rw [List.getLast?_map, List.getLast?_map]
      cases E.getLast? with
      | none => simp [HKZ.out.2]
      | some e => rfl
    have hin : (E.getLast?.map (·.key)).getD zeroK ∈ KL' := by
      cases he : E.getLast? with
      | none => exact HKZ.out.1
      | some e => exact HD.out.key (kv e) (List.mem_map_of_mem (List.mem_of_getLast? he))
    have hlast : (codeL KL' VL' (E.map kv)).getLast?.isSome = E.getLast?.isSome := by unfold codeL; rw [List.getLast?_map, List.getLast?_map, Option.isSome_map, Option.isSome_map]
    obtain ⟨kx, hkx⟩ : ∃ kx, (E.getLast?.map (·.key)).getD zeroK = kx := ⟨_, rfl⟩
    obtain ⟨bx, hbx⟩ : ∃ bx, E.getLast?.isSome = bx := ⟨_, rfl⟩
    rw [hkx] at hin hval ⊢
    rw [hbx] at hlast ⊢
    have HIN := Lib.hid hin
    have HVAL := Lib.hid hval
    have HLAST := Lib.hid hlast
    have HB4 := Lib.hid hb4
    clear hb4 hlast hval hin hkx hbx q0 q3 q4 q5
    go_upto_region 18 with fail
    generalize hV : W4.alloc (.cells #[.string kx.name.1, .int .i64 kx.n.1] 31) = V
    obtain ⟨hbV, hsV, y0, y1⟩ := box2 W4 _ _ _ hV
    have hbW : Below W3.heap.size W3 V := HB4.out.trans (hbV.mono HB4.out.size)
    have r1 := (hbW.cell (World.block_lt_of_cell? W3 _ q1)).trans q1
    have r2 := (hbW.cell (World.block_lt_of_cell? W3 _ q2)).trans q2
    have HD4 := Lib.hid (HD.out.below hbW)
    have HS4 := Lib.hid (HS.out.below hbW)
    clear hV hbV hbW HB4 q1 q2
    go_wp2_with fail
    refine (refOldest_any HD4.out.quad.ref HLL.out).mono ?_
    rintro ex W5 ⟨rfl, hb5⟩
    have s2 := (hb5.cell (World.block_lt_of_cell? V _ r2)).trans r2
    have s4 := (hb5.cell (World.block_lt_of_cell? V _ y0)).trans y0
    have s5 := (hb5.cell (World.block_lt_of_cell? V _ y1)).trans y1
    have HD5 := Lib.hid (HD4.out.below hb5)
    have HS5 := Lib.hid (HS4.out.below hb5)
    rw [HLAST.out, HVAL.out]
    clear r1 r2 hb5 y0 y1
    go_wp2_with fail
    refine (ofK_q HD5.out.quad.keys kx HIN.out).mono ?_
    rintro ex W6 ⟨rfl, hb6⟩
    have HD6 := Lib.hid (HD5.out.below hb6)
    have HS6 := Lib.hid (HS5.out.below hb6)
    clear s2 s4 s5 hb6
    go_wp2_with fail
    go_ret
    exact ⟨by simp, HDONE.out _ _ _ HD6.out HS6.out⟩
  have k6 : (kind == 6) = false := by rw [beq_eq_false_iff_ne]; exact h6
  clear h6
  go_wp2_with fail
  go_ret
  exact ⟨rfl, HDONE.out _ _ _ HD.out HS.out⟩

end Go.Proofs.Yteboancapfgdeaa.KI
