/- Proved here: find, what a filter's levels match from a node on, given to a function that goes on. -/
import Derived.Test.YtgnffkahlniehaaGreatRtFindP
import Derived.Test.YtgnffkahlniehaaGreatTpAll
import Derived.ScopeJumps
namespace Go.Proofs.YtgnffkahlniehaaGreat
open Go Go.RowKit Go.Proofs.Gs Go.Proofs.Tri Go.Proofs.Rt Go.Proofs.Tp

section
variable {P : Program} {a : Act} {w : World} {Q : Exit → Act → World → Prop}
theorem jump_mono {l : Nat} {J J' : Act → World → Prop} (h : ∀ a w, J a w → J' a w) : ∀ (e : Exit) (a : Act) (w : World), Exit.jump l J Q e a w → Exit.jump l J' Q e a w := fun e a w hj => by
  cases e with
  | goto l' => exact ⟨hj.1, h _ _ hj.2⟩
  | normal => exact hj
  | exit id => exact hj
  | ret => exact hj
  | panic c => exact hj
  | outgrown => exact hj

/-- A scope with one label: the passes first; they serve the way to the label too. -/
theorem wp_scope_pass {c rest : Code} (l : Nat) (J : Act → World → Prop) (μ : Act → World → Nat) (hf : findLabel c l = some (.seq .skip rest))
    (pass : ∀ a w, J a w → rest.wp P (Exit.jump l (fun a' w' => J a' w' ∧ μ a' w' < μ a w) Q) a w)
    (first : (∀ a w, J a w → rest.wp P (Exit.jump l J Q) a w) → c.wp P (Exit.jump l J Q) a w) : (Code.scope c).wp P Q a w :=
  wp_scope_jumps l J μ hf (first (fun a w h => Code.wp_mono (jump_mono (fun _ _ h => h.1)) (pass a w h))) (fun a w h => wp_seq (wp_skip (pass a w h)))
end

/-- What holds whenever the walk stands at the label. -/
def AtLabel (p : Nat) (fv : Value) (b : Bool) (g : Nat) (caps : Array Value) (n i : Nat) (ks : List Tree) (f : List ByteArray) (J : Nat → World → Prop) (a' : Act) (w' : World) : Prop :=
  ∃ (j A : Nat) (jj : Int) (u4 u5 u6 u7 u8 u10 u11 u12 u13 u14 u15 u16 u17 u18 u19 u20 u21 u22 u23 u24 u25 u26 u27 u28 u29 u30 u31 u32 u33 u34 u35 u36 u37 u38 u39 u40 u41 u42 u43 u44 u45 u46 u47 u48 u49 u50 u51 u52 u53 u54 u55 u56 u57 u58 u59 u60 u61 u62 u63 u64 u65 u66 u67 u68 u69 u70 u71 u72 u73 u74 u75 u76 u77 u78 u79 u80 u81 u82 u83 u84 u85 u86 u87 u88 u89 u90 u91 u92 u93 : Value), a' = { tmps := #[.pointer (some ⟨p, 0, none⟩), fv, .bool b, .func (.func g) #[] caps, u4, u5, u6, u7, u8, .int .i64 jj, u10, u11, u12, u13, u14, u15, u16, u17, u18, u19, u20, u21, u22, u23, u24, u25, u26, u27, u28, u29, u30, u31, u32, u33, u34, u35, u36, u37, u38, u39, u40, u41, u42, u43, u44, u45, u46, u47, u48, u49, u50, u51, u52, u53, u54, u55, u56, u57, u58, u59, u60, u61, u62, u63, u64, u65, u66, u67, u68, u69, u70, u71, u72, u73, u74, u75, u76, u77, u78, u79, u80, u81, u82, u83, u84, u85, u86, u87, u88, u89, u90, u91, u92, u93], defers := [] } ∧ jj = (j : Nat) ∧ j ≤ n ∧ A = i + (fndL hashB plusB dollarB (ks.take j) f b).length ∧ J A w'

set_option maxHeartbeats 4000000 in
set_option maxRecDepth 100000 in
theorem find_any {F : Nat → Prop} {w0 : World} {ms : List MsgV} (hF : ∀ x, F x → x < w0.heap.size) (g : Nat) (caps : Array Value) (hcall : ∀ args W, (callFunc g args).run Tryz.prog W = .ok (.enter g args) W) (J : Nat → World → Prop) (hS : ∀ i W, J i W → Same F w0 W)
    (hY : ∀ i m b W, ms[i]? = some m → J i W → MsgAt F w0 b m → Calls Tryz.prog g (#[.pointer (some ⟨b, 0, none⟩)] ++ caps) W fun e W' => e = .returned (.bool true) ∧ J (i + 1) W') :
    ∀ (t : Tree) (p i : Nat) (W : World) (fv : Value) (f : List ByteArray) (b : Bool), NodeAt F w0 p t → Forest ltB t.kids → Lim t → StrsF F w0 fv f → (∀ j a, (fnd hashB plusB dollarB t f b)[j]? = some a → ms[i + j]? = some a) → J i W →
      Calls Tryz.prog 37 #[.pointer (some ⟨p, 0, none⟩), fv, .bool b, .func (.func g) #[] caps] W fun e W' => e = .returned (.bool true) ∧ J (i + (fnd hashB plusB dollarB t f b).length) W' := by
  refine Tr.ind (fun lv v ks ih => ?_)
  intro p i W fv f b h hfo hli hfs hms hJ
  obtain ⟨sv, mv, kv, bs, O⟩ := h.open
  have hl := O.hl
  rw [Tr.kids_node] at hl
  have hO := Lib.hid O
  have HS := Lib.hid hS
  have HY := Lib.hid hY
  have HJ := Lib.hid hJ
  cases f with
  | nil =>
    have c1 := (O.same (hS _ _ hJ)).c1
    have hmv : (mv = .pointer none ∧ fnd hashB plusB dollarB (Tr.node lv v ks) [] b = []) ∨ (∃ mb m, mv = .pointer (some ⟨mb, 0, none⟩) ∧ (fnd hashB plusB dollarB (Tr.node lv v ks) [] b).length = 1 ∧ MsgAt F w0 mb m ∧ ms[i]? = some m) := by
      have hm := O.hm
      rw [fnd_nil] at hms ⊢
      cases v with
      | none => exact .inl ⟨hm, rfl⟩
      | some m => obtain ⟨mb, e, hmm⟩ := hm; exact .inr ⟨mb, m, e, rfl, hmm, hms 0 m rfl⟩
    obtain ⟨a, cap, rfl⟩ := hfs.strs.open_nil
    clear O h ih hfs hms hl hfo hli hS hY hJ
    rcases hmv with ⟨rfl, hfe⟩ | ⟨mb, m, rfl, hfe, hmb, hmi⟩
    · rw [hfe]
      clear hfe
      go_enter Tryz.func37, Tryz.ntmps37
      go_wp2_with fail
      go_step3
      go_wp2_with fail
      repeat (first | rw [Exit.noGoto_ret] | simp only [Exit.inBlock] | simp only [Exit.then])
      go_ret
      exact ⟨rfl, HJ.out⟩
    · rw [hfe]
      have HMB := Lib.hid hmb
      have HMI := Lib.hid hmi
      clear hfe hmb hmi
      go_enter Tryz.func37, Tryz.ntmps37
      go_wp2_with fail
      go_step3
      go_wp2_with fail
      refine (HY.out _ _ _ _ HMI.out HJ.out HMB.out).mono ?_
      rintro e W1 ⟨rfl, hJ1⟩
      have HJ1 := Lib.hid hJ1
      clear hJ1
      go_wp2_with fail
      repeat (first | rw [Exit.noGoto_ret] | simp only [Exit.inBlock] | simp only [Exit.then])
      go_ret
      exact ⟨rfl, HJ1.out⟩
  | cons x xs =>
    obtain ⟨b1, o1, c1, rfl, q1, q2, q3, q4⟩ := (StrsF.strs (RowF.keep hfs (hS _ _ hJ))).open (by simp)
    have k1 := q4 0 x rfl
    rw [Nat.add_zero] at k1
    obtain ⟨nf, hnf⟩ : ∃ nf, (x :: xs).length = nf := ⟨_, rfl⟩
    have hnf0 : 0 < nf := by rw [← hnf]; simp
    have hne : ((nf : Int) == 0) = false := by rw [beq_eq_false_iff_ne]; omega
    have hb1 : (0 : Int) < (nf : Int) := by omega
    have HFS := Lib.hid hfs
    have HNF := Lib.hid hnf
    rw [hnf] at HFS q1 ⊢
    clear q4 hnf q3
    by_cases hh : (hashB x && !b) = true
    · obtain ⟨hx, hb⟩ : hashB x = true ∧ b = false := by simpa using hh
      subst hb
      rw [fnd_hash lv v ks xs hx] at hms ⊢
      rw [vals_length]
      have hn := nodes_root (t := Tr.node lv v ks) hfo
      have HALL := Lib.hid (all_any g caps hcall J hS hY (Tr.node lv v ks) p i W h (by have := hn.2.1; have := hli.count; omega) hms hJ)
      have hx1 : (x.toList == [35]) = true := by rw [str_eq]; exact hx
      clear O h ih hfs hms hl hfo hli hS hY hJ hh hx hn
      go_enter Tryz.func37, Tryz.ntmps37
      go_wp2_with fail
      go_step3
      go_wp2_with fail
      refine HALL.out.mono ?_
      rintro e W1 ⟨rfl, hJ1⟩
      have HJ1 := Lib.hid hJ1
      clear hJ1
      go_wp2_with fail
      repeat (first | rw [Exit.noGoto_ret] | simp only [Exit.inBlock] | simp only [Exit.then])
      go_ret
      exact ⟨rfl, HJ1.out⟩
    · have hh' : (hashB x && !b) = false := by simpa using hh
      rw [fnd_else lv v ks xs hh'] at hms ⊢
      obtain ⟨n, hnb⟩ : ∃ n, bs.length = n := ⟨_, rfl⟩
      have hkv : ∃ a cap, kv = .slice a n cap ∧ (n = 0 ∨ ∃ cb off, a = some ⟨cb, off, none⟩ ∧ n ≤ cap ∧ cap ≤ 9223372036854775807 ∧ ∀ W', Same F w0 W' → ∀ j u, (bs.map ptrV)[j]? = some u → W'.cell? ⟨cb, off + j, none⟩ = some u) := by
        rcases RowAt.cases O.hk with ⟨h8, _, a, cap, e, _⟩ | ⟨_, cb, off, cap, e, e1, e2, _, h⟩
        · exact ⟨a, cap, by rw [e, ← hnb, h8], .inl (by omega)⟩
        · exact ⟨_, cap, by rw [e, hnb], .inr ⟨cb, off, rfl, by omega, e2, fun W' hs j u hu => hs.cell (O.hkf.2 cb (by rw [e]; rfl)) (h j u hu)⟩⟩
      obtain ⟨a, cap, rfl, hcell⟩ := hkv
      have hc2 : ∀ j W', J j W' → W'.cell? ⟨p, 2, none⟩ = some (.slice a n cap) := fun j W' hj => (O.same (hS _ _ hj)).c2
      have hkid : ∀ (j kb : Nat) (k : Tree), bs[j]? = some kb → ks[j]? = some k → ∀ A W' gv g', A = i + (fndL hashB plusB dollarB (ks.take j) (x :: xs) b).length → part k (x :: xs) b = fnd hashB plusB dollarB k g' false → StrsF F w0 gv g' → J A W' →
          Calls Tryz.prog 37 #[.pointer (some ⟨kb, 0, none⟩), gv, .bool false, .func (.func g) #[] caps] W' fun e W'' => e = .returned (.bool true) ∧ J (A + (part k (x :: xs) b).length) W'' := fun j kb k h1 h2 A W' gv g' hA hp hg hJ' => by
        have hmem := List.mem_of_getElem? h2
        rw [hp]
        refine ih k hmem kb A W' gv g' false (O.hn j kb k h1 h2) (hfo.ok k hmem).forest (hli.kid hmem).1 hg (fun j' a ha => ?_) hJ'
        rw [← hp] at ha
        have h3 := hms _ _ (fndL_part h2 ha)
        rw [hA, ← h3]; congr 1; omega
      have hnode : ∀ (j kb : Nat) (k : Tree), bs[j]? = some kb → ks[j]? = some k → ∀ i' W', J i' W' → ∃ b3 o3 c3 y ys, k.lv = y :: ys ∧ k.lv.length ≤ 1000000001 ∧ W'.cell? ⟨kb, 0, none⟩ = some (.slice (some ⟨b3, o3, none⟩) k.lv.length c3) ∧ W'.cell? ⟨b3, o3, none⟩ = some (.string y) ∧ k.lv.length ≤ c3 ∧ c3 ≤ 9223372036854775807 ∧ StrsAt W' (.slice (some ⟨b3, o3, none⟩) k.lv.length c3) k.lv := fun j kb k h1 h2 i' W' hJ' => by
        have hmem := List.mem_of_getElem? h2
        obtain ⟨sv2, mv2, kv2, bs2, O2⟩ := (NodeAt.same (hS _ _ hJ') (O.hn j kb k h1 h2)).open
        cases hlv : k.lv with
        | nil => exact absurd hlv (hfo.ne k hmem)
        | cons y ys =>
          have hst := O2.hs
          rw [hlv] at hst
          have hst2 := hst
          obtain ⟨b3, o3, c3, rfl, r1, r2, r3, r4⟩ := Tp.StrsAt.open hst (by simp)
          have ky := r4 0 y rfl
          rw [Nat.add_zero] at ky
          exact ⟨b3, o3, c3, y, ys, rfl, by rw [← hlv]; exact hli.lv hfo hmem, O2.c0, ky, r1, r2, hst2⟩
      have hfsw : ∀ i' W', J i' W' → StrsF F W' (.slice (some ⟨b1, o1, none⟩) nf c1) (x :: xs) := fun i' W' hJ' => RowF.keep HFS.out (hS _ _ hJ')
      have hback : ∀ i' W' gv g', J i' W' → StrsF F W' gv g' → StrsF F w0 gv g' := fun i' W' gv g' hJ' hg => RowF.keep hg (fun k _ hFk => (hS _ _ hJ' k (hF k hFk) hFk).symm)
      have HCELL := Lib.hid hcell
      have HC2 := Lib.hid hc2
      have HKID := Lib.hid hkid
      have HNODE := Lib.hid hnode
      have HFSW := Lib.hid hfsw
      have HBACK := Lib.hid hback
      have HNB := Lib.hid hnb
      have HL := Lib.hid hl
      have hnT : n ≤ 1000000 := by rw [← hnb, hl]; exact hli.kids hfo
      clear O h ih hms hfo hli hcell hc2 hkid hnode hfsw hback hnb hl hfs hS hY hO
      have hcase : ((x.toList == [35]) = true ∧ b = true) ∨ (x.toList == [35]) = false := by
        rw [str_eq]
        cases hb : hashB x with
        | false => exact .inr hb
        | true => rw [hb] at hh'; exact .inl ⟨hb, by simpa using hh'⟩
      go_enter Tryz.func37, Tryz.ntmps37
      go_wp2_with fail
      refine wp_scope_pass 0 (AtLabel p (.slice (some ⟨b1, o1, none⟩) nf c1) b g caps n i ks (x :: xs) J) (fun a' _ => n - (intOf (a'.tmps.getD 9 undef)).toNat) rfl ?pass ?first
      case first =>
        intro hpass
        rcases hcase with ⟨hx1, rfl⟩ | hx1
        all_goals
          go_wp2_with fail
          go_step3
          rename_i hK
          refine hK _ _ (hpass _ _ ?_)
          exact ⟨0, i, _, _, _, _, _, _, _, _, _, _, _, _, _, _, _, _, _, _, _, _, _, _, _, _, _, _, _, _, _, _, _, _, _, _, _, _, _, _, _, _, _, _, _, _, _, _, _, _, _, _, _, _, _, _, _, _, _, _, _, _, _, _, _, _, _, _, _, _, _, _, _, _, _, _, _, _, _, _, _, _, _, _, _, _, _, _, _, _, _, _, rfl, rfl, Nat.zero_le _, by simp [fndL], hJ⟩
      case pass =>
        rintro a' w' ⟨j, A, jj, u4, u5, u6, u7, u8, u10, u11, u12, u13, u14, u15, u16, u17, u18, u19, u20, u21, u22, u23, u24, u25, u26, u27, u28, u29, u30, u31, u32, u33, u34, u35, u36, u37, u38, u39, u40, u41, u42, u43, u44, u45, u46, u47, u48, u49, u50, u51, u52, u53, u54, u55, u56, u57, u58, u59, u60, u61, u62, u63, u64, u65, u66, u67, u68, u69, u70, u71, u72, u73, u74, u75, u76, u77, u78, u79, u80, u81, u82, u83, u84, u85, u86, u87, u88, u89, u90, u91, u92, u93, rfl, rfl, hj, hA, hJr⟩
        have kk2 := HC2.out _ _ hJr
        have HA := Lib.hid hA
        have HJR := Lib.hid hJr
        clear hA hJr hcase HJ hJ k1
        by_cases hjn : j = n
        · subst hjn
          have hd : ((j : Int) == (j : Int)) = true := by simp
          have hfin : i + (fndL hashB plusB dollarB ks (x :: xs) b).length = A := by rw [HA.out, List.take_of_length_le (by have := HL.out; have := HNB.out; omega)]
          have HFIN := Lib.hid hfin
          clear hfin
          go_wp2_with fail
          simp only [Exit.jump]
          go_ret
          exact ⟨rfl, by rw [HFIN.out]; exact HJR.out⟩
        · have hlt : j < n := by omega
          have hd : ((j : Int) == (n : Int)) = false := by rw [beq_eq_false_iff_ne]; omega
          have hbi1 : (0 : Int) ≤ (j : Int) := by omega
          have hbi2 : (j : Int) < (n : Int) := by omega
          obtain ⟨kb, g1⟩ : ∃ b, bs[j]? = some b := ⟨_, List.getElem?_eq_getElem (show j < bs.length by have := HNB.out; omega)⟩
          obtain ⟨k, g2⟩ : ∃ k, ks[j]? = some k := ⟨_, List.getElem?_eq_getElem (show j < ks.length by have := HNB.out; have := HL.out; omega)⟩
          obtain ⟨cb, off, rfl, hnc, hcm, hc⟩ := HCELL.out.resolve_left (by omega)
          have kk := hc _ (HS.out _ _ HJR.out) j (ptrV kb) (by rw [List.getElem?_map, g1]; rfl)
          obtain ⟨b3, o3, c3, y, ys, hlv, hlen, m0c, m1c, r1, r2, hst⟩ := HNODE.out j kb k g1 g2 _ _ HJR.out
          have hstep := fndL_next g2 (x :: xs) b
          have HCALL := Lib.hid (HKID.out j kb k g1 g2 A)
          have HSTEP := Lib.hid hstep
          have HLV := Lib.hid hlv
          have HLEN := Lib.hid hlen
          have HST := Lib.hid hst
          obtain ⟨m0, hm0⟩ : ∃ m, k.lv.length = m := ⟨_, rfl⟩
          have hm00 : 0 < m0 := by rw [← hm0, hlv]; simp
          have hm01 : (0 : Int) < (m0 : Int) := by omega
          rw [hm0] at m0c r1 HST
          have HLEFT := Lib.hid (left_any (HFSW.out _ _ HJR.out) HST.out HLEN.out)
          unfold ptrV at kk
          clear hc g1 g2 hstep hlv hlen hst hm0
          cases b with
          | false =>
            have HDOL := Lib.hid (show True from trivial)
            go_wp2_with fail
            refine HLEFT.out.mono ?_
            rintro e w2 ⟨hpost, rfl⟩
            cases hleft : left hashB plusB (x :: xs) k.lv with
            | none =>
              rw [hleft] at hpost
              obtain ⟨gv, rfl⟩ := hpost
              have hpart : part k (x :: xs) false = [] := by unfold part; rw [HLV.out] at hleft ⊢; simp [hleft]
              have HPART := Lib.hid hpart
              clear hpart hleft
              go_wp2_with fail
              go_step3
              refine ⟨rfl, ⟨j + 1, A, _, _, _, _, _, _, _, _, _, _, _, _, _, _, _, _, _, _, _, _, _, _, _, _, _, _, _, _, _, _, _, _, _, _, _, _, _, _, _, _, _, _, _, _, _, _, _, _, _, _, _, _, _, _, _, _, _, _, _, _, _, _, _, _, _, _, _, _, _, _, _, _, _, _, _, _, _, _, _, _, _, _, _, _, _, _, _, _, _, _, rfl, ?lit, by omega, ?len, HJR.out⟩, ?mes⟩
              case lit => go_num
              case len => rw [HSTEP.out, HPART.out]; have := HA.out; (try simp only [List.length_nil]); omega
              case mes => simp [intOf]; omega
            | some g2 =>
              rw [hleft] at hpost
              obtain ⟨gv, rfl, hgv⟩ := hpost
              have hpart : part k (x :: xs) false = fnd hashB plusB dollarB k g2 false := by unfold part; rw [HLV.out] at hleft ⊢; simp [hleft]
              have HC3 := Lib.hid (HCALL.out w2 gv g2 HA.out hpart (HBACK.out _ _ _ _ HJR.out hgv) HJR.out)
              clear hpart hleft hgv
              go_wp2_with fail
              refine HC3.out.mono ?_
              rintro e w3 ⟨rfl, hJ3⟩
              have HJ3 := Lib.hid hJ3
              clear hJ3
              go_wp2_with fail
              go_step3
              refine ⟨rfl, ⟨j + 1, A + (part k (x :: xs) false).length, _, _, _, _, _, _, _, _, _, _, _, _, _, _, _, _, _, _, _, _, _, _, _, _, _, _, _, _, _, _, _, _, _, _, _, _, _, _, _, _, _, _, _, _, _, _, _, _, _, _, _, _, _, _, _, _, _, _, _, _, _, _, _, _, _, _, _, _, _, _, _, _, _, _, _, _, _, _, _, _, _, _, _, _, _, _, _, _, _, _, rfl, ?lit, by omega, ?len, HJ3.out⟩, ?mes⟩
              case lit => go_num
              case len => rw [HSTEP.out, show (part k (x :: xs) false).length = (part k (x :: xs) false).length from rfl]; have := HA.out; (try simp only [List.length_nil]); omega
              case mes => simp [intOf]; omega
          | true =>
            by_cases hy0 : y.size = 0
            · have HDOL := Lib.hid (show dollarB y = false from by unfold dollarB; rw [List.eq_nil_of_length_eq_zero (show y.data.toList.length = 0 by simpa using hy0)]; rfl)
              have hd2 : decide ((0 : Int) < (y.size : Int)) = false := decide_eq_false (by omega)
              go_wp2_with fail
              refine HLEFT.out.mono ?_
              rintro e w2 ⟨hpost, rfl⟩
              cases hleft : left hashB plusB (x :: xs) k.lv with
              | none =>
                rw [hleft] at hpost
                obtain ⟨gv, rfl⟩ := hpost
                have hpart : part k (x :: xs) true = [] := by unfold part; rw [HLV.out] at hleft ⊢; simp [hleft, HDOL.out]
                have HPART := Lib.hid hpart
                clear hpart hleft
                go_wp2_with fail
                go_step3
                refine ⟨rfl, ⟨j + 1, A, _, _, _, _, _, _, _, _, _, _, _, _, _, _, _, _, _, _, _, _, _, _, _, _, _, _, _, _, _, _, _, _, _, _, _, _, _, _, _, _, _, _, _, _, _, _, _, _, _, _, _, _, _, _, _, _, _, _, _, _, _, _, _, _, _, _, _, _, _, _, _, _, _, _, _, _, _, _, _, _, _, _, _, _, _, _, _, _, _, _, rfl, ?lit, by omega, ?len, HJR.out⟩, ?mes⟩
                case lit => go_num
                case len => rw [HSTEP.out, HPART.out]; have := HA.out; (try simp only [List.length_nil]); omega
                case mes => simp [intOf]; omega
              | some g2 =>
                rw [hleft] at hpost
                obtain ⟨gv, rfl, hgv⟩ := hpost
                have hpart : part k (x :: xs) true = fnd hashB plusB dollarB k g2 false := by unfold part; rw [HLV.out] at hleft ⊢; simp [hleft, HDOL.out]
                have HC3 := Lib.hid (HCALL.out w2 gv g2 HA.out hpart (HBACK.out _ _ _ _ HJR.out hgv) HJR.out)
                clear hpart hleft hgv
                go_wp2_with fail
                refine HC3.out.mono ?_
                rintro e w3 ⟨rfl, hJ3⟩
                have HJ3 := Lib.hid hJ3
                clear hJ3
                go_wp2_with fail
                go_step3
                refine ⟨rfl, ⟨j + 1, A + (part k (x :: xs) true).length, _, _, _, _, _, _, _, _, _, _, _, _, _, _, _, _, _, _, _, _, _, _, _, _, _, _, _, _, _, _, _, _, _, _, _, _, _, _, _, _, _, _, _, _, _, _, _, _, _, _, _, _, _, _, _, _, _, _, _, _, _, _, _, _, _, _, _, _, _, _, _, _, _, _, _, _, _, _, _, _, _, _, _, _, _, _, _, _, _, _, rfl, ?lit, by omega, ?len, HJ3.out⟩, ?mes⟩
                case lit => go_num
                case len => rw [HSTEP.out, show (part k (x :: xs) true).length = (part k (x :: xs) true).length from rfl]; have := HA.out; (try simp only [List.length_nil]); omega
                case mes => simp [intOf]; omega
            · have hy1 : 0 < y.size := by omega
              have hy2 : (0 : Int) < (y.size : Int) := by omega
              have hd2 : decide ((0 : Int) < (y.size : Int)) = true := decide_eq_true hy2
              by_cases h36 : y[0].toNat = 36
              · have HDOL := Lib.hid (show dollarB y = true from by unfold dollarB; exact decide_eq_true (Eq.mpr (head_eq y hy1) h36))
                have f36 : ((y[0].toNat : Int) == 36) = true := by rw [h36]; rfl
                have HPART := Lib.hid (show part k (x :: xs) true = [] from by unfold part; rw [HLV.out]; simp [HDOL.out])
                clear h36
                go_wp2_with fail
                go_step3
                refine ⟨rfl, ⟨j + 1, A, _, _, _, _, _, _, _, _, _, _, _, _, _, _, _, _, _, _, _, _, _, _, _, _, _, _, _, _, _, _, _, _, _, _, _, _, _, _, _, _, _, _, _, _, _, _, _, _, _, _, _, _, _, _, _, _, _, _, _, _, _, _, _, _, _, _, _, _, _, _, _, _, _, _, _, _, _, _, _, _, _, _, _, _, _, _, _, _, _, _, rfl, ?lit, by omega, ?len, HJR.out⟩, ?mes⟩
                case lit => go_num
                case len => rw [HSTEP.out, HPART.out]; have := HA.out; (try simp only [List.length_nil]); omega
                case mes => simp [intOf]; omega
              · have HDOL := Lib.hid (show dollarB y = false from by unfold dollarB; exact decide_eq_false (fun e => h36 (Eq.mp (head_eq y hy1) e)))
                have f36 : ((y[0].toNat : Int) == 36) = false := by rw [beq_eq_false_iff_ne]; omega
                clear h36
                go_wp2_with fail
                refine HLEFT.out.mono ?_
                rintro e w2 ⟨hpost, rfl⟩
                cases hleft : left hashB plusB (x :: xs) k.lv with
                | none =>
                  rw [hleft] at hpost
                  obtain ⟨gv, rfl⟩ := hpost
                  have hpart : part k (x :: xs) true = [] := by unfold part; rw [HLV.out] at hleft ⊢; simp [hleft, HDOL.out]
                  have HPART := Lib.hid hpart
                  clear hpart hleft
                  go_wp2_with fail
                  go_step3
                  refine ⟨rfl, ⟨j + 1, A, _, _, _, _, _, _, _, _, _, _, _, _, _, _, _, _, _, _, _, _, _, _, _, _, _, _, _, _, _, _, _, _, _, _, _, _, _, _, _, _, _, _, _, _, _, _, _, _, _, _, _, _, _, _, _, _, _, _, _, _, _, _, _, _, _, _, _, _, _, _, _, _, _, _, _, _, _, _, _, _, _, _, _, _, _, _, _, _, _, _, rfl, ?lit, by omega, ?len, HJR.out⟩, ?mes⟩
                  case lit => go_num
                  case len => rw [HSTEP.out, HPART.out]; have := HA.out; (try simp only [List.length_nil]); omega
                  case mes => simp [intOf]; omega
                | some g2 =>
                  rw [hleft] at hpost
                  obtain ⟨gv, rfl, hgv⟩ := hpost
                  have hpart : part k (x :: xs) true = fnd hashB plusB dollarB k g2 false := by unfold part; rw [HLV.out] at hleft ⊢; simp [hleft, HDOL.out]
                  have HC3 := Lib.hid (HCALL.out w2 gv g2 HA.out hpart (HBACK.out _ _ _ _ HJR.out hgv) HJR.out)
                  clear hpart hleft hgv
                  go_wp2_with fail
                  refine HC3.out.mono ?_
                  rintro e w3 ⟨rfl, hJ3⟩
                  have HJ3 := Lib.hid hJ3
                  clear hJ3
                  go_wp2_with fail
                  go_step3
                  refine ⟨rfl, ⟨j + 1, A + (part k (x :: xs) true).length, _, _, _, _, _, _, _, _, _, _, _, _, _, _, _, _, _, _, _, _, _, _, _, _, _, _, _, _, _, _, _, _, _, _, _, _, _, _, _, _, _, _, _, _, _, _, _, _, _, _, _, _, _, _, _, _, _, _, _, _, _, _, _, _, _, _, _, _, _, _, _, _, _, _, _, _, _, _, _, _, _, _, _, _, _, _, _, _, _, _, rfl, ?lit, by omega, ?len, HJ3.out⟩, ?mes⟩
                  case lit => go_num
                  case len => rw [HSTEP.out, show (part k (x :: xs) true).length = (part k (x :: xs) true).length from rfl]; have := HA.out; (try simp only [List.length_nil]); omega
                  case mes => simp [intOf]; omega
end Go.Proofs.YtgnffkahlniehaaGreat
