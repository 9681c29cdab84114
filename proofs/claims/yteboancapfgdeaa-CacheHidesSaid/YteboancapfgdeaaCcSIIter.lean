/- Proved here: what a cache's iterator does with a function value that is handed to it. -/
import Derived.Test.YteboancapfgdeaaCcSINew
import Derived.Deep.RegionHeld3
import Derived.Deep.DrawnRows
import Derived.LaidEqlPtr
namespace Go.Proofs.Yteboancapfgdeaa.SI
open Go.RowKit Go.Proofs.Cc
attribute [local go_sem ↓] Go.wp_at_zero Go.wp_at_succ

theorem run_neq_ptr_same {P : Program} {w : World} {tp te : TypeId} {j : TypeInfo} (a : Addr) (hp : P.underlying tp = some (.pointer te)) (hte : P.info? te = some j) :
    (binOp .neq tp (.pointer (some a)) (.pointer (some a))).run P w = .ok (.bool false) w := by
  have h : ∀ d : Nat, (Op.equalIn (d + 1) tp (.pointer (some a)) (.pointer (some a))).run P w = .ok true w := fun d => by
    simp [Op.equalIn, run_underlying hp, sizeOf, typeInfo, hte, run_sameAddr_same]
  simp only [binOp]
  simp [Op.equal, Op.maxDepth, h 9999]

theorem run_neq_ptr_other {P : Program} {w : World} {tp te : TypeId} {j : TypeInfo} {a b : Addr} (hp : P.underlying tp = some (.pointer te)) (hte : P.info? te = some j) (hsz : j.size ≠ 0) (hne : a ≠ b) (ha : Live w a.block) (hb : Live w b.block) :
    (binOp .neq tp (.pointer (some a)) (.pointer (some b))).run P w = .ok (.bool true) w := by
  obtain ⟨ca, ta, ha⟩ := ha
  obtain ⟨cb, tb, hb⟩ := hb
  have h : ∀ d : Nat, (Op.equalIn (d + 1) tp (.pointer (some a)) (.pointer (some b))).run P w = .ok false w := fun d => by
    simp [Op.equalIn, run_underlying hp, sizeOf, typeInfo, hte, hsz, run_sameAddr_other w hne ha hb]
  simp only [binOp]
  simp [Op.equal, Op.maxDepth, h 9999]

theorem infoEntSI : ∃ j, Try.prog.info? 219 = some j ∧ j.size ≠ 0 := by
  have h : (Try.prog.info? 219).map (fun i => i.size) = some 4 := by kernel_rfl
  cases hh : Try.prog.info? 219 with
  | none => rw [hh] at h; cases h
  | some j => rw [hh] at h; injection h with h; exact ⟨j, rfl, by have h' : j.size = 4 := h; omega⟩

theorem seg_at {w : World} : ∀ (r : List Nat) (a z k x y : Nat), Seg w a r z → (a :: r)[k]? = some x → (r ++ [z])[k]? = some y → link w x y
  | [], a, z, 0, x, y, h, h1, h2 => by simp at h1 h2; subst h1; subst h2; exact h
  | [], a, z, k + 1, x, y, h, h1, h2 => by simp at h1
  | b :: r, a, z, 0, x, y, h, h1, h2 => by simp at h1 h2; subst h1; subst h2; exact h.1
  | b :: r, a, z, k + 1, x, y, h, h1, h2 => seg_at r b z k x y h.2 (by simpa using h1) (by simpa using h2)

set_option maxRecDepth 100000 in
set_option maxHeartbeats 1000000 in
theorem all1SI_any {w : World} {c : Nat} {S : Nat → Prop} {most : Nat} {E : List (Ent Str I64)} (HC : CacheAt Try.prog 9 kdS kdI w c S most E) (bx : Nat) (hbx : w.cell? ⟨bx, 0, none⟩ = some (.pointer (some ⟨c, 0, none⟩)))
    (g : Nat) (caps : Array Value) (hcall : ∀ args W, (callFunc g args).run Try.prog W = .ok (.enter g args) W) (J : Bool → Nat → World → Prop) (hS : ∀ b n W, J b n W → Same (fun x => S x ∨ x = bx) w W) (hD : ∀ b n W, J b n W → J b n W.drew) (h0 : J true 0 w)
    (hY : ∀ n e W, E[n]? = some e → J true n W → Calls Try.prog g (#[.string e.key.1, .int .i64 e.val.1] ++ caps) W fun ex W' => ∃ b, ex = .returned (.bool b) ∧ J b (n + 1) W') :
    Calls Try.prog 132 #[.func (.func g) #[] caps, .pointer (some ⟨bx, 0, none⟩)] w fun ex w' => ex = .returned (.tuple #[]) ∧ (J true E.length w' ∨ ∃ n, n ≤ E.length ∧ J false n w') := by
  obtain ⟨b, h, D, C⟩ := HC
  have hc1 := C.head
  have hfirst := seg_first h h _ C.ring
  have hx0 : ∃ x0, (E.map Ent.blk ++ [h])[0]? = some x0 ∧ w.cell? ⟨h, 0, none⟩ = some (.pointer (some ⟨x0, 0, none⟩)) := ⟨_, (by cases E <;> rfl), hfirst.1⟩
  obtain ⟨x0, hx0, hh0⟩ := hx0
  have HX0 := Lib.hid hx0
  have HHC := Lib.hid C
  have HS := Lib.hid hS
  have HD := Lib.hid hD
  have HY := Lib.hid hY
  have H0 := Lib.hid h0
  clear hfirst hx0 hS hD hY h0
  go_enter Try.func132, Try.ntmps132
  go_wp2_with fail
  have HB := Lib.hid hbx
  clear C hc1 hh0 hbx
  go_loopg [3] E.length (fun gg p wr => ∃ k x, k + gg = E.length ∧ p = .pointer (some ⟨x, 0, none⟩) ∧ (E.map Ent.blk ++ [h])[k]? = some x ∧ J true k wr)
  case atStart => exact ⟨0, x0, by omega, rfl, HX0.out, H0.out⟩
  case round =>
    obtain ⟨k, x, hkg, rfl, hx, hJ⟩ := hrel
    have hsame := HS.out _ _ _ hJ
    have C := HHC.out.frame (fun i hi hs => hsame i hi (.inl hs))
    have hb1 := hsame.cell (.inr rfl) HB.out
    have hc1 := C.head
    have HC2 := Lib.hid C
    have HJ := Lib.hid hJ
    have HX := Lib.hid hx
    cases gk with
    | zero =>
      obtain rfl : k = E.length := by omega
      have hxh : x = h := by
        rw [List.getElem?_append_right (by simp)] at hx
        simp at hx
        exact hx.symm
      subst hxh
      obtain ⟨j0, hj0, -⟩ := infoEntSI
      have hneq : (binOp .neq 210 (.pointer (some ⟨x, 0, none⟩)) (.pointer (some ⟨x, 0, none⟩))).run Try.prog wr = .ok (.bool false) wr := run_neq_ptr_same _ Try.underlying210 hj0
      clear hx hJ hsame C hj0 j0
      go_wp2_with fail
      go_end0
      exact ⟨rfl, .inl HJ.out⟩
    | succ gk =>
      have hkl : k < E.length := by omega
      have hE := List.getElem?_eq_getElem hkl
      obtain ⟨e, he⟩ : ∃ e, E[k] = e := ⟨_, rfl⟩
      rw [he] at hE
      have hex : x = e.blk := by
        rw [List.getElem?_append_left (by simp; omega), List.getElem?_map, hE] at hx
        simp at hx
        exact hx.symm
      subst hex
      have hin : e ∈ E := List.mem_of_getElem? hE
      have hne : e.blk ≠ h := fun y => (List.nodup_cons.1 (List.nodup_cons.1 C.nod).2).1 (y ▸ List.mem_map_of_mem hin)
      have e2 : wr.cell? ⟨e.blk, 2, none⟩ = some (.string e.key.1) := C.ents e hin 0 _ rfl
      have e3 : wr.cell? ⟨e.blk, 3, none⟩ = some (.int .i64 e.val.1) := C.ents e hin 1 _ rfl
      obtain ⟨j0, hj0, hj1⟩ := infoEntSI
      have hneq : (binOp .neq 210 (.pointer (some ⟨e.blk, 0, none⟩)) (.pointer (some ⟨h, 0, none⟩))).run Try.prog wr = .ok (.bool true) wr := run_neq_ptr_other Try.underlying210 hj0 hj1 (fun y => by injection y with y; exact hne y) (C.live _ (List.mem_cons_of_mem _ (List.mem_map_of_mem hin))) (C.live _ (by simp))
      clear hj0 hj1 j0
      have HE := Lib.hid hE
      have HIN := Lib.hid hin
      clear hx hJ hsame C hE hin he
      go_wp2_with fail
      go_region_held3 (fun w' => w'.cell? ⟨e.blk, 2, none⟩ = some (.string e.key.1) ∧ w'.cell? ⟨e.blk, 3, none⟩ = some (.int .i64 e.val.1)) (first | go_keep | (exact ⟨((HS.out _ _ _ (by assumption)).cell (.inl (HHC.out.sub.2.2 _ (List.mem_cons_of_mem _ (List.mem_map_of_mem HIN.out)))) (HHC.out.ents e HIN.out 0 _ rfl)), ((HS.out _ _ _ (by assumption)).cell (.inl (HHC.out.sub.2.2 _ (List.mem_cons_of_mem _ (List.mem_map_of_mem HIN.out)))) (HHC.out.ents e HIN.out 1 _ rfl))⟩))
        ((refine (HY.out _ _ _ HE.out (HD.out _ _ _ HJ.out)).mono ?_; rintro ex W ⟨bb, rfl, hJ1⟩))
      cases bb with
      | false =>
        go_wp2_with fail
        first | refine bodyPost_ret (results_none rfl _ _ _) rfl ?_ | (repeat (first | rw [Exit.noGoto_ret] | simp only [Exit.inBlock] | simp only [Exit.then]); refine bodyPost_ret (results_none rfl _ _ _) rfl ?_)
        exact ⟨rfl, .inr ⟨k + 1, by omega, hJ1⟩⟩
      | true =>
        have hsame1 := HS.out _ _ _ hJ1
        have C1 := HHC.out.frame (fun i hi hs => hsame1 i hi (.inl hs))
        have hlt1 : k + 1 < (E.map Ent.blk ++ [h]).length := by simp; omega
        obtain ⟨y, hy⟩ : ∃ y, (E.map Ent.blk ++ [h])[k + 1]? = some y := ⟨_, List.getElem?_eq_getElem hlt1⟩
        have hek : (h :: E.map Ent.blk)[k + 1]? = some e.blk := by
          rw [List.getElem?_cons_succ, List.getElem?_map, HE.out]; rfl
        have hnext := (seg_at _ _ _ _ _ _ C1.ring hek hy).1
        have HYY := Lib.hid hy
        have HJ1 := Lib.hid hJ1
        clear hsame1 C1 hlt1 hy hek hJ1
        go_wp2_with fail
        go_roundg gk
        case measure => omega
        case rel => exact ⟨k + 1, y, by omega, rfl, HYY.out, HJ1.out⟩

end Go.Proofs.Yteboancapfgdeaa.SI
