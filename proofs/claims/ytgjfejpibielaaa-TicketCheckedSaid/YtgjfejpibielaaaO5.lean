/- Proved here: the law TicketChecked, a part of the proofs about the ticket laws. Conditions: those that each theorem names, no others. -/
import Derived.Test.YtgjfejpibielaaaO2
import Derived.WalkKit
import Derived.WalkSpells
import Derived.WalkLawsBesides
import Derived.Below
import Derived.Deep.QuietTactic
import Derived.BigQuiet
import Derived.Deep.Light
import Derived.Test.YtgjfejpibielaaaO4
import Derived.Deep.RegionHeld3
set_option linter.unusedSimpArgs false
set_option linter.unusedVariables false
namespace Go.Proofs.Ytgjfejpibielaaa
open Go.RowKit Go.Maps Go.Shelf
attribute [local go_sem] Oper.semAt_some World.cell?_setCell_far
theorem i64_put {w : World} {b o : Nat} {xs : List Int} (h : I64 w (some ⟨b, o, none⟩) xs) {p : Nat} (hp : p < xs.length) (v : Int) : I64 (w.setCell ⟨b, o + p, none⟩ (.int .i64 v)) (some ⟨b, o, none⟩) (xs.set p v) := fun k x hk => by
  have hkl : k < xs.length := by have := (List.getElem?_eq_some_iff.1 hk).1; simpa using this
  obtain ⟨b', o', e, h1, h2, h3⟩ := h k xs[k] (by simp [hkl])
  injection e with e
  injection e with e1 e2 _
  subst e1 e2
  refine ⟨b, o, rfl, by rw [size_setCell]; exact h1, by rw [size_setCell]; exact h2, ?_⟩
  rw [List.getElem?_set] at hk
  by_cases e : p = k
  · subst e
    rw [if_pos rfl, if_pos hp] at hk
    rw [← Option.some.inj hk]
    exact World.cell?_setCell_same _ _ _ h3
  · rw [if_neg e, List.getElem?_eq_getElem hkl] at hk
    rw [← Option.some.inj hk, World.cell?_setCell_other _ _ _ _ (by intro h; injection h with _ h _; omega)]
    exact h3
theorem own_blk {w : World} {B : Nat} {e : TypeId} {sz n c : Nat} {A : Option Addr} {xs : List Value} (h : w.ownsRow B e sz (.slice A n c) n xs) (hn : 0 < n) : ∃ b, A = some ⟨b, 0, none⟩ ∧ B ≤ b ∧ b < w.heap.size ∧ ∀ k, w.frozen? ⟨b, k, none⟩ = false := by
  obtain ⟨g, cap, cur, hv, hB, hh, hr⟩ := h.2.resolve_left (by rintro ⟨_, h0⟩; omega)
  injection hv with hA _ _
  exact ⟨g, hA, hB, obj_lt hh, fun k => obj_fz hh k⟩
theorem zs_set (l : List Nat) (p v : Nat) : (zs l).set p (v : Int) = zs (l.set p v) := by unfold zs; rw [List.map_set]
theorem rng_nil (w : World) : Rng w none [] := ⟨rfl, fun h => by simp at h⟩
theorem idx_none (L rest : Nat) (K F T : List Nat) : ((idxL L rest K F T (nr [])).map fun (p : Int × Int) => p.2 - p.1 + 1).sum = 0 := rfl
theorem sh_wrap : ∀ y, y < 6 → wrap64 (2 ^ y) = ((2 ^ y : Nat) : Int) := by decide +kernel
set_option maxRecDepth 100000 in
set_option maxHeartbeats 8000000 in
theorem checked_law (L n r : Int) (A : Option Addr) (K : List Int) (c : Nat) (num pl : Nat) (w : World) (hA : I64 w A K) (hl9 : K.length ≤ 9223372036854775807) (hnm : num < 65536) (hpl : pl < 256) : Calls Try.prog 14 #[.agg #[.int .i64 L, .int .i64 n, .slice A K.length c, .int .i64 r], .int .u16 (num : Nat), .int .u8 (pl : Nat)] w (Gives w (.bool true)) := by
  obtain ⟨ti, ih, iz, is, ib⟩ := info_parts info3k
  obtain ⟨b, hb, hF⟩ := fine_any L n r K hl9
  have HF := hide hF
  clear hF
  cases b with
  | false =>
    clear hb
    go_enter Try.func14, Try.ntmps14
    go_upto_region 1 with fail
    have hW : Below w.heap.size w (w.alloc (.cells #[.int .i64 L, .int .i64 n, .slice A K.length c, .int .i64 r] 24)) := below_alloc (Below.refl _ _) (Nat.le_refl _) _
    have hX : BlkAt (w.alloc (.cells #[.int .i64 L, .int .i64 n, .slice A K.length c, .int .i64 r] 24)) w.heap.size #[.int .i64 L, .int .i64 n, .slice A K.length c, .int .i64 r] 24 := heap_alloc_new _ _
    obtain ⟨wa, hwa⟩ : ∃ wa, (w.alloc (.cells #[.int .i64 L, .int .i64 n, .slice A K.length c, .int .i64 r] 24)) = wa := ⟨_, rfl⟩
    rw [hwa] at hW hX ⊢
    clear hwa
    replace hA := hA.ext hW
    have q0 := obj_at hX 0 _ rfl
    have q1 := obj_at hX 1 _ rfl
    have q2 := obj_at hX 2 _ rfl
    have q3 := obj_at hX 3 _ rfl
    have ql := obj_lt hX
    have hWs := hW.size
    have tok0 : True := trivial
    go_wp2_with (first
        | (clear tok0; go_at_call 45; refine (HF.out A c _ hA).mono ?_; rintro e u1 ⟨rfl, hb1⟩; replace hb1 := ex_below hb1; have hz1 := hb1.size; have hB1 := below_step hW hb1 (by omega); have hzB1 := hB1.size; have hA_1 := hA.ext hb1; have hX_1 := hX.ext hb1; clear q0 q1 q2 q3 ql; have q0 := obj_at hX_1 0 _ rfl; have q1 := obj_at hX_1 1 _ rfl; have q2 := obj_at hX_1 2 _ rfl; have q3 := obj_at hX_1 3 _ rfl; have ql := obj_lt hX_1; have tok1 : True := trivial)
        | (clear tok1; go_at_call 17; refine (works_any _).mono ?_; rintro e u2 ⟨rfl, hb2⟩; replace hb2 := ex_below hb2; have hz2 := hb2.size; have hB2 := below_step hB1 hb2 (by omega); have hzB2 := hB2.size; have hA_2 := hA_1.ext hb2; have hX_2 := hX_1.ext hb2; clear q0 q1 q2 q3 ql; have q0 := obj_at hX_2 0 _ rfl; have q1 := obj_at hX_2 1 _ rfl; have q2 := obj_at hX_2 2 _ rfl; have q3 := obj_at hX_2 3 _ rfl; have ql := obj_lt hX_2; have tok2 : True := trivial))
    go_ret
    exact gives_of rfl hB2
  | true =>
    obtain ⟨l, rest, k, rfl, rfl, rfl, rfl, hd, _⟩ := hb rfl
    clear hb
    have HN := hide (fun w' (h : I64 w' A (zs k)) => count_any l rest A k c w' hd h)
    have hl2 := hd.1
    have hl6 := hd.2.1
    have hk2 := hd.2.2.1
    have hk8 := hd.2.2.2.1
    rw [zs_len] at HF hl9 ⊢
    by_cases hz : (Tt.codes l rest k).length = 0
    · rw [hz] at HN
      clear hd hz
      go_enter Try.func14, Try.ntmps14
      go_upto_region 1 with fail
      have hW : Below w.heap.size w (w.alloc (.cells #[.int .i64 (l : Nat), .int .i64 (k.length : Nat), .slice A k.length c, .int .i64 (rest : Nat)] 24)) := below_alloc (Below.refl _ _) (Nat.le_refl _) _
      have hX : BlkAt (w.alloc (.cells #[.int .i64 (l : Nat), .int .i64 (k.length : Nat), .slice A k.length c, .int .i64 (rest : Nat)] 24)) w.heap.size #[.int .i64 (l : Nat), .int .i64 (k.length : Nat), .slice A k.length c, .int .i64 (rest : Nat)] 24 := heap_alloc_new _ _
      obtain ⟨wa, hwa⟩ : ∃ wa, (w.alloc (.cells #[.int .i64 (l : Nat), .int .i64 (k.length : Nat), .slice A k.length c, .int .i64 (rest : Nat)] 24)) = wa := ⟨_, rfl⟩
      rw [hwa] at hW hX ⊢
      clear hwa
      replace hA := hA.ext hW
      have q0 := obj_at hX 0 _ rfl
      have q1 := obj_at hX 1 _ rfl
      have q2 := obj_at hX 2 _ rfl
      have q3 := obj_at hX 3 _ rfl
      have ql := obj_lt hX
      have hWs := hW.size
      have tok0 : True := trivial
      go_wp2_with (first
          | (clear tok0; go_at_call 45; refine (HF.out A c _ hA).mono ?_; rintro e u1 ⟨rfl, hb1⟩; replace hb1 := ex_below hb1; have hz1 := hb1.size; have hB1 := below_step hW hb1 (by omega); have hzB1 := hB1.size; have hA_1 := hA.ext hb1; have hX_1 := hX.ext hb1; clear q0 q1 q2 q3 ql; have q0 := obj_at hX_1 0 _ rfl; have q1 := obj_at hX_1 1 _ rfl; have q2 := obj_at hX_1 2 _ rfl; have q3 := obj_at hX_1 3 _ rfl; have ql := obj_lt hX_1; have tok1 : True := trivial)
          | (clear tok1; go_at_call 47; refine (HN.out _ hA_1).mono ?_; rintro e u2 ⟨rfl, hb2⟩; replace hb2 := ex_below hb2; have hz2 := hb2.size; have hB2 := below_step hB1 hb2 (by omega); have hzB2 := hB2.size; have hA_2 := hA_1.ext hb2; have hX_2 := hX_1.ext hb2; clear q0 q1 q2 q3 ql; have q0 := obj_at hX_2 0 _ rfl; have q1 := obj_at hX_2 1 _ rfl; have q2 := obj_at hX_2 2 _ rfl; have q3 := obj_at hX_2 3 _ rfl; have ql := obj_lt hX_2; have tok2 : True := trivial)
          | (clear tok2; go_at_call 17; refine (works_any _).mono ?_; rintro e u3 ⟨rfl, hb3⟩; replace hb3 := ex_below hb3; have hz3 := hb3.size; have hB3 := below_step hB2 hb3 (by omega); have hzB3 := hB3.size; have hA_3 := hA_2.ext hb3; have hX_3 := hX_2.ext hb3; clear q0 q1 q2 q3 ql; have q0 := obj_at hX_3 0 _ rfl; have q1 := obj_at hX_3 1 _ rfl; have q2 := obj_at hX_3 2 _ rfl; have q3 := obj_at hX_3 3 _ rfl; have ql := obj_lt hX_3; have tok3 : True := trivial))
      go_ret
      exact gives_of rfl hB3
    · have hj := Nat.mod_lt num (show (Tt.codes l rest k).length > 0 by omega)
      have hrem := rem_nat num (Tt.codes l rest k).length
      have hcnt : (Tt.codes l rest k).length ≤ 1679616 := by
        have h3 := Tt.cnt_small (L := l) (rest := rest) (ps := k.zip (Tt.fulls l k.length)) (la := -1) (s := 0) hl6 (by rw [List.length_zip]; omega)
        rwa [cnt_codes] at h3
      have hp := Nat.mod_lt pl (show k.length > 0 by omega)
      have hremp := rem_nat pl k.length
      obtain ⟨j, hje⟩ : ∃ j, num % (Tt.codes l rest k).length = j := ⟨_, rfl⟩
      obtain ⟨p, hpe⟩ : ∃ p, pl % k.length = p := ⟨_, rfl⟩
      rw [hje] at hj hrem
      rw [hpe] at hp hremp
      clear hje hpe
      obtain ⟨c1, c2, _⟩ := codes_sum (List.getElem_mem hj)
      obtain ⟨f, m, ef, ⟨hm0, em⟩, hfk, hone⟩ := checked hl2 hj hp
      have HC := hide (fun w' (h : I64 w' A (zs k)) => Code_ok l rest A k c (j : Nat) w' hd h)
      rw [code_at l rest k hj] at HC
      have hT1 : (openT l (Tt.codes l rest k)[j] p).length = k.length := by rw [openT_len, c1]
      have hT2 : ∀ t, t ∈ openT l (Tt.codes l rest k)[j] p → 1 ≤ t ∧ t < 2 ^ l := openT_in hl2 c2
      have HFT := hide (fun Y yc w' (h : I64 w' A (zs k)) (hY : I64 w' Y (zs (openT l (Tt.codes l rest k)[j] p))) => Fits_ok l rest A k c Y (openT l (Tt.codes l rest k)[j] p) yc none [] 0 w' hd h hT1 hT2 hY (rng_nil w') (by rfl))
      have HFD := hide (fun Y yc w' (h : I64 w' A (zs k)) (hY : I64 w' Y (zs (openT l (Tt.codes l rest k)[j] p))) => Find_ok l rest A k c Y (openT l (Tt.codes l rest k)[j] p) yc 0 w' hd h hT1 hT2 hY)
      have hfv : findV l rest k (openT l (Tt.codes l rest k)[j] p) 0 = .tuple #[.int .i64 (f : Nat), .int .i64 0] := by
        have h1 := find_at2 (L := l) (rest := rest) hT1 (i := 0) (by omega)
        rw [List.getElem?_eq_getElem (by omega)] at em
        rw [Option.some.inj em] at h1
        exact h1
      rw [hfv] at HFD
      rw [← fitL_len hT1, ef, hT1, idx_none] at HFT
      rw [hT1] at HFD
      have hwd : isW l k.length (strW (Tt.codes l rest k)[j]) = true := isW_strW c1 c2 hl6
      have HW := hide (fun w' (h : I64 w' A (zs k)) => rIsWord_any l rest A k c (strW (Tt.codes l rest k)[j]) w' hd h (by rw [strW_size, c1]; omega))
      rw [hwd] at HW
      have HCL := hide c1
      have HC6 := hide (fun x (h : x ∈ (Tt.codes l rest k)[j]) => (show x < 6 by have := c2 x h; omega))
      have HPL := hide hp
      have HKL := hide hd.2.2.2.2.1
      have HK2 := hide hk2
      have hopen : openT l (Tt.codes l rest k)[j] p = ((Tt.codes l rest k)[j].map (2 ^ ·)).set p (2 ^ l - 1) := rfl
      rw [hopen] at HFT HFD
      have hpw : 2 ^ l ≤ 2 ^ 6 := Nat.pow_le_pow_right (by decide) hl6
      have hp4 : 2 ^ 2 ≤ 2 ^ l := Nat.pow_le_pow_right (by decide) hl2
      obtain ⟨P, hP⟩ : ∃ P, 2 ^ l = P := ⟨_, rfl⟩
      have HSH : Hid (wrap64 (2 ^ l) = (P : Int)) := hide (by
        have e : ((2 : Int) ^ l) = ((2 ^ l : Nat) : Int) := by push_cast; rfl
        rw [e, hP]; simp only [wrap64]; omega)
      rw [hP] at hpw hp4 HFT HFD
      have HSUB := hide (show wrap64 ((P : Int) - 1) = ((P - 1 : Nat) : Int) by simp only [wrap64]; omega)
      have HFK := hide hfk
      have HM0 := hide hm0
      have HONE := hide hone
      clear hd hP hopen hwd hfv hT1 hT2 c1 c2 ef em hfk hm0 hone hpw hp4
      obtain ⟨cw, hcw⟩ : ∃ v, (Tt.codes l rest k)[j] = v := ⟨_, rfl⟩
      obtain ⟨C, hC⟩ : ∃ v, (Tt.codes l rest k).length = v := ⟨_, rfl⟩
      rw [hcw] at HC HFT HFD HW HCL HC6
      rw [hC] at HN hz hj hcnt hrem
      clear hcw hC
      have hzi : ¬ ((C : Int) = 0) := by omega
      have hzb : ((C : Int) == 0) = false := by simp; omega
      have hzk : ¬ ((k.length : Int) = 0) := by omega
      have hzk2 : ¬ (k.length = 0) := by omega
      go_enter Try.func14, Try.ntmps14
      go_upto_region 1 with fail
      have hW : Below w.heap.size w (w.alloc (.cells #[.int .i64 (l : Nat), .int .i64 (k.length : Nat), .slice A k.length c, .int .i64 (rest : Nat)] 24)) := below_alloc (Below.refl _ _) (Nat.le_refl _) _
      have hX : BlkAt (w.alloc (.cells #[.int .i64 (l : Nat), .int .i64 (k.length : Nat), .slice A k.length c, .int .i64 (rest : Nat)] 24)) w.heap.size #[.int .i64 (l : Nat), .int .i64 (k.length : Nat), .slice A k.length c, .int .i64 (rest : Nat)] 24 := heap_alloc_new _ _
      obtain ⟨wa, hwa⟩ : ∃ wa, (w.alloc (.cells #[.int .i64 (l : Nat), .int .i64 (k.length : Nat), .slice A k.length c, .int .i64 (rest : Nat)] 24)) = wa := ⟨_, rfl⟩
      rw [hwa] at hW hX ⊢
      clear hwa
      replace hA := hA.ext hW
      have q0 := obj_at hX 0 _ rfl
      have q1 := obj_at hX 1 _ rfl
      have q2 := obj_at hX 2 _ rfl
      have q3 := obj_at hX 3 _ rfl
      have ql := obj_lt hX
      have hWs := hW.size
      have tok0 : True := trivial
      go_wp2_with (first
          | (clear tok0; go_at_call 45; refine (HF.out A c _ hA).mono ?_; rintro e u1 ⟨rfl, hb1⟩; replace hb1 := ex_below hb1; have hz1 := hb1.size; have hB1 := below_step hW hb1 (by omega); have hzB1 := hB1.size; have hA_1 := hA.ext hb1; have hX_1 := hX.ext hb1; clear q0 q1 q2 q3 ql; have q0 := obj_at hX_1 0 _ rfl; have q1 := obj_at hX_1 1 _ rfl; have q2 := obj_at hX_1 2 _ rfl; have q3 := obj_at hX_1 3 _ rfl; have ql := obj_lt hX_1; have tok1 : True := trivial)
          | (clear tok1; go_at_call 47; refine (HN.out _ hA_1).mono ?_; rintro e u2 ⟨rfl, hb2⟩; replace hb2 := ex_below hb2; have hz2 := hb2.size; have hB2 := below_step hB1 hb2 (by omega); have hzB2 := hB2.size; have hA_2 := hA_1.ext hb2; have hX_2 := hX_1.ext hb2; clear q0 q1 q2 q3 ql; have q0 := obj_at hX_2 0 _ rfl; have q1 := obj_at hX_2 1 _ rfl; have q2 := obj_at hX_2 2 _ rfl; have q3 := obj_at hX_2 3 _ rfl; have ql := obj_lt hX_2; have tok2 : True := trivial)
          | (clear tok2; go_at_call 47; refine (HN.out _ hA_2).mono ?_; rintro e u3 ⟨rfl, hb3⟩; replace hb3 := ex_below hb3; have hz3 := hb3.size; have hB3 := below_step hB2 hb3 (by omega); have hzB3 := hB3.size; have hA_3 := hA_2.ext hb3; have hX_3 := hX_2.ext hb3; clear q0 q1 q2 q3 ql; have q0 := obj_at hX_3 0 _ rfl; have q1 := obj_at hX_3 1 _ rfl; have q2 := obj_at hX_3 2 _ rfl; have q3 := obj_at hX_3 3 _ rfl; have ql := obj_lt hX_3; have tok3 : True := trivial)
          | (clear tok3; go_at_call 20; refine (HC.out _ hA_3).mono ?_; rintro e u4 ⟨rfl, hb4⟩; replace hb4 := ex_below hb4; have hz4 := hb4.size; have hB4 := below_step hB3 hb4 (by omega); have hzB4 := hB4.size; have hA_4 := hA_3.ext hb4; have hX_4 := hX_3.ext hb4; clear q0 q1 q2 q3 ql; have q0 := obj_at hX_4 0 _ rfl; have q1 := obj_at hX_4 1 _ rfl; have q2 := obj_at hX_4 2 _ rfl; have q3 := obj_at hX_4 3 _ rfl; have ql := obj_lt hX_4; have tok4 : True := trivial)
          | (clear tok4; go_at_call 50; refine (HW.out _ hA_4).mono ?_; rintro e u5 ⟨rfl, hb5⟩; replace hb5 := ex_below hb5; have hz5 := hb5.size; have hB5 := below_step hB4 hb5 (by omega); have hzB5 := hB5.size; have hA_5 := hA_4.ext hb5; have hX_5 := hX_4.ext hb5; clear q0 q1 q2 q3 ql; have q0 := obj_at hX_5 0 _ rfl; have q1 := obj_at hX_5 1 _ rfl; have q2 := obj_at hX_5 2 _ rfl; have q3 := obj_at hX_5 3 _ rfl; have ql := obj_lt hX_5; have tok5 : True := trivial))
      go_loopw [11, 12] (fun o iv wr => ∃ (i : Nat) (A2 : Option Addr) (m2 c2 : Nat), i ≤ k.length ∧ iv = .int .i64 (i : Nat) ∧ o = .slice A2 m2 c2 ∧ Hid (m2 = i) ∧ wr.ownsRow u5.heap.size 3 1 (.slice A2 m2 c2) m2 ((zs ((cw.map (2 ^ ·)).take i)).map (Value.int .i64)) ∧ Below u5.heap.size u5 wr) (fun _ iv _ => k.length - (intOf iv).toNat)
      case atStart => exact ⟨0, none, 0, 0, Nat.zero_le _, rfl, rfl, hide rfl, World.ownsRow_nil _ _ _ _, Below.refl _ _⟩
      case round =>
        obtain ⟨i, A2, m2, c2, hi, rfl, rfl, HM, hO, hb⟩ := hrel
        have hm2 : m2 ≤ 8 := by rw [HM.out]; omega
        have hzr := hb.size
        have hXr := hX_5.ext hb
        clear q0 q1 q2 q3 ql
        have q0 := obj_at hXr 0 _ rfl
        have q1 := obj_at hXr 1 _ rfl
        have q2 := obj_at hXr 2 _ rfl
        have q3 := obj_at hXr 3 _ rfl
        have ql := obj_lt hXr
        by_cases hlt : i < k.length
        · have hki : (i : Int) < (k.length : Int) := by omega
          have hiw : i < cw.length := by rw [HCL.out]; exact hlt
          have hsz := strW_size cw
          have hbS : i < (strW cw).size := by rw [hsz]; exact hiw
          have hbSI : (i : Int) < ((strW cw).size : Int) := by omega
          have hby := strW_at (ws := cw) (fun x hx => by have := HC6.out x hx; omega) i hiw
          have hc6 := HC6.out _ (List.getElem_mem hiw)
          have HTK := hide (show (cw.map (2 ^ ·)).take (i + 1) = (cw.map (2 ^ ·)).take i ++ [2 ^ cw[i]] by rw [List.take_add_one, List.getElem?_map, List.getElem?_eq_getElem hiw]; rfl)
          generalize cw[i] = y at *
          have hbw : IntKind.u8.wrap ((y : Int) + 97 - 97) = (y : Int) := u8_letter2 y hc6
          have hsh := sh_wrap y hc6
          clear hsz
          go_wp2_with (first
            | (at_builtin; refine wpList_app _ rfl (.tmp 59) (.tmp 65) 22 rfl (u5.heap.size) 3 ti _ 1 8 und22k ih iz is ib rfl (by decide) ((.slice A2 m2 c2)) (m2) (_) rfl (hO.alloc _) (some ⟨wr.heap.size, 0, none⟩) (1) (1) ([.int .i64 ((2 : Int) ^ y)]) rfl (rd_new1 _ _ _) (by simp [Value.oneCell']) (by unfold maxLen; omega) (by omega) (by (first | omega | (simp only [size_grow, World.size_alloc, size_drewN, size_drew, size_setCell]; omega) | (simp only [size_grow, World.size_alloc, size_drewN, size_drew, size_setCell] at *; omega) | (simp; done) | (simp; omega))) ?_; intro A7 c7 u7 hown7 hgr7))
          exact ⟨⟨i + 1, A7, m2 + 1, c7, by omega, by go_num, rfl, hide (by rw [HM.out]), by rw [HTK.out, zs_snoc, List.map_append, show ((2 ^ y : Nat) : Int) = (2 : Int) ^ y by push_cast; rfl]; exact hown7, gb_below (below_alloc hb (by omega) _) hgr7 (by simp; omega) (fun r e => (hO.lt r e).1)⟩, by simp [intOf]; omega⟩
        · have hki : ¬ ((i : Int) < (k.length : Int)) := by omega
          obtain rfl : i = k.length := by omega
          obtain rfl := HM.out
          clear HM
          obtain ⟨ob, rfl, hob1, hob2, hfz⟩ := own_blk hO (by have := HK2.out; omega)
          have hI := own_i64 hO
          rw [List.take_of_length_le (by rw [List.length_map, HCL.out]; exact Nat.le_refl _)] at hI
          have hpl := HPL.out
          have hpi : (p : Int) < (k.length : Int) := by omega
          have hcl := hI.at (k := p) (by rw [zs_len, List.length_map, HCL.out]; exact hpl)
          rw [Nat.zero_add] at hcl
          have hI2 := i64_put hI (p := p) (by rw [zs_len, List.length_map, HCL.out]; exact hpl) ((P - 1 : Nat) : Int)
          rw [zs_set, Nat.zero_add] at hI2
          have hfp := hfz p
          have hsub : wrap64 ((P : Int) - 1) = ((P - 1 : Nat) : Int) := HSUB.out
          have hsh := HSH.out
          have hzB5s := hB5.size
          have hB6 : Below w.heap.size w (wr.setCell ⟨ob, p, none⟩ (.int .i64 ((P - 1 : Nat) : Int))) := Below.setCell (below_step hB5 hb hB5.size) (show w.heap.size ≤ ob from Nat.le_trans hB5.size hob1) _
          have hA6 : I64 (wr.setCell ⟨ob, p, none⟩ (.int .i64 ((P - 1 : Nat) : Int))) A (zs k) := hA_5.ext (Below.setCell hb (by omega) _)
          have hX6 : BlkAt (wr.setCell ⟨ob, p, none⟩ (.int .i64 ((P - 1 : Nat) : Int))) w.heap.size #[.int .i64 (l : Nat), .int .i64 (k.length : Nat), .slice A k.length c, .int .i64 (rest : Nat)] 24 := hX_5.ext (Below.setCell hb (by omega) _)
          have hsz6 : (wr.setCell ⟨ob, p, none⟩ (.int .i64 ((P - 1 : Nat) : Int))).heap.size = wr.heap.size := size_setCell _ _ _
          go_upto_region 14 with fail
          obtain ⟨v6, hv6⟩ : ∃ v, wr.setCell ⟨ob, p, none⟩ (.int .i64 ((P - 1 : Nat) : Int)) = v := ⟨_, rfl⟩
          rw [hv6] at hI2 hB6 hA6 hX6 hsz6 ⊢
          clear hv6 hI hcl hfp hO hfz q0 q1 q2 q3 ql hXr hsub hsh
          have q0 := obj_at hX6 0 _ rfl
          have q1 := obj_at hX6 1 _ rfl
          have q2 := obj_at hX6 2 _ rfl
          have q3 := obj_at hX6 3 _ rfl
          have ql := obj_lt hX6
          have hm1 : ¬ ((m : Int) < 1) := by have := HM0.out; omega
          have hm1n : ¬ (m = 0) := by have := HM0.out; omega
          have hfj1 : ¬ ((j : Int) < (f : Int)) := by have := HFK.out; omega
          have hfj2 : f ≤ j := HFK.out
          have tok0 : True := trivial
          go_upto_region 18 with (first
              | (clear tok0; go_at_call 26; refine (HFT.out _ _ _ hA6 hI2).mono ?_; rintro e u1 ⟨rfl, hb1⟩; replace hb1 := ex_below hb1; have hz1 := hb1.size; have hB1 := below_step hB6 hb1 (by omega); have hzB1 := hB1.size; have hA6_1 := hA6.ext hb1; have hI2_1 := hI2.ext hb1; have hX_1 := hX6.ext hb1; clear q0 q1 q2 q3 ql; have q0 := obj_at hX_1 0 _ rfl; have q1 := obj_at hX_1 1 _ rfl; have q2 := obj_at hX_1 2 _ rfl; have q3 := obj_at hX_1 3 _ rfl; have ql := obj_lt hX_1; have tok1 : True := trivial)
              | (clear tok1; go_at_call 30; refine (HFD.out _ _ _ hA6_1 hI2_1).mono ?_; rintro e u2 ⟨rfl, hb2⟩; replace hb2 := ex_below hb2; have hz2 := hb2.size; have hB2 := below_step hB1 hb2 (by omega); have hzB2 := hB2.size; have hA6_2 := hA6_1.ext hb2; have hI2_2 := hI2_1.ext hb2; have hX_2 := hX_1.ext hb2; clear q0 q1 q2 q3 ql; have q0 := obj_at hX_2 0 _ rfl; have q1 := obj_at hX_2 1 _ rfl; have q2 := obj_at hX_2 2 _ rfl; have q3 := obj_at hX_2 3 _ rfl; have ql := obj_lt hX_2; have tok2 : True := trivial))

          obtain ⟨kb, ko, rfl, hkb⟩ := hA6_2.form (by rw [zs_len]; omega)
          have hck := hA6_2.at (k := p) (by rw [zs_len]; exact hpl)
          rw [zs_at k p hpl] at hck
          have HONE2 := HONE
          clear HONE hA_5 hA_4 hA_3 hA_2 hA_1 hA6 hA6_1
          obtain ⟨kp, hkp⟩ : ∃ v, k[p] = v := ⟨_, rfl⟩
          rw [hkp] at hck HONE2
          have hkp6 : kp < l := by rw [← hkp]; exact HKL.out _ (List.getElem_mem _)
          clear hkp
          refine wp_region_grow (by kernel_rfl) (by kernel_rfl) ?_
          repeat (go_big_quiet_step (fail))
          refine wpQuiet_nil ?_
          intro w9 hb9
          replace hb9 := ex_below hb9
          have hB9 := below_step hB2 hb9 (by omega)
          have hz9 := hb9.size
          go_wp2
          go_loopw [18, 19] (fun av bv wr => ∃ a b : Nat, av = .int .i64 (a : Nat) ∧ bv = .int .i64 (b : Nat) ∧ Hid (Nat.gcd a b = Nat.gcd l kp) ∧ a ≤ 6 ∧ b ≤ 6 ∧ Below w9.heap.size w9 wr) (fun _ bv _ => (intOf bv).toNat)
          case atStart => exact ⟨l, kp, rfl, rfl, hide rfl, by omega, by omega, Below.refl _ _⟩
          case round =>
            obtain ⟨a, b, rfl, rfl, HG, ha6, hb6, hbr⟩ := hrel
            have hzr2 := hbr.size
            by_cases hb0 : b = 0
            · subst hb0
              rw [Nat.gcd_zero_right] at HG
              have hx0 : ¬ ((0 : Int) < ((0 : Nat) : Int)) := by simp
              have hBr := below_step hB9 hbr (by omega)
              by_cases ha1 : a = 1
              · subst ha1
                obtain ⟨hm1, hfj⟩ := HONE2.out HG.out.symm
                subst hm1 hfj
                clear HG
                go_wp2_with (go_at_call 17; refine (works_any _).mono ?_; rintro e w11 ⟨rfl, hbw⟩; replace hbw := ex_below hbw)
                go_ret
                exact gives_of rfl (below_step hBr hbw hBr.size)
              · have ha1b : ((a : Int) != 1) = true := by simp; omega
                clear HG HONE2
                go_wp2_with (go_at_call 17; refine (works_any _).mono ?_; rintro e w11 ⟨rfl, hbw⟩; replace hbw := ex_below hbw)
                go_ret
                exact gives_of rfl (below_step hBr hbw hBr.size)
            · have hb1 : (0 : Int) < (b : Int) := by omega
              have hbz : ¬ ((b : Int) = 0) := by omega
              have hrm := rem_nat a b
              have hlt := Nat.mod_lt a (show b > 0 by omega)
              have HG2 := hide (show Nat.gcd b (a % b) = Nat.gcd l kp by rw [← HG.out, Nat.gcd_comm a b, Nat.gcd_rec b a, Nat.gcd_comm])
              clear HG
              obtain ⟨z, hz0⟩ : ∃ z, a % b = z := ⟨_, rfl⟩
              rw [hz0] at HG2 hrm hlt
              clear hz0
              go_upto_region 20 with fail
              refine wp_region_grow (by kernel_rfl) (by kernel_rfl) ?_
              repeat (go_big_quiet_step (fail))
              refine wpQuiet_nil ?_
              intro w10 hb10
              replace hb10 := ex_below hb10
              go_wp2
              exact ⟨⟨b, z, rfl, rfl, HG2, hb6, by omega, below_step hbr hb10 (by omega)⟩, by simp [intOf]; omega⟩

end Go.Proofs.Ytgjfejpibielaaa
