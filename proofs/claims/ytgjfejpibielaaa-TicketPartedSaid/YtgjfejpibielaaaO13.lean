/- Proved here: the law TicketParted, a part of the proofs about the ticket laws. Conditions: those that each theorem names, no others. -/
import Derived.Test.YtgjfejpibielaaaO9
import Derived.WalkKit
import Derived.WalkSpells
import Derived.WalkLawsBesides
import Derived.Below
import Derived.Deep.QuietTactic
import Derived.BigQuiet
import Derived.Deep.Light
import Derived.Test.YtgjfejpibielaaaO6
import Derived.Deep.RegionHeld3
set_option linter.unusedSimpArgs false
set_option linter.unusedVariables false
namespace Go.Proofs.Ytgjfejpibielaaa
open Go.RowKit Go.Maps Go.Shelf
attribute [local go_sem] Oper.semAt_some World.cell?_setCell_far
theorem box4 {W : World} {B : Nat} {t : TypeId} {x0 x1 x2 x3 : Value} (h : BlkAt W B #[x0, x1, x2, x3] t) : W.cell? ⟨B, 0, none⟩ = some x0 ∧ W.cell? ⟨B, 1, none⟩ = some x1 ∧ W.cell? ⟨B, 2, none⟩ = some x2 ∧ W.cell? ⟨B, 3, none⟩ = some x3 ∧ B < W.heap.size :=
  ⟨obj_at h 0 _ rfl, obj_at h 1 _ rfl, obj_at h 2 _ rfl, obj_at h 3 _ rfl, obj_lt h⟩
theorem wpList_appN {P : Program} (w : World) {ops : Array Oper} {rest : List Oper} {o : Oper} {a : Act} {Q : Exit → Act → World → Prop} (hgd : o.guard = none) (s x : Operand) (t : TypeId)
    (ho : o.op = .call { callee := .builtin .append, args := #[s, x], argTypes := #[t, t] })
    (base : Nat) (e : TypeId) (i : TypeInfo) (z : Value) (size bytes : Nat) (ht : P.underlying t = some (.slice e)) (hi : P.info? e = some i) (hz : i.zero = some z)
    (hsize : i.size = size) (hby : i.bytes = bytes) (hzs : z.cells.size = size) (hsz : 0 < size) (v : Value) (n : Nat) (xs : List Value) (hs : a.eval s = v) (hown : w.ownsRow base e size v n xs)
    (A : Option Addr) (m c : Nat) (news : List Value) (hx : a.eval x = .slice A m c) (hr : Rd w size A m news) (h1 : ∀ u ∈ news, u.oneCell' = true) (h63 : n + m ≤ maxLen) (hbytes : (n + m) * bytes ≤ 140737488355328) (hbase : base ≤ w.heap.size)
    (h : ∀ A' c' w', w'.ownsRow base e size (.slice A' (n + m) c') (n + m) (xs ++ news) → w.grownBy w' v.ownBlock → (∀ b, b < w.heap.size → Far v b → Far (.slice A' (n + m) c') b) → wpList P ops Q rest (a.put o.dst (.slice A' (n + m) c')) w') : wpList P ops Q (o :: rest) a w :=
  wpList_plain hgd fun _ hK => wp_appN w s x t ho base e i z size bytes ht hi hz hsize hby hzs hsz v n xs hs hown A m c news hx hr h1 h63 hbytes hbase fun A' c' w' h2 h3 h4 => hK _ _ (h A' c' w' h2 h3 h4)
theorem i64_put {w : World} {b o : Nat} {xs : List Int} (h : I64 w (some ⟨b, o, none⟩) xs) {p : Nat} (hp : p < xs.length) (v : Int) : I64 (w.setCell ⟨b, o + p, none⟩ (.int .i64 v)) (some ⟨b, o, none⟩) (xs.set p v) := fun k x hk => by
  have hkl : k < xs.length := by have := (List.getElem?_eq_some_iff.1 hk).1; simpa using this
  obtain ⟨b', o', e, h1, h2, h3⟩ := h k xs[k] (by simp [hkl])
  injection e with e
  injection e with e1 e2 _
  subst e1 e2
  refine ⟨b, o, rfl, by rw [size_setCell]; exact h1, by rw [size_setCell]; exact h2, ?_⟩
  rw [List.getElem?_set] at hk
  by_cases e : p = k
  · subst e
    rw [if_pos rfl, if_pos hp] at hk
    rw [← Option.some.inj hk]
    exact World.cell?_setCell_same _ _ _ h3
  · rw [if_neg e, List.getElem?_eq_getElem hkl] at hk
    rw [← Option.some.inj hk, World.cell?_setCell_other _ _ _ _ (by intro h; injection h with _ h _; omega)]
    exact h3
theorem own_blk {w : World} {B : Nat} {e : TypeId} {sz n c : Nat} {A : Option Addr} {xs : List Value} (h : w.ownsRow B e sz (.slice A n c) n xs) (hn : 0 < n) : ∃ b, A = some ⟨b, 0, none⟩ ∧ B ≤ b ∧ b < w.heap.size ∧ ∀ k, w.frozen? ⟨b, k, none⟩ = false := by
  obtain ⟨g, cap, cur, hv, hB, hh, hr⟩ := h.2.resolve_left (by rintro ⟨_, h0⟩; omega)
  injection hv with hA _ _
  exact ⟨g, hA, hB, obj_lt hh, fun k => obj_fz hh k⟩
theorem zs_set (l : List Nat) (p v : Nat) : (zs l).set p (v : Int) = zs (l.set p v) := by unfold zs; rw [List.map_set]
theorem i64_rd {w : World} {A : Option Addr} {xs : List Int} (h : I64 w A xs) : Rd w 1 A xs.length (xs.map (Value.int .i64)) := by
  refine ⟨by simp, fun hl => ?_⟩
  obtain ⟨b, off, hA, hb, _⟩ := h 0 xs[0] (by simp)
  refine ⟨b, off, hA, hb, fun j u hu => ?_⟩
  rw [List.getElem?_map] at hu
  cases hx : xs[j]? with
  | none => rw [hx] at hu; simp at hu
  | some x =>
    rw [hx] at hu
    obtain ⟨b', off', hA', _, _, hc⟩ := h j x hx
    rw [hA] at hA'
    injection hA' with hA'
    injection hA' with e1 e2 _
    subst e1 e2
    simp only [Option.map_some, Option.some.injEq] at hu
    rw [hc, hu]
theorem own_lit0 {w : World} {base blk size : Nat} {e : TypeId} (h : w.heap[blk]? = some (.cells #[] e (0, 0))) (hb : base ≤ blk) : w.ownsRow base e size (.slice (some ⟨blk, 0, none⟩) 0 0) 0 [] :=
  ⟨by simp, .inr ⟨blk, 0, #[], rfl, hb, h, Nat.le_refl _, by decide, by simp, by simp⟩⟩
theorem i64_set_far {w : World} {g o : Nat} {xs : List Int} (h : I64 w (some ⟨g, o, none⟩) xs) {b k : Nat} (hne : g ≠ b) (v : Value) : I64 (w.setCell ⟨b, k, none⟩ v) (some ⟨g, o, none⟩) xs := fun j x hj => by
  obtain ⟨b', o', e, h1, h2, h3⟩ := h j x hj
  injection e with e
  injection e with e1 e2 _
  subst e1 e2
  exact ⟨g, o, rfl, by rw [size_setCell]; exact h1, by rw [size_setCell]; exact h2, by rw [World.cell?_setCell_other _ _ _ _ (by intro h; injection h with h _ _; first | exact hne h | exact hne h.symm)]; exact h3⟩
theorem rd_zs {w : World} {A : Option Addr} {T : List Nat} (h : I64 w A (zs T)) : Rd w 1 A T.length ((zs T).map (Value.int .i64)) := by
  have h2 := i64_rd h
  rwa [zs_len] at h2
theorem bAndB : ∀ a, a < 64 → ∀ b, b < 256 → bits BinOp.and .i64 ((a : Nat) : Int) ((b : Nat) : Int) = ((a &&& b : Nat) : Int) := by decide +kernel
theorem pick_len {α : Type} (g : Nat → Bool) (l : List α) (k : Nat) : (pick g l k).length ≤ k := by
  have h := List.length_filterMap_le (fun i => if g i then l[i]? else none) (List.range k)
  rw [List.length_range] at h
  exact h
theorem zr_at (qs : List (Nat × Nat)) (i : Nat) (h : i < qs.length) : ((zr qs)[i]'(by rw [zr_len]; exact h)) = ((qs[i].1 : Int), (qs[i].2 : Int)) := by unfold zr; rw [List.getElem_map]
theorem fit_few (L rest : Nat) (K T : List Nat) : (fitL L rest K T).length ≤ (Tt.codes L rest K).length := by
  unfold fitL
  have h := List.length_filter_le (fitN L rest K T) (List.range (Tt.codes L rest K).length)
  rwa [List.length_range] at h
set_option maxRecDepth 100000 in
set_option maxHeartbeats 8000000 in
theorem parted_law (L n r : Int) (A : Option Addr) (K : List Int) (c : Nat) (B : Option Addr) (bs : List Nat) (bc : Nat) (pl lt : Nat) (S : Option Addr) (ss : List Nat) (sc : Nat) (bt : Nat) (w : World) (hA : I64 w A K) (hBy : U8 w B bs) (hSy : U8 w S ss) (hl9 : K.length ≤ 9223372036854775807) (hb9 : bs.length ≤ 9223372036854775807) (hs9 : ss.length ≤ 9223372036854775807) (hpl : pl < 256) (hlt : lt < 256) (hbt : bt < 65536) : Calls Try.prog 11 #[.agg #[.int .i64 L, .int .i64 n, .slice A K.length c, .int .i64 r], .slice B bs.length bc, .int .u8 (pl : Nat), .int .u8 (lt : Nat), .slice S ss.length sc, .int .u16 (bt : Nat)] w (Gives w (.bool true)) := by
  obtain ⟨ti, ih, iz, is, ib⟩ := info_parts infoR
  obtain ⟨b, hb, hF⟩ := fine_any L n r K hl9
  have HF := hide hF
  clear hF
  cases b with
  | false =>
    clear hb
    go_enter Try.func11, Try.ntmps11
    go_upto_region 1 with fail
    have hW : Below w.heap.size w (w.alloc (.cells #[.int .i64 L, .int .i64 n, .slice A K.length c, .int .i64 r] 24)) := below_alloc (Below.refl _ _) (Nat.le_refl _) _
    have hX : BlkAt (w.alloc (.cells #[.int .i64 L, .int .i64 n, .slice A K.length c, .int .i64 r] 24)) w.heap.size #[.int .i64 L, .int .i64 n, .slice A K.length c, .int .i64 r] 24 := heap_alloc_new _ _
    obtain ⟨wa, hwa⟩ : ∃ wa, (w.alloc (.cells #[.int .i64 L, .int .i64 n, .slice A K.length c, .int .i64 r] 24)) = wa := ⟨_, rfl⟩
    rw [hwa] at hW hX ⊢
    clear hwa
    replace hA := hA.ext hW
    have q0 := obj_at hX 0 _ rfl
    have q1 := obj_at hX 1 _ rfl
    have q2 := obj_at hX 2 _ rfl
    have q3 := obj_at hX 3 _ rfl
    have ql := obj_lt hX
    have hWs := hW.size
    have tok0 : True := trivial
    go_wp2_with (first
        | (clear tok0; go_at_call 45; refine (HF.out A c _ hA).mono ?_; rintro e u1 ⟨rfl, hb1⟩; replace hb1 := ex_below hb1; have hB1 := below_step hW hb1 hW.size; have hA_1 := hA.ext hb1; have hX_1 := hX.ext hb1; clear q0 q1 q2 q3 ql; obtain ⟨q0, q1, q2, q3, ql⟩ := box4 hX_1; have tok1 : True := trivial)
        | (clear tok1; go_at_call 17; refine (works_any _).mono ?_; rintro e u2 ⟨rfl, hb2⟩; replace hb2 := ex_below hb2; have hB2 := below_step hB1 hb2 hB1.size; have hA_2 := hA_1.ext hb2; have hX_2 := hX_1.ext hb2; clear q0 q1 q2 q3 ql; obtain ⟨q0, q1, q2, q3, ql⟩ := box4 hX_2; have tok2 : True := trivial))
    go_ret
    exact gives_of rfl hB2
  | true =>
    obtain ⟨l, rest, k, rfl, rfl, rfl, rfl, hd, _⟩ := hb rfl
    clear hb
    rw [zs_len] at HF hl9 ⊢
    by_cases h20 : 20 < bs.length
    · have h20i : (20 : Int) < (bs.length : Int) := by omega
      clear hd
      go_enter Try.func11, Try.ntmps11
      go_upto_region 1 with fail
      have hW : Below w.heap.size w (w.alloc (.cells #[.int .i64 (l : Nat), .int .i64 (k.length : Nat), .slice A k.length c, .int .i64 (rest : Nat)] 24)) := below_alloc (Below.refl _ _) (Nat.le_refl _) _
      have hX : BlkAt (w.alloc (.cells #[.int .i64 (l : Nat), .int .i64 (k.length : Nat), .slice A k.length c, .int .i64 (rest : Nat)] 24)) w.heap.size #[.int .i64 (l : Nat), .int .i64 (k.length : Nat), .slice A k.length c, .int .i64 (rest : Nat)] 24 := heap_alloc_new _ _
      obtain ⟨wa, hwa⟩ : ∃ wa, (w.alloc (.cells #[.int .i64 (l : Nat), .int .i64 (k.length : Nat), .slice A k.length c, .int .i64 (rest : Nat)] 24)) = wa := ⟨_, rfl⟩
      rw [hwa] at hW hX ⊢
      clear hwa
      replace hA := hA.ext hW
      have q0 := obj_at hX 0 _ rfl
      have q1 := obj_at hX 1 _ rfl
      have q2 := obj_at hX 2 _ rfl
      have q3 := obj_at hX 3 _ rfl
      have ql := obj_lt hX
      have hWs := hW.size
      have tok0 : True := trivial
      go_wp2_with (first
          | (clear tok0; go_at_call 45; refine (HF.out A c _ hA).mono ?_; rintro e u1 ⟨rfl, hb1⟩; replace hb1 := ex_below hb1; have hB1 := below_step hW hb1 hW.size; have hA_1 := hA.ext hb1; have hX_1 := hX.ext hb1; clear q0 q1 q2 q3 ql; obtain ⟨q0, q1, q2, q3, ql⟩ := box4 hX_1; have tok1 : True := trivial)
          | (clear tok1; go_at_call 17; refine (works_any _).mono ?_; rintro e u2 ⟨rfl, hb2⟩; replace hb2 := ex_below hb2; have hB2 := below_step hB1 hb2 hB1.size; have hA_2 := hA_1.ext hb2; have hX_2 := hX_1.ext hb2; clear q0 q1 q2 q3 ql; obtain ⟨q0, q1, q2, q3, ql⟩ := box4 hX_2; have tok2 : True := trivial))
      go_ret
      exact gives_of rfl hB2
    · have h20i : ¬ ((20 : Int) < (bs.length : Int)) := by omega
      by_cases h30 : 30 < ss.length
      · have h30i : (30 : Int) < (ss.length : Int) := by omega
        clear hd
        go_enter Try.func11, Try.ntmps11
        go_upto_region 1 with fail
        have hW : Below w.heap.size w (w.alloc (.cells #[.int .i64 (l : Nat), .int .i64 (k.length : Nat), .slice A k.length c, .int .i64 (rest : Nat)] 24)) := below_alloc (Below.refl _ _) (Nat.le_refl _) _
        have hX : BlkAt (w.alloc (.cells #[.int .i64 (l : Nat), .int .i64 (k.length : Nat), .slice A k.length c, .int .i64 (rest : Nat)] 24)) w.heap.size #[.int .i64 (l : Nat), .int .i64 (k.length : Nat), .slice A k.length c, .int .i64 (rest : Nat)] 24 := heap_alloc_new _ _
        obtain ⟨wa, hwa⟩ : ∃ wa, (w.alloc (.cells #[.int .i64 (l : Nat), .int .i64 (k.length : Nat), .slice A k.length c, .int .i64 (rest : Nat)] 24)) = wa := ⟨_, rfl⟩
        rw [hwa] at hW hX ⊢
        clear hwa
        replace hA := hA.ext hW
        have q0 := obj_at hX 0 _ rfl
        have q1 := obj_at hX 1 _ rfl
        have q2 := obj_at hX 2 _ rfl
        have q3 := obj_at hX 3 _ rfl
        have ql := obj_lt hX
        have hWs := hW.size
        have tok0 : True := trivial
        go_wp2_with (first
            | (clear tok0; go_at_call 45; refine (HF.out A c _ hA).mono ?_; rintro e u1 ⟨rfl, hb1⟩; replace hb1 := ex_below hb1; have hB1 := below_step hW hb1 hW.size; have hA_1 := hA.ext hb1; have hX_1 := hX.ext hb1; clear q0 q1 q2 q3 ql; obtain ⟨q0, q1, q2, q3, ql⟩ := box4 hX_1; have tok1 : True := trivial)
            | (clear tok1; go_at_call 17; refine (works_any _).mono ?_; rintro e u2 ⟨rfl, hb2⟩; replace hb2 := ex_below hb2; have hB2 := below_step hB1 hb2 hB1.size; have hA_2 := hA_1.ext hb2; have hX_2 := hX_1.ext hb2; clear q0 q1 q2 q3 ql; obtain ⟨q0, q1, q2, q3, ql⟩ := box4 hX_2; have tok2 : True := trivial))
        go_ret
        exact gives_of rfl hB2
      · have h30i : ¬ ((30 : Int) < (ss.length : Int)) := by omega
        have hl2 := hd.1
        have hl6 := hd.2.1
        have hk2 := hd.2.2.1
        have hk8 := hd.2.2.2.1
        have HN := hide (fun w' (h : I64 w' A (zs k)) => count_any l rest A k c w' hd h)
        have HT := hide (fun w' (h : I64 w' A (zs k)) (hU : U8 w' B bs) => torn_any l rest A k c B bs bc w' hd h hU)
        have hTl := tornL_len l k.length bs
        have hTi := tornL_in hl2 k.length bs
        have hcnt : (Tt.codes l rest k).length ≤ 1679616 := by
          have h3 := Tt.cnt_small (L := l) (rest := rest) (ps := k.zip (Tt.fulls l k.length)) (la := -1) (s := 0) hl6 (by rw [List.length_zip]; omega)
          rwa [cnt_codes] at h3
        have HSD := hide (fun w' (hU : U8 w' S ss) => sold_any (Tt.codes l rest k).length S ss sc w' hcnt hU (by omega))
        obtain ⟨hok, hq10⟩ := soldL_ok (Tt.codes l rest k).length 10 0 ss
        obtain ⟨g, hg⟩ : ∃ g : Nat → Bool, g = (fun j => bits BinOp.and .u16 ((bt : Int) / 2 ^ j) 1 == 1) := ⟨_, rfl⟩
        have HG : Hid (∀ j : Nat, (bits BinOp.and .u16 ((bt : Int) / 2 ^ j) 1 == 1) = g j) := hide fun j => by rw [hg]
        clear hg
        obtain ⟨ho1, ho2, hsum⟩ := can_parts (T := tornL l k.length bs) g hok
        have hle := can_le (L := l) (rest := rest) (K := k) (T := tornL l k.length bs) (qs := soldL (Tt.codes l rest k).length 10 0 ss)
        have hn16 : (fitL l rest k (tornL l k.length bs)).length ≤ 1679616 := Nat.le_trans (fit_few _ _ _ _) hcnt
        have hl1 := pick_len g (soldL (Tt.codes l rest k).length 10 0 ss) (soldL (Tt.codes l rest k).length 10 0 ss).length
        have hl2b := pick_len (fun j => !g j) (soldL (Tt.codes l rest k).length 10 0 ss) (soldL (Tt.codes l rest k).length 10 0 ss).length
        have HF0 := hide (fun Y yc D dc w' (h : I64 w' A (zs k)) (hY : I64 w' Y (zs (tornL l k.length bs))) hD => c_fits hd hTl hTi hok hq10 A c Y yc D dc w' h hY hD)
        have HF1 := hide (fun Y yc D dc w' (h : I64 w' A (zs k)) (hY : I64 w' Y (zs (tornL l k.length bs))) hD => c_fits hd hTl hTi ho1 (by omega) A c Y yc D dc w' h hY hD)
        have HF2 := hide (fun Y yc D dc w' (h : I64 w' A (zs k)) (hY : I64 w' Y (zs (tornL l k.length bs))) hD => c_fits hd hTl hTi ho2 (by omega) A c Y yc D dc w' h hY hD)
        have HPT := hide (fun (a b p : Nat) (hp : p < (tornL l k.length bs).length) (h1 : ∀ j, (tornL l k.length bs)[p].testBit j = (a.testBit j != b.testBit j)) (h2 : ∀ j, (tornL l k.length bs)[p].testBit j = (a.testBit j || b.testBit j)) => parted (L := l) (rest := rest) (qs := soldL (Tt.codes l rest k).length 10 0 ss) hTl hp h1 h2)
        have HF3 := hide (fun (T' : List Nat) (hT1 : T'.length = k.length) (hT2 : ∀ t, t ∈ T' → 1 ≤ t ∧ t < 2 ^ l) Y yc D dc w' (h : I64 w' A (zs k)) (hY : I64 w' Y (zs T')) hD => c_fits hd hT1 hT2 hok hq10 A c Y yc D dc w' h hY hD)
        rw [zr_len] at HF0 HF1 HF2 HF3
        clear hok ho1 ho2 hl1 hl2b
        have hT8 : (tornL l k.length bs).length ≤ 8 := by omega
        have hT2 : 2 ≤ (tornL l k.length bs).length := by omega
        have hp := Nat.mod_lt pl (show k.length > 0 by omega)
        have hremp := rem_nat pl k.length
        obtain ⟨p, hpe⟩ : ∃ p, pl % k.length = p := ⟨_, rfl⟩
        rw [hpe] at hp hremp
        clear hpe
        have hkk : ¬ (k.length = 0) := by omega
        have hkki : ¬ ((k.length : Int) = 0) := by omega
        have HTL := hide hTl
        have HTI := hide hTi
        clear hTl hTi
        have hpw : 2 ^ l ≤ 2 ^ 6 := Nat.pow_le_pow_right (by decide) hl6
        have HPW := hide hpw
        obtain ⟨N, hN⟩ : ∃ v, (Tt.codes l rest k).length = v := ⟨_, rfl⟩
        rw [hN] at HN HSD hcnt hq10 hsum hle HF0 HF1 HF2 HF3 HPT
        clear hN hd hpw
        generalize tornL l k.length bs = T at *
        generalize soldL N 10 0 ss = qs at *
        go_enter Try.func11, Try.ntmps11
        go_upto_region 1 with fail
        have hW : Below w.heap.size w (w.alloc (.cells #[.int .i64 (l : Nat), .int .i64 (k.length : Nat), .slice A k.length c, .int .i64 (rest : Nat)] 24)) := below_alloc (Below.refl _ _) (Nat.le_refl _) _
        have hX : BlkAt (w.alloc (.cells #[.int .i64 (l : Nat), .int .i64 (k.length : Nat), .slice A k.length c, .int .i64 (rest : Nat)] 24)) w.heap.size #[.int .i64 (l : Nat), .int .i64 (k.length : Nat), .slice A k.length c, .int .i64 (rest : Nat)] 24 := heap_alloc_new _ _
        obtain ⟨wa, hwa⟩ : ∃ wa, (w.alloc (.cells #[.int .i64 (l : Nat), .int .i64 (k.length : Nat), .slice A k.length c, .int .i64 (rest : Nat)] 24)) = wa := ⟨_, rfl⟩
        rw [hwa] at hW hX ⊢
        clear hwa
        replace hA := hA.ext hW
        have q0 := obj_at hX 0 _ rfl
        have q1 := obj_at hX 1 _ rfl
        have q2 := obj_at hX 2 _ rfl
        have q3 := obj_at hX 3 _ rfl
        have ql := obj_lt hX
        have hWs := hW.size
        have hU := hBy.ext hW
        have hV := hSy.ext hW
        have tok0 : True := trivial
        go_upto_region 5 with (first
            | (clear tok0; go_at_call 45; refine (HF.out A c _ hA).mono ?_; rintro e u1 ⟨rfl, hb1⟩; replace hb1 := ex_below hb1; have hB1 := below_step hW hb1 hW.size; have hA_1 := hA.ext hb1; have hU_1 := hU.ext hb1; have hV_1 := hV.ext hb1; have hX_1 := hX.ext hb1; clear q0 q1 q2 q3 ql; obtain ⟨q0, q1, q2, q3, ql⟩ := box4 hX_1; have tok1 : True := trivial)
            | (clear tok1; go_at_call 46; refine (HT.out _ hA_1 hU_1).mono ?_; rintro e u2 ⟨Y, yc, rfl, hb2, hY⟩; have hB2 := below_step hB1 hb2 hB1.size; have hA_2 := hA_1.ext hb2; have hU_2 := hU_1.ext hb2; have hV_2 := hV_1.ext hb2; have hX_2 := hX_1.ext hb2; clear q0 q1 q2 q3 ql; obtain ⟨q0, q1, q2, q3, ql⟩ := box4 hX_2; have tok2 : True := trivial)
            | (clear tok2; go_at_call 47; refine (HN.out _ hA_2).mono ?_; rintro e u3 ⟨rfl, hb3⟩; replace hb3 := ex_below hb3; have hB3 := below_step hB2 hb3 hB2.size; have hA_3 := hA_2.ext hb3; have hU_3 := hU_2.ext hb3; have hV_3 := hV_2.ext hb3; have hY_3 := hY.ext hb3; have hX_3 := hX_2.ext hb3; clear q0 q1 q2 q3 ql; obtain ⟨q0, q1, q2, q3, ql⟩ := box4 hX_3; have tok3 : True := trivial)
            | (clear tok3; go_at_call 48; refine (HSD.out _ hV_3).mono ?_; rintro e u4 ⟨D, dc, rfl, hb4, hD⟩; have hB4 := below_step hB3 hb4 hB3.size; have hA_4 := hA_3.ext hb4; have hU_4 := hU_3.ext hb4; have hV_4 := hV_3.ext hb4; have hY_4 := hY_3.ext hb4; have hX_4 := hX_3.ext hb4; clear q0 q1 q2 q3 ql; obtain ⟨q0, q1, q2, q3, ql⟩ := box4 hX_4; rw [zr_len]; have tok4 : True := trivial))
        clear tok4
        go_wp2
        go_loopw [15, 16, 17] (fun o1 o2 iv wr => ∃ (i : Nat) (A1 : Option Addr) (m1 c1 : Nat) (A2 : Option Addr) (m2 c2 : Nat), i ≤ qs.length ∧ iv = .int .i64 (i : Nat) ∧ o1 = .slice A1 m1 c1 ∧ o2 = .slice A2 m2 c2 ∧ Hid (m1 = (pick g qs i).length ∧ m2 = (pick (fun j => !g j) qs i).length) ∧ wr.ownsRow u4.heap.size 74 2 (.slice A1 m1 c1) m1 (rngC (zr (pick g qs i))) ∧ wr.ownsRow u4.heap.size 74 2 (.slice A2 m2 c2) m2 (rngC (zr (pick (fun j => !g j) qs i))) ∧ Apart (.slice A1 m1 c1) (.slice A2 m2 c2) ∧ Below u4.heap.size u4 wr) (fun _ _ iv _ => qs.length - (intOf iv).toNat)
        case atStart => exact ⟨0, none, 0, 0, none, 0, 0, Nat.zero_le _, rfl, rfl, rfl, hide ⟨rfl, rfl⟩, World.ownsRow_nil _ _ _ _, World.ownsRow_nil _ _ _ _, Apart.none _ _, Below.refl _ _⟩
        case round =>
          obtain ⟨i, A1, m1, c1, A2, m2, c2, hi, rfl, rfl, rfl, HM, hO1, hO2, hap, hb⟩ := hrel
          have hzr := hb.size
          have hl1 := pick_len g qs i
          have hl2b := pick_len (fun j => !g j) qs i
          have hm1 : m1 ≤ i := by rw [HM.out.1]; exact hl1
          have hm2 : m2 ≤ i := by rw [HM.out.2]; exact hl2b
          clear hl1 hl2b
          by_cases hiq : i < qs.length
          · have hki : (i : Int) < (qs.length : Int) := by omega
            have HP := hide (pick_succ g qs i hiq)
            have HP2 := hide (pick_succ (fun j => !g j) qs i hiq)
            have hDr := hD.ext hb
            obtain ⟨ob, oo, rfl, hob⟩ := hDr.form (by rw [zr_len]; omega)
            obtain ⟨_, hc1, hc2⟩ := hDr.at (k := i) (by rw [zr_len]; exact hiq)
            rw [zr_at qs i hiq] at hc1 hc2
            have HS := hide (HG.out i)
            generalize qs[i] = ab at *
            obtain ⟨a, b⟩ := ab
            dsimp only at hc1 hc2
            clear HF1 HF2 HF3 HF0 HG HPT
            cases hg : g i with
            | true =>
              rw [hg] at HP HP2 HS
              simp only [Bool.not_true, Bool.not_false, if_true, if_false, Bool.false_eq_true, List.append_nil] at HP HP2
              clear hg
              have hgi := HS.out
              go_wp2_with (first
                | (at_builtin; refine wpList_appN _ rfl (.tmp 67) (.tmp 72) 35 rfl (u4.heap.size) 74 ti _ 2 16 und35 ih iz is ib rfl (by decide) ((.slice A1 m1 c1)) (m1) (_) rfl (hO1.alloc _) (some ⟨wr.heap.size, 0, none⟩) (1) (1) ([.int .i64 (a : Nat), .int .i64 (b : Nat)]) rfl (rd_new2 _ _ _ _) (by simp [Value.oneCell']) (by unfold maxLen; omega) (by omega) (by (first | omega | (simp only [size_grow, World.size_alloc, size_drewN, size_drew, size_setCell]; omega) | (simp only [size_grow, World.size_alloc, size_drewN, size_drew, size_setCell] at *; omega) | (simp; done) | (simp; omega))) ?_; intro A7 c7 u7 hown7 hgr7 far7))
              exact ⟨⟨i + 1, A7, m1 + 1, c7, A2, m2, c2, by omega, by go_num, rfl, rfl, hide ⟨by rw [HP.out, List.length_append, ← HM.out.1]; rfl, by rw [HP2.out]; exact HM.out.2⟩, by rw [HP.out, zr_snoc, rngC_snoc]; exact hown7, by rw [HP2.out]; exact own_other (hO2.alloc _) hgr7 hap.symm, Apart.grown (W := wr.alloc (.cells #[.int .i64 (a : Nat), .int .i64 (b : Nat)] 74)) (W' := u7) hap (hO2.alloc _) far7, gb_below (below_alloc hb (by omega) _) hgr7 (by simp; omega) (fun r e => (hO1.lt r e).1)⟩, by simp [intOf]; omega⟩
            | false =>
              rw [hg] at HP HP2 HS
              simp only [Bool.not_true, Bool.not_false, if_true, if_false, Bool.false_eq_true, List.append_nil] at HP HP2
              clear hg
              have hgi := HS.out
              go_wp2_with (first
                | (at_builtin; refine wpList_appN _ rfl (.tmp 74) (.tmp 79) 35 rfl (u4.heap.size) 74 ti _ 2 16 und35 ih iz is ib rfl (by decide) ((.slice A2 m2 c2)) (m2) (_) rfl (hO2.alloc _) (some ⟨wr.heap.size, 0, none⟩) (1) (1) ([.int .i64 (a : Nat), .int .i64 (b : Nat)]) rfl (rd_new2 _ _ _ _) (by simp [Value.oneCell']) (by unfold maxLen; omega) (by omega) (by (first | omega | (simp only [size_grow, World.size_alloc, size_drewN, size_drew, size_setCell]; omega) | (simp only [size_grow, World.size_alloc, size_drewN, size_drew, size_setCell] at *; omega) | (simp; done) | (simp; omega))) ?_; intro A7 c7 u7 hown7 hgr7 far7))
              exact ⟨⟨i + 1, A1, m1, c1, A7, m2 + 1, c7, by omega, by go_num, rfl, rfl, hide ⟨by rw [HP.out]; exact HM.out.1, by rw [HP2.out, List.length_append, ← HM.out.2]; rfl⟩, by rw [HP.out]; exact own_other (hO1.alloc _) hgr7 hap, by rw [HP2.out, zr_snoc, rngC_snoc]; exact hown7, (Apart.grown (W := wr.alloc (.cells #[.int .i64 (a : Nat), .int .i64 (b : Nat)] 74)) (W' := u7) hap.symm (hO1.alloc _) far7).symm, gb_below (below_alloc hb (by omega) _) hgr7 (by simp; omega) (fun r e => (hO2.lt r e).1)⟩, by simp [intOf]; omega⟩
          · have hki : ¬ ((i : Int) < (qs.length : Int)) := by omega
            obtain rfl : i = qs.length := by omega
            obtain rfl := HM.out.1
            obtain rfl := HM.out.2
            have hR1 := rd_own2 hO1 (zr_len _)
            have hR2 := rd_own2 hO2 (zr_len _)
            have hA5 := hA_4.ext hb
            have hY5 := hY_4.ext hb
            have hD5 := hD.ext hb
            have hX5 := hX_4.ext hb
            have hB5 := below_step hB4 hb (by omega)
            clear q0 q1 q2 q3 ql HM HG HSD HT HN hap hO1 hO2
            obtain ⟨q0, q1, q2, q3, ql⟩ := box4 hX5
            generalize pick g qs qs.length = p1 at *
            generalize pick (fun j => !g j) qs qs.length = p2 at *
            generalize (canN l rest k T qs).length = mm at *
            generalize (fitL l rest k T).length = nn at *
            generalize (canN l rest k T p1).length = pp at *
            generalize (canN l rest k T p2).length = qq at *
            have tok0 : True := trivial
            go_upto_region 18 with (first
                | (clear tok0; go_at_call 26; refine (HF0.out _ _ _ _ _ hA5 hY5 hD5).mono ?_; rintro e u1 ⟨rfl, hb1⟩; replace hb1 := ex_below hb1; have hB1 := below_step hB5 hb1 hB5.size; have hA5_1 := hA5.ext hb1; have hY5_1 := hY5.ext hb1; have hD5_1 := hD5.ext hb1; have hR1_1 := hR1.ext hb1; have hR2_1 := hR2.ext hb1; have hX_1 := hX5.ext hb1; clear q0 q1 q2 q3 ql; obtain ⟨q0, q1, q2, q3, ql⟩ := box4 hX_1; have tok1 : True := trivial)
                | (clear tok1; go_at_call 26; refine (HF1.out _ _ _ _ _ hA5_1 hY5_1 hR1_1).mono ?_; rintro e u2 ⟨rfl, hb2⟩; replace hb2 := ex_below hb2; have hB2 := below_step hB1 hb2 hB1.size; have hA5_2 := hA5_1.ext hb2; have hY5_2 := hY5_1.ext hb2; have hD5_2 := hD5_1.ext hb2; have hR1_2 := hR1_1.ext hb2; have hR2_2 := hR2_1.ext hb2; have hX_2 := hX_1.ext hb2; clear q0 q1 q2 q3 ql; obtain ⟨q0, q1, q2, q3, ql⟩ := box4 hX_2; have tok2 : True := trivial)
                | (clear tok2; go_at_call 26; refine (HF2.out _ _ _ _ _ hA5_2 hY5_2 hR2_2).mono ?_; rintro e u3 ⟨rfl, hb3⟩; replace hb3 := ex_below hb3; have hB3 := below_step hB2 hb3 hB2.size; have hA5_3 := hA5_2.ext hb3; have hY5_3 := hY5_2.ext hb3; have hD5_3 := hD5_2.ext hb3; have hR1_3 := hR1_2.ext hb3; have hR2_3 := hR2_2.ext hb3; have hX_3 := hX_2.ext hb3; clear q0 q1 q2 q3 ql; obtain ⟨q0, q1, q2, q3, ql⟩ := box4 hX_3; have tok3 : True := trivial))
            clear tok3
            have hpT : p < T.length := by rw [HTL.out]; exact hp
            obtain ⟨yb, yo, rfl, hyb⟩ := (hY5_3).form (by rw [zs_len]; omega)
            have hcl := hY5_3.at (k := p) (by rw [zs_len]; exact hpT)
            rw [zs_at T p hpT] at hcl
            have HPT2 := hide (fun a b h1 h2 => HPT.out a b p hpT h1 h2)
            have htp0 := HTI.out _ (List.getElem_mem hpT)
            obtain ⟨tp, htp⟩ : ∃ v, T[p]'hpT = v := ⟨_, rfl⟩
            rw [htp] at hcl HPT2 htp0
            have HTP := hide htp
            have htp64 : tp < 64 := Nat.lt_of_lt_of_le htp0.2 HPW.out
            have hand := bAndB tp htp64 lt hlt
            have hal : tp &&& lt ≤ tp := Nat.and_le_left
            have HBP := hide (bits_part tp lt htp64)
            obtain ⟨a, ha⟩ : ∃ v, tp &&& lt = v := ⟨_, rfl⟩
            rw [ha] at hand hal HBP
            have HPL := hide htp0.2
            have htp1 := htp0.1
            clear ha htp0 HPT htp HF1 HF2 hR1 hR2 hsum
            go_upto_region 19 with fail
            by_cases ha0 : a = 0
            · subst ha0
              go_wp2_with (go_at_call 17; refine (works_any _).mono ?_; rintro e w11 ⟨rfl, hbw⟩; replace hbw := ex_below hbw)
              go_ret
              exact gives_of rfl (below_step hB3 hbw hB3.size)
            by_cases haf : a = tp
            · subst haf
              have ha1 : ¬ ((a : Int) = 0) := by omega
              go_wp2_with (go_at_call 17; refine (works_any _).mono ?_; rintro e w11 ⟨rfl, hbw⟩; replace hbw := ex_below hbw)
              go_ret
              exact gives_of rfl (below_step hB3 hbw hB3.size)
            have ha1 : ¬ ((a : Int) = 0) := by omega
            have ha2 : ¬ ((a : Int) = (tp : Int)) := by omega
            have ha3 : ((a : Int) == 0) = false := by simp; omega
            have ha4 : ((a : Int) == (tp : Int)) = false := by simp; omega
            go_upto_region 21 with fail
            obtain ⟨tk, jh, jz, js, jb⟩ := info_parts info3k
            go_upto_region 22 with (first
              | (at_builtin; refine wpList_appN _ rfl (.tmp 154) (.tmp 155) 22 rfl u3.heap.size 3 tk _ 1 8 und22k jh jz js jb rfl (by decide) (.slice (some ⟨u3.heap.size, 0, none⟩) 0 0) 0 [] rfl (own_lit0 (heap_alloc_new _ _) (Nat.le_refl _)) (some ⟨yb, yo, none⟩) T.length yc ((zs T).map (Value.int .i64)) rfl (rd_zs (hY5_3.ext (below_alloc (Below.refl _ _) (Nat.le_refl _) _))) (fun u hu => by obtain ⟨x, _, rfl⟩ := List.mem_map.1 hu; rfl) (by unfold maxLen; omega) (by omega) (by simp) ?_; intro A7 c7 u7 hown7 hgr7 far7; have hb7 : Below u3.heap.size u3 u7 := gb_below (below_alloc (Below.refl _ _) (Nat.le_refl _) _) hgr7 (by simp) (fun r e => by cases e; exact Nat.le_refl _); have hY7 := hY5_3.ext hb7; have hX7 := hX_3.ext hb7; have hA7 := hA5_3.ext hb7; have hD7 := hD5_3.ext hb7; have hz7 := hb7.size)
              | (at_builtin; refine wpList_appN _ rfl (.tmp 157) (.tmp 158) 22 rfl u7.heap.size 3 tk _ 1 8 und22k jh jz js jb rfl (by decide) (.slice (some ⟨u7.heap.size, 0, none⟩) 0 0) 0 [] rfl (own_lit0 (heap_alloc_new _ _) (Nat.le_refl _)) (some ⟨yb, yo, none⟩) T.length yc ((zs T).map (Value.int .i64)) rfl (rd_zs (hY7.ext (below_alloc (Below.refl _ _) (Nat.le_refl _) _))) (fun u hu => by obtain ⟨x, _, rfl⟩ := List.mem_map.1 hu; rfl) (by unfold maxLen; omega) (by omega) (by simp) ?_; intro A8 c8 u8 hown8 hgr8 far8))
            simp only [Nat.zero_add, List.nil_append] at hown7 hown8
            have hb8 : Below u7.heap.size u7 u8 := gb_below (below_alloc (Below.refl _ _) (Nat.le_refl _) _) hgr8 (by simp) (fun r e => by cases e; exact Nat.le_refl _)
            have hz8 := hb8.size
            have hown7e := own_ext hown7 hb8
            obtain ⟨ga, rfl, hga1, hga2, _⟩ := own_blk hown7 (by omega)
            obtain ⟨ga2, hge, _, _, hfa⟩ := own_blk hown7e (by omega)
            injection hge with hge
            injection hge with hge _ _
            subst hge
            obtain ⟨gb, rfl, hgb1, hgb2, hfb⟩ := own_blk hown8 (by omega)
            have hIa := own_i64 hown7e
            have hIb := own_i64 hown8
            have hca := hIa.at (k := p) (by rw [zs_len]; exact hpT)
            have hcb := hIb.at (k := p) (by rw [zs_len]; exact hpT)
            have hY8 := hY7.ext hb8
            have hcy := hY8.at (k := p) (by rw [zs_len]; exact hpT)
            rw [zs_at T p hpT, HTP.out] at hcy
            rw [Nat.zero_add] at hca hcb
            have hfpa := hfa p
            have hfpb := hfb p
            obtain ⟨b2, hb2e⟩ : ∃ v, tp - a = v := ⟨_, rfl⟩
            have hsub : (tp : Int) - (a : Int) = (b2 : Int) := by omega
            rw [hb2e] at HBP
            have hyga : yb ≠ ga := by omega
            have hygb : yb ≠ gb := by omega
            have hab : ga ≠ gb := by omega
            have hab2 : gb ≠ ga := by omega
            have hyga2 : ga ≠ yb := by omega
            have hygb2 : gb ≠ yb := by omega
            have hb38 := below_step hb7 hb8 hb7.size
            have hb39 : Below u3.heap.size u3 ((u8.setCell ⟨ga, p, none⟩ (.int .i64 (a : Nat))).setCell ⟨gb, p, none⟩ (.int .i64 (b2 : Nat))) := Below.setCell (Below.setCell hb38 hga1 _) (show u3.heap.size ≤ gb by omega) _
            have hIa9 := i64_set_far (i64_put hIa (p := p) (by rw [zs_len]; exact hpT) (a : Nat)) (b := gb) (k := p) hab (.int .i64 (b2 : Nat))
            have hIb9 := i64_put (i64_set_far hIb (b := ga) (k := p) hab2 (.int .i64 (a : Nat))) (p := p) (by rw [zs_len]; exact hpT) (b2 : Nat)
            rw [zs_set, Nat.zero_add] at hIa9 hIb9
            have HI1 := hide hIa9
            have HI2 := hide hIb9
            have HB3 := hide hb39
            clear hIa9 hIb9 hb39 hIa hIb hown7 hown7e hown8 hgr7 hgr8 far7 far8 hfa hfb
            clear q0 q1 q2 q3 ql
            go_upto_region 23 with fail
            obtain ⟨u9, hu9⟩ : ∃ v, (u8.setCell ⟨ga, p, none⟩ (.int .i64 (a : Nat))).setCell ⟨gb, p, none⟩ (.int .i64 (b2 : Nat)) = v := ⟨_, rfl⟩
            rw [hu9] at HI1 HI2 HB3 ⊢
            clear hu9 hfpa hfpb hca hcb hcy hcl hY7 hX7 hA7 hD7 hY8 hsub hand
            have hb9 := HB3.out
            have hA9 := hA5_3.ext hb9
            have hD9 := hD5_3.ext hb9
            have hX9 := hX_3.ext hb9
            have hB9 := below_step hB3 hb9 hB3.size
            obtain ⟨q0, q1, q2, q3, ql⟩ := box4 hX9
            have hI1 := HI1.out
            have hI2 := HI2.out
            have hin : ∀ x, 1 ≤ x → x ≤ tp → ∀ t, t ∈ T.set p x → 1 ≤ t ∧ t < 2 ^ l := fun x h1 h2 t ht => by
              rcases List.mem_or_eq_of_mem_set ht with h | rfl
              · exact HTI.out t h
              · exact ⟨h1, Nat.lt_of_le_of_lt h2 HPL.out⟩
            have HFA := hide (HF3.out (T.set p a) (by rw [List.length_set]; exact HTL.out) (hin a (by omega) hal))
            have HFB := hide (HF3.out (T.set p b2) (by rw [List.length_set]; exact HTL.out) (hin b2 (by omega) (by omega)))
            rw [List.length_set] at HFA HFB
            obtain ⟨hx1, hx2⟩ := HPT2.out a b2 HBP.out.1 HBP.out.2
            clear HF0 HF3 hin HTI HTL HBP HPT2 HI1 HI2 HB3
            generalize (fitL l rest k (T.set p a)).length = n1 at *
            generalize (canN l rest k (T.set p a) qs).length = m1 at *
            generalize (fitL l rest k (T.set p b2)).length = n2 at *
            generalize (canN l rest k (T.set p b2) qs).length = m2 at *
            generalize T.set p a = T1 at *
            generalize T.set p b2 = T2 at *
            have hx1i : (n1 : Int) + (n2 : Int) = (nn : Int) := by omega
            have hx2i : (m1 : Int) + (m2 : Int) = (mm : Int) := by omega
            have hn1 : n1 ≤ 1679616 := by omega
            have hn2 : n2 ≤ 1679616 := by omega
            have hm1 : m1 ≤ 1679616 := by omega
            have hm2 : m2 ≤ 1679616 := by omega
            clear hx1 hx2
            have tok0 : True := trivial
            go_wp2_with (first
                | (clear tok0; go_at_call 26; refine (HFA.out _ _ _ _ _ hA9 hI1 hD9).mono ?_; rintro e u1 ⟨rfl, hb1⟩; replace hb1 := ex_below hb1; have hB1 := below_step hB9 hb1 hB9.size; have hA9_1 := hA9.ext hb1; have hD9_1 := hD9.ext hb1; have hI1_1 := hI1.ext hb1; have hI2_1 := hI2.ext hb1; have hX_1 := hX9.ext hb1; clear q0 q1 q2 q3 ql; obtain ⟨q0, q1, q2, q3, ql⟩ := box4 hX_1; have tok1 : True := trivial)
                | (clear tok1; go_at_call 26; refine (HFB.out _ _ _ _ _ hA9_1 hI2_1 hD9_1).mono ?_; rintro e u2 ⟨rfl, hb2⟩; replace hb2 := ex_below hb2; have hB2 := below_step hB1 hb2 hB1.size; have hA9_2 := hA9_1.ext hb2; have hD9_2 := hD9_1.ext hb2; have hI1_2 := hI1_1.ext hb2; have hI2_2 := hI2_1.ext hb2; have hX_2 := hX_1.ext hb2; clear q0 q1 q2 q3 ql; obtain ⟨q0, q1, q2, q3, ql⟩ := box4 hX_2; have tok2 : True := trivial)
                | (clear tok2; go_at_call 17; refine (works_any _).mono ?_; rintro e u3 ⟨rfl, hb3⟩; replace hb3 := ex_below hb3; have hB3 := below_step hB2 hb3 hB2.size; have hA9_3 := hA9_2.ext hb3; have hD9_3 := hD9_2.ext hb3; have hI1_3 := hI1_2.ext hb3; have hI2_3 := hI2_2.ext hb3; have hX_3 := hX_2.ext hb3; clear q0 q1 q2 q3 ql; obtain ⟨q0, q1, q2, q3, ql⟩ := box4 hX_3; have tok3 : True := trivial))
            go_ret
            exact gives_of rfl hB3

end Go.Proofs.Ytgjfejpibielaaa
