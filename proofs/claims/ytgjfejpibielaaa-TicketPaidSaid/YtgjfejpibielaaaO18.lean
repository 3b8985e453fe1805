/- Proved here: the law TicketPaid, a part of the proofs about the ticket laws. Conditions: those that each theorem names, no others. -/
import Derived.Test.YtgjfejpibielaaaO17
import Derived.WalkKit
import Derived.WalkSpells
import Derived.WalkLawsBesides
import Derived.Below
import Derived.Deep.QuietTactic
import Derived.BigQuiet
import Derived.Deep.Light
import Derived.Test.YtgjfejpibielaaaF4
import Derived.Deep.RegionHeld3
set_option linter.unusedSimpArgs false
set_option linter.unusedVariables false
namespace Go.Proofs.Ytgjfejpibielaaa
open Go.RowKit Go.Maps Go.Shelf
attribute [local go_sem] Oper.semAt_some World.cell?_setCell_far
theorem box4 {W : World} {B : Nat} {t : TypeId} {x0 x1 x2 x3 : Value} (h : BlkAt W B #[x0, x1, x2, x3] t) : W.cell? ⟨B, 0, none⟩ = some x0 ∧ W.cell? ⟨B, 1, none⟩ = some x1 ∧ W.cell? ⟨B, 2, none⟩ = some x2 ∧ W.cell? ⟨B, 3, none⟩ = some x3 ∧ B < W.heap.size :=
  ⟨obj_at h 0 _ rfl, obj_at h 1 _ rfl, obj_at h 2 _ rfl, obj_at h 3 _ rfl, obj_lt h⟩
theorem wpList_appN {P : Program} (w : World) {ops : Array Oper} {rest : List Oper} {o : Oper} {a : Act} {Q : Exit → Act → World → Prop} (hgd : o.guard = none) (s x : Operand) (t : TypeId)
    (ho : o.op = .call { callee := .builtin .append, args := #[s, x], argTypes := #[t, t] })
    (base : Nat) (e : TypeId) (i : TypeInfo) (z : Value) (size bytes : Nat) (ht : P.underlying t = some (.slice e)) (hi : P.info? e = some i) (hz : i.zero = some z)
    (hsize : i.size = size) (hby : i.bytes = bytes) (hzs : z.cells.size = size) (hsz : 0 < size) (v : Value) (n : Nat) (xs : List Value) (hs : a.eval s = v) (hown : w.ownsRow base e size v n xs)
    (A : Option Addr) (m c : Nat) (news : List Value) (hx : a.eval x = .slice A m c) (hr : Rd w size A m news) (h1 : ∀ u ∈ news, u.oneCell' = true) (h63 : n + m ≤ maxLen) (hbytes : (n + m) * bytes ≤ 140737488355328) (hbase : base ≤ w.heap.size)
    (h : ∀ A' c' w', w'.ownsRow base e size (.slice A' (n + m) c') (n + m) (xs ++ news) → w.grownBy w' v.ownBlock → (∀ b, b < w.heap.size → Far v b → Far (.slice A' (n + m) c') b) → wpList P ops Q rest (a.put o.dst (.slice A' (n + m) c')) w') : wpList P ops Q (o :: rest) a w :=
  wpList_plain hgd fun _ hK => wp_appN w s x t ho base e i z size bytes ht hi hz hsize hby hzs hsz v n xs hs hown A m c news hx hr h1 h63 hbytes hbase fun A' c' w' h2 h3 h4 => hK _ _ (h A' c' w' h2 h3 h4)
set_option maxRecDepth 100000 in
theorem say_prog {l rest : Nat} {k : List Nat} {ts : List (List Int)} {qs : List (Nat × Nat)} {ss : List Int} {v : Int} (h : ProgSays (l : Nat) (k.length : Nat) (rest : Nat) (zs k) ts (zr qs) ss v 0) (A : Option Addr) (c : Nat) (Y : Option Addr) (rows : List LRow) (yc n : Nat) (hn : rows.length = n) (D : Option Addr) (dc : Nat) (Sa : Option Addr) (sc : Nat) (w : World) (hA : I64 w A (zs k)) (hY : Lst w Y rows) (ht : (rows.map fun r => r.2.1) = ts) (hD : Rng w D (zr qs)) (hS : I64 w Sa ss) : Calls Try.prog 38 #[.agg #[.int .i64 (l : Nat), .int .i64 (k.length : Nat), .slice A k.length c, .int .i64 (rest : Nat)], .slice Y n yc, .slice D qs.length dc, .slice Sa ss.length sc] w (Gives w (.tuple #[.int .i64 v, .int .i64 0])) := by
  have h2 := h A c Y rows yc D dc Sa sc w hA hY ht hD hS
  rwa [zs_len, zr_len, hn] at h2
set_option maxRecDepth 100000 in
theorem say_ref {l rest : Nat} {k : List Nat} {ts : List (List Int)} {qs : List (Nat × Nat)} {ss : List Int} {v : Int} (h : ShortSays (l : Nat) (k.length : Nat) (rest : Nat) (zs k) ts (zr qs) ss v 0) (A : Option Addr) (c : Nat) (Y : Option Addr) (rows : List LRow) (yc n : Nat) (hn : rows.length = n) (D : Option Addr) (dc : Nat) (Sa : Option Addr) (sc : Nat) (w : World) (hA : I64 w A (zs k)) (hY : Lst w Y rows) (ht : (rows.map fun r => r.2.1) = ts) (hD : Rng w D (zr qs)) (hS : I64 w Sa ss) : Calls Try.prog 39 #[.agg #[.int .i64 (l : Nat), .int .i64 (k.length : Nat), .slice A k.length c, .int .i64 (rest : Nat)], .slice Y n yc, .slice D qs.length dc, .slice Sa ss.length sc] w (Gives w (.tuple #[.int .i64 v, .int .i64 0])) := by
  have h2 := h A c Y rows yc D dc Sa sc w hA hY ht hD hS
  rwa [zs_len, zr_len, hn] at h2
set_option maxRecDepth 100000 in
theorem say_pay {l rest : Nat} {k : List Nat} {ts : List (List Int)} {qs : List (Nat × Nat)} {ss : List Int} {v : Int} (h : PaySays (l : Nat) (k.length : Nat) (rest : Nat) (zs k) ts (zr qs) ss v) (A : Option Addr) (c : Nat) (Y : Option Addr) (rows : List LRow) (yc n : Nat) (hn : rows.length = n) (D : Option Addr) (dc : Nat) (Sa : Option Addr) (sc : Nat) (w : World) (hA : I64 w A (zs k)) (hY : Lst w Y rows) (ht : (rows.map fun r => r.2.1) = ts) (hD : Rng w D (zr qs)) (hS : I64 w Sa ss) : Calls Try.prog 44 #[.agg #[.int .i64 (l : Nat), .int .i64 (k.length : Nat), .slice A k.length c, .int .i64 (rest : Nat)], .slice Y n yc, .slice D qs.length dc, .slice Sa ss.length sc] w (Gives w (.tuple #[.int .i64 v, .bool true])) := by
  have h2 := h A c Y rows yc D dc Sa sc w hA hY ht hD hS
  rwa [zs_len, zr_len, hn] at h2
theorem paid_fine2 {l rest : Nat} {k : List Nat} (hd : OkD l rest k) {Ts : List (List Nat)} (h6 : Ts.length ≤ 6) (hTT : ∀ T, T ∈ Ts → T.length = k.length ∧ ∀ t, t ∈ T → 1 ≤ t ∧ t < 2 ^ l) {qs : List (Nat × Nat)} (ho : Tt.okSold (Tt.codes l rest k).length 0 qs = true) (hl : qs.length ≤ 10) (A : Option Addr) (c : Nat) (Y : Option Addr) (rows : List LRow) (yc n : Nat) (hn : rows.length = n) (D : Option Addr) (dc : Nat) (w : World) (hA : I64 w A (zs k)) (hY : Lst w Y rows) (ht : (rows.map fun r => r.2.1) = Ts.map zs) (hD : Rng w D (zr qs)) : Calls Try.prog 41 #[.agg #[.int .i64 (l : Nat), .int .i64 (k.length : Nat), .slice A k.length c, .int .i64 (rest : Nat)], .slice Y n yc, .slice D qs.length dc] w (fun en w' => ∃ (xs : List Int) (B : Option Addr) (d : Nat), en = .returned (.tuple #[.slice B xs.length d, .int .i64 0]) ∧ Below w.heap.size w w' ∧ I64 w' B xs ∧ PaySays (l : Nat) (k.length : Nat) (rest : Nat) (zs k) (Ts.map zs) (zr qs) xs (leastI l rest k Ts (zr qs) Ts.length)) := by
  subst hn
  exact paid_fine hd h6 hTT ho hl A c Y rows yc D dc w hA hY ht hD
theorem short_fine2 {l rest : Nat} {k : List Nat} (hd : OkD l rest k) {Ts : List (List Nat)} (h6 : Ts.length ≤ 6) (hTT : ∀ T, T ∈ Ts → T.length = k.length ∧ ∀ t, t ∈ T → 1 ≤ t ∧ t < 2 ^ l) {qs : List (Nat × Nat)} (ho : Tt.okSold (Tt.codes l rest k).length 0 qs = true) (hl : qs.length ≤ 10) (A : Option Addr) (c : Nat) (Y : Option Addr) (rows : List LRow) (yc n : Nat) (hn : rows.length = n) (D : Option Addr) (dc : Nat) (w : World) (hA : I64 w A (zs k)) (hY : Lst w Y rows) (ht : (rows.map fun r => r.2.1) = Ts.map zs) (hD : Rng w D (zr qs)) : Calls Try.prog 40 #[.agg #[.int .i64 (l : Nat), .int .i64 (k.length : Nat), .slice A k.length c, .int .i64 (rest : Nat)], .slice Y n yc, .slice D qs.length dc] w (fun en w' => ∃ (xs : List Int) (B : Option Addr) (d : Nat), en = .returned (.tuple #[.slice B xs.length d, .int .i64 0]) ∧ Below w.heap.size w w' ∧ I64 w' B xs ∧ ProgSays (l : Nat) (k.length : Nat) (rest : Nat) (zs k) (Ts.map zs) (zr qs) xs (leastI l rest k Ts (zr qs) Ts.length) 0 ∧ ShortSays (l : Nat) (k.length : Nat) (rest : Nat) (zs k) (Ts.map zs) (zr qs) xs (leastI l rest k Ts (zr qs) Ts.length) 0) := by
  subst hn
  exact short_fine hd h6 hTT ho hl A c Y rows yc D dc w hA hY ht hD
theorem own_say {l rest : Nat} {k : List Nat} (hd : OkD l rest k) {Ts : List (List Nat)} (hTT : ∀ T, T ∈ Ts → T.length = k.length ∧ ∀ t, t ∈ T → 1 ≤ t ∧ t < 2 ^ l) {qs : List (Nat × Nat)} (hl : qs.length ≤ 10) {ps : List Int} {m : Int} {ok : Bool} {n : Nat} (hp : payV l rest k Ts (zr qs) n ps = .tuple #[.int .i64 m, .bool ok]) (hpl : ps.length = n) (hn6 : n ≤ 6) (A : Option Addr) (c : Nat) (Y : Option Addr) (rows : List LRow) (yc : Nat) (hn : rows.length = n) (D : Option Addr) (dc : Nat) (Sa : Option Addr) (sc : Nat) (w : World) (hA : I64 w A (zs k)) (hY : Lst w Y rows) (ht : (rows.map fun r => r.2.1) = Ts.map zs) (hD : Rng w D (zr qs)) (hS : I64 w Sa ps) : Calls Try.prog 44 #[.agg #[.int .i64 (l : Nat), .int .i64 (k.length : Nat), .slice A k.length c, .int .i64 (rest : Nat)], .slice Y n yc, .slice D qs.length dc, .slice Sa n sc] w (Gives w (.tuple #[.int .i64 m, .bool ok])) := by
  have h := rIsPayment_any l rest A k c Y rows yc Ts D (zr qs) dc Sa ps sc w hd hA hY ht (fun T hT => ⟨(hTT T hT).1, fun t h1 => by
    have h2 := ((hTT T hT).2 t h1).2
    have h3 := two_pow l hd.2.1
    omega⟩) hD (by rw [zr_len]; omega) hS (by omega) (by omega)
  rw [zr_len, hn, hpl, hp] at h
  exact h
theorem info22 : (Try.prog.info? 22).map (fun i => (i.zero, i.size, i.bytes)) = some (some (.slice none 0 0), 1, 24) := by kernel_rfl
theorem und49 : Try.prog.underlying 49 = some (.slice 22) := by kernel_rfl
theorem LstB.at {w : World} {A : Option Addr} {rows : List BRow} (h : LstB w A rows) {i : Nat} (hi : i < rows.length) : ∃ b o, A = some ⟨b, o, none⟩ ∧ b < w.heap.size ∧ w.cell? ⟨b, o + i, none⟩ = some (cellB rows[i]) := by
  obtain ⟨b, o, e, hb, hc⟩ := h.1.2 (by omega)
  exact ⟨b, o, e, hb, hc i _ (by rw [List.getElem?_map, List.getElem?_eq_getElem hi]; rfl)⟩
theorem own_lst22 {w : World} {B : Nat} {n c : Nat} {A : Option Addr} {rows : List LRow} (h : w.ownsRow B 22 1 (.slice A n c) n (rows.map cellL)) (hr : Rows B w rows) (hl : rows.length = n) : Lst w A rows := by
  subst hl
  exact ⟨rd_own h (by decide), hr.i⟩
theorem bits_len (n b : Nat) : (bitsS n b).length ≤ n := by
  have h := List.length_filter_le (fun i => b.testBit i) (List.range n)
  rwa [List.length_range] at h
theorem bit_eq : ∀ b, b < 256 → ∀ i, i < 8 → (bits BinOp.and .u8 (((b : Nat) : Int) / 2 ^ i) 1 == 1) = b.testBit i := by decide +kernel
set_option maxRecDepth 100000 in
set_option maxHeartbeats 8000000 in
theorem paid_law (L n r : Int) (A : Option Addr) (K : List Int) (c : Nat) (Bd : Option Addr) (rowsB : List BRow) (bdc : Nat) (S : Option Addr) (ss : List Nat) (sc : Nat) (G : Option Addr) (gs : List Nat) (gc bt : Nat) (w : World) (hA : I64 w A K) (hBy : LstB w Bd rowsB) (hSy : U8 w S ss) (hGy : U16 w G gs) (hl9 : K.length ≤ 9223372036854775807) (hb9 : rowsB.length ≤ 9223372036854775807) (hs9 : ss.length ≤ 9223372036854775807) (hg9 : gs.length ≤ 9223372036854775807) (hr9 : ∀ r, r ∈ rowsB → r.2.1.length ≤ 9223372036854775807) (hbt : bt < 256) : Calls Try.prog 8 #[.agg #[.int .i64 L, .int .i64 n, .slice A K.length c, .int .i64 r], .slice Bd rowsB.length bdc, .slice S ss.length sc, .slice G gs.length gc, .int .u8 (bt : Nat)] w (Gives w (.bool true)) := by
  obtain ⟨tk, jh, jz, js, jb⟩ := info_parts info3k
  obtain ⟨tr, rh, rz, rs, rb⟩ := info_parts info22
  obtain ⟨b, hb, hF⟩ := fine_any L n r K hl9
  have HF := hide hF
  clear hF
  cases b with
  | false =>
    clear hb
    go_enter Try.func8, Try.ntmps8
    go_upto_region 1 with fail
    have hW : Below w.heap.size w (w.alloc (.cells #[.int .i64 L, .int .i64 n, .slice A K.length c, .int .i64 r] 24)) := below_alloc (Below.refl _ _) (Nat.le_refl _) _
    have hX : BlkAt (w.alloc (.cells #[.int .i64 L, .int .i64 n, .slice A K.length c, .int .i64 r] 24)) w.heap.size #[.int .i64 L, .int .i64 n, .slice A K.length c, .int .i64 r] 24 := heap_alloc_new _ _
    obtain ⟨wa, hwa⟩ : ∃ wa, (w.alloc (.cells #[.int .i64 L, .int .i64 n, .slice A K.length c, .int .i64 r] 24)) = wa := ⟨_, rfl⟩
    rw [hwa] at hW hX ⊢
    clear hwa
    replace hA := hA.ext hW
    have q0 := obj_at hX 0 _ rfl
    have q1 := obj_at hX 1 _ rfl
    have q2 := obj_at hX 2 _ rfl
    have q3 := obj_at hX 3 _ rfl
    have ql := obj_lt hX
    have hWs := hW.size
    have tok0 : True := trivial
    go_wp2_with (first
        | (clear tok0; go_at_call 45; refine (HF.out A c _ hA).mono ?_; rintro e u1 ⟨rfl, hb1⟩; replace hb1 := ex_below hb1; have hB1 := below_step hW hb1 hW.size; have hA_1 := hA.ext hb1; have hX_1 := hX.ext hb1; clear q0 q1 q2 q3 ql; obtain ⟨q0, q1, q2, q3, ql⟩ := box4 hX_1; have tok1 : True := trivial)
        | (clear tok1; go_at_call 17; refine (works_any _).mono ?_; rintro e u2 ⟨rfl, hb2⟩; replace hb2 := ex_below hb2; have hB2 := below_step hB1 hb2 hB1.size; have hA_2 := hA_1.ext hb2; have hX_2 := hX_1.ext hb2; clear q0 q1 q2 q3 ql; obtain ⟨q0, q1, q2, q3, ql⟩ := box4 hX_2; have tok2 : True := trivial))
    go_ret
    exact gives_of rfl hB2
  | true =>
    obtain ⟨l, rest, k, rfl, rfl, rfl, rfl, hd, _⟩ := hb rfl
    clear hb
    rw [zs_len] at HF hl9 ⊢
    by_cases h6 : 6 < rowsB.length
    · have h6i : (6 : Int) < (rowsB.length : Int) := by omega
      clear hd
      go_enter Try.func8, Try.ntmps8
      go_upto_region 1 with fail
      have hW : Below w.heap.size w (w.alloc (.cells #[.int .i64 (l : Nat), .int .i64 (k.length : Nat), .slice A k.length c, .int .i64 (rest : Nat)] 24)) := below_alloc (Below.refl _ _) (Nat.le_refl _) _
      have hX : BlkAt (w.alloc (.cells #[.int .i64 (l : Nat), .int .i64 (k.length : Nat), .slice A k.length c, .int .i64 (rest : Nat)] 24)) w.heap.size #[.int .i64 (l : Nat), .int .i64 (k.length : Nat), .slice A k.length c, .int .i64 (rest : Nat)] 24 := heap_alloc_new _ _
      obtain ⟨wa, hwa⟩ : ∃ wa, (w.alloc (.cells #[.int .i64 (l : Nat), .int .i64 (k.length : Nat), .slice A k.length c, .int .i64 (rest : Nat)] 24)) = wa := ⟨_, rfl⟩
      rw [hwa] at hW hX ⊢
      clear hwa
      replace hA := hA.ext hW
      have q0 := obj_at hX 0 _ rfl
      have q1 := obj_at hX 1 _ rfl
      have q2 := obj_at hX 2 _ rfl
      have q3 := obj_at hX 3 _ rfl
      have ql := obj_lt hX
      have hWs := hW.size
      have tok0 : True := trivial
      go_wp2_with (first
          | (clear tok0; go_at_call 45; refine (HF.out A c _ hA).mono ?_; rintro e u1 ⟨rfl, hb1⟩; replace hb1 := ex_below hb1; have hB1 := below_step hW hb1 hW.size; have hA_1 := hA.ext hb1; have hX_1 := hX.ext hb1; clear q0 q1 q2 q3 ql; obtain ⟨q0, q1, q2, q3, ql⟩ := box4 hX_1; have tok1 : True := trivial)
          | (clear tok1; go_at_call 17; refine (works_any _).mono ?_; rintro e u2 ⟨rfl, hb2⟩; replace hb2 := ex_below hb2; have hB2 := below_step hB1 hb2 hB1.size; have hA_2 := hA_1.ext hb2; have hX_2 := hX_1.ext hb2; clear q0 q1 q2 q3 ql; obtain ⟨q0, q1, q2, q3, ql⟩ := box4 hX_2; have tok2 : True := trivial))
      go_ret
      exact gives_of rfl hB2
    · have h6i : ¬ ((6 : Int) < (rowsB.length : Int)) := by omega
      by_cases h30 : 30 < ss.length
      · have h30i : (30 : Int) < (ss.length : Int) := by omega
        clear hd
        go_enter Try.func8, Try.ntmps8
        go_upto_region 1 with fail
        have hW : Below w.heap.size w (w.alloc (.cells #[.int .i64 (l : Nat), .int .i64 (k.length : Nat), .slice A k.length c, .int .i64 (rest : Nat)] 24)) := below_alloc (Below.refl _ _) (Nat.le_refl _) _
        have hX : BlkAt (w.alloc (.cells #[.int .i64 (l : Nat), .int .i64 (k.length : Nat), .slice A k.length c, .int .i64 (rest : Nat)] 24)) w.heap.size #[.int .i64 (l : Nat), .int .i64 (k.length : Nat), .slice A k.length c, .int .i64 (rest : Nat)] 24 := heap_alloc_new _ _
        obtain ⟨wa, hwa⟩ : ∃ wa, (w.alloc (.cells #[.int .i64 (l : Nat), .int .i64 (k.length : Nat), .slice A k.length c, .int .i64 (rest : Nat)] 24)) = wa := ⟨_, rfl⟩
        rw [hwa] at hW hX ⊢
        clear hwa
        replace hA := hA.ext hW
        have q0 := obj_at hX 0 _ rfl
        have q1 := obj_at hX 1 _ rfl
        have q2 := obj_at hX 2 _ rfl
        have q3 := obj_at hX 3 _ rfl
        have ql := obj_lt hX
        have hWs := hW.size
        have tok0 : True := trivial
        go_wp2_with (first
            | (clear tok0; go_at_call 45; refine (HF.out A c _ hA).mono ?_; rintro e u1 ⟨rfl, hb1⟩; replace hb1 := ex_below hb1; have hB1 := below_step hW hb1 hW.size; have hA_1 := hA.ext hb1; have hX_1 := hX.ext hb1; clear q0 q1 q2 q3 ql; obtain ⟨q0, q1, q2, q3, ql⟩ := box4 hX_1; have tok1 : True := trivial)
            | (clear tok1; go_at_call 17; refine (works_any _).mono ?_; rintro e u2 ⟨rfl, hb2⟩; replace hb2 := ex_below hb2; have hB2 := below_step hB1 hb2 hB1.size; have hA_2 := hA_1.ext hb2; have hX_2 := hX_1.ext hb2; clear q0 q1 q2 q3 ql; obtain ⟨q0, q1, q2, q3, ql⟩ := box4 hX_2; have tok2 : True := trivial))
        go_ret
        exact gives_of rfl hB2
      · have h30i : ¬ ((30 : Int) < (ss.length : Int)) := by omega
        by_cases h10 : 10 < gs.length
        · have h10i : (10 : Int) < (gs.length : Int) := by omega
          clear hd
          go_enter Try.func8, Try.ntmps8
          go_upto_region 1 with fail
          have hW : Below w.heap.size w (w.alloc (.cells #[.int .i64 (l : Nat), .int .i64 (k.length : Nat), .slice A k.length c, .int .i64 (rest : Nat)] 24)) := below_alloc (Below.refl _ _) (Nat.le_refl _) _
          have hX : BlkAt (w.alloc (.cells #[.int .i64 (l : Nat), .int .i64 (k.length : Nat), .slice A k.length c, .int .i64 (rest : Nat)] 24)) w.heap.size #[.int .i64 (l : Nat), .int .i64 (k.length : Nat), .slice A k.length c, .int .i64 (rest : Nat)] 24 := heap_alloc_new _ _
          obtain ⟨wa, hwa⟩ : ∃ wa, (w.alloc (.cells #[.int .i64 (l : Nat), .int .i64 (k.length : Nat), .slice A k.length c, .int .i64 (rest : Nat)] 24)) = wa := ⟨_, rfl⟩
          rw [hwa] at hW hX ⊢
          clear hwa
          replace hA := hA.ext hW
          have q0 := obj_at hX 0 _ rfl
          have q1 := obj_at hX 1 _ rfl
          have q2 := obj_at hX 2 _ rfl
          have q3 := obj_at hX 3 _ rfl
          have ql := obj_lt hX
          have hWs := hW.size
          have tok0 : True := trivial
          go_wp2_with (first
              | (clear tok0; go_at_call 45; refine (HF.out A c _ hA).mono ?_; rintro e u1 ⟨rfl, hb1⟩; replace hb1 := ex_below hb1; have hB1 := below_step hW hb1 hW.size; have hA_1 := hA.ext hb1; have hX_1 := hX.ext hb1; clear q0 q1 q2 q3 ql; obtain ⟨q0, q1, q2, q3, ql⟩ := box4 hX_1; have tok1 : True := trivial)
              | (clear tok1; go_at_call 17; refine (works_any _).mono ?_; rintro e u2 ⟨rfl, hb2⟩; replace hb2 := ex_below hb2; have hB2 := below_step hB1 hb2 hB1.size; have hA_2 := hA_1.ext hb2; have hX_2 := hX_1.ext hb2; clear q0 q1 q2 q3 ql; obtain ⟨q0, q1, q2, q3, ql⟩ := box4 hX_2; have tok2 : True := trivial))
          go_ret
          exact gives_of rfl hB2
        · have h10i : ¬ ((10 : Int) < (gs.length : Int)) := by omega
          have hl2 := hd.1
          have hl6 := hd.2.1
          have hk2 := hd.2.2.1
          have hk8 := hd.2.2.2.1
          have HN := hide (fun w' (h : I64 w' A (zs k)) => count_any l rest A k c w' hd h)
          have HT := hide (fun Bs bs bc w' (h : I64 w' A (zs k)) (hU : U8 w' Bs bs) => torn_fresh l rest A k c Bs bs bc w' hd h hU)
          have hcnt := few_codes hd
          have HSD := hide (fun w' (hU : U8 w' S ss) => sold_any (Tt.codes l rest k).length S ss sc w' hcnt hU (by omega))
          obtain ⟨hok, hq10⟩ := soldL_ok (Tt.codes l rest k).length 10 0 ss
          generalize soldL (Tt.codes l rest k).length 10 0 ss = qs at *
          have hTT : ∀ T, T ∈ (rowsB.map fun r => tornL l k.length r.2.1) → T.length = k.length ∧ ∀ t, t ∈ T → 1 ≤ t ∧ t < 2 ^ l := fun T h => by
            obtain ⟨r, _, rfl⟩ := List.mem_map.1 h
            exact ⟨tornL_len _ _ _, tornL_in hl2 _ _⟩
          have hT6 : (rowsB.map fun r => tornL l k.length r.2.1).length ≤ 6 := by rw [List.length_map]; omega
          have HPF := hide (paid_fine2 hd hT6 hTT hok hq10)
          have HSH := hide (short_fine2 hd hT6 hTT hok hq10)
          have HSF := hide (set_fine hd hT6 hTT hok hq10 bt)
          rw [List.length_map] at HPF HSH HSF
          clear hok hT6
          have HTT := hide hTT
          have HD := hide hd
          clear hTT hd
          go_enter Try.func8, Try.ntmps8
          go_upto_region 1 with fail
          have hW : Below w.heap.size w (w.alloc (.cells #[.int .i64 (l : Nat), .int .i64 (k.length : Nat), .slice A k.length c, .int .i64 (rest : Nat)] 24)) := below_alloc (Below.refl _ _) (Nat.le_refl _) _
          have hX : BlkAt (w.alloc (.cells #[.int .i64 (l : Nat), .int .i64 (k.length : Nat), .slice A k.length c, .int .i64 (rest : Nat)] 24)) w.heap.size #[.int .i64 (l : Nat), .int .i64 (k.length : Nat), .slice A k.length c, .int .i64 (rest : Nat)] 24 := heap_alloc_new _ _
          obtain ⟨wa, hwa⟩ : ∃ wa, (w.alloc (.cells #[.int .i64 (l : Nat), .int .i64 (k.length : Nat), .slice A k.length c, .int .i64 (rest : Nat)] 24)) = wa := ⟨_, rfl⟩
          rw [hwa] at hW hX ⊢
          clear hwa
          replace hA := hA.ext hW
          have q0 := obj_at hX 0 _ rfl
          have q1 := obj_at hX 1 _ rfl
          have q2 := obj_at hX 2 _ rfl
          have q3 := obj_at hX 3 _ rfl
          have ql := obj_lt hX
          have hWs := hW.size
          have hBB := hBy.ext hW
          have hVV := hSy.ext hW
          have hGG := hGy.ext hW
          have tok0 : True := trivial
          go_upto_region 3 with (first
              | (clear tok0; go_at_call 45; refine (HF.out A c _ hA).mono ?_; rintro e u1 ⟨rfl, hb1⟩; replace hb1 := ex_below hb1; have hB1 := below_step hW hb1 hW.size; have hA_1 := hA.ext hb1; have hBB_1 := hBB.ext hb1; have hVV_1 := hVV.ext hb1; have hGG_1 := hGG.ext hb1; have hX_1 := hX.ext hb1; clear q0 q1 q2 q3 ql; obtain ⟨q0, q1, q2, q3, ql⟩ := box4 hX_1; have tok1 : True := trivial))
          clear tok1
          obtain ⟨wz, rfl⟩ : ∃ wz : World, wz = u1 := ⟨_, rfl⟩
          go_wp2
          go_loopw [11, 12, 13] (fun cv sv iv wr => ∃ (i : Nat) (A1 : Option Addr) (c1 : Nat) (rows : List LRow) (A2 : Option Addr) (m2 c2 : Nat), i ≤ rowsB.length ∧ iv = .int .i64 (i : Nat) ∧ cv = .slice A1 i c1 ∧ sv = .slice A2 m2 c2 ∧ Hid (m2 = (bitsS i bt).length ∧ (rows.map fun r => r.2.1) = ((rowsB.take i).map fun r => zs (tornL l k.length r.2.1))) ∧ wr.ownsRow wz.heap.size 22 1 (.slice A1 i c1) i (rows.map cellL) ∧ wr.ownsRow wz.heap.size 3 1 (.slice A2 m2 c2) m2 ((zs (bitsS i bt)).map (Value.int .i64)) ∧ Apart (.slice A1 i c1) (.slice A2 m2 c2) ∧ Rows wz.heap.size wr rows ∧ LFar (.slice A1 i c1) rows ∧ LFar (.slice A2 m2 c2) rows ∧ Below wz.heap.size wz wr) (fun _ _ iv _ => rowsB.length - (intOf iv).toNat)
          case atStart => exact ⟨0, none, 0, [], none, 0, 0, Nat.zero_le _, rfl, rfl, rfl, hide ⟨rfl, rfl⟩, World.ownsRow_nil _ _ _ _, World.ownsRow_nil _ _ _ _, Apart.none _ _, Rows.nil _ _, LFar.nil _, LFar.nil _, Below.refl _ _⟩
          case round =>
            obtain ⟨i, A1, c1, rows, A2, m2, c2, hi, rfl, rfl, rfl, HM, hO1, hO2, hap, hR, hF1, hF2, hb⟩ := hrel
            have hzr := hb.size
            have hAr := hA_1.ext hb
            have hBr := hBB_1.ext hb
            have hXr := hX_1.ext hb
            have hBBr := below_step hB1 hb hB1.size
            clear q0 q1 q2 q3 ql
            obtain ⟨q0, q1, q2, q3, ql⟩ := box4 hXr
            have hm26 : m2 ≤ i := by rw [HM.out.1]; exact bits_len i bt
            by_cases hiq : i < rowsB.length
            · have hki : (i : Int) < (rowsB.length : Int) := by omega
              have HTK := hide (take_snoc rowsB i hiq)
              have hUr := hBr.2 _ (List.getElem_mem hiq)
              obtain ⟨db, dO, rfl, hdz, hdc0⟩ := hBB_1.at hiq
              have hdc := (hb.cell (p := ⟨db, dO + i, none⟩) hdz).trans hdc0
              clear hdc0
              have hdb : db < wr.heap.size := Nat.lt_of_lt_of_le hdz hzr
              have hr7 : rowsB.length ≤ 6 := by omega
              obtain ⟨⟨Yb, bs, cb⟩, hrow⟩ : ∃ v, rowsB[i] = v := ⟨_, rfl⟩
              rw [hrow] at HTK hUr hdc
              clear hrow
              replace hdc : wr.cell? ⟨db, dO + i, none⟩ = some (.slice Yb bs.length cb) := hdc
              replace hUr : U8 wr Yb bs := hUr
              go_upto_region 8 with fail
              by_cases h20 : 20 < bs.length
              · have h20i : (20 : Int) < (bs.length : Int) := by omega
                go_wp2_with (go_at_call 17; refine (works_any _).mono ?_; rintro e w11 ⟨rfl, hbw⟩; replace hbw := ex_below hbw)
                go_ret
                exact gives_of rfl (below_step hBBr hbw hBBr.size)
              have h20i : ¬ ((20 : Int) < (bs.length : Int)) := by omega
              go_upto_region 10 with fail
              have hbd := below_drew (Below.refl wr.heap.size wr)
              skip
              refine wp_region_noPanic ?_
              refine wp_region_held_drew (S := fun w' => w'.cell? ⟨w.heap.size, 0, none⟩ = some (.int .i64 (l : Nat)) ∧ w'.cell? ⟨w.heap.size, 1, none⟩ = some (.int .i64 (k.length : Nat)) ∧ w'.cell? ⟨w.heap.size, 2, none⟩ = some (.slice A k.length c) ∧ w'.cell? ⟨w.heap.size, 3, none⟩ = some (.int .i64 (rest : Nat)) ∧ w'.cell? ⟨db, dO + i, none⟩ = some (.slice Yb bs.length cb)) (by kernel_rfl) ?_ (fun hHeld => ?_)
              · (try dsimp only)
                (exact ⟨obj_at (hXr.ext hbd) 0 _ rfl, obj_at (hXr.ext hbd) 1 _ rfl, obj_at (hXr.ext hbd) 2 _ rfl, obj_at (hXr.ext hbd) 3 _ rfl, ((hbd.cell (p := ⟨db, dO + i, none⟩) hdb).trans hdc)⟩)
              refine wpAnyH_take (i := 0) (v := ?_) rfl (by kernel_rfl) (by kernel_rfl) (by kernel_rfl) (fun _ _ _ h => h) (Or.inl ⟨by rfl, ?_⟩) hHeld ?_
              rotate_left
              · (intro ww hSw; (try dsimp only at hSw); go_simp; try with_reducible rfl)
              (try simp only [Act.put, List.getElem_toArray, List.getElem_cons_zero, List.getElem_cons_succ, List.setIfInBounds_toArray, List.set_cons_zero, List.set_cons_succ])
              refine wpAnyH_take (i := 1) (v := ?_) rfl (by kernel_rfl) (by kernel_rfl) (by kernel_rfl) (fun _ _ _ h => h) (Or.inl ⟨by rfl, ?_⟩) hHeld ?_
              rotate_left
              · (intro ww hSw; (try dsimp only at hSw); go_simp; try with_reducible rfl)
              (try simp only [Act.put, List.getElem_toArray, List.getElem_cons_zero, List.getElem_cons_succ, List.setIfInBounds_toArray, List.set_cons_zero, List.set_cons_succ])
              refine wpAnyH_take (i := 2) (v := ?_) rfl (by kernel_rfl) (by kernel_rfl) (by kernel_rfl) (fun _ _ _ h => h) (Or.inl ⟨by rfl, ?_⟩) hHeld ?_
              rotate_left
              · (intro ww hSw; (try dsimp only at hSw); go_simp; try with_reducible rfl)
              (try simp only [Act.put, List.getElem_toArray, List.getElem_cons_zero, List.getElem_cons_succ, List.setIfInBounds_toArray, List.set_cons_zero, List.set_cons_succ])
              refine wpAnyH_take (i := 3) (v := ?_) rfl (by kernel_rfl) (by kernel_rfl) (by kernel_rfl) (fun _ _ _ h => h) (Or.inl ⟨by rfl, ?_⟩) hHeld ?_
              rotate_left
              · (intro ww hSw; (try dsimp only at hSw); go_simp; try with_reducible rfl)
              (try simp only [Act.put, List.getElem_toArray, List.getElem_cons_zero, List.getElem_cons_succ, List.setIfInBounds_toArray, List.set_cons_zero, List.set_cons_succ])
              refine wpAnyH_take (i := 4) (v := ?_) rfl (by kernel_rfl) (by kernel_rfl) (by kernel_rfl) (fun _ _ _ h => h) (Or.inl ⟨by rfl, ?_⟩) hHeld ?_
              rotate_left
              · (intro ww hSw; (try dsimp only at hSw); go_simp; try with_reducible rfl)
              (try simp only [Act.put, List.getElem_toArray, List.getElem_cons_zero, List.getElem_cons_succ, List.setIfInBounds_toArray, List.set_cons_zero, List.set_cons_succ])
              refine wpAnyH_take (i := 5) (v := ?_) rfl (by kernel_rfl) (by kernel_rfl) (by kernel_rfl) (fun _ _ _ h => h) (Or.inl ⟨by rfl, ?_⟩) hHeld ?_
              rotate_left
              · (intro ww hSw; (try dsimp only at hSw); go_simp; try with_reducible rfl)
              (try simp only [Act.put, List.getElem_toArray, List.getElem_cons_zero, List.getElem_cons_succ, List.setIfInBounds_toArray, List.set_cons_zero, List.set_cons_succ])
              refine wpAnyH_ready (rs := [6]) (by kernel_rfl) (by simp) ?_
              refine AllReadyH.cons rfl ?_ ?_
              · intro K' hK
                rw [if_pos (by rfl)]
                go_simp
                go_at_call 46
                refine (HT.out _ _ _ _ (hAr.ext hbd) (hUr.ext hbd)).mono ?_
                rintro e u2 ⟨Y, yc, rfl, hb2, hI2, hfr⟩
                have hbe := below_step hbd hb2 (by simp)
                have hXe := hXr.ext hbe
                have hde := (hbe.cell (p := ⟨db, dO + i, none⟩) hdb).trans hdc
                go_wp2_with fail
                refine hK.out _ _ ⟨obj_at hXe 0 _ rfl, obj_at hXe 1 _ rfl, obj_at hXe 2 _ rfl, obj_at hXe 3 _ rfl, hde⟩ (fun hHeld2 => ?_)
                clear hK K' hHeld
                have hHeld := hHeld2
                clear hHeld2
                (try simp only [Act.put, List.getElem_toArray, List.getElem_cons_zero, List.getElem_cons_succ, List.setIfInBounds_toArray, List.set_cons_zero, List.set_cons_succ])
                refine wpAnyH_ready (rs := [7]) (by kernel_rfl) (by simp) ?_
                refine AllReadyH.cons rfl ?_ ?_
                · intro K' hK
                  rw [if_pos (by rfl)]
                  go_simp
                  have hbf := below_alloc hbe hbe.size (.cells #[.slice Y (tornL l k.length bs).length yc] 22)
                  have hXf := hXr.ext hbf
                  have hdf := (hbf.cell (p := ⟨db, dO + i, none⟩) hdb).trans hdc
                  refine hK.out _ _ ⟨obj_at hXf 0 _ rfl, obj_at hXf 1 _ rfl, obj_at hXf 2 _ rfl, obj_at hXf 3 _ rfl, hdf⟩ (fun hHeld2 => ?_)
                  clear hK K' hHeld
                  have hHeld := hHeld2
                  clear hHeld2
                  (try simp only [Act.put, List.getElem_toArray, List.getElem_cons_zero, List.getElem_cons_succ, List.setIfInBounds_toArray, List.set_cons_zero, List.set_cons_succ])
                  refine wpAnyH_ready (rs := [8]) (by kernel_rfl) (by simp) ?_
                  refine AllReadyH.cons rfl ?_ ?_
                  · intro K' hK
                    refine step_appN _ rfl (.tmp 62) (.tmp 69) 49 rfl wz.heap.size 22 tr _ 1 24 und49 rh rz rs rb rfl (by decide) (.slice A1 i c1) i (rows.map cellL) rfl (own_ext hO1 hbf) (some ⟨u2.heap.size, 0, none⟩) 1 1 [.slice Y (tornL l k.length bs).length yc] rfl (rd_new1 _ _ _) (by simp [Value.oneCell']) (by unfold maxLen; omega) (by omega) (by have := hbf.size; omega) ?_
                    intro A8 c8 u8 hown8 hgr8 far8
                    have hz8 := hgr8.size
                    have hbg : Below wz.heap.size wz u8 := gb_below (below_step hb hbf hb.size) hgr8 (by have := hbf.size; omega) (fun r e => (hO1.lt r e).1)
                    have hXg := hX_1.ext hbg
                    have hBg := hBB_1.ext hbg
                    have hdg : u8.cell? ⟨db, dO + i, none⟩ = some (.slice Yb bs.length cb) := ((hbg.cell (p := ⟨db, dO + i, none⟩) hdz).trans (hb.cell (p := ⟨db, dO + i, none⟩) hdz).symm).trans hdc
                    refine hK.out _ _ ⟨obj_at hXg 0 _ rfl, obj_at hXg 1 _ rfl, obj_at hXg 2 _ rfl, obj_at hXg 3 _ rfl, hdg⟩ (fun hHeld2 => ?_)
                    clear hK K' hHeld
                    have hHeld := hHeld2
                    clear hHeld2
                    (try simp only [Act.put, List.getElem_toArray, List.getElem_cons_zero, List.getElem_cons_succ, List.setIfInBounds_toArray, List.set_cons_zero, List.set_cons_succ])
                    refine wpAnyH_take (i := 9) (v := ?_) rfl (by kernel_rfl) (by kernel_rfl) (by kernel_rfl) (fun _ _ _ h => h) (Or.inl ⟨by rfl, ?_⟩) hHeld ?_
                    rotate_left
                    · (intro ww hSw; (try dsimp only at hSw); go_simp; try with_reducible rfl)
                    (try simp only [Act.put, List.getElem_toArray, List.getElem_cons_zero, List.getElem_cons_succ, List.setIfInBounds_toArray, List.set_cons_zero, List.set_cons_succ])
                    refine wpAnyH_done (by kernel_rfl) ?_ _
                    refine NoPanic.normal ?_
                    go_upto_region 11 with fail
                    have hGX := (GX.refl [] wr).below hbf (Nat.le_refl _)
                    have hIf := hI2.ext (below_alloc (Below.refl u2.heap.size u2) (Nat.le_refl _) (.cells #[.slice Y (tornL l k.length bs).length yc] 22))
                    have hzf := hbf.size
                    obtain ⟨yb, yo, hYe, hyb⟩ := hIf.form (by rw [zs_len, tornL_len]; omega)
                    have hfr2 : ∀ b o, Y = some ⟨b, o, none⟩ → wr.heap.size ≤ b := hfr
                    have hRa := (hR.gx hGX (fun s hs => by cases hs)).app (r := (Y, zs (tornL l k.length bs), yc)) hIf (fun b o e => ⟨Nat.le_trans hzr (hfr2 b o e), by rw [hYe] at e; injection e with e; injection e with e1 _ _; rw [← e1]; exact hyb⟩)
                    have hF1a := hF1.app (r := (Y, zs (tornL l k.length bs), yc)) (fun b o e g hg => by have h1 := (hO1.lt g hg).2; have h2 := hfr2 b o e; omega)
                    have hF2a := hF2.app (r := (Y, zs (tornL l k.length bs), yc)) (fun b o e g hg => by have h1 := (hO2.lt g hg).2; have h2 := hfr2 b o e; omega)
                    have hO2x := own_ext hO2 hbf
                    have hap8 := Apart.grown (W := u2.alloc (.cells #[.slice Y (tornL l k.length bs).length yc] 22)) (W' := u8) hap hO2x far8
                    have hO28 := own_other hO2x hgr8 hap.symm
                    have hF18 := hF1a.to hRa far8
                    have hR8 := hRa.grown hgr8 hF1a
                    have hcl8 : [Value.slice Y (tornL l k.length bs).length yc] = [((Y, zs (tornL l k.length bs), yc) : LRow)].map cellL := by show _ = [Value.slice Y (zs (tornL l k.length bs)).length yc]; rw [zs_len]
                    rw [hcl8, ← List.map_append] at hown8
                    obtain ⟨r2, hr2⟩ : ∃ v, rows ++ [((Y, zs (tornL l k.length bs), yc) : LRow)] = v := ⟨_, rfl⟩
                    have HM1 := hide (show (r2.map fun r => r.2.1) = ((rowsB.take (i + 1)).map fun r => zs (tornL l k.length r.2.1)) by rw [← hr2, HTK.out, List.map_append, List.map_append, HM.out.2]; rfl)
                    have HM2 := hide HM.out.1
                    rw [hr2] at hown8 hRa hF1a hF2a hF18 hR8
                    clear hGX hIf hRa hF1a hO2x hO1 hO2 hap hR hF1 hF2 hr2 hcl8 hHeld hbd hb2 hI2 hfr hfr2 hbe hbf hgr8 far8 hXr hAr hBr hUr hdc HTK HM hYe hyb hb hzr q0 q1 q2 q3 ql hXe hde hXf hdf hXg hdg hzf
                    obtain ⟨q0, q1, q2, q3, ql⟩ := box4 (hX_1.ext hbg)
                    have HG := hide (bit_eq bt hbt i (by omega))
                    have hzg := hbg.size
                    cases hg : bt.testBit i with
                    | false =>
                      rw [hg] at HG
                      have hgi := HG.out
                      have hbs : bitsS (i + 1) bt = bitsS i bt := by rw [bitsS_succ, if_neg (by rw [hg]; simp)]
                      have HBS := hide hbs
                      clear hbs hg
                      go_wp2
                      exact ⟨⟨i + 1, A8, c8, r2, A2, m2, c2, by omega, by go_num, rfl, rfl, hide ⟨by rw [HBS.out]; exact HM2.out, HM1.out⟩, hown8, by rw [HBS.out]; exact hO28, hap8, hR8, hF18, hF2a, hbg⟩, by simp [intOf]; omega⟩
                    | true =>
                      rw [hg] at HG
                      have hgi := HG.out
                      have hbs : bitsS (i + 1) bt = bitsS i bt ++ [i] := by rw [bitsS_succ, if_pos hg]
                      have HBS := hide hbs
                      clear hbs hg
                      go_wp2_with (first
                        | (at_builtin; refine wpList_appN _ rfl (.tmp 76) (.tmp 78) 22 rfl wz.heap.size 3 tk _ 1 8 und22k jh jz js jb rfl (by decide) (.slice A2 m2 c2) m2 _ rfl (hO28.alloc _) (some ⟨u8.heap.size, 0, none⟩) 1 1 [.int .i64 (i : Nat)] rfl (rd_new1 _ _ _) (by simp [Value.oneCell']) (by unfold maxLen; omega) (by omega) (by simp; omega) ?_; intro A9 c9 u9 hown9 hgr9 far9))
                      have hb9 : Below u8.heap.size u8 (u8.alloc (.cells #[.int .i64 (i : Nat)] 3)) := below_alloc (Below.refl _ _) (Nat.le_refl _) _
                      have hGX := (GX.refl [] u8).below hb9 (Nat.le_refl _)
                      have hR9 := (hR8.gx hGX (fun s hs => by cases hs)).grown hgr9 hF2a
                      have hF29 := hF2a.to (hR8.gx hGX (fun s hs => by cases hs)) far9
                      have hO19 := own_other (own_ext hown8 hb9) hgr9 hap8
                      have hap9 := (Apart.grown (W := (u8.alloc (.cells #[.int .i64 (i : Nat)] 3))) (W' := u9) hap8.symm (own_ext hown8 hb9) far9).symm
                      have hbh : Below wz.heap.size wz u9 := gb_below (below_step hbg hb9 hzg) hgr9 (by simp; omega) (fun r e => (hO28.lt r e).1)
                      exact ⟨⟨i + 1, A8, c8, r2, A9, m2 + 1, c9, by omega, by go_num, rfl, rfl, hide ⟨by rw [HBS.out, List.length_append, ← HM2.out]; rfl, HM1.out⟩, hO19, by rw [HBS.out, zs_snoc, List.map_append]; exact hown9, hap9, hR9, hF18, hF29, hbh⟩, by simp [intOf]; omega⟩
                  exact AllReadyH.nil
                exact AllReadyH.nil
              exact AllReadyH.nil
            · have hki : ¬ ((i : Int) < (rowsB.length : Int)) := by omega
              obtain rfl : i = rowsB.length := by omega
              have hrm : (rows.map fun r => r.2.1) = (rowsB.map fun r => tornL l k.length r.2.1).map zs := by
                rw [HM.out.2, List.take_of_length_le (Nat.le_refl _), List.map_map]
                rfl
              have hrl : rows.length = rowsB.length := by have := congrArg List.length hrm; simpa using this
              obtain rfl := HM.out.1
              have hI2 := own_i64 hO2
              have hLs := own_lst22 hO1 hR hrl
              have hVr := hVV_1.ext hb
              have hGr := hGG_1.ext hb
              have HRM := hide hrm
              have HRL := hide hrl
              clear hrm hrl hO1 hO2 hap hR hF1 hF2 HM hBr
              obtain ⟨vs, hps, hlv, hv6, hpv⟩ := HSF.out
              have HPS := hide hps
              have HPV := hide hpv
              have hlk := least_le l rest k (rowsB.map fun r => tornL l k.length r.2.1) (zr qs) (rowsB.map fun r => tornL l k.length r.2.1).length
              rw [List.length_map] at hlk
              clear hps hpv
              generalize leastI l rest k (rowsB.map fun r => tornL l k.length r.2.1) (zr qs) rowsB.length = la at *
              have hc1 : ¬ (vs < la) := by omega
              have hc2 : ¬ ((rowsB.length : Int) < la) := by omega
              clear hlk hlv
              have HSY := hide (fun A c Y rows yc n hn D dc Sa sc w hA hY ht hD hS => say_prog HPS.out A c Y rows yc n hn D dc Sa sc w hA hY ht hD hS)
              rw [zs_len] at HSY
              skip
              have tok20 : True := trivial
              go_upto_region 25 with (first
                  | (clear tok20; go_at_call 47; refine (HN.out _ hAr).mono ?_; rintro e u21 ⟨rfl, hb21⟩; replace hb21 := ex_below hb21; have hB21 := below_step hBBr hb21 hBBr.size; have hAr_21 := hAr.ext hb21; have hLs_21 := hLs.ext hb21; have hI2_21 := hI2.ext hb21; have hVr_21 := hVr.ext hb21; have hGr_21 := hGr.ext hb21; have hX_21 := hXr.ext hb21; clear q0 q1 q2 q3 ql; obtain ⟨q0, q1, q2, q3, ql⟩ := box4 hX_21; have tok21 : True := trivial)
                  | (clear tok21; go_at_call 48; refine (HSD.out _ hVr_21).mono ?_; rintro e u22 ⟨D, dc, rfl, hb22, hD⟩; have hB22 := below_step hB21 hb22 hB21.size; have hAr_22 := hAr_21.ext hb22; have hLs_22 := hLs_21.ext hb22; have hI2_22 := hI2_21.ext hb22; have hVr_22 := hVr_21.ext hb22; have hGr_22 := hGr_21.ext hb22; have hX_22 := hX_21.ext hb22; clear q0 q1 q2 q3 ql; obtain ⟨q0, q1, q2, q3, ql⟩ := box4 hX_22; rw [zr_len]; have tok22 : True := trivial)
                  | (clear tok22; go_at_call 41; refine (HPF.out _ _ _ _ _ _ HRL.out _ _ _ hAr_22 hLs_22 HRM.out hD).mono ?_; rintro e u23 ⟨xs1, M1, m1c, rfl, hb23, hM1, hS1⟩; have hB23 := below_step hB22 hb23 hB22.size; have hAr_23 := hAr_22.ext hb23; have hLs_23 := hLs_22.ext hb23; have hI2_23 := hI2_22.ext hb23; have hVr_23 := hVr_22.ext hb23; have hGr_23 := hGr_22.ext hb23; have hD_23 := hD.ext hb23; have hX_23 := hX_22.ext hb23; clear q0 q1 q2 q3 ql; obtain ⟨q0, q1, q2, q3, ql⟩ := box4 hX_23; have tok23 : True := trivial)
                  | (clear tok23; go_at_call 40; refine (HSH.out _ _ _ _ _ _ HRL.out _ _ _ hAr_23 hLs_23 HRM.out hD_23).mono ?_; rintro e u24 ⟨xs2, M2, m2c, rfl, hb24, hM2, ⟨hS2, hS3⟩⟩; have hB24 := below_step hB23 hb24 hB23.size; have hAr_24 := hAr_23.ext hb24; have hLs_24 := hLs_23.ext hb24; have hI2_24 := hI2_23.ext hb24; have hVr_24 := hVr_23.ext hb24; have hGr_24 := hGr_23.ext hb24; have hD_24 := hD_23.ext hb24; have hM1_24 := hM1.ext hb24; have hX_24 := hX_23.ext hb24; clear q0 q1 q2 q3 ql; obtain ⟨q0, q1, q2, q3, ql⟩ := box4 hX_24; have tok24 : True := trivial)
                  | (clear tok24; go_at_call 38; refine (say_prog hS2 _ _ _ _ _ _ HRL.out _ _ _ _ _ hAr_24 hLs_24 HRM.out hD_24 hM2).mono ?_; rintro e u25 ⟨rfl, hb25⟩; replace hb25 := ex_below hb25; have hB25 := below_step hB24 hb25 hB24.size; have hAr_25 := hAr_24.ext hb25; have hLs_25 := hLs_24.ext hb25; have hI2_25 := hI2_24.ext hb25; have hVr_25 := hVr_24.ext hb25; have hGr_25 := hGr_24.ext hb25; have hD_25 := hD_24.ext hb25; have hM1_25 := hM1_24.ext hb25; have hM2_25 := hM2.ext hb25; have hX_25 := hX_24.ext hb25; clear q0 q1 q2 q3 ql; obtain ⟨q0, q1, q2, q3, ql⟩ := box4 hX_25; have tok25 : True := trivial)
                  | (clear tok25; go_at_call 39; refine (say_ref hS3 _ _ _ _ _ _ HRL.out _ _ _ _ _ hAr_25 hLs_25 HRM.out hD_25 hM2_25).mono ?_; rintro e u26 ⟨rfl, hb26⟩; replace hb26 := ex_below hb26; have hB26 := below_step hB25 hb26 hB25.size; have hAr_26 := hAr_25.ext hb26; have hLs_26 := hLs_25.ext hb26; have hI2_26 := hI2_25.ext hb26; have hVr_26 := hVr_25.ext hb26; have hGr_26 := hGr_25.ext hb26; have hD_26 := hD_25.ext hb26; have hM1_26 := hM1_25.ext hb26; have hM2_26 := hM2_25.ext hb26; have hX_26 := hX_25.ext hb26; clear q0 q1 q2 q3 ql; obtain ⟨q0, q1, q2, q3, ql⟩ := box4 hX_26; have tok26 : True := trivial)
                  | (clear tok26; go_at_call 38; refine (HSY.out _ _ _ _ _ _ HRL.out _ _ _ _ _ hAr_26 hLs_26 HRM.out hD_26 hI2_26).mono ?_; rintro e u27 ⟨rfl, hb27⟩; replace hb27 := ex_below hb27; have hB27 := below_step hB26 hb27 hB26.size; have hAr_27 := hAr_26.ext hb27; have hLs_27 := hLs_26.ext hb27; have hI2_27 := hI2_26.ext hb27; have hVr_27 := hVr_26.ext hb27; have hGr_27 := hGr_26.ext hb27; have hD_27 := hD_26.ext hb27; have hM1_27 := hM1_26.ext hb27; have hM2_27 := hM2_26.ext hb27; have hX_27 := hX_26.ext hb27; clear q0 q1 q2 q3 ql; obtain ⟨q0, q1, q2, q3, ql⟩ := box4 hX_27; have tok27 : True := trivial)
                  | (clear tok27; go_at_call 44; refine (say_pay hS1 _ _ _ _ _ _ HRL.out _ _ _ _ _ hAr_27 hLs_27 HRM.out hD_27 hM1_27).mono ?_; rintro e u28 ⟨rfl, hb28⟩; replace hb28 := ex_below hb28; have hB28 := below_step hB27 hb28 hB27.size; have hAr_28 := hAr_27.ext hb28; have hLs_28 := hLs_27.ext hb28; have hI2_28 := hI2_27.ext hb28; have hVr_28 := hVr_27.ext hb28; have hGr_28 := hGr_27.ext hb28; have hD_28 := hD_27.ext hb28; have hM1_28 := hM1_27.ext hb28; have hM2_28 := hM2_27.ext hb28; have hX_28 := hX_27.ext hb28; clear q0 q1 q2 q3 ql; obtain ⟨q0, q1, q2, q3, ql⟩ := box4 hX_28; have tok28 : True := trivial))
              clear tok28 HPF HSH HSY HPS HN HSD HT HSF
              obtain ⟨N, hN⟩ : ∃ v, (Tt.codes l rest k).length = v := ⟨_, rfl⟩
              rw [hN] at hcnt ⊢
              clear hN
              obtain ⟨tq, th, tz, ts, tb⟩ := info_parts info2
              obtain ⟨wy, rfl⟩ : ∃ wy : World, wy = u28 := ⟨_, rfl⟩
              have HGY := hide hGr_28
              have HXY := hide hX_28
              go_wp2
              go_loopw [26, 27] (fun ov jv wr => ∃ (j : Nat) (A3 : Option Addr) (c3 : Nat) (ps : List Int), j ≤ rowsB.length ∧ jv = .int .i64 (j : Nat) ∧ ov = .slice A3 j c3 ∧ Hid (ps.length = j) ∧ wr.ownsRow wy.heap.size 2 1 (.slice A3 j c3) j (ps.map (Value.int .i64)) ∧ Below wy.heap.size wy wr) (fun _ jv _ => rowsB.length - (intOf jv).toNat)
              case atStart => exact ⟨0, none, 0, [], Nat.zero_le _, rfl, rfl, hide rfl, World.ownsRow_nil _ _ _ _, Below.refl _ _⟩
              case round =>
                obtain ⟨j, A3, c3, ps, hj, rfl, rfl, HPL, hO3, hby⟩ := hrel
                have hzy := hby.size
                have hr7 : rowsB.length ≤ 6 := by omega
                by_cases hjn : j < rowsB.length
                · have hji : (j : Int) < (rowsB.length : Int) := by omega
                  by_cases hjg : j < gs.length
                  · have hjgi : (j : Int) < (gs.length : Int) := by omega
                    by_cases hN0 : 0 < N
                    · have hN0i : (0 : Int) < (N : Int) := by omega
                      obtain ⟨gb, go0, hGe, hgb, hcell⟩ := (HGY.out.ext hby).form (by omega)
                      subst hGe
                      obtain ⟨hcg, hg16⟩ := hcell j hjg
                      clear hcell
                      obtain ⟨gv, hgv⟩ : ∃ v, gs[j] = v := ⟨_, rfl⟩
                      rw [hgv] at hcg hg16
                      clear hgv
                      have hrm : Int.tmod (gv : Int) ((N : Int) + 1) = ((gv % (N + 1) : Nat) : Int) := rem_nat gv (N + 1)
                      have hzl := Nat.mod_lt gv (show N + 1 > 0 by omega)
                      obtain ⟨z, hze⟩ : ∃ z, gv % (N + 1) = z := ⟨_, rfl⟩
                      rw [hze] at hrm hzl
                      clear hze
                      have hnz : ¬ ((N : Int) + 1 = 0) := by omega
                      have hnz2 : ¬ (N + 1 = 0) := by omega
                      go_wp2_with (first
                        | (at_builtin; refine wpList_app _ rfl (.tmp 195) (.tmp 197) 53 rfl wy.heap.size 2 tq _ 1 8 und53 th tz ts tb rfl (by decide) (.slice A3 j c3) j _ rfl (hO3.alloc _) (some ⟨wr.heap.size, 0, none⟩) 1 1 [.int .i64 ((z : Int) - 1)] rfl (rd_new1 _ _ _) (by simp [Value.oneCell']) (by unfold maxLen; omega) (by omega) (by simp; omega) ?_; intro A9 c9 u9 hown9 hgr9))
                      exact ⟨⟨j + 1, A9, c9, ps ++ [(z : Int) - 1], by omega, by go_num, rfl, hide (by rw [List.length_append, HPL.out]; rfl), by rw [List.map_append]; exact hown9, gb_below (below_alloc hby (by omega) _) hgr9 (by simp; omega) (fun r e => (hO3.lt r e).1)⟩, by simp [intOf]; omega⟩
                    · have hN0i : ¬ ((0 : Int) < (N : Int)) := by omega
                      go_wp2_with (first
                        | (at_builtin; refine wpList_app _ rfl (.tmp 195) (.tmp 197) 53 rfl wy.heap.size 2 tq _ 1 8 und53 th tz ts tb rfl (by decide) (.slice A3 j c3) j _ rfl (hO3.alloc _) (some ⟨wr.heap.size, 0, none⟩) 1 1 [.int .i64 (-1)] rfl (rd_new1 _ _ _) (by simp [Value.oneCell']) (by unfold maxLen; omega) (by omega) (by simp; omega) ?_; intro A9 c9 u9 hown9 hgr9))
                      exact ⟨⟨j + 1, A9, c9, ps ++ [-1], by omega, by go_num, rfl, hide (by rw [List.length_append, HPL.out]; rfl), by rw [List.map_append]; exact hown9, gb_below (below_alloc hby (by omega) _) hgr9 (by simp; omega) (fun r e => (hO3.lt r e).1)⟩, by simp [intOf]; omega⟩
                  · have hjgi : ¬ ((j : Int) < (gs.length : Int)) := by omega
                    go_wp2_with (first
                      | (at_builtin; refine wpList_app _ rfl (.tmp 195) (.tmp 197) 53 rfl wy.heap.size 2 tq _ 1 8 und53 th tz ts tb rfl (by decide) (.slice A3 j c3) j _ rfl (hO3.alloc _) (some ⟨wr.heap.size, 0, none⟩) 1 1 [.int .i64 (-1)] rfl (rd_new1 _ _ _) (by simp [Value.oneCell']) (by unfold maxLen; omega) (by omega) (by simp; omega) ?_; intro A9 c9 u9 hown9 hgr9))
                    exact ⟨⟨j + 1, A9, c9, ps ++ [-1], by omega, by go_num, rfl, hide (by rw [List.length_append, HPL.out]; rfl), by rw [List.map_append]; exact hown9, gb_below (below_alloc hby (by omega) _) hgr9 (by simp; omega) (fun r e => (hO3.lt r e).1)⟩, by simp [intOf]; omega⟩
                · have hji : ¬ ((j : Int) < (rowsB.length : Int)) := by omega
                  obtain rfl : j = rowsB.length := by omega
                  have hAz := hAr_28.ext hby
                  have hLz := hLs_28.ext hby
                  have hDz := hD_28.ext hby
                  have hXz := HXY.out.ext hby
                  have hBz := below_step hB28 hby hB28.size
                  have hI3 := own_i64 hO3
                  clear q0 q1 q2 q3 ql hO3
                  obtain ⟨q0, q1, q2, q3, ql⟩ := box4 hXz
                  obtain ⟨mo, ok, hpay, hmo⟩ := own_pay l rest k _ (zr qs) rowsB.length ps (HPV.out ps)
                  have HSO := hide (own_say HD.out HTT.out hq10 hpay HPL.out hr7)
                  clear hpay
                  cases ok with
                  | false =>
                    clear hmo
                    have tok40 : True := trivial
                    go_wp2_with (first
                        | (clear tok40; go_at_call 44; refine (HSO.out _ _ _ _ _ HRL.out _ _ _ _ _ hAz hLz HRM.out hDz hI3).mono ?_; rintro e u41 ⟨rfl, hb41⟩; replace hb41 := ex_below hb41; have hB41 := below_step hBz hb41 hBz.size; have hAz_41 := hAz.ext hb41; have hX_41 := hXz.ext hb41; clear q0 q1 q2 q3 ql; obtain ⟨q0, q1, q2, q3, ql⟩ := box4 hX_41; have tok41 : True := trivial)
                        | (clear tok41; go_at_call 17; refine (works_any _).mono ?_; rintro e u42 ⟨rfl, hb42⟩; replace hb42 := ex_below hb42; have hB42 := below_step hB41 hb42 hB41.size; have hAz_42 := hAz_41.ext hb42; have hX_42 := hX_41.ext hb42; clear q0 q1 q2 q3 ql; obtain ⟨q0, q1, q2, q3, ql⟩ := box4 hX_42; have tok42 : True := trivial))
                    go_ret
                    exact gives_of rfl hB42
                  | true =>
                    obtain ⟨hm1, hm2⟩ := hmo rfl
                    clear hmo
                    have tok40 : True := trivial
                    go_wp2_with (first
                        | (clear tok40; go_at_call 44; refine (HSO.out _ _ _ _ _ HRL.out _ _ _ _ _ hAz hLz HRM.out hDz hI3).mono ?_; rintro e u41 ⟨rfl, hb41⟩; replace hb41 := ex_below hb41; have hB41 := below_step hBz hb41 hBz.size; have hAz_41 := hAz.ext hb41; have hX_41 := hXz.ext hb41; clear q0 q1 q2 q3 ql; obtain ⟨q0, q1, q2, q3, ql⟩ := box4 hX_41; have tok41 : True := trivial)
                        | (clear tok41; go_at_call 17; refine (works_any _).mono ?_; rintro e u42 ⟨rfl, hb42⟩; replace hb42 := ex_below hb42; have hB42 := below_step hB41 hb42 hB41.size; have hAz_42 := hAz_41.ext hb42; have hX_42 := hX_41.ext hb42; clear q0 q1 q2 q3 ql; obtain ⟨q0, q1, q2, q3, ql⟩ := box4 hX_42; have tok42 : True := trivial))
                    go_ret
                    exact gives_of rfl hB42

end Go.Proofs.Ytgjfejpibielaaa
