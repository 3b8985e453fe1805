/- Proved here: the law TicketMore, a part of the proofs about the ticket laws. Conditions: those that each theorem names, no others. -/
import Derived.Test.YtgjfejpibielaaaO15
import Derived.WalkKit
import Derived.WalkSpells
import Derived.WalkLawsBesides
import Derived.Below
import Derived.Deep.QuietTactic
import Derived.BigQuiet
import Derived.Deep.Light
import Derived.Test.YtgjfejpibielaaaO7
import Derived.Deep.RegionHeld3
set_option linter.unusedSimpArgs false
set_option linter.unusedVariables false
namespace Go.Proofs.Ytgjfejpibielaaa
open Go.RowKit Go.Maps Go.Shelf
attribute [local go_sem] Oper.semAt_some World.cell?_setCell_far
theorem box4 {W : World} {B : Nat} {t : TypeId} {x0 x1 x2 x3 : Value} (h : BlkAt W B #[x0, x1, x2, x3] t) : W.cell? ⟨B, 0, none⟩ = some x0 ∧ W.cell? ⟨B, 1, none⟩ = some x1 ∧ W.cell? ⟨B, 2, none⟩ = some x2 ∧ W.cell? ⟨B, 3, none⟩ = some x3 ∧ B < W.heap.size :=
  ⟨obj_at h 0 _ rfl, obj_at h 1 _ rfl, obj_at h 2 _ rfl, obj_at h 3 _ rfl, obj_lt h⟩
theorem i64_put {w : World} {b o : Nat} {xs : List Int} (h : I64 w (some ⟨b, o, none⟩) xs) {p : Nat} (hp : p < xs.length) (v : Int) : I64 (w.setCell ⟨b, o + p, none⟩ (.int .i64 v)) (some ⟨b, o, none⟩) (xs.set p v) := fun k x hk => by
  have hkl : k < xs.length := by have := (List.getElem?_eq_some_iff.1 hk).1; simpa using this
  obtain ⟨b', o', e, h1, h2, h3⟩ := h k xs[k] (by simp [hkl])
  injection e with e
  injection e with e1 e2 _
  subst e1 e2
  refine ⟨b, o, rfl, by rw [size_setCell]; exact h1, by rw [size_setCell]; exact h2, ?_⟩
  rw [List.getElem?_set] at hk
  by_cases e : p = k
  · subst e
    rw [if_pos rfl, if_pos hp] at hk
    rw [← Option.some.inj hk]
    exact World.cell?_setCell_same _ _ _ h3
  · rw [if_neg e, List.getElem?_eq_getElem hkl] at hk
    rw [← Option.some.inj hk, World.cell?_setCell_other _ _ _ _ (by intro h; injection h with _ h _; omega)]
    exact h3
theorem own_blk {w : World} {B : Nat} {e : TypeId} {sz n c : Nat} {A : Option Addr} {xs : List Value} (h : w.ownsRow B e sz (.slice A n c) n xs) (hn : 0 < n) : ∃ b, A = some ⟨b, 0, none⟩ ∧ B ≤ b ∧ b < w.heap.size ∧ ∀ k, w.frozen? ⟨b, k, none⟩ = false := by
  obtain ⟨g, cap, cur, hv, hB, hh, hr⟩ := h.2.resolve_left (by rintro ⟨_, h0⟩; omega)
  injection hv with hA _ _
  exact ⟨g, hA, hB, obj_lt hh, fun k => obj_fz hh k⟩
theorem zs_set (l : List Nat) (p v : Nat) : (zs l).set p (v : Int) = zs (l.set p v) := by unfold zs; rw [List.map_set]
theorem i64_rd {w : World} {A : Option Addr} {xs : List Int} (h : I64 w A xs) : Rd w 1 A xs.length (xs.map (Value.int .i64)) := by
  refine ⟨by simp, fun hl => ?_⟩
  obtain ⟨b, off, hA, hb, _⟩ := h 0 xs[0] (by simp)
  refine ⟨b, off, hA, hb, fun j u hu => ?_⟩
  rw [List.getElem?_map] at hu
  cases hx : xs[j]? with
  | none => rw [hx] at hu; simp at hu
  | some x =>
    rw [hx] at hu
    obtain ⟨b', off', hA', _, _, hc⟩ := h j x hx
    rw [hA] at hA'
    injection hA' with hA'
    injection hA' with e1 e2 _
    subst e1 e2
    simp only [Option.map_some, Option.some.injEq] at hu
    rw [hc, hu]
theorem own_lit0 {w : World} {base blk size : Nat} {e : TypeId} (h : w.heap[blk]? = some (.cells #[] e (0, 0))) (hb : base ≤ blk) : w.ownsRow base e size (.slice (some ⟨blk, 0, none⟩) 0 0) 0 [] :=
  ⟨by simp, .inr ⟨blk, 0, #[], rfl, hb, h, Nat.le_refl _, by decide, by simp, by simp⟩⟩
theorem i64_set_far {w : World} {g o : Nat} {xs : List Int} (h : I64 w (some ⟨g, o, none⟩) xs) {b k : Nat} (hne : g ≠ b) (v : Value) : I64 (w.setCell ⟨b, k, none⟩ v) (some ⟨g, o, none⟩) xs := fun j x hj => by
  obtain ⟨b', o', e, h1, h2, h3⟩ := h j x hj
  injection e with e
  injection e with e1 e2 _
  subst e1 e2
  exact ⟨g, o, rfl, by rw [size_setCell]; exact h1, by rw [size_setCell]; exact h2, by rw [World.cell?_setCell_other _ _ _ _ (by intro h; injection h with h _ _; first | exact hne h | exact hne h.symm)]; exact h3⟩
theorem rd_zs {w : World} {A : Option Addr} {T : List Nat} (h : I64 w A (zs T)) : Rd w 1 A T.length ((zs T).map (Value.int .i64)) := by
  have h2 := i64_rd h
  rwa [zs_len] at h2
theorem wpList_appN {P : Program} (w : World) {ops : Array Oper} {rest : List Oper} {o : Oper} {a : Act} {Q : Exit → Act → World → Prop} (hgd : o.guard = none) (s x : Operand) (t : TypeId)
    (ho : o.op = .call { callee := .builtin .append, args := #[s, x], argTypes := #[t, t] })
    (base : Nat) (e : TypeId) (i : TypeInfo) (z : Value) (size bytes : Nat) (ht : P.underlying t = some (.slice e)) (hi : P.info? e = some i) (hz : i.zero = some z)
    (hsize : i.size = size) (hby : i.bytes = bytes) (hzs : z.cells.size = size) (hsz : 0 < size) (v : Value) (n : Nat) (xs : List Value) (hs : a.eval s = v) (hown : w.ownsRow base e size v n xs)
    (A : Option Addr) (m c : Nat) (news : List Value) (hx : a.eval x = .slice A m c) (hr : Rd w size A m news) (h1 : ∀ u ∈ news, u.oneCell' = true) (h63 : n + m ≤ maxLen) (hbytes : (n + m) * bytes ≤ 140737488355328) (hbase : base ≤ w.heap.size)
    (h : ∀ A' c' w', w'.ownsRow base e size (.slice A' (n + m) c') (n + m) (xs ++ news) → w.grownBy w' v.ownBlock → (∀ b, b < w.heap.size → Far v b → Far (.slice A' (n + m) c') b) → wpList P ops Q rest (a.put o.dst (.slice A' (n + m) c')) w') : wpList P ops Q (o :: rest) a w :=
  wpList_plain hgd fun _ hK => wp_appN w s x t ho base e i z size bytes ht hi hz hsize hby hzs hsz v n xs hs hown A m c news hx hr h1 h63 hbytes hbase fun A' c' w' h2 h3 h4 => hK _ _ (h A' c' w' h2 h3 h4)
theorem fit_few (L rest : Nat) (K T : List Nat) : (fitL L rest K T).length ≤ (Tt.codes L rest K).length := by
  unfold fitL
  have h := List.length_filter_le (fitN L rest K T) (List.range (Tt.codes L rest K).length)
  rwa [List.length_range] at h
theorem zr_at (qs : List (Nat × Nat)) (i : Nat) (h : i < qs.length) : ((zr qs)[i]'(by rw [zr_len]; exact h)) = ((qs[i].1 : Int), (qs[i].2 : Int)) := by unfold zr; rw [List.getElem_map]
theorem kind_two {l rest : Nat} {k : List Nat} (hd : OkD l rest k) {T : List Nat} (hT : T.length = k.length) (hTt : ∀ t, t ∈ T → 1 ≤ t ∧ t < 2 ^ l) {qs : List (Nat × Nat)} (hq : Tt.okSold (Tt.codes l rest k).length 0 qs = true) (hl : qs.length ≤ 10) (A : Option Addr) (c : Nat) (Y : Option Addr) (yc : Nat) (D : Option Addr) (dc : Nat) (w' : World) (hA : I64 w' A (zs k)) (hY : I64 w' Y (zs T)) (hD : Rng w' D (zr qs)) : Calls Try.prog 28 #[.agg #[.int .i64 (l : Nat), .int .i64 (k.length : Nat), .slice A k.length c, .int .i64 (rest : Nat)], .slice Y T.length yc, .slice D (zr qs).length dc] w' (Gives w' (.tuple #[.int .i64 (kdN (fitL l rest k T).length (canN l rest k T qs).length), .int .i64 0])) := by
  have h := c_kind hd hT hTt hq hl A c Y yc D dc w' hA hY hD
  rwa [kind_eq] at h
set_option maxRecDepth 100000 in
theorem paid_two {l rest : Nat} {k : List Nat} (hd : OkD l rest k) {T1 T2 : List Nat} (hTT : ∀ T, T ∈ [T1, T2] → T.length = k.length ∧ ∀ t, t ∈ T → 1 ≤ t ∧ t < 2 ^ l) {ls : List (Nat × Nat)} (ho : Tt.okSold (Tt.codes l rest k).length 0 ls = true) (hl : ls.length ≤ 10) (A : Option Addr) (c : Nat) (Y1 : Option Addr) (c1 : Nat) (Y2 : Option Addr) (c2 : Nat) (D : Option Addr) (dc : Nat) (w' : World) (hA : I64 w' A (zs k)) (h1 : I64 w' Y1 (zs T1)) (h2 : I64 w' Y2 (zs T2)) (hD : Rng w' D (zr ls)) : Calls Try.prog 41 #[.agg #[.int .i64 (l : Nat), .int .i64 (k.length : Nat), .slice A k.length c, .int .i64 (rest : Nat)], .slice (some ⟨w'.heap.size, 0, none⟩) 2 2, .slice D (zr ls).length dc] (w'.alloc (.cells #[.slice Y1 T1.length c1, .slice Y2 T2.length c2] 22)) (fun e w'' => ∃ (xs : List Int) (P : Option Addr) (pc : Nat), e = .returned (.tuple #[.slice P xs.length pc, .int .i64 0]) ∧ Below w'.heap.size w' w'' ∧ I64 w'' P xs ∧ PaySays (l : Nat) (k.length : Nat) (rest : Nat) (zs k) ([T1, T2].map zs) (zr ls) xs (leastI l rest k [T1, T2] (zr ls) 2)) := by
  have hb : Below w'.heap.size w' (w'.alloc (.cells #[.slice Y1 T1.length c1, .slice Y2 T2.length c2] 22)) := below_alloc (Below.refl _ _) (Nat.le_refl _) _
  have hk := chkSold_of ho hl
  have h0 := (claims_fine l rest k hd [T1, T2] ls (by simp) (by rw [zr_len]; omega) (by simp) hTT hk (clm_fine (by simp) hTT hk)).1
  have h := h0.2.2.2 A c (some ⟨w'.heap.size, 0, none⟩) [(Y1, zs T1, c1), (Y2, zs T2, c2)] 2 D dc _ (hA.ext hb) (Lst.two c1 c2 22 h1 h2) rfl (hD.ext hb)
  rw [zs_len] at h
  refine h.mono fun e w'' hg => ?_
  obtain ⟨xs, ⟨P, pc, rfl, hb2, hP⟩, _, _, hx⟩ := hg
  exact ⟨xs, P, pc, rfl, below_step hb hb2 hb.size, hP, hx rfl⟩
set_option maxRecDepth 100000 in
theorem isp_two {l rest : Nat} {k : List Nat} {T1 T2 : List Nat} {ls : List (Nat × Nat)} {xs : List Int} {v : Int} (h0 : PaySays (l : Nat) (k.length : Nat) (rest : Nat) (zs k) ([T1, T2].map zs) (zr ls) xs v) (A : Option Addr) (c : Nat) (Y1 : Option Addr) (c1 : Nat) (Y2 : Option Addr) (c2 : Nat) (D : Option Addr) (dc : Nat) (Sa : Option Addr) (sc : Nat) (w' : World) (hA : I64 w' A (zs k)) (h1 : I64 w' Y1 (zs T1)) (h2 : I64 w' Y2 (zs T2)) (hD : Rng w' D (zr ls)) (hS : I64 w' Sa xs) : Calls Try.prog 44 #[.agg #[.int .i64 (l : Nat), .int .i64 (k.length : Nat), .slice A k.length c, .int .i64 (rest : Nat)], .slice (some ⟨w'.heap.size, 0, none⟩) 2 2, .slice D ls.length dc, .slice Sa xs.length sc] (w'.alloc (.cells #[.slice Y1 T1.length c1, .slice Y2 T2.length c2] 22)) (fun e w'' => e = .returned (.tuple #[.int .i64 v, .bool true]) ∧ Below w'.heap.size w' w'') := by
  have hb : Below w'.heap.size w' (w'.alloc (.cells #[.slice Y1 T1.length c1, .slice Y2 T2.length c2] 22)) := below_alloc (Below.refl _ _) (Nat.le_refl _) _
  have h := h0 A c (some ⟨w'.heap.size, 0, none⟩) [(Y1, zs T1, c1), (Y2, zs T2, c2)] 2 D dc Sa sc _ (hA.ext hb) (Lst.two c1 c2 22 h1 h2) rfl (hD.ext hb) (hS.ext hb)
  rw [zs_len, zr_len] at h
  refine h.mono fun e w'' hg => ?_
  obtain ⟨rfl, hb2⟩ := hg
  exact ⟨rfl, below_step hb (ex_below hb2) hb.size⟩
theorem orK_lt64 {l : List (List Nat)} (h : ∀ w, w ∈ l → ∀ c, c ∈ w → c < 6) (p : Nat) : orK l p < 64 := by
  refine Nat.lt_pow_two_of_testBit (n := 6) _ fun i hi => ?_
  rw [orK_bit, List.any_eq_false]
  intro v hv
  rw [List.getD_eq_getElem?_getD]
  cases hp : v[p]? with
  | none => simp; omega
  | some c => have := h v hv c (List.mem_of_getElem? hp); simp; omega
theorem more_sure {L rest : Nat} {K T : List Nat} {p tp m x : Nat} (hL : L ≤ 6) (hT : T.length = K.length) (hp : p < T.length) (htp : T[p] = tp) (hx : x = tp ||| m) :
    ((fitL L rest K T).length = 0 ∧ (if (fitL L rest K T).length = 0 then (21 : Int) else 0) = 21) ∨ ((fitL L rest K T).length ≠ 0 ∧ (if (fitL L rest K T).length = 0 then (21 : Int) else 0) = 0 ∧ (if (fitL L rest K (T.set p x)).length = 0 then (21 : Int) else 0) = 0 ∧ ∃ S1 S2 : List Nat, (if (fitL L rest K T).length = 0 then ([] : List Int) else zs (orL K.length ((Tt.codes L rest K).filter (Tt.fitsW T)))) = zs S1 ∧ (if (fitL L rest K (T.set p x)).length = 0 then ([] : List Int) else zs (orL K.length ((Tt.codes L rest K).filter (Tt.fitsW (T.set p x))))) = zs S2 ∧ S1.length = K.length ∧ S2.length = K.length ∧ ∀ j, (h1 : j < S1.length) → (h2 : j < S2.length) → S1[j] &&& S2[j] = S1[j] ∧ S1[j] < 64 ∧ S2[j] < 64) := by
  by_cases hz : (fitL L rest K T).length = 0
  · exact .inl ⟨hz, if_pos hz⟩
  · have hm := (more_fits (L := L) (rest := rest) (m := m) [] hT hp).1
    rw [htp, ← hx] at hm
    have hz2 : (fitL L rest K (T.set p x)).length ≠ 0 := by omega
    have h6 : ∀ T' : List Nat, ∀ w, w ∈ (Tt.codes L rest K).filter (Tt.fitsW T') → ∀ c, c ∈ w → c < 6 := fun T' w hw c hc => by
      obtain ⟨_, h, _⟩ := codes_sum (List.mem_filter.1 hw).1
      have := h c hc
      omega
    refine .inr ⟨hz, if_neg hz, if_neg hz2, _, _, if_neg hz, if_neg hz2, orL_len _ _, orL_len _ _, fun j h1 h2 => ?_⟩
    rw [orL_len] at h1
    rw [orL_at _ _ _ h1, orL_at _ _ _ h1]
    refine ⟨orK_more (fun w hw => ?_) j, orK_lt64 (h6 T) j, orK_lt64 (h6 _) j⟩
    obtain ⟨m1, m2⟩ := List.mem_filter.1 hw
    obtain ⟨w1, _, _⟩ := codes_sum m1
    refine List.mem_filter.2 ⟨m1, ?_⟩
    have h := fits_more (m := m) (hT.trans w1.symm) hp m2
    rwa [htp, ← hx] at h
theorem cut_sub {α : Type} (l : List α) (i : Nat) : (l.take i ++ l.drop (i + 1)).Sublist l := by
  have h : (l.take i ++ l.drop (i + 1)).Sublist (l.take i ++ l.drop i) := by
    refine List.Sublist.append (List.Sublist.refl _) ?_
    rw [← List.drop_drop]
    exact List.drop_sublist 1 _
  rwa [List.take_append_drop] at h
theorem rng_drop2 {w : World} {b o : Nat} {qs : List (Nat × Nat)} {dc : Nat} (h : Rng w (some ⟨b, o, none⟩) (zr qs)) (i : Nat) (hi : i ≤ qs.length) (hdc : qs.length ≤ dc) : Rd w 2 (if dc = i then some ⟨b, o, none⟩ else some ⟨b, o + i * 2, none⟩) (qs.length - i) (rngC ((zr qs).drop i)) := by
  have h2 := rng_drop h i (by rw [zr_len]; exact hi)
  rw [zr_len] at h2
  by_cases e : dc = i
  · exact ⟨h2.1, fun hm => by omega⟩
  · rw [if_neg e]; exact h2
theorem rngC_one (ps : List (Int × Int)) : ∀ u ∈ rngC ps, u.oneCell' = true := fun u hu => by
  unfold rngC at hu
  obtain ⟨x, _, h⟩ := List.mem_flatMap.1 hu
  rcases List.mem_cons.1 h with rfl | h
  · rfl
  · rw [List.mem_singleton.1 h]; rfl
theorem sh_num {P : Nat} (h4 : 4 ≤ P) (h6 : P ≤ 64) : wrap64 (P : Int) = (P : Int) ∧ IntKind.i64.wrap (P : Int) = (P : Int) ∧ wrap64 ((P : Int) - 1) = ((P - 1 : Nat) : Int) ∧ IntKind.i64.wrap ((P : Int) - 1) = ((P - 1 : Nat) : Int) := by
  refine ⟨by simp only [wrap64]; omega, by rw [IntKind.wrap_i64]; omega, by simp only [wrap64]; omega, by rw [IntKind.wrap_i64]; omega⟩
theorem sh_facts {l : Nat} (h2 : 2 ≤ l) (h6 : l ≤ 6) : ∃ P : Nat, 2 ^ l = P ∧ P ≤ 64 ∧ 4 ≤ P ∧ Hid (wrap64 (2 ^ l) = (P : Int) ∧ IntKind.i64.wrap (2 ^ l) = (P : Int) ∧ wrap64 ((P : Int) - 1) = ((P - 1 : Nat) : Int) ∧ IntKind.i64.wrap ((P : Int) - 1) = ((P - 1 : Nat) : Int)) := by
  have e : ((2 : Int) ^ l) = ((2 ^ l : Nat) : Int) := by push_cast; rfl
  have hpw : 2 ^ l ≤ 64 := Nat.pow_le_pow_right (n := 2) (by decide) h6
  have hp4 : 4 ≤ 2 ^ l := Nat.pow_le_pow_right (n := 2) (by decide) h2
  obtain ⟨s1, s2, s3, s4⟩ := sh_num hp4 hpw
  exact ⟨2 ^ l, rfl, hpw, hp4, hide ⟨by rw [e]; exact s1, by rw [e]; exact s2, s3, s4⟩⟩
theorem iw {x : Int} (h : -9223372036854775808 ≤ x ∧ x ≤ 9223372036854775807) : IntKind.i64.wrap x = x := by rw [IntKind.wrap_i64]; omega
set_option maxRecDepth 100000 in
set_option maxHeartbeats 8000000 in
theorem more_law (L n r : Int) (A : Option Addr) (K : List Int) (c : Nat) (B : Option Addr) (bs : List Nat) (bc : Nat) (pl lt : Nat) (S : Option Addr) (ss : List Nat) (sc : Nat) (ot : Nat) (w : World) (hA : I64 w A K) (hBy : U8 w B bs) (hSy : U8 w S ss) (hl9 : K.length ≤ 9223372036854775807) (hb9 : bs.length ≤ 9223372036854775807) (hs9 : ss.length ≤ 9223372036854775807) (hpl : pl < 256) (hlt : lt < 256) (hot : ot < 256) : Calls Try.prog 12 #[.agg #[.int .i64 L, .int .i64 n, .slice A K.length c, .int .i64 r], .slice B bs.length bc, .int .u8 (pl : Nat), .int .u8 (lt : Nat), .slice S ss.length sc, .int .u8 (ot : Nat)] w (Gives w (.bool true)) := by
  obtain ⟨ti, ih, iz, is, ib⟩ := info_parts infoR
  obtain ⟨b, hb, hF⟩ := fine_any L n r K hl9
  have HF := hide hF
  clear hF
  cases b with
  | false =>
    clear hb
    go_enter Try.func12, Try.ntmps12
    go_upto_region 1 with fail
    have hW : Below w.heap.size w (w.alloc (.cells #[.int .i64 L, .int .i64 n, .slice A K.length c, .int .i64 r] 24)) := below_alloc (Below.refl _ _) (Nat.le_refl _) _
    have hX : BlkAt (w.alloc (.cells #[.int .i64 L, .int .i64 n, .slice A K.length c, .int .i64 r] 24)) w.heap.size #[.int .i64 L, .int .i64 n, .slice A K.length c, .int .i64 r] 24 := heap_alloc_new _ _
    obtain ⟨wa, hwa⟩ : ∃ wa, (w.alloc (.cells #[.int .i64 L, .int .i64 n, .slice A K.length c, .int .i64 r] 24)) = wa := ⟨_, rfl⟩
    rw [hwa] at hW hX ⊢
    clear hwa
    replace hA := hA.ext hW
    have q0 := obj_at hX 0 _ rfl
    have q1 := obj_at hX 1 _ rfl
    have q2 := obj_at hX 2 _ rfl
    have q3 := obj_at hX 3 _ rfl
    have ql := obj_lt hX
    have hWs := hW.size
    have tok0 : True := trivial
    go_wp2_with (first
        | (clear tok0; go_at_call 45; refine (HF.out A c _ hA).mono ?_; rintro e u1 ⟨rfl, hb1⟩; replace hb1 := ex_below hb1; have hB1 := below_step hW hb1 hW.size; have hA_1 := hA.ext hb1; have hX_1 := hX.ext hb1; clear q0 q1 q2 q3 ql; obtain ⟨q0, q1, q2, q3, ql⟩ := box4 hX_1; have tok1 : True := trivial)
        | (clear tok1; go_at_call 17; refine (works_any _).mono ?_; rintro e u2 ⟨rfl, hb2⟩; replace hb2 := ex_below hb2; have hB2 := below_step hB1 hb2 hB1.size; have hA_2 := hA_1.ext hb2; have hX_2 := hX_1.ext hb2; clear q0 q1 q2 q3 ql; obtain ⟨q0, q1, q2, q3, ql⟩ := box4 hX_2; have tok2 : True := trivial))
    go_ret
    exact gives_of rfl hB2
  | true =>
    obtain ⟨l, rest, k, rfl, rfl, rfl, rfl, hd, _⟩ := hb rfl
    clear hb
    rw [zs_len] at HF hl9 ⊢
    by_cases h20 : 20 < bs.length
    · have h20i : (20 : Int) < (bs.length : Int) := by omega
      clear hd
      go_enter Try.func12, Try.ntmps12
      go_upto_region 1 with fail
      have hW : Below w.heap.size w (w.alloc (.cells #[.int .i64 (l : Nat), .int .i64 (k.length : Nat), .slice A k.length c, .int .i64 (rest : Nat)] 24)) := below_alloc (Below.refl _ _) (Nat.le_refl _) _
      have hX : BlkAt (w.alloc (.cells #[.int .i64 (l : Nat), .int .i64 (k.length : Nat), .slice A k.length c, .int .i64 (rest : Nat)] 24)) w.heap.size #[.int .i64 (l : Nat), .int .i64 (k.length : Nat), .slice A k.length c, .int .i64 (rest : Nat)] 24 := heap_alloc_new _ _
      obtain ⟨wa, hwa⟩ : ∃ wa, (w.alloc (.cells #[.int .i64 (l : Nat), .int .i64 (k.length : Nat), .slice A k.length c, .int .i64 (rest : Nat)] 24)) = wa := ⟨_, rfl⟩
      rw [hwa] at hW hX ⊢
      clear hwa
      replace hA := hA.ext hW
      have q0 := obj_at hX 0 _ rfl
      have q1 := obj_at hX 1 _ rfl
      have q2 := obj_at hX 2 _ rfl
      have q3 := obj_at hX 3 _ rfl
      have ql := obj_lt hX
      have hWs := hW.size
      have tok0 : True := trivial
      go_wp2_with (first
          | (clear tok0; go_at_call 45; refine (HF.out A c _ hA).mono ?_; rintro e u1 ⟨rfl, hb1⟩; replace hb1 := ex_below hb1; have hB1 := below_step hW hb1 hW.size; have hA_1 := hA.ext hb1; have hX_1 := hX.ext hb1; clear q0 q1 q2 q3 ql; obtain ⟨q0, q1, q2, q3, ql⟩ := box4 hX_1; have tok1 : True := trivial)
          | (clear tok1; go_at_call 17; refine (works_any _).mono ?_; rintro e u2 ⟨rfl, hb2⟩; replace hb2 := ex_below hb2; have hB2 := below_step hB1 hb2 hB1.size; have hA_2 := hA_1.ext hb2; have hX_2 := hX_1.ext hb2; clear q0 q1 q2 q3 ql; obtain ⟨q0, q1, q2, q3, ql⟩ := box4 hX_2; have tok2 : True := trivial))
      go_ret
      exact gives_of rfl hB2
    · have h20i : ¬ ((20 : Int) < (bs.length : Int)) := by omega
      by_cases h30 : 30 < ss.length
      · have h30i : (30 : Int) < (ss.length : Int) := by omega
        clear hd
        go_enter Try.func12, Try.ntmps12
        go_upto_region 1 with fail
        have hW : Below w.heap.size w (w.alloc (.cells #[.int .i64 (l : Nat), .int .i64 (k.length : Nat), .slice A k.length c, .int .i64 (rest : Nat)] 24)) := below_alloc (Below.refl _ _) (Nat.le_refl _) _
        have hX : BlkAt (w.alloc (.cells #[.int .i64 (l : Nat), .int .i64 (k.length : Nat), .slice A k.length c, .int .i64 (rest : Nat)] 24)) w.heap.size #[.int .i64 (l : Nat), .int .i64 (k.length : Nat), .slice A k.length c, .int .i64 (rest : Nat)] 24 := heap_alloc_new _ _
        obtain ⟨wa, hwa⟩ : ∃ wa, (w.alloc (.cells #[.int .i64 (l : Nat), .int .i64 (k.length : Nat), .slice A k.length c, .int .i64 (rest : Nat)] 24)) = wa := ⟨_, rfl⟩
        rw [hwa] at hW hX ⊢
        clear hwa
        replace hA := hA.ext hW
        have q0 := obj_at hX 0 _ rfl
        have q1 := obj_at hX 1 _ rfl
        have q2 := obj_at hX 2 _ rfl
        have q3 := obj_at hX 3 _ rfl
        have ql := obj_lt hX
        have hWs := hW.size
        have tok0 : True := trivial
        go_wp2_with (first
            | (clear tok0; go_at_call 45; refine (HF.out A c _ hA).mono ?_; rintro e u1 ⟨rfl, hb1⟩; replace hb1 := ex_below hb1; have hB1 := below_step hW hb1 hW.size; have hA_1 := hA.ext hb1; have hX_1 := hX.ext hb1; clear q0 q1 q2 q3 ql; obtain ⟨q0, q1, q2, q3, ql⟩ := box4 hX_1; have tok1 : True := trivial)
            | (clear tok1; go_at_call 17; refine (works_any _).mono ?_; rintro e u2 ⟨rfl, hb2⟩; replace hb2 := ex_below hb2; have hB2 := below_step hB1 hb2 hB1.size; have hA_2 := hA_1.ext hb2; have hX_2 := hX_1.ext hb2; clear q0 q1 q2 q3 ql; obtain ⟨q0, q1, q2, q3, ql⟩ := box4 hX_2; have tok2 : True := trivial))
        go_ret
        exact gives_of rfl hB2
      · have h30i : ¬ ((30 : Int) < (ss.length : Int)) := by omega
        have hl2 := hd.1
        have hl6 := hd.2.1
        have hk2 := hd.2.2.1
        have hk8 := hd.2.2.2.1
        have HN := hide (fun w' (h : I64 w' A (zs k)) => count_any l rest A k c w' hd h)
        have HT := hide (fun w' (h : I64 w' A (zs k)) (hU : U8 w' B bs) => torn_any l rest A k c B bs bc w' hd h hU)
        have hTl := tornL_len l k.length bs
        have hTi := tornL_in hl2 k.length bs
        have hcnt : (Tt.codes l rest k).length ≤ 1679616 := by
          have h3 := Tt.cnt_small (L := l) (rest := rest) (ps := k.zip (Tt.fulls l k.length)) (la := -1) (s := 0) hl6 (by rw [List.length_zip]; omega)
          rwa [cnt_codes] at h3
        have HSD := hide (fun w' (hU : U8 w' S ss) => sold_cap (Tt.codes l rest k).length S ss sc w' hcnt hU (by omega))
        obtain ⟨hok, hq10⟩ := soldL_ok (Tt.codes l rest k).length 10 0 ss
        have hp := Nat.mod_lt pl (show k.length > 0 by omega)
        have hremp := rem_nat pl k.length
        obtain ⟨p, hpe⟩ : ∃ p, pl % k.length = p := ⟨_, rfl⟩
        rw [hpe] at hp hremp
        clear hpe
        have hkk : ¬ (k.length = 0) := by omega
        have hkki : ¬ ((k.length : Int) = 0) := by omega
        generalize tornL l k.length bs = T at *
        generalize soldL (Tt.codes l rest k).length 10 0 ss = qs at *
        have hpT0 : p < T.length := by rw [hTl]; exact hp
        obtain ⟨tp, htp⟩ : ∃ v, T[p]'hpT0 = v := ⟨_, rfl⟩
        have htp0 := hTi _ (List.getElem_mem hpT0)
        rw [htp] at htp0
        have hT2i : ∀ t, t ∈ T.set p (tp ||| (lt &&& (2 ^ l - 1))) → 1 ≤ t ∧ t < 2 ^ l := fun t ht => by
          rcases List.mem_or_eq_of_mem_set ht with h | rfl
          · exact hTi t h
          · exact ⟨Nat.le_trans htp0.1 Nat.left_le_or, Nat.or_lt_two_pow htp0.2 (Nat.lt_of_le_of_lt Nat.and_le_right (Nat.sub_lt (Nat.two_pow_pos l) Nat.zero_lt_one))⟩
        have hT2l : (T.set p (tp ||| (lt &&& (2 ^ l - 1)))).length = k.length := by rw [List.length_set]; exact hTl
        have hmf := more_fits (L := l) (rest := rest) (m := lt &&& (2 ^ l - 1)) qs hTl hpT0
        rw [htp] at hmf
        obtain ⟨P, hP, hpw, hp4, HSHX⟩ := sh_facts hl2 hl6
        have htpP : tp < P := by rw [← hP]; exact htp0.2
        have hand := bAndB (P - 1) (by omega) lt hlt
        have htp64 : tp < 64 := Nat.lt_of_lt_of_le htpP hpw
        have hor := bOrB tp htp64 (lt &&& (P - 1)) (Nat.lt_of_le_of_lt Nat.and_le_right (by omega))
        rw [← hP] at hand hor
        have HTP := hide htp
        obtain ⟨m, hm⟩ : ∃ v, lt &&& (2 ^ l - 1) = v := ⟨_, rfl⟩
        rw [hm] at hand hor hT2i hT2l hmf
        obtain ⟨x, hx⟩ : ∃ v, tp ||| m = v := ⟨_, rfl⟩
        rw [hx] at hor hT2i hT2l hmf
        rw [hP] at hand
        have HAND := hide hand
        have HOR := hide hor
        have HX0 := hide (show x = tp ||| m from hx.symm)
        clear hx hm htp0 hP htp hand hor
        have hT8 : T.length ≤ 8 := by omega
        have hT2 : 2 ≤ T.length := by omega
        have HTL := hide hTl
        have hTT : ∀ T', T' ∈ [T, T.set p x] → T'.length = k.length ∧ ∀ t, t ∈ T' → 1 ≤ t ∧ t < 2 ^ l := fun T' h => by
          rcases List.mem_cons.1 h with rfl | h
          · exact ⟨hTl, hTi⟩
          · rw [List.mem_singleton.1 h]; exact ⟨hT2l, hT2i⟩
        have HFA := hide (fun Y yc D dc w' (h : I64 w' A (zs k)) (hY : I64 w' Y (zs T)) hD => c_fits hd hTl hTi hok hq10 A c Y yc D dc w' h hY hD)
        have HFB := hide (fun Y yc D dc w' (h : I64 w' A (zs k)) (hY : I64 w' Y (zs (T.set p x))) hD => c_fits hd hT2l hT2i hok hq10 A c Y yc D dc w' h hY hD)
        have HS1 := hide (fun Y yc w' (h : I64 w' A (zs k)) (hY : I64 w' Y (zs T)) => c_sure hd hTl hTi A c Y yc w' h hY)
        have HS2 := hide (fun Y yc w' (h : I64 w' A (zs k)) (hY : I64 w' Y (zs (T.set p x))) => c_sure hd hT2l hT2i A c Y yc w' h hY)
        have HKL := hide (fun ls (ho : Tt.okSold (Tt.codes l rest k).length 0 ls = true) (hl : ls.length ≤ 10) Y yc D dc w' (h : I64 w' A (zs k)) (hY : I64 w' Y (zs T)) (hD : Rng w' D (zr ls)) => kind_two hd hTl hTi ho hl A c Y yc D dc w' h hY hD)
        have HPD := hide (fun ls (ho : Tt.okSold (Tt.codes l rest k).length 0 ls = true) (hl : ls.length ≤ 10) Y1 c1 Y2 c2 D dc w' (h : I64 w' A (zs k)) (h1 : I64 w' Y1 (zs T)) (h2 : I64 w' Y2 (zs (T.set p x))) (hD : Rng w' D (zr ls)) => paid_two hd hTT ho hl A c Y1 c1 Y2 c2 D dc w' h h1 h2 hD)
        have HIP := hide (fun ls xs v (h0 : PaySays (l : Nat) (k.length : Nat) (rest : Nat) (zs k) ([T, T.set p x].map zs) (zr ls) xs v) Y1 c1 Y2 c2 D dc Sa sc w' (h : I64 w' A (zs k)) (h1 : I64 w' Y1 (zs T)) (h2 : I64 w' Y2 (zs (T.set p x))) (hD : Rng w' D (zr ls)) (hS : I64 w' Sa xs) => isp_two h0 A c Y1 c1 Y2 c2 D dc Sa sc w' h h1 h2 hD hS)
        have HLE := hide (fun (ls : List (Nat × Nat)) (h : ls.Sublist qs) => less_least (L := l) (rest := rest) (K := k) (Ts := [T, T.set p x]) h 2)
        have HKM := hide (fun (ls : List (Nat × Nat)) (h : ls.Sublist qs) => kd_mono (a := (fitL l rest k T).length) (less_can (L := l) (rest := rest) (K := k) (T := T) h))
        have HOS := hide (fun (ls : List (Nat × Nat)) (h : List.Sublist ls qs) => okSold_sub h (Nat.le_refl 0) hok)
        have HC := hide (more_sure (L := l) (rest := rest) (K := k) hl6 hTl hpT0 HTP.out HX0.out)
        rw [zr_len] at HFA HFB
        rw [List.length_set] at HFB HS2 HPD HIP
        have hn1 : (fitL l rest k T).length ≤ 1679616 := Nat.le_trans (fit_few _ _ _ _) hcnt
        have hn2 : (fitL l rest k (T.set p x)).length ≤ 1679616 := Nat.le_trans (fit_few _ _ _ _) hcnt
        obtain ⟨hmf1, hmf2⟩ := hmf
        have HOK := hide hok
        clear hTl hTi hT2i hT2l hok hd hTT HX0
        obtain ⟨N, hN⟩ : ∃ v, (Tt.codes l rest k).length = v := ⟨_, rfl⟩
        rw [hN] at HN HSD hcnt HKL HPD HOS HOK
        clear hN
        generalize (if (fitL l rest k T).length = 0 then ([] : List Int) else zs (orL k.length ((Tt.codes l rest k).filter (Tt.fitsW T)))) = XS1 at *
        generalize (if (fitL l rest k T).length = 0 then (21 : Int) else 0) = E1 at *
        generalize (if (fitL l rest k (T.set p x)).length = 0 then ([] : List Int) else zs (orL k.length ((Tt.codes l rest k).filter (Tt.fitsW (T.set p x))))) = XS2 at *
        generalize (if (fitL l rest k (T.set p x)).length = 0 then (21 : Int) else 0) = E2 at *
        go_enter Try.func12, Try.ntmps12
        go_upto_region 1 with fail
        have hW : Below w.heap.size w (w.alloc (.cells #[.int .i64 (l : Nat), .int .i64 (k.length : Nat), .slice A k.length c, .int .i64 (rest : Nat)] 24)) := below_alloc (Below.refl _ _) (Nat.le_refl _) _
        have hX : BlkAt (w.alloc (.cells #[.int .i64 (l : Nat), .int .i64 (k.length : Nat), .slice A k.length c, .int .i64 (rest : Nat)] 24)) w.heap.size #[.int .i64 (l : Nat), .int .i64 (k.length : Nat), .slice A k.length c, .int .i64 (rest : Nat)] 24 := heap_alloc_new _ _
        obtain ⟨wa, hwa⟩ : ∃ wa, (w.alloc (.cells #[.int .i64 (l : Nat), .int .i64 (k.length : Nat), .slice A k.length c, .int .i64 (rest : Nat)] 24)) = wa := ⟨_, rfl⟩
        rw [hwa] at hW hX ⊢
        clear hwa
        replace hA := hA.ext hW
        have q0 := obj_at hX 0 _ rfl
        have q1 := obj_at hX 1 _ rfl
        have q2 := obj_at hX 2 _ rfl
        have q3 := obj_at hX 3 _ rfl
        have ql := obj_lt hX
        have hWs := hW.size
        have hU := hBy.ext hW
        have hV := hSy.ext hW
        have tok0 : True := trivial
        go_upto_region 6 with (first
            | (clear tok0; go_at_call 45; refine (HF.out A c _ hA).mono ?_; rintro e u1 ⟨rfl, hb1⟩; replace hb1 := ex_below hb1; have hB1 := below_step hW hb1 hW.size; have hA_1 := hA.ext hb1; have hU_1 := hU.ext hb1; have hV_1 := hV.ext hb1; have hX_1 := hX.ext hb1; clear q0 q1 q2 q3 ql; obtain ⟨q0, q1, q2, q3, ql⟩ := box4 hX_1; have tok1 : True := trivial)
            | (clear tok1; go_at_call 46; refine (HT.out _ hA_1 hU_1).mono ?_; rintro e u2 ⟨Y, yc, rfl, hb2, hY⟩; have hB2 := below_step hB1 hb2 hB1.size; have hA_2 := hA_1.ext hb2; have hU_2 := hU_1.ext hb2; have hV_2 := hV_1.ext hb2; have hX_2 := hX_1.ext hb2; clear q0 q1 q2 q3 ql; obtain ⟨q0, q1, q2, q3, ql⟩ := box4 hX_2; have tok2 : True := trivial)
            | (clear tok2; go_at_call 47; refine (HN.out _ hA_2).mono ?_; rintro e u3 ⟨rfl, hb3⟩; replace hb3 := ex_below hb3; have hB3 := below_step hB2 hb3 hB2.size; have hA_3 := hA_2.ext hb3; have hU_3 := hU_2.ext hb3; have hV_3 := hV_2.ext hb3; have hY_3 := hY.ext hb3; have hX_3 := hX_2.ext hb3; clear q0 q1 q2 q3 ql; obtain ⟨q0, q1, q2, q3, ql⟩ := box4 hX_3; have tok3 : True := trivial)
            | (clear tok3; go_at_call 48; refine (HSD.out _ hV_3).mono ?_; rintro e u4 ⟨D, dc, rfl, hb4, hD, hdc⟩; have hB4 := below_step hB3 hb4 hB3.size; have hA_4 := hA_3.ext hb4; have hU_4 := hU_3.ext hb4; have hV_4 := hV_3.ext hb4; have hY_4 := hY_3.ext hb4; have hX_4 := hX_3.ext hb4; clear q0 q1 q2 q3 ql; obtain ⟨q0, q1, q2, q3, ql⟩ := box4 hX_4; rw [zr_len]; have tok4 : True := trivial))
        clear tok4
        rw [zr_len] at hdc
        obtain ⟨tk, jh, jz, js, jb⟩ := info_parts info3k
        have hpT : p < T.length := by rw [HTL.out]; exact hp
        obtain ⟨yb, yo, rfl, hyb⟩ := (hY_4).form (by rw [zs_len]; omega)
        go_upto_region 7 with (first
          | (at_builtin; refine wpList_appN _ rfl (.tmp 68) (.tmp 69) 22 rfl u4.heap.size 3 tk _ 1 8 und22k jh jz js jb rfl (by decide) (.slice (some ⟨u4.heap.size, 0, none⟩) 0 0) 0 [] rfl (own_lit0 (heap_alloc_new _ _) (Nat.le_refl _)) (some ⟨yb, yo, none⟩) T.length yc ((zs T).map (Value.int .i64)) rfl (rd_zs (hY_4.ext (below_alloc (Below.refl _ _) (Nat.le_refl _) _))) (fun u hu => by obtain ⟨x, _, rfl⟩ := List.mem_map.1 hu; rfl) (by unfold maxLen; omega) (by omega) (by simp) ?_; intro A7 c7 u7 hown7 hgr7 far7; have hb7 : Below u4.heap.size u4 u7 := gb_below (below_alloc (Below.refl _ _) (Nat.le_refl _) _) hgr7 (by simp) (fun r e => by cases e; exact Nat.le_refl _)))
        simp only [Nat.zero_add, List.nil_append] at hown7
        have hY7 := hY_4.ext hb7
        have hX7 := hX_4.ext hb7
        have hA7 := hA_4.ext hb7
        have hD7 := hD.ext hb7
        have hz7 := hb7.size
        have hB7 := below_step hB4 hb7 hB4.size
        obtain ⟨ga, rfl, hga1, hga2, hfa⟩ := own_blk hown7 (by omega)
        have hIa := own_i64 hown7
        have hfpa := hfa p
        have hca := hIa.at (k := p) (by rw [zs_len]; exact hpT)
        rw [Nat.zero_add] at hca
        have hcl := hY7.at (k := p) (by rw [zs_len]; exact hpT)
        rw [zs_at T p hpT, HTP.out] at hcl
        clear q0 q1 q2 q3 ql hown7 hgr7 far7 hfa
        have hand := HAND.out
        have hor := HOR.out
        obtain ⟨hsh, hsh2, hsub, hsub2⟩ := HSHX.out
        obtain ⟨q0, q1, q2, q3, ql⟩ := box4 hX7
        have hyl : yb < u7.heap.size := Nat.lt_of_lt_of_le hyb hz7
        refine wp_region_grow_tail 15 (by kernel_rfl) (by kernel_rfl) ?_
        simp only [List.take_succ_cons, List.take_zero, List.drop_succ_cons, List.drop_zero]
        repeat (go_big_quiet_step (fail))
        refine wpQuiet_nil ?_
        intro w7 hb8
        replace hb8 := ex_below hb8
        have hcb := (hb8.cell (p := ⟨ga, p, none⟩) hga2).trans hca
        have hfb : w7.frozen? ⟨ga, p, none⟩ = false := (hb8.frozen (p := ⟨ga, p, none⟩) hga2).trans hfpa
        have hIb := hIa.ext hb8
        have hIc := i64_put hIb (p := p) (by rw [zs_len]; exact hpT) (x : Nat)
        rw [zs_set, Nat.zero_add] at hIc
        have hz8 := hb8.size
        have hb78 := below_step hb7 hb8 hb7.size
        have hb9 : Below u4.heap.size u4 (w7.setCell ⟨ga, p, none⟩ (.int .i64 (x : Nat))) := Below.setCell hb78 hga1 _
        have HIC := hide hIc
        have HB9 := hide hb9
        clear hIc hb9 hIb hIa q0 q1 q2 q3 ql
        go_upto_region 8 with fail
        obtain ⟨u9, hu9⟩ : ∃ v, w7.setCell ⟨ga, p, none⟩ (.int .i64 (x : Nat)) = v := ⟨_, rfl⟩
        rw [hu9] at HIC HB9 ⊢
        have hb9 := HB9.out
        have hV9 := HIC.out
        have hA9 := hA_4.ext hb9
        have hY9 := hY_4.ext hb9
        have hX9 := hX_4.ext hb9
        have hD9 := hD.ext hb9
        have hB9 := below_step hB4 hb9 hB4.size
        clear hu9 hcb hfb hb8 hca hfpa hcl hY7 hA7 hD7 hX7 HIC HB9 hb78 hand hor hsh hsub hsh2 hsub2
        obtain ⟨q0, q1, q2, q3, ql⟩ := box4 hX9
        have hLX : (T.set p x).length = T.length := List.length_set
        by_cases hq0 : qs.length = 0
        · have hq0i : ¬ ((qs.length : Int) > 0) := by omega
          have hq0j : ¬ (0 < (qs.length : Int)) := by omega
          go_upto_region 12 with fail
          clear hq0 hq0i hq0j
          have HK1 := hide (fun Y yc D dc w' h hY hD => HKL.out qs HOK.out hq10 Y yc D dc w' h hY hD)
          have HP1 := hide (fun Y1 c1 Y2 c2 D dc w' h h1 h2 hD => HPD.out qs HOK.out hq10 Y1 c1 Y2 c2 D dc w' h h1 h2 hD)
          have HK2 := HK1
          have HP2 := HP1
          have hkm := HKM.out qs (List.Sublist.refl _)
          have hlm := HLE.out qs (List.Sublist.refl _)
          rw [zr_len] at HK1 HK2 HP1 HP2
          clear HKL HPD HKM HLE HOS HOK
          generalize (canN l rest k T qs).length = b1 at *
          generalize (canN l rest k (T.set p x) qs).length = b2 at *
          generalize kdN (fitL l rest k T).length b1 = kA at *
          generalize (fitL l rest k T).length = n1 at *
          generalize (fitL l rest k (T.set p x)).length = n2 at *
          generalize leastI l rest k [T, T.set p x] (zr qs) 2 = lA at *
          skip
          have hc1 : ¬ ((n2 : Int) < (n1 : Int)) := by omega
          have hc2 : ¬ ((b2 : Int) < (b1 : Int)) := by omega
          have hc3 : ¬ (kA < kA) := by omega
          have hc4 : ¬ (lA < lA) := by omega
          clear hkm hlm hmf1 hmf2
          have tok20 : True := trivial
          go_upto_region 26 with (first
              | (clear tok20; go_at_call 26; refine (HFA.out _ _ _ _ _ hA9 hY9 hD9).mono ?_; rintro e u21 ⟨rfl, hb21⟩; replace hb21 := ex_below hb21; have hB21 := below_step hB9 hb21 hB9.size; have hA9_21 := hA9.ext hb21; have hY9_21 := hY9.ext hb21; have hV9_21 := hV9.ext hb21; have hD9_21 := hD9.ext hb21; have hX_21 := hX9.ext hb21; clear q0 q1 q2 q3 ql; obtain ⟨q0, q1, q2, q3, ql⟩ := box4 hX_21; have tok21 : True := trivial)
              | (clear tok21; go_at_call 26; refine (HFB.out _ _ _ _ _ hA9_21 hV9_21 hD9_21).mono ?_; rintro e u22 ⟨rfl, hb22⟩; replace hb22 := ex_below hb22; have hB22 := below_step hB21 hb22 hB21.size; have hA9_22 := hA9_21.ext hb22; have hY9_22 := hY9_21.ext hb22; have hV9_22 := hV9_21.ext hb22; have hD9_22 := hD9_21.ext hb22; have hX_22 := hX_21.ext hb22; clear q0 q1 q2 q3 ql; obtain ⟨q0, q1, q2, q3, ql⟩ := box4 hX_22; have tok22 : True := trivial)
              | (clear tok22; go_at_call 32; refine (HS1.out _ _ _ hA9_22 hY9_22).mono ?_; rintro e u23 ⟨X1, x1c, rfl, hb23, hX1⟩; have hB23 := below_step hB22 hb23 hB22.size; have hA9_23 := hA9_22.ext hb23; have hY9_23 := hY9_22.ext hb23; have hV9_23 := hV9_22.ext hb23; have hD9_23 := hD9_22.ext hb23; have hX_23 := hX_22.ext hb23; clear q0 q1 q2 q3 ql; obtain ⟨q0, q1, q2, q3, ql⟩ := box4 hX_23; have tok23 : True := trivial)
              | (clear tok23; go_at_call 32; refine (HS2.out _ _ _ hA9_23 hV9_23).mono ?_; rintro e u24 ⟨X2, x2c, rfl, hb24, hX2⟩; have hB24 := below_step hB23 hb24 hB23.size; have hA9_24 := hA9_23.ext hb24; have hY9_24 := hY9_23.ext hb24; have hV9_24 := hV9_23.ext hb24; have hD9_24 := hD9_23.ext hb24; have hX1_24 := hX1.ext hb24; have hX_24 := hX_23.ext hb24; clear q0 q1 q2 q3 ql; obtain ⟨q0, q1, q2, q3, ql⟩ := box4 hX_24; have tok24 : True := trivial)
              | (clear tok24; go_at_call 28; refine (HK1.out _ _ _ _ _ hA9_24 hY9_24 hD9_24).mono ?_; rintro e u25 ⟨rfl, hb25⟩; replace hb25 := ex_below hb25; have hB25 := below_step hB24 hb25 hB24.size; have hA9_25 := hA9_24.ext hb25; have hY9_25 := hY9_24.ext hb25; have hV9_25 := hV9_24.ext hb25; have hD9_25 := hD9_24.ext hb25; have hX1_25 := hX1_24.ext hb25; have hX2_25 := hX2.ext hb25; have hX_25 := hX_24.ext hb25; clear q0 q1 q2 q3 ql; obtain ⟨q0, q1, q2, q3, ql⟩ := box4 hX_25; have tok25 : True := trivial)
              | (clear tok25; go_at_call 28; refine (HK2.out _ _ _ _ _ hA9_25 hY9_25 hD9_25).mono ?_; rintro e u26 ⟨rfl, hb26⟩; replace hb26 := ex_below hb26; have hB26 := below_step hB25 hb26 hB25.size; have hA9_26 := hA9_25.ext hb26; have hY9_26 := hY9_25.ext hb26; have hV9_26 := hV9_25.ext hb26; have hD9_26 := hD9_25.ext hb26; have hX1_26 := hX1_25.ext hb26; have hX2_26 := hX2_25.ext hb26; have hX_26 := hX_25.ext hb26; clear q0 q1 q2 q3 ql; obtain ⟨q0, q1, q2, q3, ql⟩ := box4 hX_26; have tok26 : True := trivial)
              | (clear tok26; go_at_call 41; refine (HP1.out _ _ _ _ _ _ _ hA9_26 hY9_26 hV9_26 hD9_26).mono ?_; rintro e u27 ⟨xs1, M1, m1c, rfl, hb27, hM1, hS1⟩; have hB27 := below_step hB26 hb27 hB26.size; have hA9_27 := hA9_26.ext hb27; have hY9_27 := hY9_26.ext hb27; have hV9_27 := hV9_26.ext hb27; have hD9_27 := hD9_26.ext hb27; have hX1_27 := hX1_26.ext hb27; have hX2_27 := hX2_26.ext hb27; have hX_27 := hX_26.ext hb27; clear q0 q1 q2 q3 ql; obtain ⟨q0, q1, q2, q3, ql⟩ := box4 hX_27; have tok27 : True := trivial)
              | (clear tok27; go_at_call 41; refine (HP2.out _ _ _ _ _ _ _ hA9_27 hY9_27 hV9_27 hD9_27).mono ?_; rintro e u28 ⟨xs2, M2, m2c, rfl, hb28, hM2, hS2⟩; have hB28 := below_step hB27 hb28 hB27.size; have hA9_28 := hA9_27.ext hb28; have hY9_28 := hY9_27.ext hb28; have hV9_28 := hV9_27.ext hb28; have hD9_28 := hD9_27.ext hb28; have hX1_28 := hX1_27.ext hb28; have hX2_28 := hX2_27.ext hb28; have hM1_28 := hM1.ext hb28; have hX_28 := hX_27.ext hb28; clear q0 q1 q2 q3 ql; obtain ⟨q0, q1, q2, q3, ql⟩ := box4 hX_28; have tok28 : True := trivial)
              | (clear tok28; go_at_call 44; refine (HIP.out _ _ _ hS1 _ _ _ _ _ _ _ _ _ hA9_28 hY9_28 hV9_28 hD9_28 hM1_28).mono ?_; rintro e u29 ⟨rfl, hb29⟩; have hB29 := below_step hB28 hb29 hB28.size; have hA9_29 := hA9_28.ext hb29; have hY9_29 := hY9_28.ext hb29; have hV9_29 := hV9_28.ext hb29; have hD9_29 := hD9_28.ext hb29; have hX1_29 := hX1_28.ext hb29; have hX2_29 := hX2_28.ext hb29; have hM1_29 := hM1_28.ext hb29; have hM2_29 := hM2.ext hb29; have hX_29 := hX_28.ext hb29; clear q0 q1 q2 q3 ql; obtain ⟨q0, q1, q2, q3, ql⟩ := box4 hX_29; have tok29 : True := trivial)
              | (clear tok29; go_at_call 44; refine (HIP.out _ _ _ hS2 _ _ _ _ _ _ _ _ _ hA9_29 hY9_29 hV9_29 hD9_29 hM2_29).mono ?_; rintro e u30 ⟨rfl, hb30⟩; have hB30 := below_step hB29 hb30 hB29.size; have hA9_30 := hA9_29.ext hb30; have hY9_30 := hY9_29.ext hb30; have hV9_30 := hV9_29.ext hb30; have hD9_30 := hD9_29.ext hb30; have hX1_30 := hX1_29.ext hb30; have hX2_30 := hX2_29.ext hb30; have hM1_30 := hM1_29.ext hb30; have hM2_30 := hM2_29.ext hb30; have hX_30 := hX_29.ext hb30; clear q0 q1 q2 q3 ql; obtain ⟨q0, q1, q2, q3, ql⟩ := box4 hX_30; have tok30 : True := trivial))
          clear tok30
          rcases HC.out with ⟨hz, rfl⟩ | ⟨hz, rfl, rfl, S1, S2, rfl, rfl, hs1, hs2, hsj⟩
          · subst hz
            go_wp2_with (go_at_call 17; refine (works_any _).mono ?_; rintro e w11 ⟨rfl, hbw⟩; replace hbw := ex_below hbw)
            go_ret
            exact gives_of rfl (below_step hB30 hbw hB30.size)
          · have HSJ := hide hsj
            have HSL1 := hide hs1
            have HSL2 := hide hs2
            rw [zs_len, zs_len, hs1, hs2]
            clear hsj hs1 hs2 HC
            obtain ⟨wz, rfl⟩ : ∃ wz : World, wz = u30 := ⟨_, rfl⟩
            go_wp2
            go_loopw [41] (fun jv wr => ∃ j : Nat, j ≤ k.length ∧ jv = .int .i64 (j : Nat) ∧ Below wz.heap.size wz wr) (fun jv _ => k.length - (intOf jv).toNat)
            case atStart => exact ⟨0, Nat.zero_le _, rfl, Below.refl _ _⟩
            case round =>
              obtain ⟨j, hj, rfl, hbr⟩ := hrel
              have hzr := hbr.size
              have hXr := hX_30.ext hbr
              have hBr := below_step hB30 hbr hB30.size
              clear q0 q1 q2 q3 ql
              obtain ⟨q0, q1, q2, q3, ql⟩ := box4 hXr
              by_cases hjl : j < k.length
              · have hji : (j : Int) < (k.length : Int) := by omega
                have h1r := hX1_30.ext hbr
                have h2r := hX2_30.ext hbr
                obtain ⟨a1, o1, rfl, ha1⟩ := h1r.form (by rw [zs_len, HSL1.out]; omega)
                obtain ⟨a2, o2, rfl, ha2⟩ := h2r.form (by rw [zs_len, HSL2.out]; omega)
                have hj1 : j < S1.length := by rw [HSL1.out]; exact hjl
                have hj2 : j < S2.length := by rw [HSL2.out]; exact hjl
                have he1 := h1r.at (k := j) (by rw [zs_len]; exact hj1)
                have he2 := h2r.at (k := j) (by rw [zs_len]; exact hj2)
                rw [zs_at S1 j hj1] at he1
                rw [zs_at S2 j hj2] at he2
                obtain ⟨hm, h64a, h64b⟩ := HSJ.out j hj1 hj2
                have hand := bAnd _ h64a _ h64b
                rw [hm] at hand
                obtain ⟨y1, hy1⟩ : ∃ v, S1[j]'hj1 = v := ⟨_, rfl⟩
                obtain ⟨y2, hy2⟩ : ∃ v, S2[j]'hj2 = v := ⟨_, rfl⟩
                rw [hy1] at he1 hand
                rw [hy2] at he2 hand
                clear hy1 hy2 hm h64a h64b hj1 hj2
                go_upto_region 33 with fail
                refine wp_region_grow (by kernel_rfl) (by kernel_rfl) ?_
                repeat (go_big_quiet_step (fail))
                refine wpQuiet_nil ?_
                intro w4 hb4
                replace hb4 := ex_below hb4
                go_wp2
                exact ⟨⟨j + 1, by omega, by go_num, below_step hbr hb4 hzr⟩, by simp [intOf]; omega⟩
              · have hji : ¬ ((j : Int) < (k.length : Int)) := by omega
                go_wp2_with (go_at_call 17; refine (works_any _).mono ?_; rintro e w11 ⟨rfl, hbw⟩; replace hbw := ex_below hbw)
                go_ret
                exact gives_of rfl (below_step hBr hbw hBr.size)
        · have hq0i : (0 : Int) < (qs.length : Int) := by omega
          have hq0j : ¬ ((qs.length : Int) = 0) := by omega
          have hi := Nat.mod_lt ot (show qs.length > 0 by omega)
          have hremo := rem_nat ot qs.length
          obtain ⟨i, hie⟩ : ∃ i, ot % qs.length = i := ⟨_, rfl⟩
          rw [hie] at hi hremo
          clear hie
          obtain ⟨db, dO, rfl, hdb⟩ := hD9.form (by rw [zr_len]; omega)
          have hidc : i ≤ dc := by omega
          have hin0 : (0 : Int) ≤ (i : Int) + 1 := by omega
          have hin1 : (i : Int) + 1 ≤ (qs.length : Int) := by omega
          have hwi : IntKind.i64.wrap ((i : Int) + 1) = (i : Int) + 1 := iw (by omega)
          go_upto_region 11 with fail
          have hbd := below_drew (Below.refl u9.heap.size u9)
          refine wp_region_noPanic ?_
          refine wp_region_held_drew (S := fun w' => True) (by kernel_rfl) ?_ (fun hHeld => ?_)
          · (try dsimp only)
            (all_goals exact trivial)
          refine wpAnyH_take (i := 1) (v := ?_) rfl (by kernel_rfl) (by kernel_rfl) (by kernel_rfl) (fun _ _ _ h => h) (Or.inl ⟨by rfl, ?_⟩) hHeld ?_
          rotate_left
          · (intro ww hSw; (try dsimp only at hSw); go_simp; try with_reducible rfl)
          (try simp only [Act.put, List.getElem_toArray, List.getElem_cons_zero, List.getElem_cons_succ, List.setIfInBounds_toArray, List.set_cons_zero, List.set_cons_succ])
          refine wpAnyH_take (i := 2) (v := ?_) rfl (by kernel_rfl) (by kernel_rfl) (by kernel_rfl) (fun _ _ _ h => h) (Or.inl ⟨by rfl, ?_⟩) hHeld ?_
          rotate_left
          · (intro ww hSw; (try dsimp only at hSw); go_simp; try with_reducible rfl)
          (try simp only [Act.put, List.getElem_toArray, List.getElem_cons_zero, List.getElem_cons_succ, List.setIfInBounds_toArray, List.set_cons_zero, List.set_cons_succ])
          refine wpAnyH_take (i := 3) (v := ?_) rfl (by kernel_rfl) (by kernel_rfl) (by kernel_rfl) (fun _ _ _ h => h) (Or.inl ⟨by rfl, ?_⟩) hHeld ?_
          rotate_left
          · (intro ww hSw; (try dsimp only at hSw); go_simp; try with_reducible rfl)
          (try simp only [Act.put, List.getElem_toArray, List.getElem_cons_zero, List.getElem_cons_succ, List.setIfInBounds_toArray, List.set_cons_zero, List.set_cons_succ])
          refine wpAnyH_take (i := 5) (v := ?_) rfl (by kernel_rfl) (by kernel_rfl) (by kernel_rfl) (fun _ _ _ h => h) (Or.inl ⟨by rfl, ?_⟩) hHeld ?_
          rotate_left
          · (intro ww hSw; (try dsimp only at hSw); go_simp; try with_reducible rfl)
          (try simp only [Act.put, List.getElem_toArray, List.getElem_cons_zero, List.getElem_cons_succ, List.setIfInBounds_toArray, List.set_cons_zero, List.set_cons_succ])
          refine wpAnyH_take (i := 6) (v := ?_) rfl (by kernel_rfl) (by kernel_rfl) (by kernel_rfl) (fun _ _ _ h => h) (Or.inl ⟨by rfl, ?_⟩) hHeld ?_
          rotate_left
          · (intro ww hSw; (try dsimp only at hSw); go_simp; try with_reducible rfl)
          (try simp only [Act.put, List.getElem_toArray, List.getElem_cons_zero, List.getElem_cons_succ, List.setIfInBounds_toArray, List.set_cons_zero, List.set_cons_succ])
          refine wpAnyH_take (i := 7) (v := ?_) rfl (by kernel_rfl) (by kernel_rfl) (by kernel_rfl) (fun _ _ _ h => h) (Or.inl ⟨by rfl, ?_⟩) hHeld ?_
          rotate_left
          · (intro ww hSw; (try dsimp only at hSw); go_simp; try with_reducible rfl)
          (try simp only [Act.put, List.getElem_toArray, List.getElem_cons_zero, List.getElem_cons_succ, List.setIfInBounds_toArray, List.set_cons_zero, List.set_cons_succ])
          refine wpAnyH_take (i := 8) (v := ?_) rfl (by kernel_rfl) (by kernel_rfl) (by kernel_rfl) (fun _ _ _ h => h) (Or.inl ⟨by rfl, ?_⟩) hHeld ?_
          rotate_left
          · (intro ww hSw; (try dsimp only at hSw); go_simp; try with_reducible rfl)
          (try simp only [Act.put, List.getElem_toArray, List.getElem_cons_zero, List.getElem_cons_succ, List.setIfInBounds_toArray, List.set_cons_zero, List.set_cons_succ])
          refine wpAnyH_ready (rs := [0]) (by kernel_rfl) (by simp) ?_
          refine AllReadyH.cons rfl ?_ ?_
          · intro K' hK
            rw [if_pos (by rfl)]
            go_simp
            have hb0 := below_alloc hbd (by simp) (.cells #[] 74)
            have hl0 : (u9.drew.alloc (.cells #[] 74)).heap[u9.heap.size]? = some (.cells #[] 74 (0, 0)) := heap_alloc_new _ _
            refine hK.out _ _ trivial (fun hHeld2 => ?_)
            clear hK K' hHeld
            have hHeld := hHeld2
            clear hHeld2
            (try simp only [Act.put, List.getElem_toArray, List.getElem_cons_zero, List.getElem_cons_succ, List.setIfInBounds_toArray, List.set_cons_zero, List.set_cons_succ])
            refine wpAnyH_ready (rs := [4]) (by kernel_rfl) (by simp) ?_
            refine AllReadyH.cons rfl ?_ ?_
            · intro K' hK
              refine step_app _ rfl (.tmp 95) (.tmp 98) 35 rfl u9.heap.size 74 ti _ 2 16 und35 ih iz is ib rfl (by decide) (.slice (some ⟨u9.heap.size, 0, none⟩) 0 0) 0 [] rfl (own_lit0 hl0 (Nat.le_refl _)) (some ⟨db, dO, none⟩) i _ (rngC ((zr qs).take i)) rfl (rng_take (hD9.ext hb0) i (by rw [zr_len]; omega)) (rngC_one _) (by unfold maxLen; omega) (by omega) (by simp) ?_
              intro A10 c10 u10 hown10 hgr10
              have hb10 : Below u9.heap.size u9 u10 := gb_below hb0 hgr10 (by simp) (fun r e => by cases e; exact Nat.le_refl _)
              refine hK.out _ _ trivial (fun hHeld2 => ?_)
              clear hK K' hHeld
              have hHeld := hHeld2
              clear hHeld2
              (try simp only [Act.put, List.getElem_toArray, List.getElem_cons_zero, List.getElem_cons_succ, List.setIfInBounds_toArray, List.set_cons_zero, List.set_cons_succ])
              refine wpAnyH_ready (rs := [9]) (by kernel_rfl) (by simp) ?_
              refine AllReadyH.cons rfl ?_ ?_
              · intro K' hK
                refine step_app _ rfl (.tmp 99) (.tmp 103) 35 rfl u9.heap.size 74 ti _ 2 16 und35 ih iz is ib rfl (by decide) (.slice A10 (0 + i) c10) (0 + i) _ rfl hown10 (if dc = i + 1 then some ⟨db, dO, none⟩ else some ⟨db, dO + (i + 1) * 2, none⟩) (qs.length - (i + 1)) _ (rngC ((zr qs).drop (i + 1))) rfl (rng_drop2 (hD9.ext hb10) (i + 1) hi hdc) (rngC_one _) (by unfold maxLen; omega) (by omega) (by have := hb10.size; omega) ?_
                intro A12 c12 u12 hown12 hgr12
                have hb12 : Below u9.heap.size u9 u12 := gb_below hb10 hgr12 hb10.size (fun r e => (hown10.lt r e).1)
                refine hK.out _ _ trivial (fun hHeld2 => ?_)
                clear hK K' hHeld
                have hHeld := hHeld2
                clear hHeld2
                (try simp only [Act.put, List.getElem_toArray, List.getElem_cons_zero, List.getElem_cons_succ, List.setIfInBounds_toArray, List.set_cons_zero, List.set_cons_succ])
                refine wpAnyH_take (i := 10) (v := ?_) rfl (by kernel_rfl) (by kernel_rfl) (by kernel_rfl) (fun _ _ _ h => h) (Or.inl ⟨by rfl, ?_⟩) hHeld ?_
                rotate_left
                · (intro ww hSw; (try dsimp only at hSw); go_simp; try with_reducible rfl)
                (try simp only [Act.put, List.getElem_toArray, List.getElem_cons_zero, List.getElem_cons_succ, List.setIfInBounds_toArray, List.set_cons_zero, List.set_cons_succ])
                refine wpAnyH_done (by kernel_rfl) ?_ _
                refine NoPanic.normal ?_
                go_upto_region 12 with fail
                have hls : (qs.take i ++ qs.drop (i + 1)).Sublist qs := cut_sub qs i
                have hll0 : (qs.take i ++ qs.drop (i + 1)).length = 0 + i + (qs.length - (i + 1)) := by rw [List.length_append, List.length_take, List.length_drop, Nat.min_eq_left (by omega)]; omega
                rw [zr_take, zr_drop, List.nil_append, ← rngC_app, ← zr_app] at hown12
                have hL12 := rd_own2 hown12 (by rw [zr_len]; exact hll0)
                obtain ⟨ls, hlse⟩ : ∃ v, qs.take i ++ qs.drop (i + 1) = v := ⟨_, rfl⟩
                rw [hlse] at hls hll0 hL12
                have hllb : ls.length = i + (qs.length - (i + 1)) := by omega
                rw [← hllb]
                generalize (if dc = i + 1 then some (⟨db, dO, none⟩ : Addr) else some ⟨db, dO + (i + 1) * 2, none⟩) = gA
                clear hllb
                have hll : ls.length ≤ 10 := by omega
                have hL9 := hL12
                have hA9b := hA9.ext hb12
                have hY9b := hY9.ext hb12
                have hV9b := hV9.ext hb12
                have hD9b := hD9.ext hb12
                have hX9b := hX9.ext hb12
                have hB9b := below_step hB9 hb12 hB9.size
                clear hi hremo hidc hin0 hin1 hwi q0 q1 q2 q3 ql hHeld hbd hb0 hl0 hown10 hgr10 hb10 hown12 hgr12 hb12 hL12 hlse hll0 hA9 hY9 hV9 hD9 hX9 hB9
                have hA9 := hA9b
                have hY9 := hY9b
                have hV9 := hV9b
                have hD9 := hD9b
                have hX9 := hX9b
                have hB9 := hB9b
                clear hA9b hY9b hV9b hD9b hX9b hB9b
                obtain ⟨q0, q1, q2, q3, ql⟩ := box4 hX9
                have HK1 := hide (fun Y yc D dc w' h hY hD => HKL.out qs HOK.out hq10 Y yc D dc w' h hY hD)
                have HP1 := hide (fun Y1 c1 Y2 c2 D dc w' h h1 h2 hD => HPD.out qs HOK.out hq10 Y1 c1 Y2 c2 D dc w' h h1 h2 hD)
                have HK2 := hide (fun Y yc D dc w' h hY hD => HKL.out ls (HOS.out ls hls) hll Y yc D dc w' h hY hD)
                have HP2 := hide (fun Y1 c1 Y2 c2 D dc w' h h1 h2 hD => HPD.out ls (HOS.out ls hls) hll Y1 c1 Y2 c2 D dc w' h h1 h2 hD)
                have hkm := HKM.out ls hls
                have hlm := HLE.out ls hls
                rw [zr_len] at HK1 HK2 HP1 HP2
                clear HKL HPD HKM HLE HOS HOK
                generalize (canN l rest k T qs).length = b1 at *
                generalize (canN l rest k (T.set p x) qs).length = b2 at *
                generalize kdN (fitL l rest k T).length b1 = kA at *
                generalize (fitL l rest k T).length = n1 at *
                generalize (fitL l rest k (T.set p x)).length = n2 at *
                generalize leastI l rest k [T, T.set p x] (zr qs) 2 = lA at *
                generalize kdN n1 (canN l rest k T ls).length = kB at *
                generalize leastI l rest k [T, T.set p x] (zr ls) 2 = lB at *
                have hc1 : ¬ ((n2 : Int) < (n1 : Int)) := by omega
                have hc2 : ¬ ((b2 : Int) < (b1 : Int)) := by omega
                have hc3 : ¬ (kA < kB) := by omega
                have hc4 : ¬ (lA < lB) := by omega
                clear hkm hlm hmf1 hmf2
                have tok20 : True := trivial
                go_upto_region 26 with (first
                    | (clear tok20; go_at_call 26; refine (HFA.out _ _ _ _ _ hA9 hY9 hD9).mono ?_; rintro e u21 ⟨rfl, hb21⟩; replace hb21 := ex_below hb21; have hB21 := below_step hB9 hb21 hB9.size; have hA9_21 := hA9.ext hb21; have hY9_21 := hY9.ext hb21; have hV9_21 := hV9.ext hb21; have hD9_21 := hD9.ext hb21; have hL9_21 := hL9.ext hb21; have hX_21 := hX9.ext hb21; clear q0 q1 q2 q3 ql; obtain ⟨q0, q1, q2, q3, ql⟩ := box4 hX_21; have tok21 : True := trivial)
                    | (clear tok21; go_at_call 26; refine (HFB.out _ _ _ _ _ hA9_21 hV9_21 hD9_21).mono ?_; rintro e u22 ⟨rfl, hb22⟩; replace hb22 := ex_below hb22; have hB22 := below_step hB21 hb22 hB21.size; have hA9_22 := hA9_21.ext hb22; have hY9_22 := hY9_21.ext hb22; have hV9_22 := hV9_21.ext hb22; have hD9_22 := hD9_21.ext hb22; have hL9_22 := hL9_21.ext hb22; have hX_22 := hX_21.ext hb22; clear q0 q1 q2 q3 ql; obtain ⟨q0, q1, q2, q3, ql⟩ := box4 hX_22; have tok22 : True := trivial)
                    | (clear tok22; go_at_call 32; refine (HS1.out _ _ _ hA9_22 hY9_22).mono ?_; rintro e u23 ⟨X1, x1c, rfl, hb23, hX1⟩; have hB23 := below_step hB22 hb23 hB22.size; have hA9_23 := hA9_22.ext hb23; have hY9_23 := hY9_22.ext hb23; have hV9_23 := hV9_22.ext hb23; have hD9_23 := hD9_22.ext hb23; have hL9_23 := hL9_22.ext hb23; have hX_23 := hX_22.ext hb23; clear q0 q1 q2 q3 ql; obtain ⟨q0, q1, q2, q3, ql⟩ := box4 hX_23; have tok23 : True := trivial)
                    | (clear tok23; go_at_call 32; refine (HS2.out _ _ _ hA9_23 hV9_23).mono ?_; rintro e u24 ⟨X2, x2c, rfl, hb24, hX2⟩; have hB24 := below_step hB23 hb24 hB23.size; have hA9_24 := hA9_23.ext hb24; have hY9_24 := hY9_23.ext hb24; have hV9_24 := hV9_23.ext hb24; have hD9_24 := hD9_23.ext hb24; have hL9_24 := hL9_23.ext hb24; have hX1_24 := hX1.ext hb24; have hX_24 := hX_23.ext hb24; clear q0 q1 q2 q3 ql; obtain ⟨q0, q1, q2, q3, ql⟩ := box4 hX_24; have tok24 : True := trivial)
                    | (clear tok24; go_at_call 28; refine (HK1.out _ _ _ _ _ hA9_24 hY9_24 hD9_24).mono ?_; rintro e u25 ⟨rfl, hb25⟩; replace hb25 := ex_below hb25; have hB25 := below_step hB24 hb25 hB24.size; have hA9_25 := hA9_24.ext hb25; have hY9_25 := hY9_24.ext hb25; have hV9_25 := hV9_24.ext hb25; have hD9_25 := hD9_24.ext hb25; have hL9_25 := hL9_24.ext hb25; have hX1_25 := hX1_24.ext hb25; have hX2_25 := hX2.ext hb25; have hX_25 := hX_24.ext hb25; clear q0 q1 q2 q3 ql; obtain ⟨q0, q1, q2, q3, ql⟩ := box4 hX_25; have tok25 : True := trivial)
                    | (clear tok25; go_at_call 28; refine (HK2.out _ _ _ _ _ hA9_25 hY9_25 hL9_25).mono ?_; rintro e u26 ⟨rfl, hb26⟩; replace hb26 := ex_below hb26; have hB26 := below_step hB25 hb26 hB25.size; have hA9_26 := hA9_25.ext hb26; have hY9_26 := hY9_25.ext hb26; have hV9_26 := hV9_25.ext hb26; have hD9_26 := hD9_25.ext hb26; have hL9_26 := hL9_25.ext hb26; have hX1_26 := hX1_25.ext hb26; have hX2_26 := hX2_25.ext hb26; have hX_26 := hX_25.ext hb26; clear q0 q1 q2 q3 ql; obtain ⟨q0, q1, q2, q3, ql⟩ := box4 hX_26; have tok26 : True := trivial)
                    | (clear tok26; go_at_call 41; refine (HP1.out _ _ _ _ _ _ _ hA9_26 hY9_26 hV9_26 hD9_26).mono ?_; rintro e u27 ⟨xs1, M1, m1c, rfl, hb27, hM1, hS1⟩; have hB27 := below_step hB26 hb27 hB26.size; have hA9_27 := hA9_26.ext hb27; have hY9_27 := hY9_26.ext hb27; have hV9_27 := hV9_26.ext hb27; have hD9_27 := hD9_26.ext hb27; have hL9_27 := hL9_26.ext hb27; have hX1_27 := hX1_26.ext hb27; have hX2_27 := hX2_26.ext hb27; have hX_27 := hX_26.ext hb27; clear q0 q1 q2 q3 ql; obtain ⟨q0, q1, q2, q3, ql⟩ := box4 hX_27; have tok27 : True := trivial)
                    | (clear tok27; go_at_call 41; refine (HP2.out _ _ _ _ _ _ _ hA9_27 hY9_27 hV9_27 hL9_27).mono ?_; rintro e u28 ⟨xs2, M2, m2c, rfl, hb28, hM2, hS2⟩; have hB28 := below_step hB27 hb28 hB27.size; have hA9_28 := hA9_27.ext hb28; have hY9_28 := hY9_27.ext hb28; have hV9_28 := hV9_27.ext hb28; have hD9_28 := hD9_27.ext hb28; have hL9_28 := hL9_27.ext hb28; have hX1_28 := hX1_27.ext hb28; have hX2_28 := hX2_27.ext hb28; have hM1_28 := hM1.ext hb28; have hX_28 := hX_27.ext hb28; clear q0 q1 q2 q3 ql; obtain ⟨q0, q1, q2, q3, ql⟩ := box4 hX_28; have tok28 : True := trivial)
                    | (clear tok28; go_at_call 44; refine (HIP.out _ _ _ hS1 _ _ _ _ _ _ _ _ _ hA9_28 hY9_28 hV9_28 hD9_28 hM1_28).mono ?_; rintro e u29 ⟨rfl, hb29⟩; have hB29 := below_step hB28 hb29 hB28.size; have hA9_29 := hA9_28.ext hb29; have hY9_29 := hY9_28.ext hb29; have hV9_29 := hV9_28.ext hb29; have hD9_29 := hD9_28.ext hb29; have hL9_29 := hL9_28.ext hb29; have hX1_29 := hX1_28.ext hb29; have hX2_29 := hX2_28.ext hb29; have hM1_29 := hM1_28.ext hb29; have hM2_29 := hM2.ext hb29; have hX_29 := hX_28.ext hb29; clear q0 q1 q2 q3 ql; obtain ⟨q0, q1, q2, q3, ql⟩ := box4 hX_29; have tok29 : True := trivial)
                    | (clear tok29; go_at_call 44; refine (HIP.out _ _ _ hS2 _ _ _ _ _ _ _ _ _ hA9_29 hY9_29 hV9_29 hL9_29 hM2_29).mono ?_; rintro e u30 ⟨rfl, hb30⟩; have hB30 := below_step hB29 hb30 hB29.size; have hA9_30 := hA9_29.ext hb30; have hY9_30 := hY9_29.ext hb30; have hV9_30 := hV9_29.ext hb30; have hD9_30 := hD9_29.ext hb30; have hL9_30 := hL9_29.ext hb30; have hX1_30 := hX1_29.ext hb30; have hX2_30 := hX2_29.ext hb30; have hM1_30 := hM1_29.ext hb30; have hM2_30 := hM2_29.ext hb30; have hX_30 := hX_29.ext hb30; clear q0 q1 q2 q3 ql; obtain ⟨q0, q1, q2, q3, ql⟩ := box4 hX_30; have tok30 : True := trivial))
                clear tok30
                rcases HC.out with ⟨hz, rfl⟩ | ⟨hz, rfl, rfl, S1, S2, rfl, rfl, hs1, hs2, hsj⟩
                · subst hz
                  go_wp2_with (go_at_call 17; refine (works_any _).mono ?_; rintro e w11 ⟨rfl, hbw⟩; replace hbw := ex_below hbw)
                  go_ret
                  exact gives_of rfl (below_step hB30 hbw hB30.size)
                · have HSJ := hide hsj
                  have HSL1 := hide hs1
                  have HSL2 := hide hs2
                  rw [zs_len, zs_len, hs1, hs2]
                  clear hsj hs1 hs2 HC
                  obtain ⟨wz, rfl⟩ : ∃ wz : World, wz = u30 := ⟨_, rfl⟩
                  go_wp2
                  go_loopw [41] (fun jv wr => ∃ j : Nat, j ≤ k.length ∧ jv = .int .i64 (j : Nat) ∧ Below wz.heap.size wz wr) (fun jv _ => k.length - (intOf jv).toNat)
                  case atStart => exact ⟨0, Nat.zero_le _, rfl, Below.refl _ _⟩
                  case round =>
                    obtain ⟨j, hj, rfl, hbr⟩ := hrel
                    have hzr := hbr.size
                    have hXr := hX_30.ext hbr
                    have hBr := below_step hB30 hbr hB30.size
                    clear q0 q1 q2 q3 ql
                    obtain ⟨q0, q1, q2, q3, ql⟩ := box4 hXr
                    by_cases hjl : j < k.length
                    · have hji : (j : Int) < (k.length : Int) := by omega
                      have h1r := hX1_30.ext hbr
                      have h2r := hX2_30.ext hbr
                      obtain ⟨a1, o1, rfl, ha1⟩ := h1r.form (by rw [zs_len, HSL1.out]; omega)
                      obtain ⟨a2, o2, rfl, ha2⟩ := h2r.form (by rw [zs_len, HSL2.out]; omega)
                      have hj1 : j < S1.length := by rw [HSL1.out]; exact hjl
                      have hj2 : j < S2.length := by rw [HSL2.out]; exact hjl
                      have he1 := h1r.at (k := j) (by rw [zs_len]; exact hj1)
                      have he2 := h2r.at (k := j) (by rw [zs_len]; exact hj2)
                      rw [zs_at S1 j hj1] at he1
                      rw [zs_at S2 j hj2] at he2
                      obtain ⟨hm, h64a, h64b⟩ := HSJ.out j hj1 hj2
                      have hand := bAnd _ h64a _ h64b
                      rw [hm] at hand
                      obtain ⟨y1, hy1⟩ : ∃ v, S1[j]'hj1 = v := ⟨_, rfl⟩
                      obtain ⟨y2, hy2⟩ : ∃ v, S2[j]'hj2 = v := ⟨_, rfl⟩
                      rw [hy1] at he1 hand
                      rw [hy2] at he2 hand
                      clear hy1 hy2 hm h64a h64b hj1 hj2
                      go_upto_region 33 with fail
                      refine wp_region_grow (by kernel_rfl) (by kernel_rfl) ?_
                      repeat (go_big_quiet_step (fail))
                      refine wpQuiet_nil ?_
                      intro w4 hb4
                      replace hb4 := ex_below hb4
                      go_wp2
                      exact ⟨⟨j + 1, by omega, by go_num, below_step hbr hb4 hzr⟩, by simp [intOf]; omega⟩
                    · have hji : ¬ ((j : Int) < (k.length : Int)) := by omega
                      go_wp2_with (go_at_call 17; refine (works_any _).mono ?_; rintro e w11 ⟨rfl, hbw⟩; replace hbw := ex_below hbw)
                      go_ret
                      exact gives_of rfl (below_step hBr hbw hBr.size)
              exact AllReadyH.nil
            exact AllReadyH.nil
          exact AllReadyH.nil

end Go.Proofs.Ytgjfejpibielaaa
