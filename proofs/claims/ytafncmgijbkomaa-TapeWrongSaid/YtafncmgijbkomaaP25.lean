/- Proved here: the reference: what is left of a tape; the reference: the longest common string, a part of the proofs about the tape laws. Conditions: those that each theorem names, no others. -/
import Derived.Test.YtafncmgijbkomaaP24
import Derived.WalkKit
import Derived.WalkSpells
import Derived.WalkLawsBesides
import Derived.Below
import Derived.Deep.QuietTactic
import Derived.BigQuiet
import Derived.Deep.Light
import Derived.Test.YtafncmgijbkomaaP12
import Derived.Test.YtafncmgijbkomaaP02
import Derived.Test.YtafncmgijbkomaaP17
set_option linter.unusedSimpArgs false
set_option linter.unusedVariables false
namespace Go.Proofs.Ytafncmgijbkomaa
open Go.RowKit Go.Maps Go.Lib
set_option maxRecDepth 100000 in
set_option maxHeartbeats 1000000 in
theorem rNight_any (W : Int) (A : Option Addr) (ts : List ByteArray) (c : Nat) (w : World) (hA : Strs w A ts) (hl : ts.length ≤ 1000) (hsz : ∀ k, (h : k < ts.length) → ts[k].size ≤ 1000000) (long index : Int) : Calls Try.prog 33 #[.agg #[.int .i64 W, .slice A ts.length c], .int .i64 long, .int .i64 index] w (Gives w (strV (nightR W ts long index))) := by
  by_cases h0 : openE W ts long = 0
  · obtain ⟨lg, rfl⟩ : ∃ lg : Nat, long = (lg : Nat) := ⟨long.toNat, by have := (open_val h0).2; simp [withinB, outB] at this; omega⟩
    obtain ⟨Wn, rfl, _⟩ := countE_val h0
    have HV : nightR (Wn : Nat) ts (lg : Nat) index = if index < 0 ∨ 1099511627776 < index ∨ ((Tm.cntC Wn lg (lts ts) : Nat) : Int) ≤ index then (unlt [], (3 : Int)) else (unlt (Tm.nightA Wn lg (lts ts) index.toNat), (0 : Int)) := by simp [nightR, h0]
    by_cases hx : index < 0 ∨ 1099511627776 < index ∨ ((Tm.cntC Wn lg (lts ts) : Nat) : Int) ≤ index
    · rw [HV, if_pos hx, unlt_nil]
      exact rNight_bad Wn A ts c w hA hl hsz lg h0 index hx
    · rw [HV, if_neg hx]
      obtain ⟨ix, rfl⟩ : ∃ ix : Nat, index = (ix : Nat) := ⟨index.toNat, by omega⟩
      rw [Int.toNat_natCast]
      exact rNight_ok Wn A ts c w hA hl hsz lg h0 ix (by omega) (by omega)
  · have HV := hide (show nightR W ts long index = (unlt [], openE W ts long) by simp [nightR, h0])
    have h1 : (openE W ts long != 0) = true := by simp [h0]
    rw [HV.out, unlt_nil]
    unfold strV
    replace h0 := hide h0
    go_enter Try.func33, Try.ntmps33
    go_wp2_with (first
    | (go_at_call 76; refine (rLong_any W A ts c _ (hA.ext (by (repeat (first | exact Below.refl _ _ | assumption | refine below_drewN ?_ _ | refine below_drew ?_ | refine below_gr ?_ ?_ _ | refine below_alloc ?_ ?_ _ | refine Below.setCell ?_ ?_ _ | refine below_step ?_ (by assumption) ?_ | omega | (simp only [zz] at *; omega))))) hl hsz long).mono ?_; rintro e w1 ⟨rfl, hb1⟩; replace hb1 := ex_below hb1; have hz1 := hb1.size; (try simp only [zz] at hz1); have hs1 : w.heap.size < w1.heap.size := (by (first | omega | (simp only [zz] at *; omega))); have ho1 := own_cell hb1 (b := w.heap.size) (by (first | omega | (simp only [zz] at *; omega))); have hq1 := own_frozen hb1 (b := w.heap.size) (by (first | omega | (simp only [zz] at *; omega))); have hlt1 : ∀ b, b < w.heap.size → b < w1.heap.size := fun b hb => (by (first | omega | (simp only [zz] at *; omega))); have hc1 : ∀ b o, b < w.heap.size → w1.cell? ⟨b, o, none⟩ = w.cell? ⟨b, o, none⟩ := old_cell (by (repeat (first | exact Below.refl _ _ | assumption | refine below_drewN ?_ _ | refine below_drew ?_ | refine below_gr ?_ ?_ _ | refine below_alloc ?_ ?_ _ | refine Below.setCell ?_ ?_ _ | refine below_step ?_ (by assumption) ?_ | omega | (simp only [zz] at *; omega))))))

    go_ret2
    exact gives_of (rfl) (by (repeat (first | exact Below.refl _ _ | assumption | refine below_drewN ?_ _ | refine below_drew ?_ | refine below_gr ?_ ?_ _ | refine below_alloc ?_ ?_ _ | refine Below.setCell ?_ ?_ _ | refine below_step ?_ (by assumption) ?_ | omega | (simp only [zz] at *; omega))))
theorem move_tail {P : Program} {Q : Exit → Act → World → Prop} {id : Nat} {a : Act} {w : World} {o0 : Oper} {ol : List Oper} {v : Value} (m : Nat) (hm : P.follows .mixedOrders = true) (hB : tailF .any (o0 :: ol).toArray (m + 1) = true)
    (hy : YieldsIf P (o0 :: ol).toArray (fun _ => True) o0 v a)
    (h : wpQuiet P (o0 :: ol).toArray (fun w' => ∃ g, w' = w.grow g) (fun a' => ∀ w', (∃ g, w' = w.grow g) → wpList P (o0 :: ol).toArray (nrm Q) (ol.drop m) a' w') (ol.take m) (a.put o0.dst v)) : (Code.region id (o0 :: ol).toArray true).wp P Q a w := by
  simp only [tailF, Bool.and_eq_true, decide_eq_true_eq] at hB
  obtain ⟨⟨⟨⟨⟨⟨⟨hsel, hm1⟩, hn⟩, hs⟩, hc⟩, hfree⟩, hready⟩, hlex⟩ := hB
  have hsz : (o0 :: ol).toArray.size = ol.length + 1 := by simp
  have hn' : m < ol.length := by omega
  have htl : (ol.take m).length = m := by simp; omega
  have hdl : (ol.drop m).length = (o0 :: ol).toArray.size - (m + 1) := by simp
  have inv0 : HeadInv .any (o0 :: ol).toArray (m + 1) (Array.replicate (o0 :: ol).toArray.size false) :=
    ⟨by simp, fun j oj _ hl => (by rw [getD_replicate_false] at hl; cases hl), fun t _ ht => getD_in (by simpa using ht) (getD_replicate_false _ _)⟩
  have inv1 := inv0.set (i := 0) (by simpa using hready) (by omega)
  have H := wpAnyLQ_lexF (md := .any) (C := fun w' => ∃ g, w' = w.grow g) (g := (o0 :: ol).toArray.size - (m + 1)) (k0 := 1) hsel hs hc hn (ol.take m) 1 _ (a.put o0.dst v) (Nat.le_refl _) (fun j hj => by
    have hj' : j < m := by rw [htl] at hj; exact hj
    simp [hj', Nat.add_comm 1 j]) (by rw [htl]; omega) inv1 (by rw [htl]; exact hlex) h
  have hC : ∃ g, ({ w with drawn := w.drawn + 1 } : World) = w.grow g := ⟨⟨#[], w.drawn + 1⟩, by simp [World.grow]⟩
  refine Code.wp_mono nrm_imp (wp_region_any hm ?_)
  rw [hsz]
  refine wpAny_of_held _ _ _ _ (wpAnyH_take (S := fun _ => True) (i := 0) (oi := o0) (v := v) rfl hsel (by rw [← hsz]; exact hfree) (by rw [← hsz]; exact hready) (fun _ _ _ h => h) hy trivial (held_true _ _ _ _ ?_))
  have := wpAny_of_headQ (C := fun w' => ∃ g, w' = w.grow g) (Q' := nrm Q) (g := (o0 :: ol).toArray.size - (m + 1)) (fun listed a' w' hw hL => by
    have := wpAny_of_seq (md := .any) (Q' := nrm Q) (ol.drop m) (m + 1) listed a' w' (fun j => by simp [List.getElem?_drop, Nat.add_right_comm m 1 j]) (by rw [hdl]; exact hL.1) (hL.2 w' hw)
    rwa [hdl] at this) _ _ _ _ hC H
  rw [htl, show m + ((o0 :: ol).toArray.size - (m + 1)) = ol.length by rw [hsz]; omega, hsz] at this
  exact this
theorem unlt_lt (s : ByteArray) : unlt (lt s) = s := by
  apply ByteArray.ext
  unfold unlt lt
  simp only
  rw [List.map_map]
  have : (unb ∘ fun (b : UInt8) => (b.toNat : Int) - 97) = id := by
    funext b
    unfold unb
    simp
  rw [this]
  simp
/-- all strings that are left of a tape -/
def partB (s : List Int) : List ByteArray := (Tm.partsP s).map unlt
def partM (t : List Int) (x : Int) (k : Nat) : List ByteArray := partB t ++ ((partB t).take k).map (fun s => unlt [x] ++ s)
theorem partM_zero (t : List Int) (x : Int) : partM t x 0 = partB t := by simp [partM]
theorem partM_succ (t : List Int) (x : Int) (k : Nat) (h : k < (partB t).length) : partM t x (k + 1) = partM t x k ++ [unlt [x] ++ (partB t)[k]] := by
  unfold partM
  rw [take_snoc _ _ h, List.map_append, ← List.append_assoc]
  rfl
theorem partM_all (t : List Int) (x : Int) : partM t x (partB t).length = partB (x :: t) := by
  unfold partM partB
  rw [List.take_length]
  conv => rhs; unfold Tm.partsP
  rw [List.map_append, List.map_map, List.map_map]
  congr 1
theorem partB_len (t : List Int) : (partB t).length = 2 ^ t.length := by
  unfold partB
  rw [List.length_map]
  induction t with
  | nil => rfl
  | cons x t ih =>
    unfold Tm.partsP
    rw [List.length_append, List.length_map, ih, List.length_cons, Nat.pow_succ]
    omega
theorem partB_size (t : List Int) : ∀ s, s ∈ partB t → s.size ≤ t.length := fun s hs => by
  obtain ⟨l, hl, rfl⟩ := List.mem_map.1 hs
  rw [unlt_size]
  have := (Tm.hasT_sub t l).1 ((Tm.parts_mem t l).1 hl)
  exact this.length_le
theorem one_byte (s : ByteArray) (i : Nat) (h : i < s.size) : s.extract i (i + 1) = unlt [(s[i].toNat : Int) - 97] := by
  have h1 : lt (s.extract i (i + 1)) = [(s[i].toNat : Int) - 97] := by
    unfold lt
    apply List.ext_getElem
    · simp; omega
    · intro k h1 h2
      have : k = 0 := by simpa using h2
      subst this
      simp
      rfl
  rw [← h1, unlt_lt]
theorem partB_mid (t : List Int) (x : Int) (k : Nat) : ∀ s, s ∈ partM t x k → s.size ≤ t.length + 1 := fun s hs => by
  unfold partM at hs
  rcases List.mem_append.1 hs with h | h
  · have := partB_size t s h; omega
  · obtain ⟨a, ha, rfl⟩ := List.mem_map.1 h
    have := partB_size t a (List.mem_of_mem_take ha)
    rw [ByteArray.size_append, unlt_size]
    simp only [List.length_cons, List.length_nil]
    omega
theorem own_lit1 (w : World) (e : TypeId) (v : Value) : (w.alloc (.cells #[v] e)).ownsRow w.heap.size e 1 (.slice (some ⟨w.heap.size, 0, none⟩) 1 1) 1 [v] :=
  World.ownsRow_lit w #[v] 1 (Nat.le_refl _) (by unfold maxLen; omega) rfl
set_option maxRecDepth 100000 in
set_option maxHeartbeats 4000000 in
theorem rParts_any (s : ByteArray) (w : World) (hs : s.size ≤ 8) : Calls Try.prog 67 #[.string s] w (GivesStrs w (partB (lt s))) := by
  obtain ⟨i0, ih, iz, is, ib⟩ := info_parts infoS
  have HP := hide (fun i (h : i < s.size) => (show (lt s).drop i = ((s[i].toNat : Int) - 97) :: (lt s).drop (i + 1) by rw [List.drop_eq_getElem_cons (by rw [lt_len]; exact h), lt_get s i h]))
  have HE := hide (fun i (h : i < s.size) => one_byte s i h)
  have HL := hide (fun i => (show (partB ((lt s).drop i)).length = 2 ^ (s.size - i) by rw [partB_len, List.length_drop, lt_len]))
  have HZ := hide (fun i => partB_size ((lt s).drop i))
  have HD0 := hide (show (lt s).drop 0 = lt s from List.drop_zero ..)
  have HDE := hide (show partB ((lt s).drop s.size) = [⟨#[]⟩] by rw [← lt_len, List.drop_length]; rfl)
  have HLL := hide (lt_len s)
  go_enter Try.func67, Try.ntmps67
  go_wp2
  have hown0 := own_lit1 w 9 (.string ⟨#[]⟩)
  go_loopw [3, 4] (fun o i wr => ∃ (kz : Int) (A' : Option Addr) (c' : Nat), -1 ≤ kz ∧ kz < s.size ∧ i = .int .i64 kz ∧ o = .slice A' (partB ((lt s).drop (kz + 1).toNat)).length c' ∧ wr.ownsRow w.heap.size 9 1 (.slice A' (partB ((lt s).drop (kz + 1).toNat)).length c') (partB ((lt s).drop (kz + 1).toNat)).length ((partB ((lt s).drop (kz + 1).toNat)).map Value.string) ∧ Below w.heap.size w wr) (fun _ i _ => (intOf i + 1).toNat)
  case atStart =>
    refine ⟨(s.size : Int) - 1, some ⟨w.heap.size, 0, none⟩, 1, by omega, by omega, rfl, ?_, ?_, below_alloc (Below.refl _ _) (Nat.le_refl _) _⟩
    · rw [show ((s.size : Int) - 1 + 1).toNat = s.size by omega, HDE.out]; rfl
    · rw [show ((s.size : Int) - 1 + 1).toNat = s.size by omega, HDE.out]; exact hown0
  case round =>
    clear hown0
    obtain ⟨kz, A', c', hk1, hk2, rfl, rfl, hown, hb⟩ := hrel
    obtain ⟨wo, rfl⟩ : ∃ wo : World, wo = wr := ⟨_, rfl⟩
    have hz := hb.size
    by_cases hlt : 0 ≤ kz
    · obtain ⟨i, rfl⟩ : ∃ i : Nat, kz = (i : Nat) := ⟨kz.toNat, by omega⟩
      rw [show ((i : Int) + 1).toNat = i + 1 by omega] at *
      have hil : i < s.size := by omega
      have hdl : ((lt s).drop (i + 1)).length ≤ 8 := by rw [List.length_drop, HLL.out]; omega
      have hpow : 2 ^ (s.size - (i + 1)) ≤ 2 ^ 8 := Nat.pow_le_pow_right (by omega) (by omega)
      have hm := HL.out (i + 1)
      have hm2 : (partB ((lt s).drop (i + 1))).length ≤ 256 := by rw [hm]; exact hpow
      have HNX : Hid (partB ((lt s).drop i) = partM ((lt s).drop (i + 1)) ((s[i].toNat : Int) - 97) (partB ((lt s).drop (i + 1))).length) := hide (by rw [partM_all, HP.out i hil])
      have HE1 := hide (HE.out i hil)
      have hsz1 := HZ.out (i + 1)
      have HM0 := hide (partM_zero ((lt s).drop (i + 1)) ((s[i].toNat : Int) - 97))
      have HMS := hide (fun k h => partM_succ ((lt s).drop (i + 1)) ((s[i].toNat : Int) - 97) k h)
      clear hpow hm
      generalize (s[i].toNat : Int) - 97 = x at *
      have hGet : ∀ k (hk : k < (partM ((lt s).drop (i + 1)) x k).length) (h : k < (partB ((lt s).drop (i + 1))).length), (partM ((lt s).drop (i + 1)) x k)[k] = (partB ((lt s).drop (i + 1)))[k] := fun k hk h => by unfold partM; exact List.getElem_append_left h
      have hMl : ∀ k, (partM ((lt s).drop (i + 1)) x k).length = (partB ((lt s).drop (i + 1))).length + min k (partB ((lt s).drop (i + 1))).length := fun k => by unfold partM; simp
      have HGet := hide hGet
      have HMl := hide hMl
      clear hGet hMl
      have hsz2 : ∀ k (h : k < (partB ((lt s).drop (i + 1))).length), (partB ((lt s).drop (i + 1)))[k].size ≤ 8 := fun k h => Nat.le_trans (hsz1 _ (List.getElem_mem h)) hdl
      have HSZ := hide hsz2
      clear hsz1 hsz2 hdl
      generalize partM ((lt s).drop (i + 1)) x = pm at *
      generalize partB ((lt s).drop (i + 1)) = PB at *
      obtain ⟨n, hn⟩ : ∃ n, PB.length = n := ⟨_, rfl⟩
      rw [hn] at hown hm2 ⊢
      have HN := hide hn
      clear hn
      go_wp2
      go_loopw [3, 6] (fun o kv wr => ∃ (kn : Nat) (A' : Option Addr) (c' : Nat), kn ≤ n ∧ kv = .int .i64 (kn : Nat) ∧ o = .slice A' (n + kn) c' ∧ wr.ownsRow w.heap.size 9 1 (.slice A' (n + kn) c') (n + kn) ((pm kn).map Value.string) ∧ Below w.heap.size w wr) (fun _ kv _ => n - (intOf kv).toNat)
      case atStart => exact ⟨0, A', c', Nat.zero_le _, rfl, rfl, by rw [HM0.out]; exact hown, hb⟩
      case round =>
        clear hown hb hz
        obtain ⟨kn, A', c', hkn, rfl, rfl, hown, hb⟩ := hrel
        have hz := hb.size
        by_cases hkl : kn < n
        · have hkP : kn < PB.length := by rw [HN.out]; exact hkl
          have hlm : (pm kn).length = n + kn := by rw [HMl.out, HN.out]; omega
          obtain ⟨ob, rfl, hob, hcO⟩ := own_at hown kn (.string PB[kn]) (by rw [List.getElem?_map, List.getElem?_eq_getElem (by rw [hlm]; omega), HGet.out kn (by rw [hlm]; omega) hkP]; rfl)
          rw [Nat.zero_add] at hcO
          have HMS1 := hide (HMS.out kn hkP)
          have hvs := HSZ.out kn hkP
          generalize PB[kn] = v at *
          have hkli : (kn : Int) < (n : Nat) := by omega
          have hk0 : (0 : Int) ≤ (kn : Int) := by omega
          have hkn2 : (kn : Int) < ((n + kn : Nat) : Int) := by omega
          have hkn3 : (kn : Int) < (n : Int) + (kn : Int) := by omega
          have hi0 : (0 : Int) ≤ (i : Int) := by omega
          have hi1 : (i : Int) + 1 ≤ (s.size : Nat) := by omega
          have hi2 : (0 : Int) ≤ (i : Int) + 1 := by omega
          have hwr1 : IntKind.i64.wrap ((i : Int) + 1) = (i : Int) + 1 := IntWalk.i64_in _ (by omega)
          have hto : ((i : Int) + 1).toNat = i + 1 := by omega
          have hcat : ¬ (9223372036854775807 < (s.extract i (i + 1)).size + v.size) := by rw [ByteArray.size_extract]; omega
          have hgb := own_base hown
          clear hlm
          go_wp2
          refine move_tail 10 (by kernel_rfl) (by kernel_rfl) (yields_move rfl rfl) ?_
          (try simp only [Act.put, List.getElem_toArray, List.getElem_cons_zero, List.getElem_cons_succ, List.setIfInBounds_toArray, List.set_cons_zero, List.set_cons_succ])
          simp only [List.take_succ_cons, List.take_zero, List.drop_succ_cons, List.drop_zero]
          repeat (go_big_quiet_step (fail))
          refine wpQuiet_nil ?_
          intro w4 hb4
          replace hb4 := ex_below hb4
          have hz4 := hb4.size
          go_wp2_with (at_builtin; refine wpList_app _ rfl (.tmp 22) (.tmp 33) 22 rfl w.heap.size 9 i0 _ 1 16 und22 ih iz is ib rfl (by decide) (.slice (some ⟨ob, 0, none⟩) (n + kn) c') (n + kn) (((pm kn).map Value.string)) rfl ((ownsRow_grows hown hb4).alloc _) (some ⟨w4.heap.size, 0, none⟩) 1 1 [_] rfl (rd_new1 _ _ _) (by simp [Value.oneCell']) (by unfold maxLen; omega) (by omega) (by simp; omega) ?_; intro A5 c5 w5 hown5 hgr5)
          rw [nrm_normal]
          go_wp2
          refine ⟨⟨kn + 1, A5, c5, by omega, by go_num, rfl, ?_, ?_⟩, by simp [intOf]; omega⟩
          · rw [HMS1.out, List.map_append, ← HE1.out]; exact hown5
          · exact gb_below (below_alloc (below_step hb hb4 hz) (by omega) _) hgr5 (by simp; omega) (fun g hg => hgb g hg)
        · have hke : kn = n := by omega
          subst hke
          have hkli : ¬ ((kn : Int) < (kn : Nat)) := by omega
          have hlm : (pm kn).length = kn + kn := by rw [HMl.out, HN.out]; omega
          have HPP : Hid (partB ((lt s).drop i) = pm kn) := hide (by rw [HNX.out, HN.out])
          go_wp2
          refine ⟨⟨(i : Int) - 1, A', c', by omega, by omega, rfl, ?_, ?_, hb⟩, by simp [intOf]⟩
          · rw [show ((i : Int) - 1 + 1).toNat = i by omega, HPP.out, hlm]
          · rw [show ((i : Int) - 1 + 1).toNat = i by omega, HPP.out, hlm]; exact hown
    · have hke : kz = -1 := by omega
      subst hke
      rw [show ((-1 : Int) + 1).toNat = 0 by omega, HD0.out] at hown ⊢
      have hI := own_strs hown
      go_wp2
      go_ret
      unfold GivesStrs
      exact ⟨A', c', rfl, grew_of hb, hI⟩
end Go.Proofs.Ytafncmgijbkomaa
namespace Go.Proofs.Ytafncmgijbkomaa
open Go.RowKit Go.Maps Go.Lib
theorem lss_lt (a b : ByteArray) : Op.bytesLess a.toList b.toList = Tm.ltS (lt a) (lt b) := by
  rw [ByteArray.toList_eq, ByteArray.toList_eq]
  unfold lt
  generalize a.data.toList = x
  generalize b.data.toList = y
  induction x generalizing y with
  | nil => cases y <;> rfl
  | cons c x ih =>
    cases y with
    | nil => rfl
    | cons d y =>
      simp only [Op.bytesLess, List.map_cons, Tm.ltS, ih]
      have h1 : (decide (c < d)) = decide ((c.toNat : Int) - 97 < (d.toNat : Int) - 97) := by
        rw [decide_eq_decide, UInt8.lt_iff_toNat_lt]; omega
      have h2 : (c == d) = decide ((c.toNat : Int) - 97 = (d.toNat : Int) - 97) := by
        rw [Bool.eq_iff_iff, beq_iff_eq, decide_eq_true_eq]
        constructor
        · rintro rfl; rfl
        · intro h; exact UInt8.toNat_inj.1 (by omega)
      first | rw [h1, h2] | (simp only [← h1, ← h2]; rfl) | simp_all
def refB (all : ByteArray → Bool) (o s : ByteArray) : ByteArray := if all s = true ∧ (o.size < s.size ∨ (s.size = o.size ∧ Tm.ltS (lt s) (lt o) = true)) then s else o
theorem refB_fold (allB : ByteArray → Bool) (allL : List Int → Bool) (h : ∀ s, allB s = allL (lt s)) (L : List (List Int)) (hL : ∀ l, l ∈ L → ∀ x, x ∈ l → 0 ≤ x ∧ x < 5) (o : ByteArray) : lt ((L.map unlt).foldl (refB allB) o) = L.foldl (Tm.refStep allL) (lt o) := by
  induction L generalizing o with
  | nil => rfl
  | cons l L ih =>
    simp only [List.map_cons, List.foldl_cons]
    rw [ih (fun l' h' => hL l' (by simp [h']))]
    congr 1
    have hl := lt_unlt (hL l (by simp))
    unfold refB Tm.refStep
    rw [h, hl, unlt_size, lt_len]
    split
    · exact hl
    · rfl
theorem parts_letters {t : List Int} (ht : ∀ x, x ∈ t → 0 ≤ x ∧ x < 5) : ∀ l, l ∈ Tm.partsP t → ∀ x, x ∈ l → 0 ≤ x ∧ x < 5 := fun l hl x hx => ht x (((Tm.hasT_sub t l).1 ((Tm.parts_mem t l).1 hl)).subset hx)
theorem refB_val {W : Nat} (hW5 : W ≤ 5) {ts : List ByteArray} (h0 : 0 < ts.length) (hlo : Tm.lettersOk W (lts ts)) : (partB (lt ts[0])).foldl (refB (fun s => ts.all (fun t => Tm.hasT (lt t) (lt s)))) ⟨#[]⟩ = comV W (lts ts) := by
  have hne : lts ts ≠ [] := by
    intro g
    have h1 : (lts ts).length = 0 := by rw [g]; rfl
    have h2 : (lts ts).length = ts.length := by simp [lts]
    omega
  have h1 := comV_best hW5 hne hlo
  have hm : lt ts[0] ∈ lts ts := List.mem_map.2 ⟨ts[0], List.getElem_mem _, rfl⟩
  have h2 := Tm.ref_best hm (fun l => (lts ts).all (fun t => Tm.hasT t l)) (fun s => by rw [List.all_eq_true]; exact Iff.rfl)
  have hf := refB_fold (fun s => ts.all (fun t => Tm.hasT (lt t) (lt s))) (fun l => (lts ts).all (fun t => Tm.hasT t l)) (fun s => by unfold lts; rw [List.all_map]; rfl) (Tm.partsP (lt ts[0])) (parts_letters (fun x hx => by have := hlo _ hm x hx; omega)) ⟨#[]⟩
  have he : lt (⟨#[]⟩ : ByteArray) = [] := rfl
  rw [he] at hf
  rw [← hf] at h2
  have := h1.unique h2
  rw [← unlt_lt (comV W (lts ts)), this, unlt_lt]
  rfl
set_option maxRecDepth 100000 in
set_option maxHeartbeats 8000000 in
theorem rCommon_ok (W : Int) (A : Option Addr) (ts : List ByteArray) (c : Nat) (w : World) (hA : Strs w A ts) (hl : ts.length ≤ 1000) (hsz : ∀ k, (h : k < ts.length) → ts[k].size ≤ 1000000) (hc : chkSet W ts = 0) : Calls Try.prog 26 #[.agg #[.int .i64 W, .slice A ts.length c]] w (Gives w (strE (comR W ts))) := by
  obtain ⟨hW1, hW2, h0, h3, hs, hf, hsz2, hlo⟩ := chk_val hc
  have h1 : (chkSet W ts != 0) = false := by simp [hc]
  have hRV := refB_val (W := W.toNat) (by omega) h0 hlo
  rw [show comR W ts = (comV W.toNat (lts ts), 0) by simp [comR, hc]]
  rw [← hRV]
  unfold strE
  clear hRV
  have HPA := hide (fun w' => rParts_any ts[0] w' (hs 0 h0))
  have hPL := partB_len (lt ts[0])
  have hPS := partB_size (lt ts[0])
  have hs0 := hs 0 h0
  rw [lt_len] at hPL hPS
  have hpow : 2 ^ ts[0].size ≤ 2 ^ 8 := Nat.pow_le_pow_right (by omega) hs0
  have hPB : (partB (lt ts[0])).length ≤ 256 := by rw [hPL]; exact hpow
  have HPS := hide (fun s (h : s ∈ partB (lt ts[0])) => (show s.size ≤ 8 by have := hPS s h; omega))
  clear hPL hPS hpow
  generalize partB (lt ts[0]) = PB at *
  obtain ⟨ab, ao, rfl, hal, ha2, hc0⟩ := hA 0 ts[0] (by simp [h0])
  rw [Nat.add_zero] at hc0
  generalize hall : (fun s => ts.all (fun t => Tm.hasT (lt t) (lt s))) = aF at *
  have HAF := hide hall
  replace hc := hide hc
  generalize ts[0] = t0 at *
  have h0i : (0 : Int) < (ts.length : Nat) := by omega
  clear hall
  go_enter Try.func26, Try.ntmps26
  go_wp2_with (first
    | (go_at_call 22; refine (rCheckSet_any W _ ts c _ (hA.ext (by (repeat (first | exact Below.refl _ _ | assumption | refine below_drewN ?_ _ | refine below_drew ?_ | refine below_gr ?_ ?_ _ | refine below_alloc ?_ ?_ _ | refine Below.setCell ?_ ?_ _ | refine below_step ?_ (by assumption) ?_ | omega | (simp only [zz] at *; omega))))) hl hsz).mono ?_; rintro e w1 ⟨rfl, hb1⟩; replace hb1 := ex_below hb1; have hz1 := hb1.size; (try simp only [zz] at hz1); have hs1 : w.heap.size < w1.heap.size := (by (first | omega | (simp only [zz] at *; omega))); have ho1 := own_cell hb1 (b := w.heap.size) (by (first | omega | (simp only [zz] at *; omega))); have hq1 := own_frozen hb1 (b := w.heap.size) (by (first | omega | (simp only [zz] at *; omega))); have hlt1 : ∀ b, b < w.heap.size → b < w1.heap.size := fun b hb => (by (first | omega | (simp only [zz] at *; omega))); have hc1 : ∀ b o, b < w.heap.size → w1.cell? ⟨b, o, none⟩ = w.cell? ⟨b, o, none⟩ := old_cell (by (repeat (first | exact Below.refl _ _ | assumption | refine below_drewN ?_ _ | refine below_drew ?_ | refine below_gr ?_ ?_ _ | refine below_alloc ?_ ?_ _ | refine Below.setCell ?_ ?_ _ | refine below_step ?_ (by assumption) ?_ | omega | (simp only [zz] at *; omega)))))
    | (go_at_call 67; refine (HPA.out _).mono ?_; rintro e w2 ⟨A2, c2, rfl, hb2, hP2⟩; replace hb2 := hb2.below; have hz2 := hb2.size; (try simp only [zz] at hz2); have hs2 : w.heap.size < w2.heap.size := (by (first | omega | (simp only [zz] at *; omega))); have ho2 := own_cell hb2 (b := w.heap.size) (by (first | omega | (simp only [zz] at *; omega))); have hq2 := own_frozen hb2 (b := w.heap.size) (by (first | omega | (simp only [zz] at *; omega))); have hlt2 : ∀ b, b < w.heap.size → b < w2.heap.size := fun b hb => (by (first | omega | (simp only [zz] at *; omega))); have hc2 : ∀ b o, b < w.heap.size → w2.cell? ⟨b, o, none⟩ = w.cell? ⟨b, o, none⟩ := old_cell (by (repeat (first | exact Below.refl _ _ | assumption | refine below_drewN ?_ _ | refine below_drew ?_ | refine below_gr ?_ ?_ _ | refine below_alloc ?_ ?_ _ | refine Below.setCell ?_ ?_ _ | refine below_step ?_ (by assumption) ?_ | omega | (simp only [zz] at *; omega))))))

  have hb2w : Below w.heap.size w w2 := by (repeat (first | exact Below.refl _ _ | assumption | (refine below_gr ?_ (by (first | omega | (simp only [zz] at *; omega))) _) | (refine below_alloc ?_ (by (first | omega | (simp only [zz] at *; omega))) _) | (refine Below.setCell ?_ (by (first | omega | (simp only [zz] at *; omega))) _) | refine below_drewN ?_ _ | refine below_drew ?_ | (refine below_step ?_ (by assumption) (by (first | omega | (simp only [zz] at *; omega))))))
  have y1 : w2.cell? ⟨w.heap.size, 1, none⟩ = some (.slice (some ⟨ab, ao, none⟩) ts.length c) := by rw [ho2]; simp [go_sem, *]
  clear ho2 hq2 hlt2 hc2
  go_loopw [5, 6] (fun bv iv wr => ∃ i : Nat, i ≤ PB.length ∧ iv = .int .i64 (i : Nat) ∧ bv = .string ((PB.take i).foldl (refB aF) ⟨#[]⟩) ∧ Hid (((PB.take i).foldl (refB aF) ⟨#[]⟩).size ≤ 8) ∧ Below w2.heap.size w2 wr) (fun _ iv _ => PB.length - (intOf iv).toNat)
  case atStart => exact ⟨0, Nat.zero_le _, rfl, rfl, hide (by simp [ByteArray.size]), Below.refl _ _⟩
  case round =>
    obtain ⟨i, hi, rfl, rfl, HBS, hb⟩ := hrel
    obtain ⟨wo, rfl⟩ : ∃ wo : World, wo = wr := ⟨_, rfl⟩
    have hzo := hb.size
    by_cases hil : i < PB.length
    · obtain ⟨pb, po, rfl, hpb, hpb2, hcp⟩ := (hP2.ext hb) i PB[i] (by simp [hil])
      have hli : (i : Int) < (PB.length : Nat) := by omega
      have HSN := hide (show (PB.take (i + 1)).foldl (refB aF) ⟨#[]⟩ = refB aF ((PB.take i).foldl (refB aF) ⟨#[]⟩) PB[i] by rw [take_snoc _ _ hil, List.foldl_append]; rfl)
      have hv8 := HPS.out PB[i] (List.getElem_mem hil)
      generalize PB[i] = v at *
      have ho8 := HBS.out
      generalize (PB.take i).foldl (refB aF) ⟨#[]⟩ = o at *
      have HVA := hide (congrFun HAF.out v)
      generalize hvx : aF v = av at *
      have HVX := hide hvx
      clear hvx
      go_wp2
      go_loopw [7, 8] (fun bv kv wr => ∃ k : Nat, k ≤ ts.length ∧ kv = .int .i64 (k : Nat) ∧ bv = .bool ((ts.take k).all (fun t => Tm.hasT (lt t) (lt v))) ∧ Below wo.heap.size wo wr) (fun _ kv _ => ts.length - (intOf kv).toNat)
      case atStart => exact ⟨0, Nat.zero_le _, rfl, rfl, Below.refl _ _⟩
      case round =>
        obtain ⟨k, hk, rfl, rfl, hb3⟩ := hrel
        have hz3 := hb3.size
        have hbr : Below w2.heap.size w2 wr := hb.trans (hb3.mono hzo)
        have hbw : Below w.heap.size w wr := hb2w.trans (hbr.mono hb2w.size)
        have z1 := (hbr.cell (p := ⟨w.heap.size, 1, none⟩) (by show w.heap.size < _; omega)).trans y1
        have hwr : w.heap.size < wr.heap.size := by omega
        by_cases hkl : k < ts.length
        · obtain ⟨tb, toff, hte, htl, htl2, ht0⟩ := (hA.ext hbw) k ts[k] (by simp [hkl])
          injection hte with hte
          injection hte with e1 e2 e3
          subst e1 e2
          have HAN := hide (show (ts.take (k + 1)).all (fun t => Tm.hasT (lt t) (lt v)) = ((ts.take k).all (fun t => Tm.hasT (lt t) (lt v)) && Tm.hasT (lt ts[k]) (lt v)) by rw [take_snoc _ _ hkl, List.all_append]; simp)
          have hs1 := hsz2 k hkl
          have hkli : (k : Int) < (ts.length : Nat) := by omega
          have hcp2 := (hb3.cell (p := ⟨pb, po + i, none⟩) hpb).trans hcp
          have hpb3 : pb < wr.heap.size := by omega
          generalize ts[k] = t at *
          generalize (ts.take k).all (fun t => Tm.hasT (lt t) (lt v)) = al at *
          cases al with
          | false =>
            go_wp2
            refine wp_region_grow (by kernel_rfl) (by kernel_rfl) ?_
            repeat (go_big_quiet_step (fail))
            refine wpQuiet_nil ?_
            intro w4 hb4
            replace hb4 := ex_below hb4
            have hz4 := hb4.size
            (try simp only [zz] at hz4)
            have hs4 : w.heap.size < w4.heap.size := (by (first | omega | (simp only [zz] at *; omega)))
            have ho4 := own_cell hb4 (b := w.heap.size) (by (first | omega | (simp only [zz] at *; omega)))
            have hq4 := own_frozen hb4 (b := w.heap.size) (by (first | omega | (simp only [zz] at *; omega)))
            have hlt4 : ∀ b, b < wr.heap.size → b < w4.heap.size := fun b hb => (by (first | omega | (simp only [zz] at *; omega)))
            have hc4 : ∀ b o, b < wr.heap.size → w4.cell? ⟨b, o, none⟩ = wr.cell? ⟨b, o, none⟩ := old_cell (by (repeat (first | exact Below.refl _ _ | assumption | refine below_drewN ?_ _ | refine below_drew ?_ | refine below_gr ?_ ?_ _ | refine below_alloc ?_ ?_ _ | refine Below.setCell ?_ ?_ _ | refine below_step ?_ (by assumption) ?_ | omega | (simp only [zz] at *; omega))))
            go_wp2
            exact ⟨⟨k + 1, by omega, by go_num, by rw [HAN.out]; rfl, hb3.trans (hb4.mono hz3)⟩, by simp [intOf]; omega⟩
          | true =>
            have HH := hide (fun w' => rHasTape_any t v w' hs1 (by omega))
            generalize Tm.hasT (lt t) (lt v) = hv at *
            go_wp2
            refine wp_region_grow (by kernel_rfl) (by kernel_rfl) ?_
            repeat (go_big_quiet_step ((go_at_call 50; exact Gives.quiet (HH.out _))))
            refine wpQuiet_nil ?_
            intro w4 hb4
            replace hb4 := ex_below hb4
            have hz4 := hb4.size
            (try simp only [zz] at hz4)
            have hs4 : w.heap.size < w4.heap.size := (by (first | omega | (simp only [zz] at *; omega)))
            have ho4 := own_cell hb4 (b := w.heap.size) (by (first | omega | (simp only [zz] at *; omega)))
            have hq4 := own_frozen hb4 (b := w.heap.size) (by (first | omega | (simp only [zz] at *; omega)))
            have hlt4 : ∀ b, b < wr.heap.size → b < w4.heap.size := fun b hb => (by (first | omega | (simp only [zz] at *; omega)))
            have hc4 : ∀ b o, b < wr.heap.size → w4.cell? ⟨b, o, none⟩ = wr.cell? ⟨b, o, none⟩ := old_cell (by (repeat (first | exact Below.refl _ _ | assumption | refine below_drewN ?_ _ | refine below_drew ?_ | refine below_gr ?_ ?_ _ | refine below_alloc ?_ ?_ _ | refine Below.setCell ?_ ?_ _ | refine below_step ?_ (by assumption) ?_ | omega | (simp only [zz] at *; omega))))
            go_wp2
            exact ⟨⟨k + 1, by omega, by go_num, by rw [HAN.out]; rfl, hb3.trans (hb4.mono hz3)⟩, by simp [intOf]; omega⟩
        · have hke : k = ts.length := by omega
          have hkli : ¬ ((k : Int) < (ts.length : Nat)) := by omega
          have HTA : Hid ((ts.take k).all (fun t => Tm.hasT (lt t) (lt v)) = av) := hide (by rw [hke, List.take_length]; exact HVA.out)
          rw [HTA.out]
          clear hke
          have hcp2 := (hb3.cell (p := ⟨pb, po + i, none⟩) hpb).trans hcp
          have hpb3 : pb < wr.heap.size := by omega
          have hbs : Below w2.heap.size w2 wr := hbr
          cases hav : av with
          | false =>
            have HR : Hid (refB aF o v = o) := hide (by unfold refB; rw [HVX.out, if_neg (by simp [hav])])
            go_wp2
            exact ⟨⟨i + 1, by omega, by go_num, by rw [HSN.out, HR.out], hide (by rw [HSN.out, HR.out]; exact HBS.out), hbr⟩, by simp [intOf]; omega⟩
          | true =>
            by_cases g1 : o.size < v.size
            · have HR : Hid (refB aF o v = v) := hide (by unfold refB; rw [HVX.out, if_pos ⟨hav, .inl g1⟩])
              have d1 : decide ((o.size : Int) < (v.size : Nat)) = true := decide_eq_true (by omega)
              have d2 : decide (o.size < v.size) = true := decide_eq_true (by omega)
              go_wp2
              exact ⟨⟨i + 1, by omega, by go_num, by rw [HSN.out, HR.out], hide (by rw [HSN.out, HR.out]; exact hv8), hbr⟩, by simp [intOf]; omega⟩
            · have d1 : decide ((o.size : Int) < (v.size : Nat)) = false := decide_eq_false (by omega)
              have d2 : decide (o.size < v.size) = false := decide_eq_false (by omega)
              by_cases g2 : v.size = o.size
              · have d3 : ((v.size : Int) == (o.size : Nat)) = true := by simp; omega
                have d4 : (v.size == o.size) = true := by simp; omega
                have HL := hide (lss_lt v o)
                cases hls : Op.bytesLess v.toList o.toList with
                | true =>
                  have HR : Hid (refB aF o v = v) := hide (by unfold refB; rw [HVX.out, if_pos ⟨hav, .inr ⟨g2, by rw [← HL.out]; exact hls⟩⟩])
                  replace g2 := hide g2
                  go_wp2
                  exact ⟨⟨i + 1, by omega, by go_num, by rw [HSN.out, HR.out], hide (by rw [HSN.out, HR.out]; exact hv8), hbr⟩, by simp [intOf]; omega⟩
                | false =>
                  have HR : Hid (refB aF o v = o) := hide (by unfold refB; rw [HVX.out, if_neg (fun h => by rcases h.2 with h | h; omega; rw [← HL.out, hls] at h; exact absurd h.2 (by simp))])
                  replace g2 := hide g2
                  go_wp2
                  exact ⟨⟨i + 1, by omega, by go_num, by rw [HSN.out, HR.out], hide (by rw [HSN.out, HR.out]; exact HBS.out), hbr⟩, by simp [intOf]; omega⟩
              · have d3 : ((v.size : Int) == (o.size : Nat)) = false := by simp; omega
                have d4 : (v.size == o.size) = false := by simp; omega
                have HR : Hid (refB aF o v = o) := hide (by unfold refB; rw [HVX.out, if_neg (fun h => by rcases h.2 with h | h <;> omega)])
                go_wp2
                exact ⟨⟨i + 1, by omega, by go_num, by rw [HSN.out, HR.out], hide (by rw [HSN.out, HR.out]; exact HBS.out), hbr⟩, by simp [intOf]; omega⟩
    · have hie : i = PB.length := by omega
      have hli : ¬ ((i : Int) < (PB.length : Nat)) := by omega
      have HF : Hid ((PB.take i).foldl (refB aF) ⟨#[]⟩ = PB.foldl (refB aF) ⟨#[]⟩) := hide (by rw [hie, List.take_length])
      rw [HF.out]
      clear hie
      go_wp2
      go_ret2
      exact gives_of (rfl) (by exact hb2w.trans (hb.mono hb2w.size))
set_option maxRecDepth 100000 in
set_option maxHeartbeats 1000000 in
theorem rCommon_any (W : Int) (A : Option Addr) (ts : List ByteArray) (c : Nat) (w : World) (hA : Strs w A ts) (hl : ts.length ≤ 1000) (hsz : ∀ k, (h : k < ts.length) → ts[k].size ≤ 1000000) : Calls Try.prog 26 #[.agg #[.int .i64 W, .slice A ts.length c]] w (Gives w (strE (comR W ts))) := by
  by_cases hc : chkSet W ts = 0
  · exact rCommon_ok W A ts c w hA hl hsz hc
  · have h1 : (chkSet W ts != 0) = true := by simp [hc]
    rw [show comR W ts = (⟨#[]⟩, chkSet W ts) by simp [comR, hc]]
    unfold strE
    replace hc := hide hc
    go_enter Try.func26, Try.ntmps26
    go_wp2_with (first
    | (go_at_call 22; refine (rCheckSet_any W A ts c _ (hA.ext (by (repeat (first | exact Below.refl _ _ | assumption | refine below_drewN ?_ _ | refine below_drew ?_ | refine below_gr ?_ ?_ _ | refine below_alloc ?_ ?_ _ | refine Below.setCell ?_ ?_ _ | refine below_step ?_ (by assumption) ?_ | omega | (simp only [zz] at *; omega))))) hl hsz).mono ?_; rintro e w1 ⟨rfl, hb1⟩; replace hb1 := ex_below hb1; have hz1 := hb1.size; (try simp only [zz] at hz1); have hs1 : w.heap.size < w1.heap.size := (by (first | omega | (simp only [zz] at *; omega))); have ho1 := own_cell hb1 (b := w.heap.size) (by (first | omega | (simp only [zz] at *; omega))); have hq1 := own_frozen hb1 (b := w.heap.size) (by (first | omega | (simp only [zz] at *; omega))); have hlt1 : ∀ b, b < w.heap.size → b < w1.heap.size := fun b hb => (by (first | omega | (simp only [zz] at *; omega))); have hc1 : ∀ b o, b < w.heap.size → w1.cell? ⟨b, o, none⟩ = w.cell? ⟨b, o, none⟩ := old_cell (by (repeat (first | exact Below.refl _ _ | assumption | refine below_drewN ?_ _ | refine below_drew ?_ | refine below_gr ?_ ?_ _ | refine below_alloc ?_ ?_ _ | refine Below.setCell ?_ ?_ _ | refine below_step ?_ (by assumption) ?_ | omega | (simp only [zz] at *; omega))))))

    go_ret2
    exact gives_of (rfl) (by (repeat (first | exact Below.refl _ _ | assumption | refine below_drewN ?_ _ | refine below_drew ?_ | refine below_gr ?_ ?_ _ | refine below_alloc ?_ ?_ _ | refine Below.setCell ?_ ?_ _ | refine below_step ?_ (by assumption) ?_ | omega | (simp only [zz] at *; omega))))
end Go.Proofs.Ytafncmgijbkomaa
