/- Proved here: contracts and laws of C15, a part of the proofs about the crowd laws: what some functions of the program and of the reference compute, and plain facts about it. Conditions: those that each theorem names, no others. -/
import Derived.Test.YtbfhkknpocbeaaaC14
import Derived.WalkKit
import Derived.WalkSpells
import Derived.WalkLawsBesides
import Derived.Below
import Derived.Deep.QuietTactic
import Derived.BigQuiet
import Derived.Deep.Light
import Derived.StillTailTactics
import Derived.Maps.RangeWalk
import Derived.Maps.OwnSet
import Derived.Laws.MakeOwn
import Derived.Deep.CutBlock
import Derived.Deep.DeepCutAuto
set_option linter.unusedSimpArgs false
set_option linter.unusedVariables false
namespace Go.Proofs.Ytbfhkknpocbeaaa
open Go.RowKit Go.Maps
theorem run_makeI (n : Nat) (hn : n ≤ 1000) (W : World) : (Instr.makeSlice 25 (.int .i64 (n : Int)) (.int .i64 (n : Int))).run Try.prog W = .ok (.slice (some ⟨W.heap.size, 0, none⟩) n n) (W.alloc (.cells ((List.replicate n (0 : Int)).map (Value.int .i64)).toArray 2)) := by
  obtain ⟨i0, ih, iz, is, ib⟩ := info_parts info64
  have hb : (i0.bytes : Int) * ((n : Int)) ≤ 281474976710656 := by rw [ib]; omega
  have hr := run_make (P := Try.prog) W 25 2 i0 _ Try.underlying25 ih iz .i64 .i64 n n (by omega) (by omega) hb (by omega)
  simp only [Int.toNat_natCast, is, Nat.mul_one] at hr
  rw [hr]
  have e : madeCells (Value.int .i64 0).cells n = ((List.replicate n (0 : Int)).map (Value.int .i64)).toArray := by
    apply Array.ext
    · simp [size_madeCells]
    · intro i h1 h2
      simp [madeCells, Value.cells, Nat.mod_one]
  rw [e]
def GivesServe (w : World) (out : List Int) (shut : Nat) (e : Ending) (w' : World) : Prop := ∃ O c', e = .returned (.tuple #[.slice O out.length c', .int .i64 shut]) ∧ (∃ g, w' = w.grow g) ∧ I64 w' O out
theorem wf64 (x : Int) (h1 : -9223372036854775808 ≤ x) (h2 : x ≤ 9223372036854775807) : (Lit.int .i64 x).wf = true := by
  simp only [Lit.wf, Bool.and_eq_true, decide_eq_true_eq]
  exact ⟨h1, h2⟩
def St (w wr : World) (u : Nat → Int) (n : Nat) (out : List Int) (nn : Nat) (q : Nat → Bool) : Prop :=
  Below w.heap.size w wr ∧ OwnI wr w.heap.size out ∧ ∃ D : DataW Unit, wr.ownsMap Try.prog 100 (plainElem Try.prog 3) (w.heap.size + 1) nn D ∧ HasQ D u n q
theorem St.step {w wr wx : World} {u : Nat → Int} {n nn : Nat} {out : List Int} {q : Nat → Bool} (h : St w wr u n out nn q) (hb : Below wr.heap.size wr wx) : St w wx u n out nn q := by
  obtain ⟨h1, h2, D, h3, h4⟩ := h
  exact ⟨h1.trans (hb.mono h1.size), h2.below hb, D, ownsMap_below h3 hb, h4⟩
theorem St.congr {w wr : World} {u : Nat → Int} {n nn : Nat} {out : List Int} {q q' : Nat → Bool} (h : St w wr u n out nn q) (e : ∀ i, i < n → q i = q' i) : St w wr u n out nn q' := by
  obtain ⟨h1, h2, D, h3, h4⟩ := h
  exact ⟨h1, h2, D, h3, h4.congr e⟩
theorem St.more {w wr : World} {u : Nat → Int} {n nn nn' : Nat} {out : List Int} {q : Nat → Bool} (h : St w wr u n out nn q) (e : nn ≤ nn') : St w wr u n out nn' q := by
  obtain ⟨h1, h2, D, h3, h4⟩ := h
  exact ⟨h1, h2, D, h3.mono e, h4⟩
set_option maxRecDepth 100000 in
set_option maxHeartbeats 2000000 in
theorem serve_any (m : Nat) (A : Option Addr) (ps : List P3) (c fb mc : Nat) (C : Option Addr) (cm : List Int) (cc : Nat) (w : World) (hA : Ppl w A ps) (hl : ps.length ≤ 100) (hF : Flr w fb m A ps.length c) (hC : I64 w C cm)
    (hlen : cm.length = ps.length) (hm : m ≤ 60) (hu : ∀ i, i < ps.length → 1 ≤ untN ps i ∧ untN ps i ≤ m) (hcm : ∀ i, i < ps.length → 1 ≤ atI cm i) (hmc : mc ≤ 30) :
    Calls Try.prog 49 #[.pointer (some ⟨fb, 0, none⟩), .int .i64 mc, .slice C cm.length cc] w (GivesServe w (servedT (untN ps) cm ps.length mc m) (shutN (untN ps) cm (servedT (untN ps) cm ps.length mc m) ps.length (m + 1))) := by
  have hmk := run_makeI ps.length (by omega)
  have hmm := @run_makeMap Try.prog
  have hokS : ∀ i, i < ps.length → okS ⟨untN ps i, i⟩ := fun i hi => by
    have := hu i hi
    exact ⟨wf64 (untN ps i) (by omega) (by omega), wf64 (i : Int) (by omega) (by omega)⟩
  obtain ⟨hf, hf0, hf1⟩ := hF
  rw [hlen]
  generalize hU : untN ps = u at *
  go_enter Try.func49, Try.ntmps49
  go_wp2
  go_loopw [9, 11] (fun sh mi wr => ∃ (T : Nat) (t : Int), t = (T : Int) + 1 ∧ T ≤ m ∧ mi = .int .i64 t ∧ sh = .int .i64 (shutN u cm (servedT u cm ps.length mc T) ps.length t) ∧ St w wr u ps.length (servedT u cm ps.length mc T) (T * 200) (inK u cm (servedT u cm ps.length mc T) t 0)) (fun _ mi _ => m + 1 - (intOf mi).toNat)
  case atStart =>
    refine ⟨0, 1, rfl, Nat.zero_le _, rfl, ?_, ?_, ?_, .map [], ?_, HasQ.empty _ _ _ ?_⟩
    · unfold shutN
      rw [List.countP_eq_zero.2]
      · rfl
      · intro i hi
        have := hu i (by simpa using hi)
        simp
        omega
    · exact ((Below.refl _ w).alloc (Nat.le_refl _) _).alloc (by simp) _
    · have := (OwnI.new w (List.replicate ps.length 0)).alloc (.map #[] 0)
      simpa [servedT] using this
    · have := World.ownsMap_made (H := Unit) (w.alloc (Obj.cells (Array.replicate ps.length (Value.int IntKind.i64 0)) 2)) Try.prog 100 (plainElem Try.prog 3)
      rw [World.size_alloc] at this
      simpa using this
    · intro i hi
      have := hcm i hi
      simp [inK]
      omega
  case round =>
    obtain ⟨T, t, ht, hT, rfl, rfl, hst⟩ := hrel
    have hol := servedT_len (u := u) (cm := cm) (n := ps.length) (mc := mc) T
    have hinv := served_inv (u := u) (cm := cm) (n := ps.length) (mc := mc) T
    have hlast := hide (show servedT u cm ps.length mc (T + 1) = minuteM u cm ps.length t mc (servedT u cm ps.length mc T) by rw [ht]; rfl)
    generalize hgo : servedT u cm ps.length mc T = out at *
    replace hgo := hide hgo
    have ht1 : 1 ≤ t := by omega
    have ht2 : t ≤ m + 1 := by omega
    have hT1 := hide ht
    clear ht
    have hb := hst.1
    have hzr := hb.size
    (try simp only [size_grow, World.size_alloc, size_drewN, size_drew, size_setCell] at hzr)
    have hltr : ∀ b, b < w.heap.size → b < wr.heap.size := fun b hb => (by (first | omega | (simp only [size_grow, World.size_alloc, size_drewN, size_drew, size_setCell] at *; omega)))
    have hcr : ∀ b o, b < w.heap.size → wr.cell? ⟨b, o, none⟩ = w.cell? ⟨b, o, none⟩ := old_cell (by (repeat (first | exact Below.refl _ _ | assumption | (refine below_gr ?_ (by (first | omega | (simp only [size_grow, World.size_alloc, size_drewN, size_drew, size_setCell] at *; omega))) _) | (refine below_alloc ?_ (by (first | omega | (simp only [size_grow, World.size_alloc, size_drewN, size_drew, size_setCell] at *; omega))) _) | (refine Below.setCell ?_ (by (first | omega | (simp only [size_grow, World.size_alloc, size_drewN, size_drew, size_setCell] at *; omega))) _) | refine below_drewN ?_ _ | refine below_drew ?_ | (refine below_step ?_ (by assumption) (by (first | omega | (simp only [size_grow, World.size_alloc, size_drewN, size_drew, size_setCell] at *; omega)))))))
    by_cases hlt : t ≤ m
    · go_upto_block 2 with fail
      go_cut [9] (fun sh wx => sh = .int .i64 (shutN u cm out ps.length t) ∧ St w wx u ps.length out (T * 200 + ps.length) (inK u cm out t ps.length))
      case first =>
        go_wp2_with fail
        obtain ⟨wo, rfl⟩ : ∃ wo : World, wo = wr := ⟨_, rfl⟩
        go_loopw [31] (fun i wx => ∃ k : Nat, k ≤ ps.length ∧ i = .int .i64 k ∧ St w wx u ps.length out (T * 200 + k) (inK u cm out t k)) (fun i _ => ps.length - (intOf i).toNat)
        case atStart => exact ⟨0, Nat.zero_le _, rfl, hst⟩
        case round =>
          obtain ⟨k, hk, rfl, hsx⟩ := hrel
          have hbx := hsx.1
          have hzx := hbx.size
          (try simp only [size_grow, World.size_alloc, size_drewN, size_drew, size_setCell] at hzx)
          have hltx : ∀ b, b < w.heap.size → b < wr.heap.size := fun b hb => (by (first | omega | (simp only [size_grow, World.size_alloc, size_drewN, size_drew, size_setCell] at *; omega)))
          have hcx : ∀ b o, b < w.heap.size → wr.cell? ⟨b, o, none⟩ = w.cell? ⟨b, o, none⟩ := old_cell (by (repeat (first | exact Below.refl _ _ | assumption | (refine below_gr ?_ (by (first | omega | (simp only [size_grow, World.size_alloc, size_drewN, size_drew, size_setCell] at *; omega))) _) | (refine below_alloc ?_ (by (first | omega | (simp only [size_grow, World.size_alloc, size_drewN, size_drew, size_setCell] at *; omega))) _) | (refine Below.setCell ?_ (by (first | omega | (simp only [size_grow, World.size_alloc, size_drewN, size_drew, size_setCell] at *; omega))) _) | refine below_drewN ?_ _ | refine below_drew ?_ | (refine below_step ?_ (by assumption) (by (first | omega | (simp only [size_grow, World.size_alloc, size_drewN, size_drew, size_setCell] at *; omega)))))))
          by_cases hlk : k < ps.length
          · obtain ⟨b, off, hAe, hbl, hbl2, hp0, hp1, hp2⟩ := hA k ps[k] (by simp [hlk])
            obtain ⟨tb, toff, hCe, htl, htl2, ht0⟩ := hC k (atI cm k) (by rw [atI_lt cm k (by omega)])
            have huk := hide (show ps[k].un = u k by rw [← hU]; simp [untN, List.getD_eq_getElem?_getD, hlk])
            have hokk := hokS k hlk
            have hmiss := hide (inK_miss (u := u) (cm := cm) (out := out) (t := t) (k := k))
            have hhit := hide (inK_hit (u := u) (cm := cm) (out := out) (t := t) (k := k))
            have hnew := hide (inK_new (u := u) (cm := cm) (out := out) (t := t) (k := k))
            have hik := hide (hinv k)
            generalize ps[k] = pk at *
            subst hAe hCe
            obtain ⟨_, h2x, D, hown, hq⟩ := hsx
            have hpk : pk.un = u k := huk.out
            rw [hpk] at hp2
            by_cases hct : atI cm k = t
            · rw [hct] at ht0
              by_cases htu : t ≤ u k
              · go_wp2_with (at_mapUpdate; refine wpList_mapUpdate_own _ rfl _ _ _ 96 rfl 100 3 lawS Try.underlying96 _ (w.heap.size + 1) (T * 200 + k) D rfl hown (by unfold maxLen; omega) (encS ⟨u k, k⟩) _ _ rfl rfl (keyS_mk hokk) (.lit (.int .i64 1)) [] (plainElem_int Try.underlying3 (by decide)) ?_; intro w1 hown1 hgrow1)
                go_roundw
                case measure => simp [intOf]; omega
                have hk0 : atI out k = 0 := by
                  rcases Decidable.em (atI out k = 0) with h | h
                  · exact h
                  · have := hik.out h; have := hT1.out; omega
                exact ⟨k + 1, by omega, by go_num, hbx.grown hgrow1 hbx.size (fun j e => by cases e; omega), h2x.kept hgrow1 (by simp), _, hown1, (hq.put _ hlk (hnew.out hct) hokk).congr (fun i _ => hhit.out hk0 hct htu i)⟩
              · go_wp2
                go_roundw
                case measure => simp [intOf]; omega
                exact ⟨k + 1, by omega, by go_num, hbx, h2x, D, hown.mono (by omega), hq.congr (fun i _ => hmiss.out (by omega) i)⟩
            · go_wp2
              go_roundw
              case measure => simp [intOf]; omega
              exact ⟨k + 1, by omega, by go_num, hbx, h2x, D, hown.mono (by omega), hq.congr (fun i _ => hmiss.out (by omega) i)⟩
          · have hkl : k = ps.length := by omega
            subst hkl
            go_wp2
            go_meet
            exact ⟨rfl, hsx⟩
      case rest =>
        obtain ⟨rfl, hst2⟩ := hcut
        replace hst2 := hst2.congr (fun i hi => inK_n hi)
        have hb2 := hst2.1
        have hzc := hb2.size
        (try simp only [size_grow, World.size_alloc, size_drewN, size_drew, size_setCell] at hzc)
        have hltc : ∀ b, b < w.heap.size → b < wc.heap.size := fun b hb => (by (first | omega | (simp only [size_grow, World.size_alloc, size_drewN, size_drew, size_setCell] at *; omega)))
        have hcc : ∀ b o, b < w.heap.size → wc.cell? ⟨b, o, none⟩ = w.cell? ⟨b, o, none⟩ := old_cell (by (repeat (first | exact Below.refl _ _ | assumption | (refine below_gr ?_ (by (first | omega | (simp only [size_grow, World.size_alloc, size_drewN, size_drew, size_setCell] at *; omega))) _) | (refine below_alloc ?_ (by (first | omega | (simp only [size_grow, World.size_alloc, size_drewN, size_drew, size_setCell] at *; omega))) _) | (refine Below.setCell ?_ (by (first | omega | (simp only [size_grow, World.size_alloc, size_drewN, size_drew, size_setCell] at *; omega))) _) | refine below_drewN ?_ _ | refine below_drew ?_ | (refine below_step ?_ (by assumption) (by (first | omega | (simp only [size_grow, World.size_alloc, size_drewN, size_drew, size_setCell] at *; omega)))))))
        go_upto_block 4 with fail
        go_cut [9] (fun sh wx => sh = .int .i64 (shutN u cm out ps.length t) ∧ St w wx u ps.length (minuteM u cm ps.length t mc out) (T * 200 + ps.length) (inQ u cm (minuteM u cm ps.length t mc out) t))
        case first =>
          go_wp2_with fail
          obtain ⟨wo, rfl⟩ : ∃ wo : World, wo = wc := ⟨_, rfl⟩
          go_loopw [66] (fun i wx => ∃ j : Nat, j ≤ mc ∧ i = .int .i64 j ∧ St w wx u ps.length (minuteM u cm ps.length t j out) (T * 200 + ps.length) (inQ u cm (minuteM u cm ps.length t j out) t)) (fun i _ => mc - (intOf i).toNat)
          case atStart => exact ⟨0, Nat.zero_le _, rfl, hst2⟩
          case round =>
            obtain ⟨j, hj, rfl, hsx⟩ := hrel
            have hbx := hsx.1
            have hzx := hbx.size
            (try simp only [size_grow, World.size_alloc, size_drewN, size_drew, size_setCell] at hzx)
            have hltx : ∀ b, b < w.heap.size → b < wr.heap.size := fun b hb => (by (first | omega | (simp only [size_grow, World.size_alloc, size_drewN, size_drew, size_setCell] at *; omega)))
            have hcx : ∀ b o, b < w.heap.size → wr.cell? ⟨b, o, none⟩ = w.cell? ⟨b, o, none⟩ := old_cell (by (repeat (first | exact Below.refl _ _ | assumption | (refine below_gr ?_ (by (first | omega | (simp only [size_grow, World.size_alloc, size_drewN, size_drew, size_setCell] at *; omega))) _) | (refine below_alloc ?_ (by (first | omega | (simp only [size_grow, World.size_alloc, size_drewN, size_drew, size_setCell] at *; omega))) _) | (refine Below.setCell ?_ (by (first | omega | (simp only [size_grow, World.size_alloc, size_drewN, size_drew, size_setCell] at *; omega))) _) | refine below_drewN ?_ _ | refine below_drew ?_ | (refine below_step ?_ (by assumption) (by (first | omega | (simp only [size_grow, World.size_alloc, size_drewN, size_drew, size_setCell] at *; omega)))))))
            by_cases hlj : j < mc
            · have hojl : (minuteM u cm ps.length t j out).length = ps.length := by rw [minuteM_len]; exact hol
              have hnext := hide (show minuteM u cm ps.length t (j + 1) out = stepM u cm ps.length t (minuteM u cm ps.length t j out) from rfl)
              have hstop := hide (fun h => minuteM_stop (u := u) (cm := cm) (n := ps.length) (t := t) (out := out) (j := j) h hj)
              generalize minuteM u cm ps.length t j out = oj at *
              obtain ⟨_, h2x, D, hown, hq⟩ := hsx
              cases hp : pickN (inQ u cm oj t) u ps.length with
              | none =>
                have hz := hq.zero.2 hp
                go_wp2_with (at_len; refine wpList_len_own _ rfl _ 96 rfl 100 3 Try.underlying96 _ (w.heap.size + 1) _ D rfl hown ?_)
                go_meet
                refine ⟨rfl, ?_⟩
                rw [hstop.out hp]
                exact ⟨hbx, h2x, D, hown, hq⟩
              | some bb =>
                have hz : Maps.size D ≠ 0 := fun h => by have := hq.zero.1 h; rw [hp] at this; cases this
                obtain ⟨hbb, hqb, _⟩ := pickN_some hp
                have hbo := hokS bb hbb
                have hsm := hq.small
                have hoc := h2x.cell (k := bb) (by omega)
                have hof := h2x.frozen bb
                go_wp2_with (first
                  | (at_len; refine wpList_len_own _ rfl _ 96 rfl 100 3 Try.underlying96 _ (w.heap.size + 1) _ D rfl hown ?_)
                  | (go_at_call 71; refine (keys_any _ _).mono ?_; rintro e w0 ⟨rfl, rfl⟩)
                  | (go_at_call 70; refine (collect_any wr.heap.size (w.heap.size + 1) _ D _ (by simp) (by simp) (hown.alloc _) (by omega)).mono ?_; rintro e w1 ⟨A1, ss, c1, rfl, hg1, hS, hsl, hss⟩; obtain ⟨hne, hmin⟩ := hq.min hokS hS hp; have hbw1 := ex_below hg1)
                  | (go_at_call 69; have hleast := least_any A1 ss c1 w1 hss hsl (List.length_pos_iff.2 hne); rw [hmin] at hleast; refine hleast.mono ?_; rintro e w2 ⟨rfl, hg2⟩; have hbw2 := ex_below hg2; have hown2 := ownsMap_below (ownsMap_below (hown.alloc (.cells #[.map (some (w.heap.size + 1))] 96)) hbw1) hbw2; have h2x2 := ((h2x.alloc (.cells #[.map (some (w.heap.size + 1))] 96)).below hbw1).below hbw2; have hoc2 := h2x2.cell (k := bb) (by omega); have hof2 := h2x2.frozen bb; have hs2 := h2x2.lt; have hm2 := hown2.lt; have hsz2 := hbw2.size; have hsz1 := hbw1.size; rw [World.size_alloc] at hsz1)
                  | (at_delete; refine wpList_delete_own _ rfl _ _ 96 100 rfl 3 lawS Try.underlying96 _ (w.heap.size + 1) (T * 200 + ps.length) D rfl (by first | exact (hown2.setCell (by simp) _).alloc _ | exact (hown2.alloc _).setCell (by simp) _) (encS ⟨u bb, bb⟩) _ rfl (keyS_mk hbo) ?_; intro w3 hown3 hturn3))
                have hB2 : Below w.heap.size w w2 := (((hbx.alloc hbx.size _).trans (hbw1.mono (by simp; omega))).trans (hbw2.mono (by omega)))
                go_roundw
                case measure => simp [intOf]; omega
                have hst4 : minuteM u cm ps.length t (j + 1) out = oj.set bb t := by rw [hnext.out]; unfold stepM; rw [hp]
                refine ⟨j + 1, by omega, by go_num, ?_⟩
                rw [hst4]
                exact ⟨(((Below.setCell (p := ⟨w.heap.size, bb, none⟩) hB2 (Nat.le_refl _) _).alloc (by simp; omega) _).grown hturn3.grown (by simp; omega) (fun j e => by cases e; omega)), ((h2x2.set bb t).alloc _).kept hturn3.grown (by simp), _, hown3, (hq.del hbb hqb hbo).congr (fun i _ => inQ_step (by omega) hojl hp i)⟩
            · have hjl : j = mc := by omega
              subst hjl
              go_wp2
              go_meet
              exact ⟨rfl, hsx⟩
        case rest =>
          obtain ⟨rfl, hst3⟩ := hcut
          rw [← shutN_minute (u := u) (cm := cm) (t := t) hol mc]
          have hol2 : (minuteM u cm ps.length t mc out).length = ps.length := by rw [minuteM_len]; exact hol
          generalize minuteM u cm ps.length t mc out = o2 at *
          obtain ⟨hb3, h3x, D3, hown3, hq3⟩ := hst3
          have hs3 := h3x.lt
          have hs3m := hown3.lt
          go_wp2_with (at_range; refine wpList_range_own _ rfl _ 96 rfl 100 3 lawS Try.underlying96 _ (w.heap.size + 1) _ D3 rfl hown3 ?_; intro w0 hrg0 hg0 hs0)
          go_frame
          obtain ⟨r, hr⟩ : ∃ r, r = wc.heap.size := ⟨_, rfl⟩
          rw [← hr] at hrg0 ⊢
          have hr1 : w.heap.size + 1 < r := by omega
          clear hr
          go_loopw [9] (fun sh wx => ∃ (left : Lit → Bool) (cnt : Nat) (D : DataW Unit) (seen : Nat → Bool), wx.ranges Try.prog 100 (plainElem Try.prog 3) (w.heap.size + 1) r (T * 200 + ps.length) D left cnt ∧ HasR D left u ps.length t (inQ u cm o2 t) seen ∧
            (∃ sn : Nat, sh = .int .i64 sn ∧ Hid (sn = shutN u cm o2 ps.length t + (List.range ps.length).countP (fun i => inQ u cm o2 t i && (seen i && decide (u i = t))))) ∧ Below w.heap.size w wx ∧ OwnI wx w.heap.size o2) (fun _ wx => wx.rangeLeft (w.heap.size + 1) r)
          case atStart =>
            refine ⟨_, _, D3, fun _ => false, hrg0, HasR.start hq3 t, ⟨_, rfl, hide (by simp)⟩, hb3.grown hg0 hb3.size (fun j e => by cases e), h3x.kept hg0 (by simp)⟩
          case round =>
            obtain ⟨left, cnt, D, seen, hrg, hR, ⟨sn, rfl, hsn⟩, hbx, h2x⟩ := hrel
            have hrlt := hrg.lt
            have hs2x := h2x.lt
            go_wp2_with (at_next; refine wpList_next_ranges _ rfl _ rfl 100 lawS (plainElem Try.prog 3) encS (Value.int .i64) (fun key kl hk => by obtain ⟨x, _, hx, _⟩ := keyS_inv hk; exact ⟨x, hx⟩) (fun v y hv => by obtain ⟨c, rfl, _⟩ := plainElem_int_inv Try.underlying3 hv; exact ⟨c, rfl⟩) (w.heap.size + 1) r _ _ _ _ rfl hrg ?_ ?_)
            · intro hc0 hl0
              have hseen := hR.done hokS hl0
              have hcnt : (List.range ps.length).countP (fun i => inQ u cm o2 t i && (seen i && decide (u i = t))) = (List.range ps.length).countP (fun i => inQ u cm o2 t i && decide (u i = t)) := List.countP_congr (fun i hi => by
                have := hseen i (by simpa using hi)
                cases hq : inQ u cm o2 t i
                · simp
                · simp [this hq])
              have hsn2 := hide (hsn.out.trans (by rw [hcnt]))
              clear hsn
              rw [← shutN_next] at hsn2
              go_wp2
              go_roundw
              case measure => simp [intOf]; omega
              refine ⟨T + 1, t + 1, by have := hT1.out; omega, by have := hT1.out; omega, by go_num, ?_, hbx, ?_, D, ?_, ?_⟩
              · rw [hlast.out, hsn2.out]
              · rw [hlast.out]; exact h2x
              · exact (hrg.owns).mono (by omega)
              · rw [hlast.out]
                refine hR.hq.congr (fun i hi => ?_)
                rw [inK_zero]
                have := hseen i hi
                show (inQ u cm o2 t i && !(seen i && decide (u i = t))) = (inQ u cm o2 t i && !decide (u i = t))
                cases hq : inQ u cm o2 t i
                · simp
                · simp [this hq]
            · intro x c2 kl yd yp w2 cnt2 hkey hlk hv hat hrg2 hlt2 hg2 hs2 hen
              obtain ⟨x', hok, ex, rfl⟩ := keyS_inv hkey
              obtain rfl : x = x' := encS_inj ex
              obtain ⟨k, hkn, hqk, hsk, rfl⟩ := hR.who hok hlk
              have hb2' := hbx.grown hg2 hbx.size (fun j e => by have := Option.some.inj e; omega)
              have h2x' := h2x.kept hg2 (by intro e; have := Option.some.inj e; omega)
              have hs2' := h2x'.lt
              simp only [encS] at hen
              clear hs2
              have hsb : sn ≤ 300 := by
                have h1 := hsn.out
                have h2 : shutN u cm o2 ps.length t ≤ ps.length := by unfold shutN; exact Nat.le_trans List.countP_le_length (by simp)
                have h3 : (List.range ps.length).countP (fun i => inQ u cm o2 t i && (seen i && decide (u i = t))) ≤ ps.length := Nat.le_trans List.countP_le_length (by simp)
                omega
              by_cases hut : u k = t
              · have hR2 := hR.gone hkn hok hut hqk hsk
                have hcn := hide (countP_add (n := ps.length) (k := k) (q := fun i => inQ u cm o2 t i && (seen i && decide (u i = t))) hkn (by simp [hsk]))
                rw [hut] at hen hok hrg2 hR2
                have hut' := hide hut
                clear hut
                go_wp2_with (at_delete; refine wpList_delete_ranges _ rfl _ _ 96 100 rfl 3 lawS Try.underlying96 _ (w.heap.size + 1) r _ D _ cnt2 rfl (hrg2.alloc _) (encS ⟨t, k⟩) _ rfl (keyS_mk hok) ?_; intro w3 cnt3 hrg3 hle3 hturn3)
                rw [strike_twice] at hrg3
                go_roundw
                case measure => rw [hrg3.left_eq, hrg.left_eq]; omega
                refine ⟨_, cnt3, _, _, hrg3, hR2, ⟨sn + 1, by go_num, hide ?_⟩, (hb2'.alloc (by omega) _).grown hturn3.grown (by simp; omega) (fun j e => by have := Option.some.inj e; omega), (h2x'.alloc _).kept hturn3.grown (by simp)⟩
                rw [hsn.out, Nat.add_assoc, ← hcn.out]
                congr 1
                refine List.countP_congr (fun i _ => ?_)
                by_cases e : i = k
                · subst e; simp [hqk, hut'.out]
                · simp [e]
              · have hR2 := hR.pass hok hut
                go_wp2
                go_roundw
                case measure => rw [(hrg2.alloc _).left_eq, hrg.left_eq]; omega
                refine ⟨_, cnt2, _, _, hrg2.alloc _, hR2, ⟨sn, rfl, hide ?_⟩, hb2'.alloc (by omega) _, h2x'.alloc _⟩
                rw [hsn.out]
                congr 1
                refine List.countP_congr (fun i _ => ?_)
                by_cases e : i = k
                · subst e; simp [hut]
                · simp [e]
    · have hTm : T = m := by have := hT1.out; omega
      have htm : t = (m : Int) + 1 := by have := hT1.out; omega
      subst hTm
      obtain ⟨_, h2x, _⟩ := hst
      rw [htm] at hlt ⊢
      clear hT1 hinv hlast ht1 ht2 htm
      go_wp2
      go_ret2
      rw [hgo.out]
      refine ⟨some ⟨w.heap.size, 0, none⟩, ps.length, ?_, below_grow hb, h2x.i64⟩
      simp [hol]
end Go.Proofs.Ytbfhkknpocbeaaa
