/- Proved here: nights as strings; the reference: all nights of a length; the reference: how many letters of a window, a part of the proofs about the tape laws. Conditions: those that each theorem names, no others. -/
import Derived.Test.YtafncmgijbkomaaP25
import Derived.WalkKit
import Derived.WalkSpells
import Derived.WalkLawsBesides
import Derived.Below
import Derived.Deep.QuietTactic
import Derived.BigQuiet
import Derived.Deep.Light
import Derived.Test.YtafncmgijbkomaaP09
import Derived.Test.YtafncmgijbkomaaP36
set_option linter.unusedSimpArgs false
set_option linter.unusedVariables false
namespace Go.Proofs.Ytafncmgijbkomaa
open Go.RowKit Go.Maps Go.Lib
/-- all nights of a length -/
def nightB (W n : Nat) (ts : List (List Int)) : List ByteArray := (Tm.nights W n ts).map unlt
/-- those that begin with one of the first windows -/
def nightK (W n : Nat) (ts : List (List Int)) (k : Nat) : List ByteArray := (List.range k).flatMap (fun c => (nightB W n (Tm.behs ((c : Nat) : Int) ts)).map (fun s => unlt [((c : Nat) : Int)] ++ s))
theorem nightK_succ (W n : Nat) (ts : List (List Int)) (k : Nat) : nightK W n ts (k + 1) = nightK W n ts k ++ (nightB W n (Tm.behs ((k : Nat) : Int) ts)).map (fun s => unlt [((k : Nat) : Int)] ++ s) := by
  unfold nightK
  rw [List.range_succ, List.flatMap_append]
  simp
theorem nightB_succ (W n : Nat) (ts : List (List Int)) : nightB W (n + 1) ts = nightK W n ts W := by
  unfold nightB nightK
  conv => lhs; unfold Tm.nights
  rw [List.map_flatMap]
  congr 1
  funext c
  unfold nightB
  rw [List.map_map, List.map_map]
  apply List.map_congr_left
  intro a _
  exact unlt_append [((c : Nat) : Int)] a
theorem nightB_len (W n : Nat) (ts : List (List Int)) : (nightB W n ts).length = Tm.cntU W n ts := by unfold nightB; rw [List.length_map, Tm.nights_len]
theorem nightK_le (W n : Nat) (ts : List (List Int)) (k : Nat) (hk : k ≤ W) : (nightK W n ts k).length ≤ Tm.cntU W (n + 1) ts := by
  rw [← nightB_len, nightB_succ]
  have : ∀ d, (nightK W n ts k).length ≤ (nightK W n ts (k + d)).length := fun d => by
    induction d with
    | zero => exact Nat.le_refl _
    | succ d ih => rw [← Nat.add_assoc, nightK_succ, List.length_append]; omega
  have := this (W - k)
  rwa [show k + (W - k) = W by omega] at this
theorem nightB_le (W n : Nat) (ts : List (List Int)) (k : Nat) (hk : k < W) : (nightK W n ts k).length + Tm.cntU W n (Tm.behs ((k : Nat) : Int) ts) ≤ Tm.cntU W (n + 1) ts := by
  have := nightK_le W n ts (k + 1) (by omega)
  rw [nightK_succ, List.length_append, List.length_map, nightB_len] at this
  exact this
theorem nightB_size (W n : Nat) (ts : List (List Int)) : ∀ s, s ∈ nightB W n ts → s.size = n := fun s hs => by
  obtain ⟨l, hl, rfl⟩ := List.mem_map.1 hs
  rw [unlt_size, (Tm.nights_mem.1 hl).1]
theorem nightB_none {W n : Nat} (hW : 0 < W) {ts : List (List Int)} (h : Tm.lettersOk W ts) (hf : n < Tm.fewN W ts) : nightB W n ts = [] := by
  apply List.eq_nil_of_length_eq_zero
  rw [nightB_len]
  rcases Nat.eq_zero_or_pos (Tm.cntU W n ts) with h0 | h0
  · exact h0
  · have := (Tm.fewN_spec hW h n).1 ((Tm.cntU_pos W n ts).1 h0); omega
theorem nightB_zero (W : Nat) (ts : List (List Int)) : nightB W 0 ts = if Tm.hasS [] ts = true then [⟨#[]⟩] else [] := by
  unfold nightB Tm.nights
  have : Tm.hasS [] ts = Tm.over ts := rfl
  rw [this]
  split <;> rfl
theorem bhL_len (win : Int) (ts : List ByteArray) : (bhL win ts).length = ts.length := by simp [bhL]
theorem bhL_small {win : Int} {ts : List ByteArray} (h : Small ts) : Small (bhL win ts) := fun k hk => by
  have hk2 : k < ts.length := by rw [bhL_len] at hk; exact hk
  have : (bhL win ts)[k] = bhS win ts[k] := by simp [bhL]
  rw [this]
  exact Nat.le_trans (bhS_le _ _) (h k hk2)
theorem bhL_fine {win : Int} {ts : List ByteArray} (h : Fine ts) : Fine (bhL win ts) := fun k hk => by
  have hk2 : k < ts.length := by rw [bhL_len] at hk; exact hk
  obtain ⟨h1, h2⟩ := h k hk2
  have e : (bhL win ts)[k] = bhS win ts[k] := by simp [bhL]
  rw [e]
  refine ⟨Nat.le_trans (bhS_le _ _) h1, fun j hj => ?_⟩
  have hm : ∀ x, x ∈ lt ts[k] → 0 ≤ x ∧ x ≤ 158 := fun x hx => by
    obtain ⟨i, hi, rfl⟩ := List.getElem_of_mem hx
    rw [lt_len] at hi
    have h3 := lt_at ts[k] i hi
    rw [List.getElem?_eq_getElem (by rw [lt_len]; exact hi)] at h3
    have := h2 i hi
    rw [Option.some.inj h3]; omega
  have hl := lt_at (bhS win ts[k]) j hj
  have hmem : (((bhS win ts[k])[j].toNat : Int) - 97) ∈ lt (bhS win ts[k]) := List.mem_of_getElem? hl
  rw [bhS_lt] at hmem
  have := hm _ ((Tm.beh_suffix win (lt ts[k])).subset hmem)
  omega
end Go.Proofs.Ytafncmgijbkomaa
namespace Go.Proofs.Ytafncmgijbkomaa
open Go.RowKit Go.Maps Go.Lib
/-- strings in a row that is new -/
def GivesStrsN (w : World) (ss : List ByteArray) (e : Ending) (w' : World) : Prop := ∃ A' c', e = .returned (.slice A' ss.length c') ∧ Grew w w' ∧ Strs w' A' ss ∧ ∀ b o, A' = some ⟨b, o, none⟩ → w.heap.size ≤ b
theorem strs_grown {w w' : World} {row : Option Nat} {P : Option Addr} {p : List ByteArray} (h : Strs w P p) (hg : w.grownBy w' row) (hf : ∀ b o, P = some ⟨b, o, none⟩ → ∀ g, row = some g → b ≠ g) : Strs w' P p := fun k x hk => by
  obtain ⟨b, off, h0, h1, h2, h3⟩ := h k x hk
  have hs := hg.size
  exact ⟨b, off, h0, by omega, by omega, (gb_cell hg b h1 (hf b off h0) _).trans h3⟩
theorem own_new {w : World} {B : Nat} {e : TypeId} {n c : Nat} {A : Option Addr} {xs : List Value} (h : w.ownsRow B e 1 (.slice A n c) n xs) : ∀ b o, A = some ⟨b, o, none⟩ → B ≤ b := fun b o e => by
  subst e
  exact own_base h b rfl
set_option maxRecDepth 100000 in
set_option maxHeartbeats 4000000 in
theorem nights_zero (Wn : Nat) (A : Option Addr) (ts : List ByteArray) (c : Nat) (w : World) (hA : Strs w A ts) (hsz : ∀ k, (h : k < ts.length) → ts[k].size ≤ 1000000) (hl : ts.length ≤ 1000) : Calls Try.prog 83 #[.int .i64 (Wn : Nat), .slice A ts.length c, .int .i64 (0 : Nat)] w (GivesStrsN w (nightB Wn 0 (lts ts))) := by
  have HV := hide (nightB_zero Wn (lts ts))
  have hh := fun w' (hA : Strs w' A ts) => rHasTapes_any A ts c w' hA hl hsz ⟨#[]⟩ (by simp [ByteArray.size])
  rw [show lt (⟨#[]⟩ : ByteArray) = [] from rfl] at hh
  have HH := hide hh
  clear hh
  rw [HV.out]
  cases h : Tm.hasS [] (lts ts) with
  | true =>
    rw [if_pos rfl]
    have hown0 := fun X : World => own_lit1 X 9 (.string ⟨#[]⟩)
    go_enter Try.func83, Try.ntmps83
    go_wp2_with (go_at_call 59; refine (HH.out _ hA).mono ?_; rintro e w2 ⟨rfl, hb2⟩; replace hb2 := ex_below hb2; rw [h]; have hz2 := hb2.size)
    go_ret
    have hI := own_strs (ss := [⟨#[]⟩]) (hown0 w2)
    exact ⟨_, 1, rfl, grew_of (by (repeat (first | exact Below.refl _ _ | assumption | refine below_drewN ?_ _ | refine below_drew ?_ | refine below_gr ?_ ?_ _ | refine below_alloc ?_ ?_ _ | refine Below.setCell ?_ ?_ _ | refine below_step ?_ (by assumption) ?_ | omega | (simp only [zz] at *; omega)))), hI, fun b o e => by injection e with e; injection e with e1 _ _; omega⟩
  | false =>
    rw [if_neg (by simp)]
    go_enter Try.func83, Try.ntmps83
    go_wp2_with (go_at_call 59; refine (HH.out _ hA).mono ?_; rintro e w2 ⟨rfl, hb2⟩; replace hb2 := ex_below hb2; rw [h]; have hz2 := hb2.size)
    go_ret
    exact ⟨none, 0, rfl, grew_of hb2, fun k x hk => (by cases hk), fun b o e => by cases e⟩
set_option maxRecDepth 100000 in
set_option maxHeartbeats 8000000 in
theorem nights_succ (Wn : Nat) (hW1 : 1 ≤ Wn) (hW2 : Wn ≤ 5) (n : Nat) (hn : n + 1 ≤ 20)
    (ih : ∀ (A : Option Addr) (ts : List ByteArray) (c : Nat) (w : World), Strs w A ts → ts.length ≤ 3 → Fine ts → Small ts → Tm.lettersOk Wn (lts ts) → Tm.cntU Wn n (lts ts) ≤ 300 → Calls Try.prog 83 #[.int .i64 (Wn : Nat), .slice A ts.length c, .int .i64 (n : Nat)] w (GivesStrsN w (nightB Wn n (lts ts))))
    (A : Option Addr) (ts : List ByteArray) (c : Nat) (w : World) (hA : Strs w A ts) (h3 : ts.length ≤ 3) (hf : Fine ts) (hs : Small ts) (hlo : Tm.lettersOk Wn (lts ts)) (hcn : Tm.cntU Wn (n + 1) (lts ts) ≤ 300) : Calls Try.prog 83 #[.int .i64 (Wn : Nat), .slice A ts.length c, .int .i64 ((n + 1) : Nat)] w (GivesStrsN w (nightB Wn (n + 1) (lts ts))) := by
  obtain ⟨i0, ih9, iz, is, ib⟩ := info_parts infoS
  have HNK := hide (fun k => nightK_succ Wn n (lts ts) k)
  have HNE := hide (nightB_succ Wn n (lts ts))
  have HNB := hide (fun k h => nightB_le Wn n (lts ts) k h)
  have HNL := hide (fun (k : Nat) => (show (nightB Wn n (lts (bhL ((k : Nat) : Int) ts))).length = Tm.cntU Wn n (Tm.behs ((k : Nat) : Int) (lts ts)) by rw [nightB_len, bhL_lts]))
  have HNZ := hide (fun (k : Nat) => nightB_size Wn n (lts (bhL ((k : Nat) : Int) ts)))
  have HNO := hide (fun (k : Nat) => (show Tm.behs ((k : Nat) : Int) (lts ts) = lts (bhL ((k : Nat) : Int) ts) from (bhL_lts _ _).symm))
  have HBE0 := hide (fun (k : Nat) w' (hA : Strs w' A ts) => rBehind_any A ts c ((k : Nat) : Int) w' hA h3 hf)
  have HLO := hide (fun (k : Nat) => (show Tm.lettersOk Wn (lts (bhL ((k : Nat) : Int) ts)) by rw [bhL_lts]; exact Tm.ok_behs hlo))
  have HBD0 := hide (fun (k : Nat) A' c' w' (hA : Strs w' A' (bhL ((k : Nat) : Int) ts)) => rBounds_any Wn A' (bhL ((k : Nat) : Int) ts) c' w' hA hW1 hW2 (by rw [bhL_len]; exact h3) (bhL_fine hf) (bhL_small hs) (HLO.out k))
  have HIH0 := hide (fun (k : Nat) (hk : Tm.cntU Wn n (lts (bhL ((k : Nat) : Int) ts)) ≤ 300) A' c' w' (hA : Strs w' A' (bhL ((k : Nat) : Int) ts)) => ih A' (bhL ((k : Nat) : Int) ts) c' w' hA (by rw [bhL_len]; exact h3) (bhL_fine hf) (bhL_small hs) (HLO.out k) hk)
  have HK0 := hide (show nightK Wn n (lts ts) 0 = [] from rfl)
  obtain ⟨N, hN⟩ : ∃ N : Int, ((n + 1 : Nat) : Int) = N := ⟨_, rfl⟩
  have hN1 : N - 1 = (n : Int) := by omega
  have hN2 : 1 ≤ N ∧ N ≤ 20 := by omega
  have hN3 : (N == 0) = false := by simp; omega
  rw [hN, HNE.out]
  clear hN ih
  generalize nightK Wn n (lts ts) = nk at *
  have hW2i : (Wn : Int) ≤ 5 := by omega
  go_enter Try.func83, Try.ntmps83
  go_wp2
  go_loopw [7, 8] (fun o cv wr => ∃ (k : Nat) (A' : Option Addr) (m c' : Nat), k ≤ Wn ∧ cv = .int .i64 (k : Nat) ∧ o = .slice A' m c' ∧ Hid (m = (nk k).length) ∧ wr.ownsRow w.heap.size 9 1 (.slice A' m c') m ((nk k).map Value.string) ∧ Below w.heap.size w wr) (fun _ cv _ => Wn - (intOf cv).toNat)
  case atStart => exact ⟨0, none, 0, 0, Nat.zero_le _, rfl, rfl, hide (by rw [HK0.out]; rfl), by rw [HK0.out]; exact World.ownsRow_nil _ _ _ _, Below.refl _ _⟩
  case round =>
    obtain ⟨k, A', m, c', hk, rfl, rfl, HM, hown, hb⟩ := hrel
    obtain ⟨wo, rfl⟩ : ∃ wo : World, wo = wr := ⟨_, rfl⟩
    have hzo := hb.size
    by_cases hkl : k < Wn
    · have hkli : (k : Int) < (Wn : Nat) := by omega
      have HNK1 := hide (HNK.out k)
      have hnb := HNB.out k hkl
      have hm3 : m ≤ 300 := by have := HM.out; omega
      have HLEN := hide (HNL.out k)
      have hcb : Tm.cntU Wn n (lts (bhL ((k : Nat) : Int) ts)) ≤ 300 := by rw [bhL_lts]; omega
      have HSZ := hide (HNZ.out k)
      have HBE := hide (HBE0.out k)
      have HBD := hide (HBD0.out k)
      have HIH := hide (HIH0.out k hcb)
      have HNONE := hide (fun h => nightB_none (W := Wn) (n := n) hW1 (HLO.out k) h)
      rw [HNO.out k] at HNK1 hnb HLEN
      obtain ⟨hl0, hv0⟩ := bdsL_zero (W := Wn) (ts := lts (bhL ((k : Nat) : Int) ts))
      have HV0 := hide hv0
      have HMT : Hid ((nk k).length + Tm.cntU Wn n (lts (bhL ((k : Nat) : Int) ts)) ≤ 300) := hide (by omega)
      clear hv0 hnb hcb
      generalize bdsL Wn (lts (bhL ((k : Nat) : Int) ts)) = L at *
      generalize Tm.fewN Wn (lts (bhL ((k : Nat) : Int) ts)) = f at *
      generalize Tm.cntU Wn n (lts (bhL ((k : Nat) : Int) ts)) = cu at *
      generalize nightB Wn n (lts (bhL ((k : Nat) : Int) ts)) = nb at *
      have hk5 : k < 5 := by omega
      by_cases hfn : n < f
      · have hfi : (n : Int) < (f : Nat) := by omega
        have HNK2 : Hid (nk (k + 1) = nk k) := hide (by rw [HNK1.out, HNONE.out hfn]; simp)
        go_wp2_with (first
    | (go_at_call 45; refine (HBE.out _ (hA.ext (by (repeat (first | exact Below.refl _ _ | assumption | refine below_drewN ?_ _ | refine below_drew ?_ | refine below_gr ?_ ?_ _ | refine below_alloc ?_ ?_ _ | refine Below.setCell ?_ ?_ _ | refine below_step ?_ (by assumption) ?_ | omega | (simp only [zz] at *; omega)))))).mono ?_; rintro e w3 ⟨A3, c3, rfl, hb3, hS3⟩; replace hb3 := hb3.below; have hz3 := hb3.size)
    | (go_at_call 65; refine (HBD.out _ _ _ hS3).mono ?_; rintro e w4 ⟨A4, c4, rfl, hb4, hI4⟩; replace hb4 := hb4.below; have hz4 := hb4.size; obtain ⟨lb, lo5, rfl, hlb⟩ := hI4.form hl0; have c04 := hI4.at hl0; rw [HV0.out, Nat.add_zero] at c04))

        have hbr : Below wo.heap.size wo w4 := by (repeat (first | exact Below.refl _ _ | assumption | (refine below_gr ?_ (by (first | omega | (simp only [zz] at *; omega))) _) | (refine below_alloc ?_ (by (first | omega | (simp only [zz] at *; omega))) _) | (refine Below.setCell ?_ (by (first | omega | (simp only [zz] at *; omega))) _) | refine below_drewN ?_ _ | refine below_drew ?_ | (refine below_step ?_ (by assumption) (by (first | omega | (simp only [zz] at *; omega))))))
        exact ⟨⟨k + 1, A', m, c', by omega, by go_num, rfl, hide (by rw [HNK2.out]; exact HM.out), by rw [HNK2.out]; exact own_below hown hbr, hb.trans (hbr.mono hzo)⟩, by simp [intOf]; omega⟩
      · have hfi : ¬ ((n : Int) < (f : Nat)) := by omega
        go_wp2_with (first
    | (go_at_call 45; refine (HBE.out _ (hA.ext (by (repeat (first | exact Below.refl _ _ | assumption | refine below_drewN ?_ _ | refine below_drew ?_ | refine below_gr ?_ ?_ _ | refine below_alloc ?_ ?_ _ | refine Below.setCell ?_ ?_ _ | refine below_step ?_ (by assumption) ?_ | omega | (simp only [zz] at *; omega)))))).mono ?_; rintro e w3 ⟨A3, c3, rfl, hb3, hS3⟩; replace hb3 := hb3.below; have hz3 := hb3.size)
    | (go_at_call 65; refine (HBD.out _ _ _ hS3).mono ?_; rintro e w4 ⟨A4, c4, rfl, hb4, hI4⟩; replace hb4 := hb4.below; have hz4 := hb4.size; obtain ⟨lb, lo5, rfl, hlb⟩ := hI4.form hl0; have c04 := hI4.at hl0; rw [HV0.out, Nat.add_zero] at c04)
    | (go_at_call 83; refine (HIH.out _ _ _ (hS3.ext (by (repeat (first | exact Below.refl _ _ | assumption | refine below_drewN ?_ _ | refine below_drew ?_ | refine below_gr ?_ ?_ _ | refine below_alloc ?_ ?_ _ | refine Below.setCell ?_ ?_ _ | refine below_step ?_ (by assumption) ?_ | omega | (simp only [zz] at *; omega)))))).mono ?_; rintro e w5 ⟨A5, c5, rfl, hb5, hS5, hN5⟩; replace hb5 := hb5.below; have hz5 := hb5.size))

        have hbr : Below wo.heap.size wo w5 := by (repeat (first | exact Below.refl _ _ | assumption | (refine below_gr ?_ (by (first | omega | (simp only [zz] at *; omega))) _) | (refine below_alloc ?_ (by (first | omega | (simp only [zz] at *; omega))) _) | (refine Below.setCell ?_ (by (first | omega | (simp only [zz] at *; omega))) _) | refine below_drewN ?_ _ | refine below_drew ?_ | (refine below_step ?_ (by assumption) (by (first | omega | (simp only [zz] at *; omega))))))
        have hown5 := own_below hown hbr
        have hb5w := hb.trans (hbr.mono hzo)
        obtain ⟨wn, rfl⟩ : ∃ wn : World, wn = w5 := ⟨_, rfl⟩
        have hzn := hb5w.size
        have hfar : ∀ b o, A5 = some ⟨b, o, none⟩ → Far (.slice A' m c') b := fun b o e g hg => by have h1 := hN5 b o e; have h2 := (hown.lt g hg).2; omega
        clear hN5
        clear HV0 hown hbr hb3 hb4 hb5 hS3 hI4 c04 hlb hl0 hz3 hz4 hz5
        go_loopw [7, 11] (fun o jv wr => ∃ (j : Nat) (A' : Option Addr) (c' : Nat), j ≤ nb.length ∧ jv = .int .i64 (j : Nat) ∧ o = .slice A' (m + j) c' ∧ wr.ownsRow w.heap.size 9 1 (.slice A' (m + j) c') (m + j) ((nk k ++ (nb.take j).map (fun s => unlt [((k : Nat) : Int)] ++ s)).map Value.string) ∧ Below w.heap.size w wr ∧ Strs wr A5 nb ∧ ∀ b o, A5 = some ⟨b, o, none⟩ → Far (.slice A' (m + j) c') b) (fun _ jv _ => nb.length - (intOf jv).toNat)
        case atStart => exact ⟨0, A', c', Nat.zero_le _, rfl, rfl, by simpa using hown5, hb5w, hS5, hfar⟩
        case round =>
          clear hown5 hb5w hfar hS5 hzn
          obtain ⟨j, A', c', hj, rfl, rfl, hown, hb, hS5, hfar⟩ := hrel
          have hz := hb.size
          by_cases hjl : j < nb.length
          · have hjli : (j : Int) < (nb.length : Nat) := by omega
            obtain ⟨sb, so, rfl, hsb, hsb2, hcs⟩ := hS5 j nb[j] (by simp [hjl])
            have HTK := hide (show (nb.take (j + 1)).map (fun s => unlt [((k : Nat) : Int)] ++ s) = (nb.take j).map (fun s => unlt [((k : Nat) : Int)] ++ s) ++ [unlt [((k : Nat) : Int)] ++ nb[j]] by rw [take_snoc _ _ hjl, List.map_append]; rfl)
            have hvs : nb[j].size ≤ 20 := by have := HSZ.out _ (List.getElem_mem hjl); omega
            have hmj : m + j ≤ 300 := by have h1 := HMT.out; have h2 := HM.out; have h3 := HLEN.out; omega
            generalize nb[j] = v at *
            have hj0 : (0 : Int) ≤ (j : Int) := by omega
            have hcat : ¬ (9223372036854775807 < (unlt [((k : Nat) : Int)]).size + v.size) := by rw [unlt_size]; simp only [List.length_cons, List.length_nil]; omega
            have HLT := hide (fun w' => rletter_any k hk5 w')
            have hgb := own_base hown
            go_wp2
            refine move_tail 7 (by kernel_rfl) (by kernel_rfl) (yields_move rfl rfl) ?_
            (try simp only [Act.put, List.getElem_toArray, List.getElem_cons_zero, List.getElem_cons_succ, List.setIfInBounds_toArray, List.set_cons_zero, List.set_cons_succ])
            simp only [List.take_succ_cons, List.take_zero, List.drop_succ_cons, List.drop_zero]
            repeat (go_big_quiet_step ((go_at_call 79; exact Gives.quiet (HLT.out _))))
            refine wpQuiet_nil ?_
            intro w4 hb4
            replace hb4 := ex_below hb4
            have hz4 := hb4.size
            go_wp2_with (at_builtin; refine wpList_appN _ rfl (.tmp 44) (.tmp 52) 22 rfl (w.heap.size) 9 i0 _ 1 16 und22 ih9 iz is ib rfl (by decide) ((.slice A' (m + j) c')) ((m + j)) (_) rfl ((ownsRow_grows hown hb4).alloc _) (some ⟨w4.heap.size, 0, none⟩) (1) (1) ([_]) rfl (rd_new1 _ _ _) (by simp [Value.oneCell']) (by unfold maxLen; omega) (by omega) (by (first | omega | (simp only [zz]; omega) | (simp only [zz] at *; omega) | (simp; done) | (simp; omega))) ?_; intro A7 c7 w7 hown7 hgr7 far7)
            rw [nrm_normal]
            go_wp2
            have hb4a : Below wr.heap.size wr (w4.alloc (.cells #[.string (unlt [((k : Nat) : Int)] ++ v)] 9)) := below_alloc hb4 hz4 _
            refine ⟨⟨j + 1, A7, c7, by omega, by go_num, rfl, ?_, ?_, ?_, ?_⟩, by simp [intOf]; omega⟩
            · rw [HTK.out, ← List.append_assoc, List.map_append]; exact hown7
            · exact gb_below (below_alloc (below_step hb hb4 hz) (by omega) _) hgr7 (by simp; omega) (fun g hg => hgb g hg)
            · exact strs_grown (hS5.ext hb4a) hgr7 (fun b o e g hg => hfar b o e g hg)
            · exact fun b o e => far7 b (by injection e with e; injection e with e1 _ _; subst e1; have := hb4a.size; omega) (hfar b o e)
          · have hje : j = nb.length := by omega
            have hjli : ¬ ((j : Int) < (nb.length : Nat)) := by omega
            have HNE2 : Hid (nk (k + 1) = nk k ++ (nb.take j).map (fun s => unlt [((k : Nat) : Int)] ++ s)) := hide (by rw [HNK1.out, hje, List.take_length])
            have HMJ : Hid (m + j = (nk (k + 1)).length) := hide (by rw [HNK1.out, List.length_append, List.length_map, HM.out, hje])
            clear hje
            go_wp2
            exact ⟨⟨k + 1, A', m + j, c', by omega, by go_num, rfl, HMJ, by rw [HNE2.out]; exact hown, hb⟩, by simp [intOf]; omega⟩
    · have hke : k = Wn := by omega
      subst hke
      have hkli : ¬ ((k : Int) < (k : Nat)) := by omega
      have hI := own_strs hown
      have HM2 := HM.out
      go_wp2
      go_ret
      unfold GivesStrsN
      exact ⟨A', c', by rw [← HM2]; rfl, grew_of hb, hI, own_new hown⟩
theorem nights_any (Wn : Nat) (hW1 : 1 ≤ Wn) (hW2 : Wn ≤ 5) : ∀ (n : Nat), n ≤ 20 → ∀ (A : Option Addr) (ts : List ByteArray) (c : Nat) (w : World), Strs w A ts → ts.length ≤ 3 → Fine ts → Small ts → Tm.lettersOk Wn (lts ts) → Tm.cntU Wn n (lts ts) ≤ 300 → Calls Try.prog 83 #[.int .i64 (Wn : Nat), .slice A ts.length c, .int .i64 (n : Nat)] w (GivesStrsN w (nightB Wn n (lts ts)))
  | 0, _, A, ts, c, w, hA, h3, hf, hs, hlo, hcn => nights_zero Wn A ts c w hA (fun k h => Nat.le_trans (hs k h) (by decide)) (Nat.le_trans h3 (by decide))
  | n + 1, hn, A, ts, c, w, hA, h3, hf, hs, hlo, hcn => nights_succ Wn hW1 hW2 n hn (fun A ts c w hA h3 hf hs hlo hcn => nights_any Wn hW1 hW2 n (by omega) A ts c w hA h3 hf hs hlo hcn) A ts c w hA h3 hf hs hlo hcn
end Go.Proofs.Ytafncmgijbkomaa
namespace Go.Proofs.Ytafncmgijbkomaa
open Go.RowKit Go.Maps Go.Lib
def CellIs (b o : Nat) (v : Value) (w : World) : Prop := w.cell? ⟨b, o, none⟩ = some v
def TwoIs (b : Nat) (x y : Value) (w : World) : Prop := w.cell? ⟨b, 0, none⟩ = some x ∧ w.cell? ⟨b, 1, none⟩ = some y
theorem CellIs.ext {b o : Nat} {v : Value} {w w' : World} (h : CellIs b o v w) (hb : Below w.heap.size w w') : CellIs b o v w' := keepB hb h
theorem TwoIs.ext {b : Nat} {x y : Value} {w w' : World} (h : TwoIs b x y w) (hb : Below w.heap.size w w') : TwoIs b x y w' := ⟨keepB hb h.1, keepB hb h.2⟩
theorem CellIs.set {b o B k : Nat} {v u : Value} {w : World} (h : CellIs b o v w) (hne : b ≠ B) : CellIs b o v (w.setCell ⟨B, k, none⟩ u) := (World.cell?_of_block (a := ⟨b, o, none⟩) (Below.heap_setCell _ _ _ _ hne)).trans h
theorem set_duo {W : World} {B : Nat} {t : TypeId} {a b x y : Value} (h : W.heap[B]? = some (.cells #[a, b] t (0, 0))) : ((W.setCell ⟨B, 0, none⟩ x).setCell ⟨B, 1, none⟩ y).heap[B]? = some (.cells #[x, y] t (0, 0)) :=
  set_obj (set_obj h 0 _) 1 _
/-- the bounds of what the first nights have -/
def pfR (x : Int) (l : List ByteArray) : Int × Int := l.foldl (fun (o : Int × Int) s => (min o.1 (Tm.manyS x (lt s)), max o.2 (Tm.manyS x (lt s)))) (20, 0)
theorem pfR_snoc (x : Int) (l : List ByteArray) (s : ByteArray) : pfR x (l ++ [s]) = (min (pfR x l).1 (Tm.manyS x (lt s)), max (pfR x l).2 (Tm.manyS x (lt s))) := by simp [pfR]
theorem nights_letters {W n : Nat} (hW : W ≤ 5) {ts : List (List Int)} : ∀ l, l ∈ Tm.nights W n ts → ∀ x, x ∈ l → 0 ≤ x ∧ x < 5 := fun l hl x hx => by
  have := (Tm.nights_mem.1 hl).2.1 x hx; omega
theorem pfR_night {W n : Nat} (hW : W ≤ 5) {ts : List (List Int)} (x : Int) : pfR x (nightB W n ts) = Tm.pullsR x (Tm.nights W n ts) := by
  have hL := nights_letters (n := n) hW (ts := ts)
  unfold nightB pfR Tm.pullsR
  generalize Tm.nights W n ts = L at *
  generalize ((20 : Int), (0 : Int)) = o
  induction L generalizing o with
  | nil => rfl
  | cons l L ih =>
    simp only [List.map_cons, List.foldl_cons]
    rw [lt_unlt (hL l (by simp))]
    exact ih (fun l' h' => hL l' (by simp [h'])) _
theorem cnt_zero {W n : Nat} {ts : List (List Int)} : Tm.cntC W n ts = 0 ↔ Tm.cntU W n ts = 0 := by
  rw [Tm.cntC_eq]; unfold Tm.most; omega
set_option maxRecDepth 100000 in
set_option maxHeartbeats 8000000 in
theorem rpulls_loop (Wn : Nat) (A : Option Addr) (ts : List ByteArray) (c : Nat) (w : World) (hA : Strs w A ts) (hl : ts.length ≤ 1000) (hsz : ∀ k, (h : k < ts.length) → ts[k].size ≤ 1000000) (b : Nat) (hb : b < 256) (lg : Nat) (h0 : openE (Wn : Nat) ts (lg : Nat) = 0) (hw : isWin (Wn : Nat) b = true) (hcn : Tm.cntU Wn lg (lts ts) ≤ 300) (hC : Tm.cntU Wn lg (lts ts) ≠ 0) : Calls Try.prog 36 #[.agg #[.int .i64 (Wn : Nat), .slice A ts.length c], .int .i64 (lg : Nat), .int .u8 (b : Nat)] w (Gives w (rngE (pfR ((b : Int) - 97) (nightB Wn lg (lts ts)), 0))) := by
  obtain ⟨hW1, hW2, h0', h3, hs, hf, _, hlo⟩ := chk_val (open_val h0).1
  have hlg := open_lg h0
  rw [Int.toNat_natCast] at hlo
  have h1 : (openE (Wn : Nat) ts (lg : Nat) != 0) = false := by simp [h0]
  have HNI := hide (fun w' (hA : Strs w' A ts) => nights_any Wn (by omega) (by omega) lg hlg A ts c w' hA h3 hf hs hlo hcn)
  have HIW := hide (fun w' => rIsWindow_any (Wn : Nat) A ts c w' b hb)
  have hnl := nightB_len Wn lg (lts ts)
  have HSZ := hide (nightB_size Wn lg (lts ts))
  generalize nightB Wn lg (lts ts) = nb at *
  have hnzn : nb.length ≠ 0 := by omega
  have hnz : ((nb.length : Int) == 0) = false := beq_eq_false_iff_ne.2 (by omega)
  have hnz2 : (nb.length == 0) = false := beq_eq_false_iff_ne.2 hnzn
  clear hnzn
  have hn3 : nb.length ≤ 300 := by omega
  rw [hw] at HIW
  replace h0 := hide h0
  clear hnl hcn hC
  obtain ⟨q, hq⟩ : ∃ q, pfR ((b : Int) - 97) nb = q := ⟨_, rfl⟩
  have HQ := hide hq
  rw [hq]
  obtain ⟨q1, q2⟩ := q
  unfold rngE
  clear hq
  go_enter Try.func36, Try.ntmps36
  go_wp2_with (first
    | (go_at_call 76; refine (rLong_any (Wn : Nat) A ts c _ (hA.ext (by (repeat (first | exact Below.refl _ _ | assumption | refine below_drewN ?_ _ | refine below_drew ?_ | refine below_gr ?_ ?_ _ | refine below_alloc ?_ ?_ _ | refine Below.setCell ?_ ?_ _ | refine below_step ?_ (by assumption) ?_ | omega | (simp only [zz] at *; omega))))) hl hsz (lg : Nat)).mono ?_; rintro e w1 ⟨rfl, hb1⟩; replace hb1 := ex_below hb1; have hz1 := hb1.size; (try simp only [zz] at hz1); have hs1 : w.heap.size < w1.heap.size := (by (first | omega | (simp only [zz] at *; omega))); have ho1 := own_cell hb1 (b := w.heap.size) (by (first | omega | (simp only [zz] at *; omega))); have hq1 := own_frozen hb1 (b := w.heap.size) (by (first | omega | (simp only [zz] at *; omega))); have hs1 : w.heap.size + 1 < w1.heap.size := (by (first | omega | (simp only [zz] at *; omega))); have ho1 := own_cell hb1 (b := w.heap.size + 1) (by (first | omega | (simp only [zz] at *; omega))); have hq1 := own_frozen hb1 (b := w.heap.size + 1) (by (first | omega | (simp only [zz] at *; omega))); have hlt1 : ∀ b, b < w.heap.size → b < w1.heap.size := fun b hb => (by (first | omega | (simp only [zz] at *; omega))); have hc1 : ∀ b o, b < w.heap.size → w1.cell? ⟨b, o, none⟩ = w.cell? ⟨b, o, none⟩ := old_cell (by (repeat (first | exact Below.refl _ _ | assumption | refine below_drewN ?_ _ | refine below_drew ?_ | refine below_gr ?_ ?_ _ | refine below_alloc ?_ ?_ _ | refine Below.setCell ?_ ?_ _ | refine below_step ?_ (by assumption) ?_ | omega | (simp only [zz] at *; omega)))))
    | (go_at_call 82; refine (HIW.out _).mono ?_; rintro e w2 ⟨rfl, hb2⟩; replace hb2 := ex_below hb2; have hz1 := hb2.size; (try simp only [zz] at hz1); have hs1 : w.heap.size < w2.heap.size := (by (first | omega | (simp only [zz] at *; omega))); have ho1 := own_cell hb2 (b := w.heap.size) (by (first | omega | (simp only [zz] at *; omega))); have hq1 := own_frozen hb2 (b := w.heap.size) (by (first | omega | (simp only [zz] at *; omega))); have hs1 : w.heap.size + 1 < w2.heap.size := (by (first | omega | (simp only [zz] at *; omega))); have ho1 := own_cell hb2 (b := w.heap.size + 1) (by (first | omega | (simp only [zz] at *; omega))); have hq1 := own_frozen hb2 (b := w.heap.size + 1) (by (first | omega | (simp only [zz] at *; omega))); have hlt1 : ∀ b, b < w.heap.size → b < w2.heap.size := fun b hb => (by (first | omega | (simp only [zz] at *; omega))); have hc1 : ∀ b o, b < w.heap.size → w2.cell? ⟨b, o, none⟩ = w.cell? ⟨b, o, none⟩ := old_cell (by (repeat (first | exact Below.refl _ _ | assumption | refine below_drewN ?_ _ | refine below_drew ?_ | refine below_gr ?_ ?_ _ | refine below_alloc ?_ ?_ _ | refine Below.setCell ?_ ?_ _ | refine below_step ?_ (by assumption) ?_ | omega | (simp only [zz] at *; omega)))))
    | (go_at_call 83; refine (HNI.out _ (hA.ext (by (repeat (first | exact Below.refl _ _ | assumption | refine below_drewN ?_ _ | refine below_drew ?_ | refine below_gr ?_ ?_ _ | refine below_alloc ?_ ?_ _ | refine Below.setCell ?_ ?_ _ | refine below_step ?_ (by assumption) ?_ | omega | (simp only [zz] at *; omega)))))).mono ?_; rintro e w5 ⟨A5, c5, rfl, hb5, hS5, -⟩; replace hb5 := hb5.below; have hz5 := hb5.size; (try simp only [zz] at hz5); have hs5 : w.heap.size < w5.heap.size := (by (first | omega | (simp only [zz] at *; omega))); have ho5 := own_cell hb5 (b := w.heap.size) (by (first | omega | (simp only [zz] at *; omega))); have hq5 := own_frozen hb5 (b := w.heap.size) (by (first | omega | (simp only [zz] at *; omega))); have hs5 : w.heap.size + 1 < w5.heap.size := (by (first | omega | (simp only [zz] at *; omega))); have ho5 := own_cell hb5 (b := w.heap.size + 1) (by (first | omega | (simp only [zz] at *; omega))); have hq5 := own_frozen hb5 (b := w.heap.size + 1) (by (first | omega | (simp only [zz] at *; omega))); have hlt5 : ∀ b, b < w.heap.size → b < w5.heap.size := fun b hb => (by (first | omega | (simp only [zz] at *; omega))); have hc5 : ∀ b o, b < w.heap.size → w5.cell? ⟨b, o, none⟩ = w.cell? ⟨b, o, none⟩ := old_cell (by (repeat (first | exact Below.refl _ _ | assumption | refine below_drewN ?_ _ | refine below_drew ?_ | refine below_gr ?_ ?_ _ | refine below_alloc ?_ ?_ _ | refine Below.setCell ?_ ?_ _ | refine below_step ?_ (by assumption) ?_ | omega | (simp only [zz] at *; omega))))))

  have hbB : Below ((w.alloc (.cells #[.int .i64 (Wn : Nat), .slice A ts.length c] 24)).alloc (.cells #[.int .i64 0, .int .i64 0] 47)).heap.size ((w.alloc (.cells #[.int .i64 (Wn : Nat), .slice A ts.length c] 24)).alloc (.cells #[.int .i64 0, .int .i64 0] 47)) w5 := by (repeat (first | exact Below.refl _ _ | assumption | (refine below_gr ?_ (by (first | omega | (simp only [zz] at *; omega))) _) | (refine below_alloc ?_ (by (first | omega | (simp only [zz] at *; omega))) _) | (refine Below.setCell ?_ (by (first | omega | (simp only [zz] at *; omega))) _) | refine below_drewN ?_ _ | refine below_drew ?_ | (refine below_step ?_ (by assumption) (by (first | omega | (simp only [zz] at *; omega))))))
  have hOB := (hbB.block (w.heap.size + 1) (by simp)).trans (heap_b w _ _)
  have hb5w : Below w.heap.size w w5 := by (repeat (first | exact Below.refl _ _ | assumption | (refine below_gr ?_ (by (first | omega | (simp only [zz] at *; omega))) _) | (refine below_alloc ?_ (by (first | omega | (simp only [zz] at *; omega))) _) | (refine Below.setCell ?_ (by (first | omega | (simp only [zz] at *; omega))) _) | refine below_drewN ?_ _ | refine below_drew ?_ | (refine below_step ?_ (by assumption) (by (first | omega | (simp only [zz] at *; omega))))))
  clear ho5 hq5 hlt5 hc5 hbB
  obtain ⟨B9, hB9⟩ : ∃ B9, w5.heap.size = B9 := ⟨_, rfl⟩
  have hHO := heap_alloc_new w5 (.cells #[.int .i64 20, .int .i64 0] 47)
  rw [hB9] at hHO ⊢
  have HB9 := hide hB9
  have hBw : w.heap.size + 1 < B9 := by omega
  clear hB9
  go_loopw [10] (fun iv wr => ∃ k : Nat, k ≤ nb.length ∧ iv = .int .i64 (k : Nat) ∧ wr.heap[B9]? = some (.cells #[.int .i64 (pfR ((b : Int) - 97) (nb.take k)).1, .int .i64 (pfR ((b : Int) - 97) (nb.take k)).2] 47 (0, 0)) ∧ Hid (0 ≤ (pfR ((b : Int) - 97) (nb.take k)).2 ∧ (pfR ((b : Int) - 97) (nb.take k)).2 ≤ 20) ∧ Below B9 w5 wr) (fun iv _ => nb.length - (intOf iv).toNat)
  case atStart => exact ⟨0, Nat.zero_le _, rfl, hHO, hide (by simp [pfR]), by rw [← HB9.out]; exact below_alloc (Below.refl _ _) (Nat.le_refl _) _⟩
  case round =>
    clear hHO
    obtain ⟨k, hk, rfl, hHO, HPB, hb9⟩ := hrel
    have hb9' : Below w5.heap.size w5 wr := by rw [HB9.out]; exact hb9
    have hBl := (Array.getElem?_eq_some_iff.1 hHO).1
    have hOBr := (hb9.block (w.heap.size + 1) hBw).trans hOB
    have hbw := hb5w.trans (hb9'.mono hb5w.size)
    by_cases hkl : k < nb.length
    · obtain ⟨sb, so, rfl, hsb, hsb2, hcs⟩ := hS5 k nb[k] (by simp [hkl])
      rw [HB9.out] at hsb
      have hsB : sb ≠ B9 := by omega
      replace hcs := (hb9.cell (p := ⟨sb, so + k, none⟩) hsb).trans hcs
      have HPF := hide (show pfR ((b : Int) - 97) (nb.take (k + 1)) = (min (pfR ((b : Int) - 97) (nb.take k)).1 (Tm.manyS ((b : Int) - 97) (lt nb[k])), max (pfR ((b : Int) - 97) (nb.take k)).2 (Tm.manyS ((b : Int) - 97) (lt nb[k]))) by rw [take_snoc _ _ hkl, pfR_snoc])
      have hvs : nb[k].size ≤ 20 := by have := HSZ.out _ (List.getElem_mem hkl); omega
      have HMN := hide (fun w' => rMany_any nb[k] b w' (by omega) hb)
      have hml : Tm.manyS ((b : Int) - 97) (lt nb[k]) ≤ 20 := by have := Tm.manyS_le ((b : Int) - 97) (lt nb[k]); rw [lt_len] at this; omega
      have hpb := HPB.out
      generalize nb[k] = v at *
      generalize Tm.manyS ((b : Int) - 97) (lt v) = m at *
      generalize (pfR ((b : Int) - 97) (nb.take k)).1 = lo at *
      generalize (pfR ((b : Int) - 97) (nb.take k)).2 = hi at *
      have hkli : (k : Int) < (nb.length : Nat) := by omega
      have hk0 : (0 : Int) ≤ (k : Int) := by omega
      have e0r : CellIs sb (so + k) (.string v) wr := hcs
      have e1r : TwoIs B9 (.int .i64 lo) (.int .i64 hi) wr := ⟨obj_at hHO 0 _ rfl, obj_at hHO 1 _ rfl⟩
      go_wp2
      as_aux_lemma =>
      refine wp_region_noPanic ?_
      refine wp_region_F [19, 21] (CellIs sb (so + k) (.string v)) (TwoIs B9 (.int .i64 lo) (.int .i64 hi)) (by kernel_rfl) ?_
      have e0d : CellIs sb (so + k) (.string v) wr.drew := e0r
      have e1d : TwoIs B9 (.int .i64 lo) (.int .i64 hi) wr.drew := e1r
      refine wpAnyF_take0 (i := 0) (v := ?_) rfl rfl (by kernel_rfl) (by kernel_rfl) (by kernel_rfl) (fun _ _ _ h => h) (Or.inl ⟨by rfl, ?_⟩) (by assumption) (fun _ => e1d) ?_
      rotate_left
      · (intro w hSw; unfold CellIs at hSw; go_simp; try with_reducible rfl)
      (try simp only [Act.put, List.getElem_toArray, List.getElem_cons_zero, List.getElem_cons_succ, List.setIfInBounds_toArray, List.set_cons_zero, List.set_cons_succ])
      refine wpAnyF_take1 (i := 1) (v := ?_) rfl rfl (by kernel_rfl) (by kernel_rfl) (by kernel_rfl) (by kernel_rfl) (fun _ _ _ h => h) (Or.inl ⟨by rfl, ?_⟩) (by assumption) (by kernel_rfl) (by assumption) ?_
      rotate_left
      · (intro w hSw; obtain ⟨g0, g1⟩ := hSw; unfold CellIs at g0; unfold TwoIs at g1; obtain ⟨g1, g2⟩ := g1; go_simp; try with_reducible rfl)
      (try simp only [Act.put, List.getElem_toArray, List.getElem_cons_zero, List.getElem_cons_succ, List.setIfInBounds_toArray, List.set_cons_zero, List.set_cons_succ])
      refine wpAnyF_take0 (i := 2) (v := ?_) rfl rfl (by kernel_rfl) (by kernel_rfl) (by kernel_rfl) (fun _ _ _ h => h) (Or.inl ⟨by rfl, ?_⟩) (by assumption) (fun _ => e1d) ?_
      rotate_left
      · (intro w hSw; unfold CellIs at hSw; go_simp; try with_reducible rfl)
      (try simp only [Act.put, List.getElem_toArray, List.getElem_cons_zero, List.getElem_cons_succ, List.setIfInBounds_toArray, List.set_cons_zero, List.set_cons_succ])
      refine wpAnyF_take0 (i := 3) (v := ?_) rfl rfl (by kernel_rfl) (by kernel_rfl) (by kernel_rfl) (fun _ _ _ h => h) (Or.inl ⟨by rfl, ?_⟩) (by assumption) (fun _ => e1d) ?_
      rotate_left
      · (intro w hSw; unfold CellIs at hSw; go_simp; try with_reducible rfl)
      (try simp only [Act.put, List.getElem_toArray, List.getElem_cons_zero, List.getElem_cons_succ, List.setIfInBounds_toArray, List.set_cons_zero, List.set_cons_succ])
      refine wpAnyF_take0 (i := 4) (v := ?_) rfl rfl (by kernel_rfl) (by kernel_rfl) (by kernel_rfl) (fun _ _ _ h => h) (Or.inl ⟨by rfl, ?_⟩) (by assumption) (fun _ => e1d) ?_
      rotate_left
      · (intro w hSw; unfold CellIs at hSw; go_simp; try with_reducible rfl)
      (try simp only [Act.put, List.getElem_toArray, List.getElem_cons_zero, List.getElem_cons_succ, List.setIfInBounds_toArray, List.set_cons_zero, List.set_cons_succ])
      refine wpAnyF_take0 (i := 5) (v := ?_) rfl rfl (by kernel_rfl) (by kernel_rfl) (by kernel_rfl) (fun _ _ _ h => h) (Or.inl ⟨by rfl, ?_⟩) (by assumption) (fun _ => e1d) ?_
      rotate_left
      · (intro w hSw; unfold CellIs at hSw; go_simp; try with_reducible rfl)
      (try simp only [Act.put, List.getElem_toArray, List.getElem_cons_zero, List.getElem_cons_succ, List.setIfInBounds_toArray, List.set_cons_zero, List.set_cons_succ])
      refine wpAnyF_take0 (i := 6) (v := ?_) rfl rfl (by kernel_rfl) (by kernel_rfl) (by kernel_rfl) (fun _ _ _ h => h) (Or.inl ⟨by rfl, ?_⟩) (by assumption) (fun _ => e1d) ?_
      rotate_left
      · (intro w hSw; unfold CellIs at hSw; go_simp; try with_reducible rfl)
      (try simp only [Act.put, List.getElem_toArray, List.getElem_cons_zero, List.getElem_cons_succ, List.setIfInBounds_toArray, List.set_cons_zero, List.set_cons_succ])
      refine wpAnyF_take0 (i := 9) (v := ?_) rfl rfl (by kernel_rfl) (by kernel_rfl) (by kernel_rfl) (fun _ _ _ h => h) (Or.inl ⟨by rfl, ?_⟩) (by assumption) (fun _ => e1d) ?_
      rotate_left
      · (intro w hSw; unfold CellIs at hSw; go_simp; try with_reducible rfl)
      (try simp only [Act.put, List.getElem_toArray, List.getElem_cons_zero, List.getElem_cons_succ, List.setIfInBounds_toArray, List.set_cons_zero, List.set_cons_succ])
      refine wpAnyF_take1 (i := 10) (v := ?_) rfl rfl (by kernel_rfl) (by kernel_rfl) (by kernel_rfl) (by kernel_rfl) (fun _ _ _ h => h) (Or.inl ⟨by rfl, ?_⟩) (by assumption) (by kernel_rfl) (by assumption) ?_
      rotate_left
      · (intro w hSw; obtain ⟨g0, g1⟩ := hSw; unfold CellIs at g0; unfold TwoIs at g1; obtain ⟨g1, g2⟩ := g1; go_simp; try with_reducible rfl)
      (try simp only [Act.put, List.getElem_toArray, List.getElem_cons_zero, List.getElem_cons_succ, List.setIfInBounds_toArray, List.set_cons_zero, List.set_cons_succ])
      refine wpAnyF_take0 (i := 11) (v := ?_) rfl rfl (by kernel_rfl) (by kernel_rfl) (by kernel_rfl) (fun _ _ _ h => h) (Or.inl ⟨by rfl, ?_⟩) (by assumption) (fun _ => e1d) ?_
      rotate_left
      · (intro w hSw; unfold CellIs at hSw; go_simp; try with_reducible rfl)
      (try simp only [Act.put, List.getElem_toArray, List.getElem_cons_zero, List.getElem_cons_succ, List.setIfInBounds_toArray, List.set_cons_zero, List.set_cons_succ])
      refine wpAnyF_take0 (i := 12) (v := ?_) rfl rfl (by kernel_rfl) (by kernel_rfl) (by kernel_rfl) (fun _ _ _ h => h) (Or.inl ⟨by rfl, ?_⟩) (by assumption) (fun _ => e1d) ?_
      rotate_left
      · (intro w hSw; unfold CellIs at hSw; go_simp; try with_reducible rfl)
      (try simp only [Act.put, List.getElem_toArray, List.getElem_cons_zero, List.getElem_cons_succ, List.setIfInBounds_toArray, List.set_cons_zero, List.set_cons_succ])
      refine wpAnyF_take0 (i := 13) (v := ?_) rfl rfl (by kernel_rfl) (by kernel_rfl) (by kernel_rfl) (fun _ _ _ h => h) (Or.inl ⟨by rfl, ?_⟩) (by assumption) (fun _ => e1d) ?_
      rotate_left
      · (intro w hSw; unfold CellIs at hSw; go_simp; try with_reducible rfl)
      (try simp only [Act.put, List.getElem_toArray, List.getElem_cons_zero, List.getElem_cons_succ, List.setIfInBounds_toArray, List.set_cons_zero, List.set_cons_succ])
      refine wpAnyF_take0 (i := 14) (v := ?_) rfl rfl (by kernel_rfl) (by kernel_rfl) (by kernel_rfl) (fun _ _ _ h => h) (Or.inl ⟨by rfl, ?_⟩) (by assumption) (fun _ => e1d) ?_
      rotate_left
      · (intro w hSw; unfold CellIs at hSw; go_simp; try with_reducible rfl)
      (try simp only [Act.put, List.getElem_toArray, List.getElem_cons_zero, List.getElem_cons_succ, List.setIfInBounds_toArray, List.set_cons_zero, List.set_cons_succ])
      refine wpAnyF_take0 (i := 15) (v := ?_) rfl rfl (by kernel_rfl) (by kernel_rfl) (by kernel_rfl) (fun _ _ _ h => h) (Or.inl ⟨by rfl, ?_⟩) (by assumption) (fun _ => e1d) ?_
      rotate_left
      · (intro w hSw; unfold CellIs at hSw; go_simp; try with_reducible rfl)
      (try simp only [Act.put, List.getElem_toArray, List.getElem_cons_zero, List.getElem_cons_succ, List.setIfInBounds_toArray, List.set_cons_zero, List.set_cons_succ])
      refine wpAnyF_one (i := 7) (by kernel_rfl) rfl (fun K' hK => ?_)
      rw [if_pos (by rfl)]
      go_simp
      refine (HMN.out _).mono ?_
      rintro e w8 ⟨rfl, hbw8⟩
      replace hbw8 := ex_below hbw8
      have hzw8 := hbw8.size
      have e0w8 : CellIs sb (so + k) (.string v) w8 := CellIs.ext e0d hbw8
      have e1w8 : TwoIs B9 (.int .i64 lo) (.int .i64 hi) w8 := TwoIs.ext e1d hbw8
      dsimp only
      refine hK.out _ _ (e0w8) (fun _ => e1w8) (fun _ => ?_)
      clear hK K'
      (try simp only [Act.put, List.getElem_toArray, List.getElem_cons_zero, List.getElem_cons_succ, List.setIfInBounds_toArray, List.set_cons_zero, List.set_cons_succ])
      refine wpAnyF_take0 (i := 8) (v := ?_) rfl rfl (by kernel_rfl) (by kernel_rfl) (by kernel_rfl) (fun _ _ _ h => h) (Or.inl ⟨by rfl, ?_⟩) (by assumption) (fun _ => e1w8) ?_
      rotate_left
      · (intro w hSw; unfold CellIs at hSw; go_simp; try with_reducible rfl)
      (try simp only [Act.put, List.getElem_toArray, List.getElem_cons_zero, List.getElem_cons_succ, List.setIfInBounds_toArray, List.set_cons_zero, List.set_cons_succ])
      refine wpAnyF_take0 (i := 18) (v := ?_) rfl rfl (by kernel_rfl) (by kernel_rfl) (by kernel_rfl) (fun _ _ _ h => h) (Or.inl ⟨by rfl, ?_⟩) (by assumption) (fun _ => e1w8) ?_
      rotate_left
      · (intro w hSw; unfold CellIs at hSw; go_simp; try with_reducible rfl)
      (try simp only [Act.put, List.getElem_toArray, List.getElem_cons_zero, List.getElem_cons_succ, List.setIfInBounds_toArray, List.set_cons_zero, List.set_cons_succ])
      refine wpAnyF_one (i := 16) (by kernel_rfl) rfl (fun K' hK => ?_)
      rw [if_pos (by rfl)]
      go_simp
      refine (HMN.out _).mono ?_
      rintro e w9 ⟨rfl, hbw9⟩
      replace hbw9 := ex_below hbw9
      have hzw9 := hbw9.size
      have e0w9 : CellIs sb (so + k) (.string v) w9 := CellIs.ext e0w8 hbw9
      have e1w9 : TwoIs B9 (.int .i64 lo) (.int .i64 hi) w9 := TwoIs.ext e1w8 hbw9
      dsimp only
      refine hK.out _ _ (e0w9) (fun _ => e1w9) (fun _ => ?_)
      clear hK K'
      (try simp only [Act.put, List.getElem_toArray, List.getElem_cons_zero, List.getElem_cons_succ, List.setIfInBounds_toArray, List.set_cons_zero, List.set_cons_succ])
      refine wpAnyF_take0 (i := 17) (v := ?_) rfl rfl (by kernel_rfl) (by kernel_rfl) (by kernel_rfl) (fun _ _ _ h => h) (Or.inl ⟨by rfl, ?_⟩) (by assumption) (fun _ => e1w9) ?_
      rotate_left
      · (intro w hSw; unfold CellIs at hSw; go_simp; try with_reducible rfl)
      (try simp only [Act.put, List.getElem_toArray, List.getElem_cons_zero, List.getElem_cons_succ, List.setIfInBounds_toArray, List.set_cons_zero, List.set_cons_succ])
      have hb89 : Below wr.heap.size wr w9 := by (repeat (first | exact Below.refl _ _ | assumption | (refine below_gr ?_ (by (first | omega | (simp only [zz] at *; omega))) _) | (refine below_alloc ?_ (by (first | omega | (simp only [zz] at *; omega))) _) | (refine Below.setCell ?_ (by (first | omega | (simp only [zz] at *; omega))) _) | refine below_drewN ?_ _ | refine below_drew ?_ | (refine below_step ?_ (by assumption) (by (first | omega | (simp only [zz] at *; omega))))))
      have hH9 := (hb89.block B9 hBl).trans hHO
      have c90 := obj_at hH9 0 _ rfl
      have c91 := obj_at hH9 1 _ rfl
      have f90 := obj_fz hH9 0
      have f91 := obj_fz hH9 1
      refine wpAnyF_one (i := 19) (by kernel_rfl) rfl (fun K' hK => ?_)
      rw [if_pos (by rfl)]
      go_simp
      refine hK.out _ _ (CellIs.set e0w9 hsB) (fun hx => Bool.noConfusion (show false = true from hx)) (fun _ => ?_)
      clear hK K'
      (try simp only [Act.put, List.getElem_toArray, List.getElem_cons_zero, List.getElem_cons_succ, List.setIfInBounds_toArray, List.set_cons_zero, List.set_cons_succ])
      have e0x : CellIs sb (so + k) (.string v) (w9.setCell ⟨B9, 0, none⟩ (.int .i64 (if ((m : Nat) : Int) < lo then ((m : Nat) : Int) else lo))) := CellIs.set e0w9 hsB
      have hHX := set_obj hH9 0 (.int .i64 (if ((m : Nat) : Int) < lo then ((m : Nat) : Int) else lo))
      clear c90 f90 e1w9
      have x91 := obj_at hHX 1 _ rfl
      have y91 := obj_fz hHX 1
      refine wpAnyF_take0 (i := 20) (v := ?_) rfl rfl (by kernel_rfl) (by kernel_rfl) (by kernel_rfl) (fun _ _ _ h => h) (Or.inl ⟨by rfl, ?_⟩) (by assumption) (fun hx => Bool.noConfusion (show false = true from hx)) ?_
      rotate_left
      · (intro w hSw; unfold CellIs at hSw; go_simp; try with_reducible rfl)
      (try simp only [Act.put, List.getElem_toArray, List.getElem_cons_zero, List.getElem_cons_succ, List.setIfInBounds_toArray, List.set_cons_zero, List.set_cons_succ])
      refine wpAnyF_one (i := 21) (by kernel_rfl) rfl (fun K' hK => ?_)
      rw [if_pos (by rfl)]
      go_simp
      refine hK.out _ _ (CellIs.set e0x hsB) (fun hx => Bool.noConfusion (show false = true from hx)) (fun _ => ?_)
      clear hK K'
      (try simp only [Act.put, List.getElem_toArray, List.getElem_cons_zero, List.getElem_cons_succ, List.setIfInBounds_toArray, List.set_cons_zero, List.set_cons_succ])
      refine wpAnyF_done (by kernel_rfl) ?_ _
      refine NoPanic.normal ?_
      go_wp2_with fail
      refine ⟨⟨k + 1, by omega, by go_num, ?_, hide (by rw [HPF.out]; simp only; omega), below_set0 (below_set0 (hb9.trans (hb89.mono (by omega))) (Nat.le_refl _)) (Nat.le_refl _)⟩, by simp [intOf]; omega⟩
      rw [HPF.out]
      have hF := set_duo (x := .int .i64 (if ((m : Nat) : Int) < lo then ((m : Nat) : Int) else lo)) (y := .int .i64 (if hi < ((m : Nat) : Int) then ((m : Nat) : Int) else hi)) hH9
      have e1 : min lo ((m : Nat) : Int) = (if ((m : Nat) : Int) < lo then ((m : Nat) : Int) else lo) := by split <;> omega
      have e2 : max hi ((m : Nat) : Int) = (if hi < ((m : Nat) : Int) then ((m : Nat) : Int) else hi) := by split <;> omega
      rw [e1, e2]
      exact hF
    · have hke : k = nb.length := by omega
      have HFE : Hid (pfR ((b : Int) - 97) (nb.take k) = (q1, q2)) := hide (by rw [hke, List.take_length, HQ.out])
      rw [HFE.out] at hHO
      have hkli : ¬ ((k : Int) < (nb.length : Nat)) := by omega
      clear hke
      have y0 := obj_at hHO 0 _ rfl
      have y1 := obj_at hHO 1 _ rfl
      have o0 := obj_at hOBr 0 _ rfl
      have o1 := obj_at hOBr 1 _ rfl
      have p0 := obj_fz hOBr 0
      have p1 := obj_fz hOBr 1
      go_wp2
      have s0 := set_obj hOBr 0 (.int .i64 q1)
      have s1 := set_obj s0 1 (.int .i64 q2)
      have k0 := obj_at s1 0 (.int .i64 q1) rfl
      have k1 := obj_at s1 1 (.int .i64 q2) rfl
      refine bodyPost_ret (v := .tuple #[.agg #[.int .i64 q1, .int .i64 q2], .int .i64 0]) (by simp [results, Try.results36, go_sem, k0, k1]) rfl ⟨rfl, below_grow (Below.setCell (p := ⟨_, 1, none⟩) (Below.setCell (p := ⟨_, 0, none⟩) hbw (by simp) _) (by simp) _)⟩
end Go.Proofs.Ytafncmgijbkomaa
