/- Proved here: the plain law: codes, numbers, indexes, sure letters; the plain law: the bound of a set; the plain law: payments and sets; the plain law: the least bound; one answer for the program and the reference, a part of the proofs about the ticket laws. Conditions: those that each theorem names, no others. -/
import Derived.Test.YtgjfejpibielaaaQ38
import Derived.WalkKit
import Derived.WalkSpells
import Derived.WalkLawsBesides
import Derived.Below
import Derived.Deep.QuietTactic
import Derived.BigQuiet
import Derived.Deep.Light
set_option linter.unusedSimpArgs false
set_option linter.unusedVariables false
namespace Go.Proofs.Ytgjfejpibielaaa
open Go.RowKit Go.Maps Go.Shelf
theorem code_eq (L rest : Nat) (K : List Nat) (x : Int) : codeV L rest K x = codeR (Tt.codes L rest K) x := by
 unfold codeV codeR
 rw [cnt_codes]
 by_cases h : x < 0 ∨ ((Tt.codes L rest K).length : Int) ≤ x
 · rw [if_pos h, if_pos h]
 · rw [if_neg h, if_neg h]
   have hl : x.toNat < (Tt.codes L rest K).length := by omega
   rw [← Tt.codeA_at L rest _ (-1) 0 x.toNat hl, List.getD_eq_getElem?_getD, List.getElem?_eq_getElem hl]
   rfl
theorem num_eq (L rest : Nat) (K : List Nat) (s : ByteArray) : numV L rest K s = numR L rest K s := by
 unfold numV numR
 cases hw : isW L K.length s with
 | false => rfl
 | true =>
   obtain ⟨_, hwn, hwL⟩ := isW_lw hw
   rw [Tt.befA_count L rest _ (-1) 0 (lw s) (by rw [hwn, List.length_zip]; simp [Tt.fulls]) hwL, Tt.count_while (Tt.codes_sorted L rest K) (lw s)]
   rfl
theorem find_eq {L rest : Nat} {K T : List Nat} (hT : T.length = K.length) (x : Int) : findV L rest K T x = findR (fitL L rest K T) x := by
 unfold findV findR
 rw [fitL_len hT]
 by_cases h : x < 0 ∨ ((Tt.cnt L rest (K.zip T) (-1) 0 : Nat) : Int) ≤ x
 · rw [if_pos h, if_pos h]
 · rw [if_neg h, if_neg h]
   have hl : x.toNat < Tt.cnt L rest (K.zip T) (-1) 0 := by omega
   rw [List.getD_eq_getElem?_getD, num_at hT hl]
   rfl
theorem soldI_zr (qs : List (Nat × Nat)) (i : Nat) : soldI (zr qs) (i : Int) = Tt.soldB qs i := by
 unfold soldI zr Tt.soldB
 rw [List.any_map]
 congr 1
 funext r
 simp
theorem can_count (L rest : Nat) (K T : List Nat) (qs : List (Nat × Nat)) : (canN L rest K T qs).length = (fitL L rest K T).countP (fun i => soldI (zr qs) ((i : Nat) : Int)) := by
 unfold canN fitL
 rw [List.countP_filter, ← List.countP_eq_length_filter]
 congr 1
 funext i
 rw [soldI_zr]
theorem fits_iff : ∀ (T w : List Nat), T.length = w.length → (Tt.fitsW T w = true ↔ ∀ i, (h1 : i < T.length) → (h2 : i < w.length) → T[i].testBit w[i] = true)
 | [], [], _ => by simp [Tt.fitsW]
 | t :: T, c :: w, h => by
   rw [Tt.fitsW, Bool.and_eq_true, fits_iff T w (by simpa using h)]
   constructor
   · rintro ⟨h1, h2⟩ i hi1 hi2
     cases i with
     | zero => exact h1
     | succ i => exact h2 i (by simpa using hi1) (by simpa using hi2)
   · intro h1
     exact ⟨h1 0 (by simp) (by simp), fun i hi1 hi2 => h1 (i + 1) (by simpa using hi1) (by simpa using hi2)⟩
 | [], _ :: _, h => by simp at h
 | _ :: _, [], h => by simp at h
theorem surN_bit (L rest : Nat) (K T : List Nat) (p j : Nat) : ∀ c, (surN L rest K T p c).testBit j = (decide (j < c) && surB L rest K T p j)
 | 0 => by simp [surN]
 | c + 1 => by
   rw [surN_succ]
   have ih := surN_bit L rest K T p j c
   by_cases hs : surB L rest K T p c = true
   · rw [if_pos hs, Nat.testBit_or, ih, Nat.testBit_two_pow]
     by_cases e : c = j
     · subst e; simp [hs]
     · by_cases h : j < c
       · simp [h, e, show j < c + 1 by omega]
       · simp [h, e, show ¬ j < c + 1 by omega]
   · rw [if_neg hs, ih]
     by_cases e : j = c
     · subst e; simp [hs]
     · by_cases h : j < c
       · simp [h, show j < c + 1 by omega]
       · simp [h, show ¬ j < c + 1 by omega]
theorem orK_bit (l : List (List Nat)) (p j : Nat) : (orK l p).testBit j = l.any fun w => decide (w.getD p 0 = j) := by
 refine Tt.snoc_ind (P := fun l => (orK l p).testBit j = l.any fun w => decide (w.getD p 0 = j)) ?_ ?_ l
 · simp [orK]
 · intro l w ih
   rw [orK_snoc, Nat.testBit_or, ih, Nat.testBit_two_pow, List.any_append]
   simp
theorem sur_eq {L rest : Nat} {K T : List Nat} (hT : T.length = K.length) (p : Nat) (hp : p < K.length) : surN L rest K T p L = orK ((Tt.codes L rest K).filter (Tt.fitsW T)) p := by
 apply Nat.eq_of_testBit_eq
 intro j
 rw [surN_bit, orK_bit, Bool.eq_iff_iff]
 simp only [Bool.and_eq_true, decide_eq_true_eq, List.any_eq_true, List.mem_filter]
 have hpT : p < T.length := by omega
 have hg : Tt.gen L rest (K.zip (T.set p (2 ^ j))) (-1) 0 = (Tt.codes L rest K).filter (Tt.fitsW (T.set p (2 ^ j))) := Tt.gen_fit L rest K _ (by rw [List.length_set]; exact hT)
 have hcnt : 0 < Tt.cnt L rest (K.zip (T.set p (2 ^ j))) (-1) 0 ↔ ∃ w, w ∈ Tt.codes L rest K ∧ Tt.fitsW (T.set p (2 ^ j)) w = true := by
  rw [← Tt.gen_length, hg]
  constructor
  · intro h
    exact ⟨_, (List.mem_filter.1 (List.getElem_mem h)).1, (List.mem_filter.1 (List.getElem_mem h)).2⟩
  · rintro ⟨w, h1, h2⟩
    exact List.length_pos_of_mem (List.mem_filter.2 ⟨h1, h2⟩)
 have key : ∀ w, w ∈ Tt.codes L rest K → (Tt.fitsW (T.set p (2 ^ j)) w = true ∧ T[p].testBit j = true ↔ Tt.fitsW T w = true ∧ w.getD p 0 = j) := fun w hw => by
  have hwl := (Tt.codes_mem hw).1
  have hpw : p < w.length := by omega
  have hgd : w.getD p 0 = w[p] := by rw [List.getD_eq_getElem?_getD, List.getElem?_eq_getElem hpw]; rfl
  rw [fits_iff _ w (by rw [List.length_set]; omega), fits_iff T w (by omega), hgd]
  constructor
  · rintro ⟨h1, h2⟩
    have e : j = w[p] := by
     have := h1 p (by rw [List.length_set]; exact hpT) hpw
     rw [List.getElem_set_self, Nat.testBit_two_pow, decide_eq_true_eq] at this
     exact this
    refine ⟨fun i hi1 hi2 => ?_, e.symm⟩
    by_cases hip : i = p
    · subst hip; rw [← e]; exact h2
    · have := h1 i (by rw [List.length_set]; exact hi1) hi2
      rwa [List.getElem_set_ne (by omega)] at this
  · rintro ⟨h1, h2⟩
    refine ⟨fun i hi1 hi2 => ?_, by have := h1 p hpT hpw; rwa [h2] at this⟩
    rw [List.length_set] at hi1
    by_cases hip : i = p
    · subst hip; rw [List.getElem_set_self, Nat.testBit_two_pow, decide_eq_true_eq]; exact h2.symm
    · rw [List.getElem_set_ne (by omega)]; exact h1 i hi1 hi2
 have hsb : surB L rest K T p j = true ↔ T[p].testBit j = true ∧ 0 < Tt.cnt L rest (K.zip (T.set p (2 ^ j))) (-1) 0 := by
  unfold surB
  rw [List.getD_eq_getElem?_getD, List.getElem?_eq_getElem hpT]
  simp
 rw [hsb, hcnt]
 constructor
 · rintro ⟨_, h1, w, h2, h3⟩
   have := (key w h2).1 ⟨h3, h1⟩
   exact ⟨w, ⟨h2, this.1⟩, this.2⟩
 · rintro ⟨w, ⟨h1, h2⟩, h3⟩
   have := (key w h1).2 ⟨h2, h3⟩
   have hwm := Tt.codes_mem h1
   have hpw : p < w.length := by omega
   have hgd : w.getD p 0 = w[p] := by rw [List.getD_eq_getElem?_getD, List.getElem?_eq_getElem hpw]; rfl
   exact ⟨by rw [← h3, hgd]; exact hwm.2 _ (List.getElem_mem hpw), this.2, w, h1, this.1⟩
theorem sure_eq {L rest : Nat} {K T : List Nat} (hT : T.length = K.length) : sureL L rest K T = orL K.length ((Tt.codes L rest K).filter (Tt.fitsW T)) := by
 unfold sureL orL
 apply List.map_congr_left
 intro p hp
 exact sur_eq hT p (List.mem_range.1 hp)
end Go.Proofs.Ytgjfejpibielaaa
namespace Go.Proofs.Ytgjfejpibielaaa
open Go.RowKit Go.Maps Go.Shelf
theorem fitsW_fulls (L : Nat) : ∀ (w : List Nat), (∀ x, x ∈ w → x < L) → Tt.fitsW (Tt.fulls L w.length) w = true
 | [], _ => rfl
 | c :: w, h => by
   have ih := fitsW_fulls L w (fun x hx => h x (by simp [hx]))
   unfold Tt.fulls at ih ⊢
   rw [List.length_cons, List.replicate_succ, Tt.fitsW, ih, Bool.and_true]
   have := h c (by simp)
   rw [Nat.testBit_two_pow_sub_one]
   simpa using this
theorem fitsW_and : ∀ (x y w : List Nat), x.length = w.length → y.length = w.length → Tt.fitsW (List.zipWith (fun x y => x &&& y) x y) w = (Tt.fitsW x w && Tt.fitsW y w)
 | [], [], [], _, _ => rfl
 | a :: x, b :: y, c :: w, h1, h2 => by
   rw [List.zipWith_cons_cons, Tt.fitsW, Tt.fitsW, Tt.fitsW, fitsW_and x y w (by simpa using h1) (by simpa using h2), Nat.testBit_and]
   cases a.testBit c <;> cases b.testBit c <;> simp
 | [], [], _ :: _, h, _ => by simp at h
 | [], _ :: _, _, h1, h2 => by rw [← h1] at h2; simp at h2
 | _ :: _, [], _, h1, h2 => by rw [← h2] at h1; simp at h1
 | _ :: _, _ :: _, [], h, _ => by simp at h
theorem fit_at {L rest : Nat} {K T : List Nat} {i : Nat} (hi : i < (Tt.codes L rest K).length) : fitN L rest K T i = Tt.fitsW T (Tt.codes L rest K)[i] := by
 unfold fitN
 rw [List.getElem?_eq_getElem hi]
 rfl
theorem fit_both {L rest : Nat} {K : List Nat} {Cs : List (List Nat)} (hC : ∀ T, T ∈ Cs → T.length = K.length) (b : Nat) {i : Nat} (hi : i < (Tt.codes L rest K).length) : ∀ k, k ≤ Cs.length → fitN L rest K (bothL L K.length Cs b k) i = Tt.allB (fun x => fitN L rest K (Cs.getD x []) i) b k
 | 0, _ => by
   have hm := Tt.codes_mem (List.getElem_mem hi)
   rw [fit_at hi, bothL]
   have h := fitsW_fulls L (Tt.codes L rest K)[i] hm.2
   rw [hm.1] at h
   rw [h]
   rfl
 | k + 1, hk => by
   have ih := fit_both hC b hi k (by omega)
   have hm := Tt.codes_mem (List.getElem_mem hi)
   have e : Tt.allB (fun x => fitN L rest K (Cs.getD x []) i) b (k + 1) = (Tt.allB (fun x => fitN L rest K (Cs.getD x []) i) b k && (!b.testBit k || fitN L rest K (Cs.getD k []) i)) := by
    unfold Tt.allB
    rw [List.range_succ, List.all_append]
    simp
   rw [e, ← ih, bothL]
   by_cases hb : b.testBit k = true
   · rw [if_pos hb, fit_at hi, fit_at hi, fit_at hi, fitsW_and _ _ _ (by rw [bothL_len hC b k (by omega), hm.1]) ?_]
     · rw [hb]; simp
     · have hk2 : k < Cs.length := by omega
       rw [List.getD_eq_getElem?_getD, List.getElem?_eq_getElem hk2, hm.1]
       exact hC _ (List.getElem_mem hk2)
   · rw [if_neg hb]
     simp [hb]
theorem any_getD {α : Type} (f : α → Bool) (d : α) (l : List α) : ((List.range l.length).any fun x => f (l.getD x d)) = l.any f := by
 rw [Bool.eq_iff_iff]
 simp only [List.any_eq_true, List.mem_range]
 constructor
 · rintro ⟨x, hx, h⟩
   rw [List.getD_eq_getElem?_getD, List.getElem?_eq_getElem hx] at h
   exact ⟨_, List.getElem_mem hx, h⟩
 · rintro ⟨y, hy, h⟩
   obtain ⟨i, hi, rfl⟩ := List.getElem_of_mem hy
   exact ⟨i, hi, by rw [List.getD_eq_getElem?_getD, List.getElem?_eq_getElem hi]; exact h⟩
theorem claimsOf_len {K : List Nat} {Ts : List (List Nat)} (hT : ∀ T, T ∈ Ts → T.length = K.length) {s : List Nat} (hs : ∀ x, x ∈ s → x < Ts.length) : ∀ T, T ∈ claimsOf Ts s → T.length = K.length := fun T h => by
 unfold claimsOf at h
 obtain ⟨x, hx, rfl⟩ := List.mem_map.1 h
 have := hs x hx
 rw [List.getD_eq_getElem?_getD, List.getElem?_eq_getElem this]
 exact hT _ (List.getElem_mem this)
theorem union_eq {L rest : Nat} {K : List Nat} {Ts : List (List Nat)} (qs : List (Nat × Nat)) (hT : ∀ T, T ∈ Ts → T.length = K.length) {s : List Nat} (hs : ∀ x, x ∈ s → x < Ts.length) : uniS L rest K qs (claimsOf Ts s) (2 ^ s.length) = (boundN L rest K Ts (zr qs) s (Tt.codes L rest K).length : Nat) := by
 have hCl : (claimsOf Ts s).length = s.length := by unfold claimsOf; simp
 have hC := claimsOf_len hT hs
 have h := Tt.incl_excl ((List.range (Tt.codes L rest K).length).filter (Tt.soldB qs)) (fun i x => fitN L rest K ((claimsOf Ts s).getD x []) i) s.length
 have e2 : boundN L rest K Ts (zr qs) s (Tt.codes L rest K).length = List.countP (fun x => (List.range s.length).any ((fun i x => fitN L rest K ((claimsOf Ts s).getD x []) i) x)) ((List.range (Tt.codes L rest K).length).filter (Tt.soldB qs)) := by
  unfold boundN
  rw [List.countP_filter]
  congr 1
  funext i
  have := any_getD (fun T => fitN L rest K T i) [] (claimsOf Ts s)
  rw [hCl] at this
  simp only [this]
  rw [soldI_zr]
  unfold anyF claimsOf
  rw [List.any_map]
  rfl
 rw [e2, ← h]
 unfold uniS uniF
 rw [hCl]
 congr 1
 apply List.map_congr_left
 intro b _
 congr 2
 unfold canN
 rw [← List.countP_eq_length_filter, List.countP_filter]
 apply List.countP_congr
 intro i hi
 rw [fit_both hC b (List.mem_range.1 hi) s.length (by omega), Bool.and_comm]
theorem short_eq {L rest : Nat} {K : List Nat} (qs : List (Nat × Nat)) {Ts : List (List Nat)} (hT : ∀ T, T ∈ Ts → T.length = K.length) (ss : List Int) : chkShortV L rest K qs Ts Ts.length ss = chkShortR L rest K (zr qs) Ts Ts.length ss := by
 unfold chkShortV chkShortR
 by_cases h : setB (Ts.length : Nat) 0 ss = true
 · rw [if_pos h, if_pos h]
   obtain ⟨s, rfl, hs, _, _⟩ := setB_ok (nx := 0) h
   have hnat : (zs s).map Int.toNat = s := by unfold zs; rw [List.map_map]; conv => rhs; rw [← List.map_id s]
                                              apply List.map_congr_left; intro x _; simp
   rw [hnat, zs_len, union_eq qs hT (fun x hx => (hs x hx).2)]
   rfl
 · rw [if_neg h, if_neg h]
end Go.Proofs.Ytgjfejpibielaaa
namespace Go.Proofs.Ytgjfejpibielaaa
open Go.RowKit Go.Maps Go.Shelf
section
variable {L rest : Nat} {K : List Nat} {Ts : List (List Nat)} {rs : List (Int × Int)}
/-- a number that can be paid to a claim -/
def CanP (L rest : Nat) (K : List Nat) (Ts : List (List Nat)) (rs : List (Int × Int)) (n : Nat) (x : Int) : Prop := 0 ≤ x ∧ x < ((Tt.codes L rest K).length : Int) ∧ soldI rs x = true ∧ fitN L rest K (Ts.getD n []) x.toNat = true
theorem okP_iff {p : List Int} {i : Nat} : okP L rest K Ts rs p i = true ↔ Tt.gp p i = -1 ∨ (CanP L rest K Ts rs i (Tt.gp p i) ∧ ∀ k, k < i → Tt.gp p k ≠ Tt.gp p i) := by
 unfold okP CanP Tt.gp
 simp only [Bool.or_eq_true, Bool.and_eq_true, decide_eq_true_eq, List.all_eq_true, List.mem_range]
 constructor
 · rintro (h | ⟨⟨⟨⟨h1, h2⟩, h3⟩, h4⟩, h5⟩)
   · exact .inl h
   · exact .inr ⟨⟨h1, h2, h3, h4⟩, h5⟩
 · rintro (h | ⟨⟨h1, h2, h3, h4⟩, h5⟩)
   · exact .inl h
   · exact .inr ⟨⟨⟨⟨h1, h2⟩, h3⟩, h4⟩, h5⟩
def IsPay (L rest : Nat) (K : List Nat) (Ts : List (List Nat)) (rs : List (Int × Int)) (k : Nat) (p : List Int) : Prop := p.length = k ∧ (List.range k).all (okP L rest K Ts rs p) = true
/-- no payment pays more than the bound of a set -/
theorem weak_pay {p : List Int} {k : Nat} (h : IsPay L rest K Ts rs k p) {s : List Nat} (hs : s.Nodup) (hlt : ∀ x, x ∈ s → x < k) : Tt.paidN p + s.length ≤ k + boundN L rest K Ts rs s (Tt.codes L rest K).length := by
 have hok : ∀ i, i < k → Tt.gp p i = -1 ∨ (CanP L rest K Ts rs i (Tt.gp p i) ∧ ∀ k, k < i → Tt.gp p k ≠ Tt.gp p i) := fun i hi => okP_iff.1 (List.all_eq_true.1 h.2 i (List.mem_range.2 hi))
 have := Tt.weak (can := CanP L rest K Ts rs) h.1 (fun n hn h1 => by
  rcases hok n hn with h2 | h2
  · exact absurd h2 h1
  · exact h2.1) (fun n m hn hm he h1 => by
  rcases Nat.lt_trichotomy n m with hnm | hnm | hnm
  · rcases hok m hm with h2 | h2
    · exact absurd (he.trans h2) h1
    · exact absurd he (h2.2 n hnm)
  · exact hnm
  · rcases hok n hn with h2 | h2
    · exact absurd h2 h1
    · exact absurd he.symm (h2.2 m hnm)) s hs hlt (((List.range (Tt.codes L rest K).length).filter fun i => anyF L rest K Ts s i && soldI rs ((i : Nat) : Int)).map fun i => ((i : Nat) : Int)) (fun n hn x hx => by
  obtain ⟨h1, h2, h3, h4⟩ := hx
  have hxe : ((x.toNat : Nat) : Int) = x := Int.toNat_of_nonneg h1
  refine List.mem_map.2 ⟨x.toNat, List.mem_filter.2 ⟨List.mem_range.2 (by omega), ?_⟩, hxe⟩
  rw [hxe, h3, Bool.and_true]
  unfold anyF
  exact List.any_eq_true.2 ⟨n, hn, h4⟩)
 rw [List.length_map, ← List.countP_eq_length_filter] at this
 exact this
theorem canL_at {qs : List (Nat × Nat)} {n : Nat} {x : Int} (h : x ∈ (canL L rest K qs Ts).getD n []) : CanP L rest K Ts (zr qs) n x := by
 rw [List.getD_eq_getElem?_getD] at h
 unfold canL at h
 rw [List.getElem?_map] at h
 cases hc : Ts[n]? with
 | none => rw [hc] at h; cases h
 | some T =>
   rw [hc] at h
   obtain ⟨y, hy, rfl⟩ := List.mem_map.1 h
   have hy := List.mem_of_mem_take hy
   unfold canN at hy
   obtain ⟨h1, h2⟩ := List.mem_filter.1 hy
   rw [Bool.and_eq_true] at h2
   have h1 := List.mem_range.1 h1
   refine ⟨by omega, by omega, by rw [soldI_zr]; exact h2.1, ?_⟩
   rw [List.getD_eq_getElem?_getD, hc]
   exact h2.2
theorem is_pay {qs : List (Nat × Nat)} {p : List Int} (h : Tt.Pay (canL L rest K qs Ts) p) : IsPay L rest K Ts (zr qs) Ts.length p := by
 refine ⟨by rw [h.len, canL_len], List.all_eq_true.2 fun i _ => okP_iff.2 ?_⟩
 rcases h.mem i with h1 | h1
 · exact .inl h1
 · exact .inr ⟨canL_at h1, fun k hk he => by
    have := h.inj k i he (by rw [he]; exact canL_pos i _ h1)
    omega⟩
theorem canN_nodup (L rest : Nat) (K T : List Nat) (qs : List (Nat × Nat)) : (canN L rest K T qs).Nodup := List.Nodup.sublist List.filter_sublist List.nodup_range
theorem zs_nodup {l : List Nat} (h : l.Nodup) : (zs l).Nodup := by
 unfold zs
 exact List.Pairwise.map _ (fun a b hab e => hab (by exact_mod_cast e)) h
theorem canL_nodup (qs : List (Nat × Nat)) (n : Nat) : ((canL L rest K qs Ts).getD n []).Nodup := by
 rw [List.getD_eq_getElem?_getD]
 unfold canL
 rw [List.getElem?_map]
 cases Ts[n]? with
 | none => exact List.nodup_nil
 | some T => exact zs_nodup (List.Nodup.sublist (List.take_sublist _ _) (canN_nodup ..))
/-- the set that is returned has a bound that is paid -/
theorem tight_pay {qs : List (Nat × Nat)} {S : List Nat} (hS : Tt.Reach (canL L rest K qs Ts) (Tt.payAll (canL L rest K qs Ts) (canL L rest K qs Ts).length) Ts.length S) : Ts.length + boundN L rest K Ts (zr qs) S (Tt.codes L rest K).length ≤ Tt.paidN (Tt.payAll (canL L rest K qs Ts) (canL L rest K qs Ts).length) + S.length := by
 have hp := (Tt.payAll_spec (canL_pos (L := L) (rest := rest) (K := K) (qs := qs) (Ts := Ts)) _ (Nat.le_refl _)).1
 have hk := canL_len L rest K qs Ts
 rw [← hk] at hS
 have hsh := Tt.reach_shut canL_pos hS
 generalize hP : Tt.payAll (canL L rest K qs Ts) (canL L rest K qs Ts).length = p at *
 have hpl : p.length = Ts.length := by rw [hp.len, hk]
 by_cases hall : Tt.paidN p = Ts.length
 · have : S = [] := by
    apply List.eq_nil_iff_forall_not_mem.2
    intro c hc
    refine hS.2.2.2.2 (fun _ => False) (fun c hc1 hc2 => ?_) (fun c hc _ _ _ _ => hc) c hc
    have h1 := Tt.paidN_range p
    rw [hall, ← hpl] at h1
    have h2 := List.length_filter_eq_length_iff.1 (h1.symm.trans (List.length_range (n := p.length)).symm)
    have := h2 c (List.mem_range.2 (by omega))
    rw [decide_eq_true_eq] at this
    exact this hc2
   subst this
   have : boundN L rest K Ts (zr qs) [] (Tt.codes L rest K).length = 0 := by
    unfold boundN anyF
    simp
   rw [this, hall]
   simp
 · have hle : Tt.paidN p ≤ Ts.length := by rw [← hpl]; exact List.countP_le_length
   have := Tt.tight hp canL_pos S hS.1 hsh (fun c hc h1 => hS.2.2.1 c (by omega) h1) (((List.range (Tt.codes L rest K).length).filter fun i => anyF L rest K Ts S i && soldI (zr qs) ((i : Nat) : Int)).map fun i => ((i : Nat) : Int))
    (zs_nodup (List.Nodup.sublist List.filter_sublist List.nodup_range)) (fun x hx => by
    obtain ⟨i, hi, rfl⟩ := List.mem_map.1 hx
    obtain ⟨h1, h2⟩ := List.mem_filter.1 hi
    rw [Bool.and_eq_true] at h2
    unfold anyF at h2
    obtain ⟨n, hn, h3⟩ := List.any_eq_true.1 h2.1
    refine ⟨n, hn, ?_⟩
    have hnl := hS.2.1 n hn
    rw [hk] at hnl
    have hlen := Tt.shut_len hp canL_pos hsh (c := n) hn (canL_nodup qs n)
    have hge : (canL L rest K qs Ts).getD n [] = zs ((canN L rest K (Ts.getD n []) qs).take Ts.length) := by
     rw [List.getD_eq_getElem?_getD, List.getD_eq_getElem?_getD]
     unfold canL
     rw [List.getElem?_map, List.getElem?_eq_getElem hnl]
     rfl
    rw [hge] at hlen ⊢
    rw [zs_len, List.length_take] at hlen
    rw [List.take_of_length_le (by omega)]
    refine List.mem_map.2 ⟨i, ?_, rfl⟩
    unfold canN
    refine List.mem_filter.2 ⟨h1, ?_⟩
    rw [Bool.and_eq_true, ← soldI_zr]
    exact ⟨h2.2, h3⟩)
   rw [List.length_map, ← List.countP_eq_length_filter, hk] at this
   exact this
end
end Go.Proofs.Ytgjfejpibielaaa
namespace Go.Proofs.Ytgjfejpibielaaa
open Go.RowKit Go.Maps Go.Shelf
theorem lstF_le (k : Nat) (f : Nat → Int) : ∀ B, lstF k f B ≤ (k : Int) ∧ ∀ b, 1 ≤ b → b < B → lstF k f B ≤ f b
 | 0 => ⟨by simp [lstF], fun b _ h => by omega⟩
 | B + 1 => by
   have ih := lstF_le k f B
   rw [lstF]
   by_cases h : B = 0
   · rw [if_pos h]; exact ⟨by omega, fun b h1 h2 => by omega⟩
   · rw [if_neg h]
     refine ⟨by omega, fun b h1 h2 => ?_⟩
     by_cases e : b = B
     · subst e; omega
     · have := ih.2 b h1 (by omega); omega
theorem lstF_ge (k : Nat) (f : Nat → Int) (v : Int) (hv : v ≤ (k : Int)) : ∀ B, (∀ b, 1 ≤ b → b < B → v ≤ f b) → v ≤ lstF k f B
 | 0, _ => by simpa [lstF] using hv
 | B + 1, hf => by
   have ih := lstF_ge k f v hv B (fun b h1 h2 => hf b h1 (by omega))
   rw [lstF]
   by_cases h : B = 0
   · rw [if_pos h]; exact hv
   · rw [if_neg h]
     have := hf B (by omega) (by omega)
     omega
theorem bitsS_nodup (k b : Nat) : (bitsS k b).Nodup := List.Nodup.sublist List.filter_sublist List.nodup_range
theorem bits_of (q : Nat → Bool) : ∀ k, ∃ b, b < 2 ^ k ∧ ∀ i, i < k → b.testBit i = q i
 | 0 => ⟨0, by simp, fun i h => by omega⟩
 | k + 1 => by
   obtain ⟨b, hb, h⟩ := bits_of q k
   cases hq : q k with
   | false =>
     refine ⟨b, by rw [Nat.pow_succ]; omega, fun i hi => ?_⟩
     by_cases e : i = k
     · subst e; rw [hq]; exact Nat.testBit_lt_two_pow hb
     · exact h i (by omega)
   | true =>
     refine ⟨2 ^ k + b, by rw [Nat.pow_succ]; omega, fun i hi => ?_⟩
     by_cases e : i = k
     · subst e; rw [hq, Nat.testBit_two_pow_add_eq, Nat.testBit_lt_two_pow hb]; rfl
     · rw [Nat.testBit_two_pow_add_gt (by omega)]; exact h i (by omega)
theorem setB_of {k : Nat} : ∀ (s : List Nat) (nx : Nat), s.Pairwise (· < ·) → (∀ x, x ∈ s → nx ≤ x ∧ x < k) → setB (k : Nat) (nx : Nat) (zs s) = true
 | [], _, _, _ => rfl
 | x :: s, nx, hp, h => by
   obtain ⟨h1, h2⟩ := List.pairwise_cons.1 hp
   have hx := h x (by simp)
   have ih := setB_of (k := k) s (x + 1) h2 (fun y hy => ⟨h1 y hy, (h y (by simp [hy])).2⟩)
   show (decide (((nx : Nat) : Int) ≤ (x : Nat)) && decide (((x : Nat) : Int) ≤ (k : Nat) - 1) && setB (k : Nat) (((x : Nat) : Int) + 1) (zs s)) = true
   rw [show ((x : Nat) : Int) + 1 = ((x + 1 : Nat) : Int) by omega, ih]
   simp
   omega
theorem outM_eq (m : List Nat) : (Tt.outM m).Pairwise (· < ·) := by
 unfold Tt.outM
 exact List.Pairwise.filter _ List.pairwise_lt_range
theorem setB_outM (m : List Nat) {k : Nat} (h : m.length = k) : setB (k : Nat) 0 (zs (Tt.outM m)) = true := by
 refine setB_of (Tt.outM m) 0 (outM_eq m) (fun x hx => ⟨Nat.zero_le _, ?_⟩)
 unfold Tt.outM at hx
 have := List.mem_range.1 (List.mem_filter.1 hx).1
 omega
section
variable {L rest : Nat} {K : List Nat} {Ts : List (List Nat)} {qs : List (Nat × Nat)}
theorem paid_least {m : List Nat} (hm : m.length = Ts.length) (hS : Tt.Reach (canL L rest K qs Ts) (Tt.payAll (canL L rest K qs Ts) (canL L rest K qs Ts).length) Ts.length (Tt.outM m)) :
 (Tt.paidN (Tt.payAll (canL L rest K qs Ts) (canL L rest K qs Ts).length) : Int) = leastI L rest K Ts (zr qs) Ts.length ∧
 ((Ts.length : Int) - ((Tt.outM m).length : Int) + (boundN L rest K Ts (zr qs) (Tt.outM m) (Tt.codes L rest K).length : Nat)) = leastI L rest K Ts (zr qs) Ts.length := by
 have ht := tight_pay hS
 have hp := is_pay (Tt.payAll_spec (canL_pos (L := L) (rest := rest) (K := K) (qs := qs) (Ts := Ts)) _ (Nat.le_refl _)).1
 generalize Tt.payAll (canL L rest K qs Ts) (canL L rest K qs Ts).length = p at *
 have hw := fun {s : List Nat} (hs : s.Nodup) hl => weak_pay (s := s) hp hs hl
 have hwS := hw hS.1 hS.2.1
 have hle : Tt.paidN p ≤ Ts.length := by rw [← hp.1]; exact List.countP_le_length
 have hge : (Tt.paidN p : Int) ≤ leastI L rest K Ts (zr qs) Ts.length := by
  refine lstF_ge _ _ _ (by omega) _ (fun b _ _ => ?_)
  have := hw (bitsS_nodup Ts.length b) (fun x hx => bitsS_lt x hx)
  unfold bndF
  omega
 have hup : leastI L rest K Ts (zr qs) Ts.length ≤ (Tt.paidN p : Int) := by
  have hl := lstF_le Ts.length (bndF L rest K Ts (zr qs) Ts.length) (2 ^ Ts.length)
  obtain ⟨b, hb, hq⟩ := bits_of (fun c => decide (m.getD c 0 = 1)) Ts.length
  have hbS : bitsS Ts.length b = Tt.outM m := by
   unfold bitsS Tt.outM
   rw [hm]
   apply List.filter_congr
   intro i hi
   exact hq i (List.mem_range.1 hi)
  by_cases h0 : b = 0
  · subst h0
    have : (Tt.outM m) = [] := by rw [← hbS]; unfold bitsS; simp
    rw [this] at ht
    have h1 := hl.1
    unfold leastI
    simp only [List.length_nil, Nat.add_zero] at ht
    omega
  · have h1 := hl.2 b (by omega) hb
    have e : bndF L rest K Ts (zr qs) Ts.length b = (Ts.length : Int) - ((Tt.outM m).length : Int) + (boundN L rest K Ts (zr qs) (Tt.outM m) (Tt.codes L rest K).length : Nat) := by unfold bndF; rw [hbS]
    rw [e] at h1
    unfold leastI
    omega
 constructor <;> omega
/-- what the reference says of the payment -/
theorem pay_says : payV L rest K Ts (zr qs) Ts.length (Tt.payAll (canL L rest K qs Ts) (canL L rest K qs Ts).length) = .tuple #[.int .i64 (Tt.paidN (Tt.payAll (canL L rest K qs Ts) (canL L rest K qs Ts).length) : Nat), .bool true] := by
 have hp := is_pay (Tt.payAll_spec (canL_pos (L := L) (rest := rest) (K := K) (qs := qs) (Ts := Ts)) _ (Nat.le_refl _)).1
 unfold IsPay at hp
 unfold payV
 rw [if_pos hp]
/-- what the reference says of the set -/
theorem set_says {m : List Nat} (hm : m.length = Ts.length) (hS : Tt.Reach (canL L rest K qs Ts) (Tt.payAll (canL L rest K qs Ts) (canL L rest K qs Ts).length) Ts.length (Tt.outM m)) : chkShortR L rest K (zr qs) Ts Ts.length (zs (Tt.outM m)) = .tuple #[.int .i64 (leastI L rest K Ts (zr qs) Ts.length), .int .i64 0] := by
 unfold chkShortR
 rw [if_pos (setB_outM m hm)]
 have hnat : (zs (Tt.outM m)).map Int.toNat = Tt.outM m := by unfold zs; rw [List.map_map]; conv => rhs; rw [← List.map_id (Tt.outM m)]
                                                              apply List.map_congr_left; intro x _; simp
 rw [hnat, zs_len, (paid_least hm hS).2]
end
end Go.Proofs.Ytgjfejpibielaaa
namespace Go.Proofs.Ytgjfejpibielaaa
open Go.RowKit Go.Maps Go.Shelf
theorem day_cases (L n r : Int) (K : List Int) : chkDay L n K r ≠ 0 ∨ ∃ (l rest : Nat) (k : List Nat), L = (l : Nat) ∧ n = (k.length : Nat) ∧ K = zs k ∧ r = (rest : Nat) ∧ OkD l rest k := by
 by_cases h : chkDay L n K r = 0
 · exact .inr (chk_ok h)
 · exact .inl h
/-- a list that is handed back, and an error -/
def GivesE (w : World) (xs : List Int) (e : Int) (en : Ending) (w' : World) : Prop := ∃ A c, en = .returned (.tuple #[.slice A xs.length c, .int .i64 e]) ∧ RowKit.Below w.heap.size w w' ∧ I64 w' A xs
theorem GivesE.nil {w w' : World} {e : Int} {en : Ending} (h : Gives w (.tuple #[.slice none 0 0, .int .i64 e]) en w') : GivesE w [] e en w' := by
 obtain ⟨h1, h2⟩ := h
 exact ⟨none, 0, h1, ex_below h2, fun k x hk => by simp at hk⟩
end Go.Proofs.Ytgjfejpibielaaa
