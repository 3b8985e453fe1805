/- Proved here: how many codes fit; whether a code fits; pairs of numbers, machines with their maps, ranges of indexes, a part of the proofs about the ticket laws. Conditions: those that each theorem names, no others. -/
import Derived.Test.YtgjfejpibielaaaQ14
import Derived.WalkKit
import Derived.WalkSpells
import Derived.WalkLawsBesides
import Derived.Below
import Derived.Deep.QuietTactic
import Derived.BigQuiet
import Derived.Deep.Light
set_option linter.unusedSimpArgs false
set_option linter.unusedVariables false
namespace Go.Proofs.Ytgjfejpibielaaa
open Go.RowKit Go.Maps Go.Shelf
attribute [local go_sem] Oper.semAt_some World.cell?_setCell_far
/-- 'm[key]', at all worlds whose map is the same -/
theorem KMap.look1 {k t e : TypeId} {b : Nat} {good : Value → Value → Prop} {must : Value → Prop} {w : World} (h : KMap k b good must w) (K : Keyed Try.prog k) (ht : Try.prog.underlying t = some (.map k e)) {z : Value} (hz : ∀ w', (zeroValue e).run Try.prog w' = .ok z w') {key : Value} {kl : Lit} (hkey : keyOf Try.prog k key = some kl) :
 (∃ v, good key v ∧ ∀ w' : World, w'.heap[b]? = w.heap[b]? → (Instr.lookup t (.map (some b)) key false).run Try.prog w' = .ok v w') ∨ (¬ must key ∧ ∀ w' : World, w'.heap[b]? = w.heap[b]? → (Instr.lookup t (.map (some b)) key false).run Try.prog w' = .ok z w') := by
 obtain ⟨l, ⟨es, clock, hb, F, hn, hD⟩, hl, hu⟩ := h
 have hbk : ∀ w' : World, w'.heap[b]? = w.heap[b]? → w'.heap[b]? = some (.map es clock) := fun w' hw => hw.trans hb
 rcases Maps.fit_look false K ht (hz w) hb F hkey with ⟨hrun, hnone, hat⟩ | ⟨e0, y, hmem, hk0, hrun, hRv, hat, _⟩
 · refine .inr ⟨fun hmu => ?_, fun w' hw => ?_⟩
   · obtain ⟨x, hx, hxk⟩ := hu key kl hmu hkey
     have h1 := hat (.held z)
     have h2 := hat .nil
     rw [← hD] at h1 h2
     unfold DataW.atKey at h1 h2
     simp only at h1 h2
     cases hf : l.find? (fun p => p.1.sameKey kl) with
     | none => exact absurd hf (by rw [List.find?_eq_none]; intro h; exact h x hx (by rw [hxk]; exact WideAt.sameKey_self (K.key hkey)))
     | some p => rw [hf] at h1 h2; rw [h1] at h2; cases h2
   · rcases Maps.fit_look false K ht (hz w') (hbk w' hw) F hkey with ⟨hrun1, _, _⟩ | ⟨e1, y1, h1, h2, _⟩
     · simpa using hrun1
     · exact absurd h2 (hnone e1 h1)
 · have hy : y.1 = .held e0.val := by rw [← Option.some.inj hRv]
   rw [hy] at hat
   refine .inl ⟨e0.val, at_good K hl hkey (by rw [hD]; exact hat), fun w' hw => ?_⟩
   rcases Maps.fit_look false K ht (hz w') (hbk w' hw) F hkey with ⟨_, hnone, _⟩ | ⟨e1, y1, h1, h2, hrun1, hR1, hat1, _⟩
   · exact absurd hk0 (hnone e0 hmem)
   · have e3 : y1.1 = .held e0.val := (hat1 .nil).symm.trans (hat .nil)
     rw [← Option.some.inj hR1] at e3
     have e4 : e1.val = e0.val := DataW.held.inj e3
     rw [← e4]
     simpa using hrun1
set_option maxRecDepth 100000 in
set_option maxHeartbeats 1000000 in
theorem many_any (B M : Nat) (L rest : Nat) (A : Option Addr) (K : List Nat) (c : Nat) (S : Option Addr) (T : List Nat) (d : Nat) (w : World) (hm : MachAt w B M L rest A K c S T d) (hk : KMap 91 M (goodF L rest K T) (fun x => x = stV 0 (-1) 0) w) :
 Calls Try.prog 58 #[.pointer (some ⟨B, 0, none⟩)] w (Gives w (.int .i64 (Tt.cnt L rest (K.zip T) (-1) 0 : Nat))) := by
 obtain ⟨kl, hkl⟩ := keyS_of (p := 0) (la := -1) (s := 0) (by omega) (by omega) (by omega)
 have hlook := hk.look1 lawS und118 zero2 hkl
 rcases hlook with ⟨v, ⟨q, lb, t, _, _, _, he, rfl⟩, hrun⟩ | ⟨hno, _⟩
 · obtain ⟨rfl, rfl, rfl⟩ := stV_inj he
   clear he
   have hB := hm.1
   have hBl := obj_lt hB
   have hMl := hk.lt
   have b5 := obj_at hB 5 _ rfl
   unfold stV stC at hrun
   rw [List.drop_zero] at hrun
   have hr5 : ∀ g, (Instr.lookup 118 (.map (some M)) (.agg #[.int .i64 0, .int .i64 (-1), .int .i64 0]) false).run Try.prog (w.grow g) = .ok (.int .i64 (Tt.cnt L rest (K.zip T) (-1) 0 : Nat)) (w.grow g) := fun g => hrun _ (heap_grow _ _ _ hMl)
   clear hrun hkl
   generalize Tt.cnt L rest (K.zip T) (-1) 0 = C at *
   go_enter Try.func58, Try.ntmps58
   go_upto_region 1 with fail
   refine wp_region_grow (by kernel_rfl) (by kernel_rfl) ?_
   repeat (go_big_quiet_step ((go_at_call 62; exact Gives.quiet (start_raw _))))
   refine wpQuiet_nil ?_
   intro w2 hb2
   replace hb2 := ex_below hb2
   go_wp2
   go_ret
   exact gives_of rfl hb2
 · exact absurd rfl hno
set_option maxRecDepth 100000 in
set_option maxHeartbeats 1000000 in
theorem fits_any (B M : Nat) (L rest : Nat) (A : Option Addr) (K : List Nat) (c : Nat) (S : Option Addr) (T : List Nat) (d : Nat) (ws : List Nat) (w : World) (hm : MachAt w B M L rest A K c S T d) (hok : OkM L rest K T) (hwl : ws.length = K.length) (hwL : ∀ x, x ∈ ws → x < L) :
 Calls Try.prog 87 #[.pointer (some ⟨B, 0, none⟩), .string (strW ws)] w (Gives w (.bool (Tt.fitsW T ws))) := by
 obtain ⟨hL2, hL6, hn2, hn8, htl, hkL, htL, hrL⟩ := id hok
 have hB := hm.1
 have hS := hm.2.2
 have hBl := obj_lt hB
 have b4 := obj_at hB 4 _ rfl
 have hsz : (strW ws).size = ws.length := strW_size ws
 have HWS : Hid (∀ k, (h : k < ws.length) → ((strW ws)[k]'(by rw [strW_size]; exact h)).toNat = ws[k] + 97) := hide (fun k h => strW_at (fun x hx => by have := hwL x hx; omega) k h)
 obtain ⟨R, hR⟩ : ∃ R, Tt.fitsW T ws = R := ⟨_, rfl⟩
 have HR := hide hR
 rw [hR]
 clear hR
 have HWL := hide hwl
 have HTL := hide htl
 have HLT := hide hwL
 have HSZ := hide hsz
 have HT64 := hide htL
 have hT8 : T.length ≤ 8 := by omega
 clear htl hwl hwL hsz htL hkL
 go_enter Try.func87, Try.ntmps87
 go_wp2
 go_loopw [12] (fun i wr => ∃ k : Nat, k ≤ T.length ∧ i = .int .i64 k ∧ Hid (Tt.fitsW (T.drop k) (ws.drop k) = R) ∧ wr = w) (fun i _ => T.length - (intOf i).toNat)
 case atStart => exact ⟨0, Nat.zero_le _, rfl, hide HR.out, rfl⟩
 case round =>
  obtain ⟨k, hk, rfl, hq, hw⟩ := hrel
  obtain ⟨w0, hw0⟩ : ∃ v, v = wr := ⟨_, rfl⟩
  rw [hw]
  clear hw hw0
  by_cases hlt : k < T.length
  · have hki : (k : Int) < (T.length : Int) := by omega
    have hkw : k < ws.length := by rw [HWL.out, ← HTL.out]; exact hlt
    have hks : k < (strW ws).size := by rw [HSZ.out]; exact hkw
    have hks2 : (k : Int) < ((strW ws).size : Int) := by omega
    have ht := hS.at0 hlt
    obtain ⟨sb, so, rfl, hsb⟩ := hS.form (by rw [zs_len]; omega)
    replace ht := ht sb so rfl
    have hby := HWS.out k hkw
    have h64 := HT64.out _ (List.getElem_mem hlt)
    have hcL := HLT.out _ (List.getElem_mem hkw)
    have hdw : ws.drop k = ws[k] :: ws.drop (k + 1) := List.drop_eq_getElem_cons hkw
    have hdt : T.drop k = T[k] :: T.drop (k + 1) := List.drop_eq_getElem_cons hlt
    have hst : Tt.fitsW (T.drop k) (ws.drop k) = (T[k].testBit ws[k] && Tt.fitsW (T.drop (k + 1)) (ws.drop (k + 1))) := by rw [hdw, hdt]; rfl
    have HST := hide hst
    have hbit := bBit T[k] h64 ws[k] (by omega)
    clear hdw hdt hst
    generalize T[k] = t at *
    generalize ws[k] = cx at *
    have hbw : IntKind.u8.wrap ((cx : Int) + 97 - 97) = (cx : Int) := u8_letter2 cx (by omega)
    cases hbt : t.testBit cx with
    | true =>
      rw [hbt] at hbit
      simp only [if_true] at hbit
      have hq2 : Tt.fitsW (T.drop (k + 1)) (ws.drop (k + 1)) = R := by rw [← hq.out, HST.out, hbt]; rfl
      have HQ2 := hide hq2
      clear hq2 hq
      go_wp2
      exact ⟨⟨k + 1, by omega, by go_num, HQ2, trivial⟩, by simp [intOf]; omega⟩
    | false =>
      rw [hbt] at hbit
      simp only [Bool.false_eq_true, if_false] at hbit
      have hq2 : false = R := by rw [← hq.out, HST.out, hbt]; rfl
      rw [← hq2]
      clear hq2 hq
      go_wp2
      go_ret
      exact gives_of rfl (Below.refl _ _)
  · have hki : ¬ ((k : Int) < (T.length : Int)) := by omega
    have hkn : k = T.length := by omega
    have hRt : true = R := by have := hq.out; rw [hkn] at this; simpa [Tt.fitsW] using this
    rw [← hRt]
    clear hq hkn
    go_wp2
    go_ret
    exact gives_of rfl (Below.refl _ _)
end Go.Proofs.Ytgjfejpibielaaa
namespace Go.Proofs.Ytgjfejpibielaaa
open Go.RowKit Go.Maps Go.Shelf
/-! pairs of numbers in memory -/
def rngC (ps : List (Int × Int)) : List Value := ps.flatMap fun p => [.int .i64 p.1, .int .i64 p.2]
theorem rngC_app (a b : List (Int × Int)) : rngC (a ++ b) = rngC a ++ rngC b := List.flatMap_append
theorem rngC_at (r : Int × Int) : ∀ (ps : List (Int × Int)) (k : Nat), ps[k]? = some r → (rngC ps)[k * 2]? = some (.int .i64 r.1) ∧ (rngC ps)[k * 2 + 1]? = some (.int .i64 r.2) := fun ps => by
 unfold rngC
 induction ps with
 | nil => intro k h; simp at h
 | cons a l ih =>
   intro k h
   cases k with
   | zero => simp at h; subst h; exact ⟨rfl, rfl⟩
   | succ k =>
     have := ih k (by simpa using h)
     rw [List.flatMap_cons, show (k + 1) * 2 = k * 2 + 2 by omega]
     exact this
def Rng (w : World) (A : Option Addr) (ps : List (Int × Int)) : Prop := Rd w 2 A ps.length (rngC ps)
theorem Rng.at {w : World} {b o : Nat} {ps : List (Int × Int)} (h : Rng w (some ⟨b, o, none⟩) ps) {k : Nat} (hk : k < ps.length) : b < w.heap.size ∧ w.cell? ⟨b, o + k * 2, none⟩ = some (.int .i64 ps[k].1) ∧ w.cell? ⟨b, o + k * 2 + 1, none⟩ = some (.int .i64 ps[k].2) := by
 obtain ⟨b', o', he, hb, hc⟩ := h.2 (by omega)
 injection he with he
 injection he with e1 e2 _
 subst e1 e2
 obtain ⟨h1, h2⟩ := rngC_at ps[k] ps k (by simp [hk])
 exact ⟨hb, hc _ _ h1, hc _ _ h2⟩
theorem Rng.form {w : World} {A : Option Addr} {ps : List (Int × Int)} (h : Rng w A ps) (hk : 0 < ps.length) : ∃ b o, A = some ⟨b, o, none⟩ ∧ b < w.heap.size := by
 obtain ⟨b, o, he, hb, _⟩ := h.2 hk
 exact ⟨b, o, he, hb⟩
theorem own_at2 {w : World} {B : Nat} {e : TypeId} {sz n c : Nat} {A : Option Addr} {xs : List Value} (h : w.ownsRow B e sz (.slice A n c) n xs) (k : Nat) (u : Value) (hu : xs[k]? = some u) : ∃ b, A = some ⟨b, 0, none⟩ ∧ b < w.heap.size ∧ w.cell? ⟨b, k, none⟩ = some u := by
 have hk : k < xs.length := (List.getElem?_eq_some_iff.1 hu).1
 have hl := h.1
 obtain ⟨g, cap, cur, hv, hB, hh, hr⟩ := h.2.resolve_left (by rintro ⟨_, h0⟩; subst h0; rw [hl, Nat.zero_mul] at hk; omega)
 injection hv with hA _ _
 subst hA
 have hlt : g < w.heap.size := by
  rcases Nat.lt_or_ge g w.heap.size with h1 | h1
  · exact h1
  · rw [Array.getElem?_eq_none h1] at hh; cases hh
 have hc := h.cells (g := g) rfl k u hu
 refine ⟨g, rfl, hlt, ?_⟩
 unfold Addr.add at hc
 split at hc <;> simp_all
theorem rd_own {w : World} {B : Nat} {e : TypeId} {sz n c : Nat} {A : Option Addr} {xs : List Value} (h : w.ownsRow B e sz (.slice A n c) n xs) (hs : 0 < sz) : Rd w sz A n xs := by
 refine ⟨h.1, fun h0 => ?_⟩
 have hlen : 0 < xs.length := by rw [h.1]; exact Nat.mul_pos h0 hs
 obtain ⟨b, hA, hb, _⟩ := own_at2 h 0 xs[0] (by simp)
 refine ⟨b, 0, hA, hb, fun j u hu => ?_⟩
 obtain ⟨b', hA', _, hc⟩ := own_at2 h j u hu
 rw [hA] at hA'
 injection hA' with e; injection e with e
 subst e
 rw [Nat.zero_add]
 exact hc
theorem own_far {X Y : World} {B : Nat} {e : TypeId} {sz n : Nat} {v : Value} {xs : List Value} {M : Nat} (h : X.ownsRow B e sz v n xs) (hg : X.grownBy Y (some M)) (hM : M < B) : Y.ownsRow B e sz v n xs := by
 refine h.kept hg ?_
 cases hv : v.ownBlock with
 | none => exact .inl rfl
 | some k => exact .inr (fun e => by have := (h.lt k hv).1; have := Option.some.inj e; omega)
theorem own_ext {X Y : World} {B : Nat} {e : TypeId} {sz n : Nat} {v : Value} {xs : List Value} (h : X.ownsRow B e sz v n xs) (hb : Below X.heap.size X Y) : Y.ownsRow B e sz v n xs := by
 refine h.kept (below_grown hb) ?_
 cases hv : v.ownBlock with
 | none => exact .inl rfl
 | some k => exact .inr (by simp)
theorem rd_new2 (w : World) (v u : Value) (t : TypeId) : Rd (w.alloc (.cells #[v, u] t)) 2 (some ⟨w.heap.size, 0, none⟩) 1 [v, u] := by
 refine ⟨rfl, fun _ => ⟨_, 0, rfl, by simp, fun j u hu => ?_⟩⟩
 rw [World.cell?_alloc_at _ _ _ _ rfl, Nat.zero_add]
 simpa using hu
/-! a machine with its map -/
structure Mx (w : World) (B M : Nat) (L rest : Nat) (A : Option Addr) (K : List Nat) (c : Nat) (S : Option Addr) (T : List Nat) (d : Nat) (must : Value → Prop) : Prop where
 at_ : MachAt w B M L rest A K c S T d
 ok : OkM L rest K T
 ne : NeM B M A S
 km : KMap 91 M (goodF L rest K T) must w
def FarM (B M : Nat) (A S : Option Addr) (M' : Nat) : Prop := B ≠ M' ∧ M ≠ M' ∧ (∀ b o, A = some ⟨b, o, none⟩ → b ≠ M') ∧ ∀ b o, S = some ⟨b, o, none⟩ → b ≠ M'
theorem Mx.own {w w' : World} {B M : Nat} {L rest : Nat} {A : Option Addr} {K : List Nat} {c : Nat} {S : Option Addr} {T : List Nat} {d : Nat} {must : Value → Prop} (h : Mx w B M L rest A K c S T d must) (hg : w.grownBy w' (some M)) (hk : KMap 91 M (goodF L rest K T) must w') : Mx w' B M L rest A K c S T d must :=
 ⟨h.at_.grown h.ne hg, h.ok, h.ne, hk⟩
theorem Mx.far {w w' : World} {B M : Nat} {L rest : Nat} {A : Option Addr} {K : List Nat} {c : Nat} {S : Option Addr} {T : List Nat} {d : Nat} {must : Value → Prop} {M' : Nat} (h : Mx w B M L rest A K c S T d must) (hg : w.grownBy w' (some M')) (hf : FarM B M A S M') : Mx w' B M L rest A K c S T d must :=
 ⟨h.at_.far hg hf.1 hf.2.2.1 hf.2.2.2, h.ok, h.ne, h.km.kept hg (fun e => hf.2.1 (Option.some.inj e))⟩
theorem Mx.ext {w w' : World} {B M : Nat} {L rest : Nat} {A : Option Addr} {K : List Nat} {c : Nat} {S : Option Addr} {T : List Nat} {d : Nat} {must : Value → Prop} (h : Mx w B M L rest A K c S T d must) (hb : Below w.heap.size w w') : Mx w' B M L rest A K c S T d must :=
 ⟨h.at_.ext hb, h.ok, h.ne, h.km.below hb⟩
theorem Mx.gx {S0 : List Nat} {w w' : World} {B M : Nat} {L rest : Nat} {A : Option Addr} {K : List Nat} {c : Nat} {S : Option Addr} {T : List Nat} {d : Nat} {must : Value → Prop} (h : Mx w B M L rest A K c S T d must) (g : GX S0 w w') (hf : ∀ M', M' ∈ S0 → FarM B M A S M') : Mx w' B M L rest A K c S T d must :=
 ⟨h.at_.gx g (fun e => (hf _ e).1 rfl) (fun b o ea e => (hf _ e).2.2.1 b o ea rfl) (fun b o es e => (hf _ e).2.2.2 b o es rfl), h.ok, h.ne, h.km.gx g (fun e => (hf _ e).2.1 rfl)⟩
theorem Mx.lts {w : World} {B M : Nat} {L rest : Nat} {A : Option Addr} {K : List Nat} {c : Nat} {S : Option Addr} {T : List Nat} {d : Nat} {must : Value → Prop} (h : Mx w B M L rest A K c S T d must) : B < w.heap.size ∧ M < w.heap.size := ⟨obj_lt h.at_.1, h.km.lt⟩
theorem Mx.new {w : World} {B M : Nat} {L rest : Nat} {A : Option Addr} {K : List Nat} {c : Nat} {S : Option Addr} {T : List Nat} {d : Nat} {must : Value → Prop} (h : Mx w B M L rest A K c S T d must) {M' : Nat} (hM : w.heap.size ≤ M') : FarM B M A S M' :=
 ⟨fun e => by have := h.lts.1; omega, fun e => by have := h.lts.2; omega, fun b o e => by have := h.at_.2.1.blk (by rw [zs_len]; have := h.ok.2.2.1; omega) b o e; omega, fun b o e => by have := h.at_.2.2.blk (by rw [zs_len]; have := h.ok.2.2.2.2.1; have := h.ok.2.2.1; omega) b o e; omega⟩
/-! ranges of indexes -/
def idxOf (L rest : Nat) (K T1 T2 : List Nat) (r : Nat × Nat) : Int × Int :=
 ((Tt.befA L rest (K.zip T2) (-1) 0 (Tt.codeA L rest (K.zip T1) (-1) 0 r.1) : Nat), (Tt.befA L rest (K.zip T2) (-1) 0 (Tt.codeA L rest (K.zip T1) (-1) 0 r.2) : Nat) - 1 + if Tt.fitsW T2 (Tt.codeA L rest (K.zip T1) (-1) 0 r.2) then 1 else 0)
def idxL (L rest : Nat) (K T1 T2 : List Nat) (rs : List (Nat × Nat)) : List (Int × Int) := (rs.map (idxOf L rest K T1 T2)).filter fun p => decide (p.1 ≤ p.2)
theorem idxL_snoc (L rest : Nat) (K T1 T2 : List Nat) (rs : List (Nat × Nat)) (r : Nat × Nat) : idxL L rest K T1 T2 (rs ++ [r]) = if (idxOf L rest K T1 T2 r).1 ≤ (idxOf L rest K T1 T2 r).2 then idxL L rest K T1 T2 rs ++ [idxOf L rest K T1 T2 r] else idxL L rest K T1 T2 rs := by
 unfold idxL
 rw [List.map_append, List.filter_append]
 simp only [List.map_cons, List.map_nil, List.filter_cons, List.filter_nil]
 split <;> simp_all
theorem idxL_len (L rest : Nat) (K T1 T2 : List Nat) (rs : List (Nat × Nat)) : (idxL L rest K T1 T2 rs).length ≤ rs.length := by
 unfold idxL
 exact Nat.le_trans (List.length_filter_le _ _) (by rw [List.length_map]; exact Nat.le_refl _)
def zr (rs : List (Nat × Nat)) : List (Int × Int) := rs.map fun r => ((r.1 : Int), (r.2 : Int))
theorem zr_len (rs : List (Nat × Nat)) : (zr rs).length = rs.length := List.length_map ..
end Go.Proofs.Ytgjfejpibielaaa
