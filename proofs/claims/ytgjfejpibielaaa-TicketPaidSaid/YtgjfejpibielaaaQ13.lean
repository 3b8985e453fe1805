/- Proved here: the code before which so many come, a part of the proofs about the ticket laws. Conditions: those that each theorem names, no others. -/
import Derived.Test.YtgjfejpibielaaaQ12
import Derived.WalkKit
import Derived.WalkSpells
import Derived.WalkLawsBesides
import Derived.Below
import Derived.Deep.QuietTactic
import Derived.BigQuiet
import Derived.Deep.Light
set_option linter.unusedSimpArgs false
set_option linter.unusedVariables false
namespace Go.Proofs.Ytgjfejpibielaaa
open Go.RowKit Go.Maps Go.Shelf
attribute [local go_sem] Oper.semAt_some World.cell?_setCell_far
theorem u8_letter : ∀ x, x < 6 → IntKind.u8.wrap (97 + ((x : Nat) : Int)) = ((x : Nat) : Int) + 97 := by decide
theorem BlkAt.set {w : World} {b : Nat} {cs : Array Value} {t : TypeId} (h : BlkAt w b cs t) (a : Addr) (v : Value) (hne : b ≠ a.block) : BlkAt (w.setCell a v) b cs t := (Below.heap_setCell _ _ _ _ hne).trans h
theorem rd_setCell {w : World} {size m : Nat} {A : Option Addr} {news : List Value} (h : Rd w size A m news) (a : Addr) (v : Value) (hne : ∀ b o, A = some ⟨b, o, none⟩ → b ≠ a.block) : Rd (w.setCell a v) size A m news := by
 refine ⟨h.1, fun h0 => ?_⟩
 obtain ⟨b, off, hA, hb, hc⟩ := h.2 h0
 refine ⟨b, off, hA, by simpa using hb, fun j u hu => ?_⟩
 exact (World.cell?_of_block (a := ⟨b, off + j, none⟩) (Below.heap_setCell _ _ _ _ (hne b off hA))).trans (hc j u hu)
theorem letters_lt {x L t : Nat} {la : Int} (h : x ∈ letters L t la) : x < L := List.mem_range.1 (List.mem_filter.1 h).1
theorem letters_mod (f : Nat → Nat) (L t : Nat) (la : Int) : ((letters L t la).map fun x => f (x % L)) = (letters L t la).map f :=
 List.map_congr_left (fun _ h => by rw [Nat.mod_eq_of_lt (letters_lt h)])
theorem GX.back {S S' : List Nat} {w X Y : World} (h : GX S w X) (g : GX S' X Y) (hs : ∀ x, x ∈ S' → x < w.heap.size → x ∈ S) : GX S w Y :=
 ⟨g.1.trans h.1, g.2.trans h.2, g.3.trans h.3, Nat.le_trans h.size g.size, fun k hk hne => (g.block k (Nat.lt_of_lt_of_le hk h.size) (fun e => hne (hs k e hk))).trans (h.block k hk hne)⟩
theorem keeps_gx {S : List Nat} {N : Nat} {X Y : World} (g : GX S X Y) (hs : ∀ s, s ∈ S → s < N) : KeepsFrom N X Y :=
 ⟨g.size, fun k o hk ho _ => (g.block k (Array.getElem?_eq_some_iff.1 ho).1 (fun e => by have := hs k e; omega)).trans ho⟩
theorem Kq.of_gx {S : List Nat} {n M B1 B2 : Nat} {X Y : World} (g : GX S X Y) (hn : n ≤ X.heap.size) (hs : ∀ s, s ∈ S → s < n → s = M) (h1 : B1 < X.heap.size) (h2 : B2 < X.heap.size) (e1 : B1 ∉ S) (e2 : B2 ∉ S) : Kq n M B1 B2 X Y :=
 ⟨fun b hb hm => g.block b (by omega) (fun e => hm (hs b e hb)), g.block B1 h1 e1, g.block B2 h2 e2, g.size⟩
/-- what holds at the head of the loop over the places -/
structure CodeInv (L rest : Nat) (A : Option Addr) (K : List Nat) (c : Nat) (S : Option Addr) (T : List Nat) (d : Nat) (B M : Nat) (must : Value → Prop) (w : World) (Bm Bi Bo Ba : Nat) (W : List Nat) (k : Nat) (pre : List Nat) (la : Int) (s i : Nat) (Ao : Option Addr) (co : Nat) (Ds : List Nat) (wr : World) : Prop where
 bm : BlkAt wr Bm #[.pointer (some ⟨B, 0, none⟩)] 83
 bi : BlkAt wr Bi #[.int .i64 (i : Nat)] 2
 bo : BlkAt wr Bo #[.slice Ao k co] 62
 ba : BlkAt wr Ba #[.int .i64 (k : Nat), .int .i64 la, .int .i64 (s : Nat)] 91
 len : pre.length = k
 le : k ≤ K.length
 rd : Rd wr 1 Ao k (pre.map byteC)
 far : ∀ b o, Ao = some ⟨b, o, none⟩ → Ba < b
 nil : k = 0 → Ao = none ∧ co = 0
 cap : k ≤ co
 lt : ∀ x, x ∈ pre → x < L
 sl : s < L
 la6 : -1 ≤ la ∧ la ≤ 5
 il : i < Tt.cnt L rest ((K.zip T).drop k) la s
 eq : pre ++ Tt.codeA L rest ((K.zip T).drop k) la s i = W
 gx : GX [M] w wr
 mp : (KMap 91 M (goodF L rest K T) must) wr
 mks : Marks w.heap.size Ds wr
set_option maxRecDepth 100000 in
set_option maxHeartbeats 4000000 in
theorem code_any (B M : Nat) (L rest : Nat) (A : Option Addr) (K : List Nat) (c : Nat) (S : Option Addr) (T : List Nat) (d : Nat) (must : Value → Prop) (i0 : Nat) (w : World) (hm : MachAt w B M L rest A K c S T d) (hok : OkM L rest K T) (hne : NeM B M A S) (hk : (KMap 91 M (goodF L rest K T) must) w) (hi0 : i0 < Tt.cnt L rest (K.zip T) (-1) 0) :
 Calls Try.prog 60 #[.pointer (some ⟨B, 0, none⟩), .int .i64 (i0 : Nat)] w (GivesM w M (KMap 91 M (goodF L rest K T) must) (.string (strW (Tt.codeA L rest (K.zip T) (-1) 0 i0)))) := by
 obtain ⟨hL2, hL6, hn2, hn8, htl, hkL, htL, hrL⟩ := id hok
 obtain ⟨ti, ih, iz, is, ib⟩ := info_parts infoB
 have hMl := hk.lt
 have hBl := obj_lt hm.1
 have HTL := hide htl
 obtain ⟨W, hW⟩ : ∃ W, Tt.codeA L rest (K.zip T) (-1) 0 i0 = W := ⟨_, rfl⟩
 have HW := hide hW
 have HI0 := hide hi0
 rw [hW]
 clear hW hi0 htl
 refine (callsIn_wide (n := 8)).1 ?_
 have h18 : 1 ≤ 8 := by omega
 refine callsIn_of_wp_marks Try.func60 rfl trivial ?_ rfl
 simp only [Try.ntmps60, List.size_toArray, List.length_cons, List.length_nil, Nat.reduceAdd, Nat.reduceSub, Array.replicate_succ, Array.replicate_zero, List.push_toArray, List.append_toArray, List.nil_append, List.cons_append]
 refine wpIn_wide.2 ?_
 go_upto_region 2 with fail
 have hWq : Below w.heap.size w (((w.alloc (.cells #[.pointer (some ⟨B, 0, none⟩)] 83)).alloc (.cells #[.int .i64 (i0 : Nat)] 2)).alloc (.cells #[.slice none 0 0] 62)) := by (repeat (first | exact Below.refl _ _ | assumption | (refine below_gr ?_ (by (first | omega | (simp only [zz] at *; omega))) _) | (refine below_alloc ?_ (by (first | omega | (simp only [zz] at *; omega))) _) | (refine Below.setCell ?_ (by (first | omega | (simp only [zz] at *; omega))) _) | refine below_drewN ?_ _ | refine below_drew ?_ | (refine below_step ?_ (by assumption) (by (first | omega | (simp only [zz] at *; omega))))))
 have hbm : BlkAt (((w.alloc (.cells #[.pointer (some ⟨B, 0, none⟩)] 83)).alloc (.cells #[.int .i64 (i0 : Nat)] 2)).alloc (.cells #[.slice none 0 0] 62)) w.heap.size #[.pointer (some ⟨B, 0, none⟩)] 83 := (Below.heap_alloc _ _ _ (by simp; omega)).trans (heap_a _ _ _)
 have hbi : BlkAt (((w.alloc (.cells #[.pointer (some ⟨B, 0, none⟩)] 83)).alloc (.cells #[.int .i64 (i0 : Nat)] 2)).alloc (.cells #[.slice none 0 0] 62)) (w.heap.size + 1) #[.int .i64 (i0 : Nat)] 2 := (Below.heap_alloc _ _ _ (by simp)).trans (heap_b _ _ _)
 have hbo : BlkAt (((w.alloc (.cells #[.pointer (some ⟨B, 0, none⟩)] 83)).alloc (.cells #[.int .i64 (i0 : Nat)] 2)).alloc (.cells #[.slice none 0 0] 62)) (w.heap.size + 1 + 1) #[.slice none 0 0] 62 := by
  have h := heap_alloc_new ((w.alloc (.cells #[.pointer (some ⟨B, 0, none⟩)] 83)).alloc (.cells #[.int .i64 (i0 : Nat)] 2)) (.cells #[.slice none 0 0] 62)
  rwa [World.size_alloc, World.size_alloc] at h
 obtain ⟨wq, hwq⟩ : ∃ v, (((w.alloc (.cells #[.pointer (some ⟨B, 0, none⟩)] 83)).alloc (.cells #[.int .i64 (i0 : Nat)] 2)).alloc (.cells #[.slice none 0 0] 62)) = v := ⟨_, rfl⟩
 rw [hwq] at hWq hbm hbi hbo ⊢
 clear hwq
 obtain ⟨Bm, hBm⟩ : ∃ v, w.heap.size = v := ⟨_, rfl⟩
 obtain ⟨Bi, hBi⟩ : ∃ v, w.heap.size + 1 = v := ⟨_, rfl⟩
 obtain ⟨Bo, hBo⟩ : ∃ v, w.heap.size + 1 + 1 = v := ⟨_, rfl⟩
 have hq0 : w.heap.size ≤ Bm ∧ Bm < Bi ∧ Bi < Bo := by omega
 rw [hBo] at hbo ⊢
 rw [hBi] at hbi ⊢
 rw [hBm] at hbm ⊢
 clear hBm hBi hBo
 obtain ⟨hq1, hq2, hq3⟩ := hq0
 go_upto_region 3 with (go_at_call 62; refine (start_raw _).mono ?_; rintro e w1 ⟨rfl, hb1⟩; replace hb1 := ex_below hb1; have hz1 := hb1.size)
 have hbA : Below w1.heap.size w1 (w1.alloc (.cells #[.int .i64 0, .int .i64 (-1), .int .i64 0] 91)) := below_alloc (Below.refl _ _) (Nat.le_refl _) _
 have hqs := obj_lt hbo
 have hba : BlkAt (w1.alloc (.cells #[.int .i64 0, .int .i64 (-1), .int .i64 0] 91)) w1.heap.size #[.int .i64 0, .int .i64 (-1), .int .i64 0] 91 := heap_alloc_new _ _
 replace hbm := (hbm.ext hb1).ext hbA
 replace hbi := (hbi.ext hb1).ext hbA
 replace hbo := (hbo.ext hb1).ext hbA
 have hbW0 : Below w.heap.size w (w1.alloc (.cells #[.int .i64 0, .int .i64 (-1), .int .i64 0] 91)) := below_step (below_step hWq hb1 hWq.size) hbA (by have := hWq.size; omega)
 have hg0 : GX [M] w (w1.alloc (.cells #[.int .i64 0, .int .i64 (-1), .int .i64 0] 91)) := (GX.refl [M] w).below hbW0 (Nat.le_refl _)
 obtain ⟨Ba, hBa⟩ : ∃ v, w1.heap.size = v := ⟨_, rfl⟩
 have hq4 : Bo < Ba := by omega
 obtain ⟨W0, hW0⟩ : ∃ v, (w1.alloc (.cells #[.int .i64 0, .int .i64 (-1), .int .i64 0] 91)) = v := ⟨_, rfl⟩
 rw [hW0] at hba hbm hbi hbo hg0 hbW0 ⊢
 rw [hBa] at hba ⊢
 clear hW0 hBa hbA hb1 hWq
 have hne1 := hne.1
 have hAw := hm.2.1.blk (by rw [zs_len]; omega)
 have hSw := hm.2.2.blk (by rw [zs_len, HTL.out]; omega)
 have HFA : Hid (∀ b o, A = some ⟨b, o, none⟩ → b ∉ [M]) := hide (fun b o e => by have := hne.2.1 b o e; simpa using this)
 have HFS : Hid (∀ b o, S = some ⟨b, o, none⟩ → b ∉ [M]) := hide (fun b o e => by have := hne.2.2 b o e; simpa using this)
 clear hAw hSw
 have hm0 := hm.gx hg0 (by simpa using hne1) HFA.out HFS.out
 have hk0 := hk.below hbW0
 have hmb := hm0.1
 have m1 := obj_at hmb 1 _ rfl
 have bm0 := obj_at hbm 0 _ rfl
 have hBW := obj_lt hmb
 have hBmW := obj_lt hbm
 go_wp2
 refine wp_loop (fun a wr => ∃ (k : Nat) (pre : List Nat) (la : Int) (s i : Nat) (Ao : Option Addr) (co : Nat) (Ds : List Nat) (u7 : Value) (u8 : Value) (u9 : Value) (u17 : Value) (u18 : Value) (u19 : Value) (u20 : Value) (u21 : Value) (u22 : Value) (u23 : Value) (u24 : Value) (u25 : Value) (u26 : Value) (u27 : Value) (u28 : Value) (u29 : Value) (u30 : Value) (u31 : Value) (u32 : Value) (u33 : Value) (u34 : Value) (u35 : Value) (u36 : Value) (u37 : Value) (u38 : Value) (u39 : Value) (u40 : Value) (u41 : Value) (u42 : Value) (u43 : Value) (u44 : Value), CodeInv L rest A K c S T d B M must w Bm Bi Bo Ba W k pre la s i Ao co Ds wr ∧ a = { tmps := #[.pointer (some ⟨B, 0, none⟩), .int .i64 (i0 : Nat), .pointer (some ⟨Bm, 0, none⟩), .pointer (some ⟨Bi, 0, none⟩), .string ⟨#[]⟩, .pointer (some ⟨Bo, 0, none⟩), .pointer (some ⟨Ba, 0, none⟩), u7, u8, u9, .agg #[.int .i64 0, .int .i64 (-1), .int .i64 0], .pointer (some ⟨B, 0, none⟩), .pointer (some ⟨B, 0, none⟩), .pointer (some ⟨B, 0, none⟩), .pointer (some ⟨B, 1, none⟩), .int .i64 (K.length : Nat), .int .i64 (k : Nat), u17, u18, u19, u20, u21, u22, u23, u24, u25, u26, u27, u28, u29, u30, u31, u32, u33, u34, u35, u36, u37, u38, u39, u40, u41, u42, u43, u44, undef, undef], defers := Ds.map mkD }) (fun a _ => K.length - (intOf (a.tmps.getD 16 undef)).toNat) ?start ?round
 case start =>
  refine ⟨0, [], -1, 0, i0, none, 0, [], ?_⟩
  (repeat apply Exists.intro)
  exact ⟨{ bm := hbm, bi := hbi, bo := hbo, ba := hba, len := rfl, le := by omega, rd := ⟨rfl, fun h => absurd h (by simp)⟩, far := fun b o e => (by cases e), nil := fun _ => ⟨rfl, rfl⟩, cap := Nat.le_refl _, lt := fun x hx => (by cases hx), sl := by omega, la6 := by omega, il := HI0.out, eq := HW.out, gx := hg0, mp := hk0, mks := Marks.nil _ _ }, rfl⟩
 case round =>
  clear hba hbm hbi hbo hg0 hbW0 hm0 hk0 hmb m1 bm0 hBW hBmW
  intro a wr hh
  obtain ⟨k, pre, la, s, i, Ao, co, Ds, u7, u8, u9, u17, u18, u19, u20, u21, u22, u23, u24, u25, u26, u27, u28, u29, u30, u31, u32, u33, u34, u35, u36, u37, u38, u39, u40, u41, u42, u43, u44, hI, rfl⟩ := hh
  have hgx := hI.gx
  have hmr := hm.gx hgx (by simpa using hne1) HFA.out HFS.out
  have hmb := hmr.1
  have m1 := obj_at hmb 1 _ rfl
  have hbm := hI.bm
  have hbi := hI.bi
  have hbo := hI.bo
  have hba := hI.ba
  have bm0 := obj_at hbm 0 _ rfl
  have ba0 := obj_at hba 0 _ rfl
  have ba1 := obj_at hba 1 _ rfl
  have ba2 := obj_at hba 2 _ rfl
  have hBW := obj_lt hmb
  have hBmW := obj_lt hbm
  have hBaW := obj_lt hba
  have hkK := hI.le
  have hla := hI.la6
  have hs := hI.sl
  by_cases hlt : k < K.length
  · have hki : (k : Int) < (K.length : Int) := by omega
    have htp : k < T.length := by rw [HTL.out]; exact hlt
    go_wp2_with (go_at_call 82; refine (steps_in _ (some ⟨B, 0, none⟩) k la s).mono ?_; rintro e w8 ⟨rfl, rfl⟩)
    have hb0 : Below wr.heap.size wr ((wr.alloc (.cells #[.pointer (some ⟨B, 0, none⟩)] 83)).alloc (.cells (stC k la s) 91)) := by (repeat (first | exact Below.refl _ _ | assumption | (refine below_gr ?_ (by (first | omega | (simp only [zz] at *; omega))) _) | (refine below_alloc ?_ (by (first | omega | (simp only [zz] at *; omega))) _) | (refine Below.setCell ?_ (by (first | omega | (simp only [zz] at *; omega))) _) | refine below_drewN ?_ _ | refine below_drew ?_ | (refine below_step ?_ (by assumption) (by (first | omega | (simp only [zz] at *; omega))))))
    have hBmm : BlkAt ((wr.alloc (.cells #[.pointer (some ⟨B, 0, none⟩)] 83)).alloc (.cells (stC k la s) 91)) wr.heap.size #[.pointer (some ⟨B, 0, none⟩)] 83 := heap_a _ _ _
    have hBss : BlkAt ((wr.alloc (.cells #[.pointer (some ⟨B, 0, none⟩)] 83)).alloc (.cells (stC k la s) 91)) (wr.heap.size + 1) (stC k la s) 91 := heap_b _ _ _
    have hs0 : ((wr.alloc (.cells #[.pointer (some ⟨B, 0, none⟩)] 83)).alloc (.cells (stC k la s) 91)).heap.size = wr.heap.size + 1 + 1 := by simp
    obtain ⟨W0, hW0⟩ : ∃ v, ((wr.alloc (.cells #[.pointer (some ⟨B, 0, none⟩)] 83)).alloc (.cells (stC k la s) 91)) = v := ⟨_, rfl⟩
    rw [hW0] at hb0 hBmm hBss hs0 ⊢
    clear hW0
    have hgx0 : GX [M] w W0 := hgx.below hb0 hgx.size
    have hk0 := hI.mp.below hb0
    have hIlen := hI.len
    have hfar := hide hI.far
    have hcap := hI.cap
    have hplt := hide hI.lt
    have bm := hbm.ext hb0
    have bi := hbi.ext hb0
    have bo := hbo.ext hb0
    have ba := hba.ext hb0
    have rd0 := hI.rd.ext hb0
    have mks0 := hI.mks.gx ((GX.refl [] wr).below hb0 (Nat.le_refl _)) (fun s hs => by cases hs)
    have HEQ := hide hI.eq
    have hgsz := hgx.size
    obtain ⟨Wb, hWb⟩ : ∃ v, wr.heap.size = v := ⟨_, rfl⟩
    rw [hWb] at hBmm hBss hs0 hBW hBmW hBaW hgsz ⊢
    have hzd := Tt.zip_drop hlt htp
    obtain ⟨f, hf⟩ : ∃ f : Nat → Nat, f = fun c => Tt.cnt L rest ((K.zip T).drop (k + 1)) (c : Nat) ((s + K[k] * c) % L) := ⟨_, rfl⟩
    have HPICK : Hid (∀ (p1 post : List Nat) (x j : Nat), letters L T[k] la = p1 ++ x :: post → j + (p1.map f).sum = i → j < f x → Tt.codeA L rest ((K.zip T).drop k) la s i = x :: Tt.codeA L rest ((K.zip T).drop (k + 1)) (x : Nat) ((s + K[k] * x) % L) j) := hide (fun p1 post x j h1 h2 h3 => by
     rw [hzd]; rw [hf] at h2 h3; exact Tt.code_pick L rest (K[k], T[k]) _ la s j i p1 post x h1 h2 h3)
    have HSUM : Hid (i < ((letters L T[k] la).map f).sum) := hide (by have := hI.il; rw [hzd, Tt.cnt_lets] at this; rw [hf]; exact this)
    have hi16 : i ≤ 1679616 := by have h1 := hI.il; have h2 : Tt.cnt L rest ((K.zip T).drop k) la s ≤ 1679616 := Tt.cnt_small hL6 (by rw [List.length_drop, List.length_zip]; omega); omega
    have HFX : Hid (∀ x, f x = Tt.cnt L rest ((K.zip T).drop (k + 1)) (x : Nat) ((s + K[k] * x) % L)) := hide (fun x => by rw [hf])
    have hfs : ∀ c, f c ≤ 1679616 := fun c => by rw [hf]; exact Tt.cnt_small hL6 (by rw [List.length_drop, List.length_zip]; omega)
    have HIH : Hid (∀ (x : Nat) (w' : World), MachAt w' B M L rest A K c S T d → (KMap 91 M (goodF L rest K T) must) w' → Calls Try.prog 83 #[.pointer (some ⟨B, 0, none⟩), .agg #[.int .i64 ((k + 1 : Nat) : Int), .int .i64 ((x % L : Nat) : Int), .int .i64 (((s + K[k] * (x % L)) % L : Nat) : Int)]] w' (GivesM w' M (KMap 91 M (goodF L rest K T) must) (.int .i64 (f (x % L) : Nat)))) := hide (fun x w' h1 h2 => by
     have hL0 : 0 < L := by omega
     have hxl := Nat.mod_lt x hL0
     rw [hf]
     exact from_any B M L rest A K c S T d must (k + 1) ((x % L : Nat) : Int) ((s + K[k] * (x % L)) % L) w' h1 hok hne h2 (by omega) (by omega) (Nat.mod_lt _ hL0))
    have HST := steps_stops 7 (by omega) Wb (Wb + 1) B M L rest A K c S T d k la s w hm hok hne hlt hla hs htp W0 hBmm hBss (by omega) (fun b hb hn => hgx0.block b hb (by simpa using hn))
    have HENC : Hid (∀ x, encS L K[k] k s x = #[.int .i64 ((x % L : Nat) : Int), .agg #[.int .i64 ((k + 1 : Nat) : Int), .int .i64 ((x % L : Nat) : Int), .int .i64 (((s + K[k] * (x % L)) % L : Nat) : Int)]]) := hide (fun x => rfl)
    have HMOD := hide (letters_mod f L T[k] la)
    have HLT : Hid (∀ x, x ∈ letters L T[k] la → x < L) := hide (fun x h => letters_lt h)
    clear hf hzd m1 bm0 ba0 ba1 ba2 hbm hbi hbo hba hmr hmb hI hgx hb0
    generalize K[k] = kp at *
    generalize T[k] = tp at *
    have hBiW := obj_lt bi
    have hBoW := obj_lt bo
    refine (wpIn_wide (n := 8)).1 ?_
    refine wpIn_rangeFunc_ownH rfl h18 (gf := 94) (lb := #[.pointer (some ⟨Wb, 0, none⟩), .pointer (some ⟨Wb + 1, 0, none⟩)]) rfl trivial (enters_of Try.func94 (by kernel_rfl) rfl)
     HST (fun h k => h.trans k) (kq_put (by omega) (by omega) (by omega)) (Below.refl _ _) (fun _ => rfl)
     (fun pre2 W' => (∃ j : Nat, j + (pre2.map fun x => f (x % L)).sum = i ∧ BlkAt W' Bi #[.int .i64 (j : Nat)] 2) ∧ GX [M, Bi] W0 W' ∧ (KMap 91 M (goodF L rest K T) must) W')
     (fun cd pre2 W' => cd = .exit 2 ∧ ∃ (p1 : List Nat) (x j : Nat) (Ao2 : Option Addr) (co2 : Nat), pre2 = p1 ++ [x] ∧ j + (p1.map fun x => f (x % L)).sum = i ∧ j < f (x % L) ∧ BlkAt W' Bi #[.int .i64 (j : Nat)] 2 ∧ BlkAt W' Bo #[.slice Ao2 (k + 1) co2] 62 ∧ BlkAt W' Ba #[.int .i64 ((k + 1 : Nat) : Int), .int .i64 ((x % L : Nat) : Int), .int .i64 (((s + kp * (x % L)) % L : Nat) : Int)] 91 ∧ Rd W' 1 Ao2 (k + 1) ((pre ++ [x % L]).map byteC) ∧ (∀ b o, Ao2 = some ⟨b, o, none⟩ → Ba < b) ∧ k + 1 ≤ co2 ∧ GX [M, Bi, Bo, Ba] W0 W' ∧ (KMap 91 M (goodF L rest K T) must) W')
     ?ownI ?ownX ⟨⟨i, by simp, bi⟩, GX.refl _ _, hk0⟩
     (fun x a' W' => ∃ Bx, Ba < Bx ∧ Wb ≤ Bx ∧ BlkAt W' Bx #[.int .i64 ((k + 1 : Nat) : Int), .int .i64 ((x % L : Nat) : Int), .int .i64 (((s + kp * (x % L)) % L : Nat) : Int)] 91 ∧ a' = { tmps := #[.pointer (some ⟨B, 0, none⟩), .int .i64 (i0 : Nat), .pointer (some ⟨Bm, 0, none⟩), .pointer (some ⟨Bi, 0, none⟩), .string ⟨#[]⟩, .pointer (some ⟨Bo, 0, none⟩), .pointer (some ⟨Ba, 0, none⟩), .int .i64 ((x % L : Nat) : Int), .pointer (some ⟨Bx, 0, none⟩), u9, .agg #[.int .i64 0, .int .i64 (-1), .int .i64 0], .pointer (some ⟨B, 0, none⟩), .pointer (some ⟨B, 0, none⟩), .pointer (some ⟨B, 0, none⟩), .pointer (some ⟨B, 1, none⟩), .int .i64 (K.length : Nat), .int .i64 (k : Nat), .bool true, .pointer (some ⟨B, 0, none⟩), .agg #[.int .i64 (k : Nat), .int .i64 la, .int .i64 (s : Nat)], .func (.func 94) #[] #[.pointer (some ⟨Wb, 0, none⟩), .pointer (some ⟨Wb + 1, 0, none⟩)], .int .i64 ((x % L : Nat) : Int), .agg #[.int .i64 ((k + 1 : Nat) : Int), .int .i64 ((x % L : Nat) : Int), .int .i64 (((s + kp * (x % L)) % L : Nat) : Int)], u23, u24, u25, u26, u27, u28, u29, u30, u31, u32, u33, u34, u35, u36, u37, u38, u39, u40, u41, u42, u43, u44, undef, undef], defers := [] })
     ?ownA ?assign ?body ?done ?stop
    case ownI =>
     rintro s X Y row ⟨⟨j, h1, h2⟩, h3, h4⟩ hg hr
     exact ⟨⟨j, h1, cells_one h2 hg hr⟩, h3.grown hg (fun r e hlt => by have := (hr r e).1; omega), h4.kept hg (fun e => by have := (hr M e.symm).1; omega)⟩
    case ownX =>
     rintro cd s X Y row ⟨hc, p1, x, j, Ao2, co2, g1, g2, g3, g4, g5, g6, g7, g8, g9, g10, g11⟩ hg hr
     exact ⟨hc, p1, x, j, Ao2, co2, g1, g2, g3, cells_one g4 hg hr, cells_one g5 hg hr, cells_one g6 hg hr, rd_cells g7 hg hr, g8, g9, g10.grown hg (fun r e hlt => by have := (hr r e).1; omega), g11.kept hg (fun e => by have := (hr M e.symm).1; omega)⟩
    case ownA =>
     rintro x a' s X Y row ⟨Bx, h1, h2, h3, h4⟩ hg hr
     exact ⟨Bx, h1, h2, cells_one h3 hg hr, h4⟩
    case assign =>
     rintro l pre2 x W' K' ⟨⟨j, hj, bI⟩, g', kc⟩ hK
     rw [HENC.out]
     have hz := g'.size
     generalize hxl : x % L = cx at *
     generalize (s + kp * cx) % L = sv at *
     generalize ((k + 1 : Nat) : Int) = pp at *
     gi_wp2
     have hba : Below W'.heap.size W' (W'.alloc (.cells #[.int .i64 pp, .int .i64 (cx : Nat), .int .i64 (sv : Nat)] 91)) := below_alloc (Below.refl _ _) (Nat.le_refl _) _
     exact hK _ _ ((KeepsOthers.alloc _ _).from _) (Kq.below hba (by omega) (by omega) (by omega)) ⟨⟨j, hj, bI.ext hba⟩, g'.below hba hz, kc.below hba⟩ ⟨W'.heap.size, by omega, by omega, World.alloc_heap_new W' _, rfl⟩
    case body =>
     rintro l pre2 x a' W' hll ⟨r, hr⟩ ⟨⟨j, hj, bI⟩, g', kc⟩ ⟨Bx, hBx, hBx2, bX, rfl⟩ hlen
     have gw := hgx0.back g' (fun y hy hlt => by simp at hy ⊢; omega)
     have hmW := hm.gx gw (by simpa using hne1) HFA.out HFS.out
     have HI := hide (HIH.out x W' hmW kc)
     have hz := g'.size
     have bm1 := bm.gx g' (by simp; omega)
     have bo1 := bo.gx g' (by simp; omega)
     have ba1 := ba.gx g' (by simp; omega)
     have rd1 := rd0.gx g' (fun b o e => by have := hfar.out b o e; simp; omega)
     have hcx : x % L < L := Nat.mod_lt _ (by omega)
     have hfx := hfs (x % L)
     have HSN : Hid (((pre2 ++ [x]).map fun x => f (x % L)).sum = (pre2.map fun x => f (x % L)).sum + f (x % L)) := hide (by simp [List.sum_append])
     clear bm bo ba bi rd0
     have hne2 := hne1
     generalize hxl : x % L = cx at *
     have HXL := hide hxl
     clear hxl
     generalize hsv : (s + kp * cx) % L = sv at *
     have HSV := hide hsv
     clear hsv
     generalize ((k + 1 : Nat) : Int) = pp at *
     obtain ⟨fc, HFC⟩ : ∃ v, Hid (f cx = v) := ⟨_, hide rfl⟩
     rw [HFC.out] at hfx HI HSN
     have m0 := obj_at bm1 0 _ rfl
     have x0 := obj_at bX 0 _ rfl
     have x1 := obj_at bX 1 _ rfl
     have x2 := obj_at bX 2 _ rfl
     have hmw := obj_lt bm1
     have hxw := obj_lt bX
     have how := obj_lt bo1
     have haw := obj_lt ba1
     have hiw := obj_lt bI
     have hkl5 : k ≤ 8 := by omega
     have hsl := fun W' : World => slice_full (P := Try.prog) 62 5 ti und62 ih Ao k co hcap W'
     have hcw : IntKind.u8.wrap (97 + (cx : Int)) = (cx : Int) + 97 := u8_letter cx (by omega)
     have hji : j ≤ 2000000 := by omega
     by_cases hjf : j < fc
     · have hjI : (j : Int) < (fc : Int) := by omega
       gi_wp2_with (first
 | (refine ⟨trivial, ?_⟩; gi_at_call 83; refine (calls_round HI.out).mono ?_; rintro e W2 ⟨rfl, hg2, hk3⟩; have hz2 := hg2.size; have bI2 : BlkAt W2 Bi _ _ := (hg2.block _ hiw (fun e => by have := Option.some.inj e; omega)).trans bI; have bo2 : BlkAt W2 Bo _ _ := (hg2.block _ how (fun e => by have := Option.some.inj e; omega)).trans bo1; have ba2 : BlkAt W2 Ba _ _ := (hg2.block _ haw (fun e => by have := Option.some.inj e; omega)).trans ba1; have bX2 : BlkAt W2 Bx _ _ := (hg2.block _ hxw (fun e => by have := Option.some.inj e; omega)).trans bX; have rd2 := rd_grown rd1 hg2 (fun b o e => by have := hfar.out b o e; simp; omega); have i0c := obj_at bI2 0 _ rfl; have o0 := obj_at bo2 0 _ rfl; have hmo := obj_lt bo2)
 | (refine wpListIn_full _ rfl (.tmp 34) (.tmp 38) 62 rfl 5 ti _ 1 1 und62 ih iz is ib Ao k _ rfl (rd2.ext (by (repeat (first | exact Below.refl _ _ | assumption | refine below_drewN ?_ _ | refine below_drew ?_ | refine below_gr ?_ ?_ _ | refine below_alloc ?_ ?_ _ | refine Below.setCell ?_ ?_ _ | refine below_step ?_ (by assumption) ?_ | omega | (simp only [zz] at *; omega))))) (one_bytes _) _ 1 1 [_] rfl (rd_new1 _ _ _) (by simp [Value.oneCell']) (by omega) (by omega) (by unfold maxLen; omega) ?_; intro A5 c5 w5 hg5 hA5 hcc5 hrd5; replace hg5 := hg5.below; subst hA5; have hz5 := hg5.size; simp only [World.size_alloc] at hz5; have hb25 : Below W2.heap.size W2 w5 := (by (repeat (first | exact Below.refl _ _ | assumption | refine below_drewN ?_ _ | refine below_drew ?_ | refine below_gr ?_ ?_ _ | refine below_alloc ?_ ?_ _ | refine Below.setCell ?_ ?_ _ | refine below_step ?_ (by assumption) ?_ | omega | (simp only [zz] at *; omega)))); have bo5 := bo2.ext hb25; have ba5 := ba2.ext hb25; have bX5 := bX2.ext hb25; have bI5 := bI2.ext hb25; have y0 := obj_at bX5 0 _ rfl; have y1 := obj_at bX5 1 _ rfl; have y2 := obj_at bX5 2 _ rfl; have of5 := obj_fz bo5 0; have o5 := obj_at bo5 0 _ rfl; have al5 := obj_at ba5 0 _ rfl; have al6 := obj_at ba5 1 _ rfl; have al7 := obj_at ba5 2 _ rfl; have af5 := obj_fz ba5 0; have af6 := obj_fz ba5 1; have af7 := obj_fz ba5 2; have hao : Bo ≠ Ba := (by omega); have hax : Bx ≠ Ba := (by omega); have hox : Bx ≠ Bo := (by omega); have hao' := hao.symm; have hax' := hax.symm; have hox' := hox.symm; have hl5 := obj_lt bo5; have hl6 := obj_lt ba5; have hl7 := obj_lt bX5))
       have hgE : GX [M, Bi, Bo, Ba] W' ((((w5.setCell ⟨Bo, 0, none⟩ (.slice (some ⟨W2.heap.size + 1, 0, none⟩) (k + 1) c5)).setCell ⟨Ba, 0, none⟩ (.int .i64 pp)).setCell ⟨Ba, 1, none⟩ (.int .i64 (cx : Nat))).setCell ⟨Ba, 2, none⟩ (.int .i64 (sv : Nat))) :=
        ((((((GX.refl _ W').grown hg2 (fun r e _ => by rw [← Option.some.inj e]; simp)).below hb25 hz2).setCell _ _ (fun _ => by simp)).setCell _ _ (fun _ => by simp)).setCell _ _ (fun _ => by simp)).setCell _ _ (fun _ => by simp)
       have hne5 : ∀ (b o : Nat), (some ⟨W2.heap.size + 1, 0, none⟩ : Option Addr) = some ⟨b, o, none⟩ → b ≠ Bo ∧ b ≠ Ba := fun b o e => by injection e with e; injection e with e; omega
       refine ⟨keeps_gx hgE (fun y hy => by simp at hy; omega), rfl, pre2, x, j, some ⟨W2.heap.size + 1, 0, none⟩, c5, rfl, hj, by rw [HXL.out, HFC.out]; exact hjf, ?_, ?_, ?_, ?_, ?_, hcc5, (g'.mono (fun y hy _ => by simp at hy ⊢; omega)).trans hgE, ?_⟩
       · exact (((bI5.set _ _ (by show Bi ≠ Bo; omega)).set _ _ (by show Bi ≠ Ba; omega)).set _ _ (by show Bi ≠ Ba; omega)).set _ _ (by show Bi ≠ Ba; omega)
       · have hbs : BlkAt (w5.setCell ⟨Bo, 0, none⟩ (.slice (some ⟨W2.heap.size + 1, 0, none⟩) (k + 1) c5)) Bo #[.slice (some ⟨W2.heap.size + 1, 0, none⟩) (k + 1) c5] 62 := set_obj bo5 0 _
         exact ((hbs.set _ _ hao).set _ _ hao).set _ _ hao
       · rw [HXL.out, HSV.out]
         exact set_obj (set_obj (set_obj (ba5.set ⟨Bo, 0, none⟩ _ hao') 0 _) 1 _) 2 _
       · simp only [World.size_alloc] at hrd5
         have := rd_setCell (rd_setCell (rd_setCell (rd_setCell hrd5 ⟨Bo, 0, none⟩ (.slice (some ⟨W2.heap.size + 1, 0, none⟩) (k + 1) c5) (fun b o e => (hne5 b o e).1)) ⟨Ba, 0, none⟩ (.int .i64 pp) (fun b o e => (hne5 b o e).2)) ⟨Ba, 1, none⟩ (.int .i64 (cx : Nat)) (fun b o e => (hne5 b o e).2)) ⟨Ba, 2, none⟩ (.int .i64 (sv : Nat)) (fun b o e => (hne5 b o e).2)
         rw [HXL.out]
         simpa [byteC] using this
       · intro b o e; injection e with e; injection e with e; omega
       · exact ((((hk3.below hb25).setCell _ (by show M ≠ Bo; omega) _).setCell _ (by show M ≠ Ba; omega) _).setCell _ (by show M ≠ Ba; omega) _).setCell _ (by show M ≠ Ba; omega) _
     · have hjI : ¬ ((j : Int) < (fc : Int)) := by omega
       have hjs : (j : Int) - (fc : Int) = ((j - fc : Nat) : Int) := by omega
       have hjw : IntKind.i64.wrap ((j : Int) - (fc : Int)) = ((j - fc : Nat) : Int) := by rw [IntKind.wrap_i64]; omega
       gi_wp2_with (refine ⟨trivial, ?_⟩; gi_at_call 83; refine (calls_round HI.out).mono ?_; rintro e W2 ⟨rfl, hg2, hk3⟩; have hz2 := hg2.size; have bI2 : BlkAt W2 Bi _ _ := (hg2.block _ hiw (fun e => by have := Option.some.inj e; omega)).trans bI; have i0c := obj_at bI2 0 _ rfl; have i0f := obj_fz bI2 0; have i0l := obj_lt bI2)
       have hgE : GX [M, Bi] W' (W2.setCell ⟨Bi, 0, none⟩ (.int .i64 (j - fc : Nat))) := ((GX.refl _ W').grown hg2 (fun r e _ => by rw [← Option.some.inj e]; simp)).setCell _ _ (fun _ => by simp)
       refine ⟨keeps_gx hgE (fun y hy => by simp at hy; omega), Kq.of_gx hgE (by omega) (fun y hy hlt => by simp at hy; omega) (by omega) (by omega) (by simp; omega) (by simp; omega), ⟨j - fc, ?_, set_obj bI2 0 _⟩, g'.trans hgE, hk3.setCell _ (by show M ≠ Bi; omega) _⟩
       rw [HSN.out]
       omega
    case done =>
     rintro D xs W' hD rfl ⟨⟨j, hj, _⟩, _, _⟩ hK
     exfalso
     rw [HMOD.out] at hj
     have := HSUM.out
     omega
    case stop =>
     rintro D cd pre2 W' hD hpre ⟨rfl, p1, x, j, Ao2, co2, rfl, h2, h3, h4, h5, h6, h7, h8, h9, h10, h11⟩ hK
     obtain ⟨post, hpost⟩ := hpre
     have hxm : x ∈ letters L tp la := by rw [← hpost]; simp
     have hxL := HLT.out x hxm
     have hpm : (p1.map fun x => f (x % L)) = p1.map f := List.map_congr_left (fun y hy => by rw [Nat.mod_eq_of_lt (HLT.out y (by rw [← hpost]; simp [hy]))])
     rw [hpm] at h2
     rw [Nat.mod_eq_of_lt hxL] at h3 h6 h7
     have hpk := HPICK.out p1 post x j (by rw [← hpost]; simp) h2 h3
     rw [HFX.out] at h3
     have heq := HEQ.out
     rw [hpk] at heq
     have hmk : Marks w.heap.size (D :: Ds) W' := (mks0.gx h10 (fun y hy => by
      simp at hy
      rcases hy with rfl | rfl | rfl | rfl
      · exact .inl hMl
      · exact .inr ⟨_, _, bi⟩
      · exact .inr ⟨_, _, bo⟩
      · exact .inr ⟨_, _, ba⟩)).cons (by omega) hK (fun h => by have := mks0.lt h; omega)
     have hz := h10.size
     have bm1 := bm.gx h10 (by simp; omega)
     have gw := hgx0.back h10 (fun y hy hlt => by simp at hy ⊢; omega)
     have hinv : CodeInv L rest A K c S T d B M must w Bm Bi Bo Ba W (k + 1) (pre ++ [x]) (x : Nat) ((s + kp * x) % L) j Ao2 co2 (D :: Ds) W' :=
      { bm := bm1, bi := h4, bo := h5, ba := h6, len := by simp [hIlen], le := by omega, rd := h7, far := h8, nil := fun h => by omega, cap := h9, lt := fun y hy => by
         rcases List.mem_append.1 hy with hy | hy
         · exact hplt.out y hy
         · rw [List.mem_singleton.1 hy]; exact hxL
        sl := Nat.mod_lt _ (by omega), la6 := by omega, il := h3, eq := by rw [← heq]; simp, gx := gw, mp := h11, mks := hmk }
     clear h2 h3 h4 h5 h6 h7 h8 h9 h10 h11 hpk heq hmk gw bm1 bm bo ba bi rd0 mks0
     refine (wpIn_wide (n := 8)).2 ?_
     go_wp2
     refine ⟨⟨k + 1, pre ++ [x], ((x : Nat) : Int), (s + kp * x) % L, j, Ao2, co2, D :: Ds, ?_⟩, ?_⟩
     · (repeat apply Exists.intro)
       exact ⟨hinv, rfl⟩
     · simp [intOf]; omega
  · have hkn : k = K.length := by omega
    have hki : ¬ ((k : Int) < (K.length : Int)) := by omega
    have hback := back_bytes (W := wr) (A := Ao) (c := co) (l := pre) (by rw [hI.len]; exact hI.rd) (fun x hx => by have := hI.lt x hx; omega) (fun h => hI.nil (by rw [← hI.len, h]; rfl))
    rw [hI.len] at hback
    have hpW : pre = W := by
     have h := hI.eq
     rw [hkn, List.drop_eq_nil_of_le (by rw [List.length_zip]; omega)] at h
     simpa [Tt.codeA] using h
    rw [hpW] at hback
    have bo0 := obj_at hbo 0 _ rfl
    have hboW := obj_lt hbo
    have HMK := hide hI.mks
    have hmp := hI.mp
    clear hI hkn hpW
    go_wp2
    refine leaves_marks Ds wr HMK.out (fun w' hb => ?_)
    exact ⟨.string (strW W), by simp [results, Try.results60, go_sem], rfl, (hgx.below hb (Nat.le_refl _)).one, hmp.blk (hb.block M hMl)⟩
end Go.Proofs.Ytgjfejpibielaaa
