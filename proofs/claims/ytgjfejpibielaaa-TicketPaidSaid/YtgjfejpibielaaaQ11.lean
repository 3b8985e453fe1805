/- Proved here: slices; a range over a map by what it holds; a new machine, a part of the proofs about the ticket laws. Conditions: those that each theorem names, no others. -/
import Derived.Laws.CopyOwn
import Derived.Deep.RegionLaw
import Derived.Test.YtgjfejpibielaaaQ10
import Derived.WalkKit
import Derived.WalkSpells
import Derived.WalkLawsBesides
import Derived.Below
import Derived.Deep.QuietTactic
import Derived.BigQuiet
import Derived.Deep.Light
import Derived.Maps.RangeWalk
import Derived.Lib.BufferMore
set_option linter.unusedSimpArgs false
set_option linter.unusedVariables false
namespace Go.Proofs.Ytgjfejpibielaaa
open Go.RowKit Go.Maps Go.Shelf
attribute [local go_sem] Oper.semAt_some
theorem und22' : Try.prog.underlying 22 = some (.slice 3) := by kernel_rfl
theorem siz3' : (Try.prog.info? 3).map (·.size) = some 1 := by kernel_rfl
theorem info3' : (Try.prog.info? 3).map (fun i => (i.zero, i.size, i.bytes)) = some (some (.int .i64 0), 1, 8) := by kernel_rfl
theorem make_zeros (m : Nat) (hm : m ≤ 1000000) (W : World) :
 (Instr.makeSlice 22 (.int .i64 (m : Nat)) (.int .i64 (m : Nat))).run Try.prog W = .ok (.slice (some ⟨W.heap.size, 0, none⟩) m m) (W.alloc (.cells (List.replicate m (.int .i64 0)).toArray 3)) := by
 obtain ⟨i0, ih, iz, is, ib⟩ := info_parts info3'
 have := run_make (P := Try.prog) W 22 3 i0 (.int .i64 0) und22' ih iz .i64 .i64 (m : Int) (m : Int) (by omega) (Int.le_refl _) (by rw [ib]; omega) (by omega)
 have hmz : madeCells (Value.int .i64 0).cells m = (List.replicate m (Value.int .i64 0)).toArray := by
  unfold madeCells
  apply Array.ext
  · simp
  · intro j h1 h2
    simp [Value.cells, Nat.mod_one]
 rw [this, is, Int.toNat_natCast, Nat.mul_one, hmz]
theorem repl_new' (w : World) (n : Nat) : (w.alloc (.cells (Array.replicate n (Value.int .i64 0)) 3)).heap[w.heap.size]? = some (.cells (List.replicate n (Value.int .i64 0)).toArray 3 (0, 0)) := by
 rw [List.toArray_replicate]; exact heap_alloc_new w _
theorem one_src {w : World} {b o : Nat} {v : Int} (h : I64 w (some ⟨b, o, none⟩) [v]) : ∀ j u, ([Value.int .i64 v] : List Value)[j]? = some u → w.cell? ((⟨b, o, none⟩ : Addr).add j) = some u := fun j u hu => by
 cases j with
 | zero =>
   simp at hu; subst hu
   rw [add_none]; exact h.at (k := 0) (by simp)
 | succ j => simp at hu
theorem i64_block {w : World} {b : Nat} {t : TypeId} {xs : List Int} (h : w.heap[b]? = some (.cells (xs.map (Value.int .i64)).toArray t (0, 0))) : I64 w (some ⟨b, 0, none⟩) xs := fun k x hk => by
 have hl := (Array.getElem?_eq_some_iff.1 h).1
 refine ⟨b, 0, rfl, hl, by omega, ?_⟩
 rw [Nat.zero_add]
 exact obj_at h k _ (by simp [hk])
def rv (v : Int) (n k : Nat) : List Value := List.replicate k (.int .i64 v) ++ List.replicate (n - k) (.int .i64 0)
theorem one_rep (k : Nat) (v : Int) : ∀ u ∈ List.replicate k (Value.int .i64 v), u.oneCell' = true := by
 intro u hu
 rw [(List.mem_replicate.1 hu).2]
 rfl
theorem rv_src {w : World} {R : Nat} {v : Int} {n k : Nat} (h : w.heap[R]? = some (.cells (rv v n k).toArray 3 (0, 0))) (h1 : 1 ≤ k) (hk : k ≤ n) : ∀ j u, (List.replicate (min k (n - k)) (Value.int .i64 v))[j]? = some u → w.cell? ((⟨R, 0, none⟩ : Addr).add j) = some u := fun j u hu => by
 obtain ⟨hj, hu⟩ := List.getElem?_eq_some_iff.1 hu
 rw [List.length_replicate] at hj
 rw [List.getElem_replicate] at hu
 rw [add_none, Nat.zero_add]
 refine obj_at h j _ ?_
 subst hu
 rw [List.getElem?_toArray, rv, List.getElem?_append_left (by rw [List.length_replicate]; omega), List.getElem?_replicate, if_pos (by omega)]
theorem rv_next (v : Int) (n k : Nat) (h1 : 1 ≤ k) (hk : k ≤ n) : splice (rv v n k) k (List.replicate (min k (n - k)) (.int .i64 v)) = rv v n (k + min k (n - k)) := by
 unfold splice rv
 rw [List.take_append_of_le_length (by simp), List.take_of_length_le (by simp), List.length_replicate, List.drop_append, List.drop_eq_nil_of_le (by simp), List.nil_append, List.length_replicate, List.drop_replicate, ← List.append_assoc, List.replicate_append_replicate]
 congr 2
 omega
theorem rv_one (v : Int) (n : Nat) (h : 1 ≤ n) : splice (List.replicate n (.int .i64 0)) 0 [.int .i64 v] = rv v n 1 := by
 simp [splice, rv]
set_option maxRecDepth 100000 in
set_option maxHeartbeats 400000 in
theorem repeat_one (X : Option Addr) (c : Nat) (v : Int) (n : Nat) (h1 : 1 ≤ n) (h8 : n ≤ 8) (w : World) (hX : I64 w X [v]) :
 Calls Try.prog 88 #[.slice X 1 c, .int .i64 (n : Nat)] w (fun e w' => ∃ R, e = .returned (.slice (some ⟨R, 0, none⟩) n n) ∧ w.heap.size ≤ R ∧ Below w.heap.size w w' ∧ I64 w' (some ⟨R, 0, none⟩) (List.replicate n v)) := by
 obtain ⟨xb, xo, rfl, hxl⟩ := hX.form (by simp)
 have hmk := make_zeros n (by omega)
 go_enter Try.func88, Try.ntmps88
 have hn8 : (n : Int) ≤ 8 := by omega
 have hn1 : (1 : Int) ≤ n := by omega
 have hmin : [Value.int .i64 v].length = Nat.min 1 n := by show 1 = min 1 n; omega
 have hfit : 0 + [Value.int .i64 v].length ≤ (List.replicate n (Value.int .i64 0)).length := by simp; omega
 have hone : ∀ u ∈ [Value.int .i64 v], u.oneCell' = true := by intro u hu; obtain rfl := List.mem_singleton.1 hu; rfl
 clear h8 h1
 go_wp2_with (first
 | (go_at_call 96; refine (mul_one n (by omega) _).mono ?_; rintro e w2 ⟨rfl, hg2⟩; have hb2 := ex_below hg2; have hX2 := hX.ext hb2; clear hg2)
  | (with_reducible refine wpList_copy_splice rfl _ _ 22 22 rfl 3 und22' siz3' (some ⟨w2.heap.size, 0, none⟩) (some ⟨xb, xo, none⟩) n n 1 c rfl rfl w2.heap.size 0 (List.replicate n (.int .i64 0)) 3 (repl_new' _ _) [.int .i64 v] hmin (fun _ => ⟨rfl, _, rfl, one_src (hX2.ext (below_alloc (Below.refl _ _) (Nat.le_refl _) _))⟩) hfit hone w2.heap.size w2 (below_alloc (Below.refl _ _) (Nat.le_refl _) _) (Nat.le_refl _) ?_; intro w3 HG3 hB3))
 have HR0 := HG3
 rw [rv_one v n (by omega)] at HR0
 have hR0 : w.heap.size ≤ w2.heap.size := hb2.size
 have hB0 : Below w.heap.size w w3 := hb2.trans (hB3.mono hR0)
 obtain ⟨R, hRR⟩ : ∃ r, w2.heap.size = r := ⟨_, rfl⟩
 rw [hRR] at HR0 hR0 ⊢
 clear HG3 hX2 hb2 hB3 hRR hX
 go_loopw [8] (fun i wx => ∃ k : Nat, 1 ≤ k ∧ k ≤ n ∧ i = .int .i64 (k : Nat) ∧ wx.heap[R]? = some (.cells (rv v n k).toArray 3 (0, 0)) ∧ Below w.heap.size w wx) (fun i _ => n - (intOf i).toNat)
 case atStart => exact ⟨1, by omega, by omega, congrArg (fun m : Nat => Value.int .i64 (m : Int)) (show Nat.min 1 n = 1 by show min 1 n = 1; omega), HR0.out, hB0⟩
 case round =>
  obtain ⟨k, hk1, hkn, rfl, hR, hB⟩ := hrel
  have HR := hide hR
  have HRD : Hid (wr.drew.heap[R]? = some (.cells (rv v n k).toArray 3 (0, 0))) := hide hR
  by_cases hlt : k < n
  · have hki : (k : Int) < n := by omega
    have hnk : ¬ (n = k) := by omega
    have hm1 : 1 ≤ min k (n - k) := by omega
    have hm2 : min k (n - k) ≤ n - k := by omega
    have HX := hide (rv_next v n k hk1 hkn)
    have HM : Hid ((List.replicate (min k (n - k)) (Value.int .i64 v)).length = Nat.min k (n - k)) := hide (List.length_replicate ..)
    have HSR := hide (rv_src HRD.out hk1 hkn)
    generalize hmm : min k (n - k) = m at *
    have HFT : Hid (k + (List.replicate m (Value.int .i64 v)).length ≤ (rv v n k).length) := hide (by simp [rv]; omega)
    have hm3 : (k : Int) + m ≤ 8 := by omega
    clear hmm
    go_wp2
    go_region_law (refine step_copy_splice rfl (.tmp 41) (.tmp 44) 22 22 rfl 3 und22' siz3' (some ⟨R, k, none⟩) (some ⟨R, 0, none⟩) (n - k) (n - k) k n (by simp [Act.eval, Act.put]) (by simp [Act.eval, Act.put]) R k (rv v n k) 3 HRD.out (List.replicate m (.int .i64 v)) HM.out (fun h => ⟨rfl, _, rfl, HSR.out⟩) HFT.out (one_rep _ _) R wr (below_drew (Below.refl _ _)) (Nat.le_refl _) ?_; intro w9 HG9 hB9)
    rw [HX.out] at HG9
    have HG := HG9.out
    have HBB := (hB.trans (hB9.mono hR0))
    clear HG9
    have hwr : IntKind.i64.wrap ((k : Int) + m) = ((k + m : Nat) : Int) := by rw [IntKind.wrap_i64]; omega
    simp [Act.put, hwr, -Int.natCast_add]
    go_wp2
    refine ⟨⟨k + m, by omega, by omega, rfl, HG, HBB⟩, by simp [intOf]; omega⟩
  · have hki : ¬ ((k : Int) < n) := by omega
    go_wp2
    go_ret
    obtain rfl : k = n := by omega
    refine ⟨R, rfl, hR0, hB, ?_⟩
    have h0 : rv v k k = (List.replicate k v).map (Value.int .i64) := by simp [rv]
    rw [h0] at hR
    exact i64_block hR
end Go.Proofs.Ytgjfejpibielaaa
namespace Go.Proofs.Ytgjfejpibielaaa
open Go.RowKit Go.Maps Go.Shelf
/-- the map M is being ranged over by the iterator in block r -/
def KRange (k : TypeId) (b r : Nat) (good : Value → Value → Prop) (must : Value → Prop) (w : World) : Prop :=
 ∃ (l : List (Lit × DataW Value)) (n : Nat) (left : Lit → Bool) (cnt : Nat), w.ranges Try.prog k heldR b r n (.map l) left cnt ∧ (∀ x, x ∈ l → ∃ key v, keyOf Try.prog k key = some x.1 ∧ x.2 = .held v ∧ good key v) ∧ ∀ key kl, must key → keyOf Try.prog k key = some kl → ∃ x, x ∈ l ∧ x.1 = kl
theorem KRange.map {k : TypeId} {b r : Nat} {good : Value → Value → Prop} {must : Value → Prop} {w : World} (h : KRange k b r good must w) : KMap k b good must w := by
 obtain ⟨l, n, left, cnt, hrg, hl, hu⟩ := h
 exact ⟨l, tight hrg.owns, hl, hu⟩
theorem at_good {k : TypeId} {good : Value → Value → Prop} {l : List (Lit × DataW Value)} (K : Keyed Try.prog k) (hl : ∀ x, x ∈ l → ∃ key v, keyOf Try.prog k key = some x.1 ∧ x.2 = .held v ∧ good key v) {key v : Value} {kl : Lit} (hkey : keyOf Try.prog k key = some kl) (hat : ∀ zd, (DataW.map l).atKey kl zd = .held v) : good key v := by
 have h1 := hat .nil
 unfold DataW.atKey at h1
 simp only at h1
 cases hf : l.find? (fun p => p.1.sameKey kl) with
 | none => rw [hf] at h1; cases h1
 | some p =>
   rw [hf] at h1
   have hp := List.mem_of_find?_eq_some hf
   have hs := List.find?_some hf
   obtain ⟨key', v', g1, g2, g3⟩ := hl p hp
   have e1 : p.1 = kl := WideAt.sameKey_eq (by simpa using hs)
   rw [e1] at g1
   have e2 : key' = key := K.inj g1 hkey
   have e3 : v' = v := by
    have := g2.symm.trans h1
    cases this; rfl
   rw [← e2, ← e3]; exact g3
section
variable (w : World) {ops : Array Oper} {rest : List Oper} {o : Oper} {a : Act} {Q : Exit → Act → World → Prop}
theorem wpList_rangeK (hg : o.guard = none) (m : Operand) (t : TypeId) (hop : o.op = Op.range t m) (k e : TypeId) (K : Keyed Try.prog k) (ht : Try.prog.underlying t = some (.map k e)) (b : Nat) {good : Value → Value → Prop} {must : Value → Prop}
 (hm : a.eval m = .map (some b)) (h : KMap k b good must w)
 (hK : ∀ w', KRange k b w.heap.size good must w' → w.grownBy w' none → w'.heap.size = w.heap.size + 1 → wpList Try.prog ops Q rest (a.put o.dst (.pointer (some ⟨w.heap.size, 0, none⟩))) w') :
 wpList Try.prog ops Q (o :: rest) a w := by
 obtain ⟨l, hown, hl, hu⟩ := h
 exact wpList_range_own w hg m t hop k e K ht heldR b _ _ hm hown fun w' h1 h2 h3 => hK w' ⟨l, _, _, _, h1, hl, hu⟩ h2 h3
theorem wpList_nextK (hg : o.guard = none) (it : Operand) (hop : o.op = Op.next it false) (k : TypeId) (K : Keyed Try.prog k) (b r : Nat) {good : Value → Value → Prop} {must : Value → Prop}
 (hit : a.eval it = .pointer (some ⟨r, 0, none⟩)) (h : KRange k b r good must w)
 (hDone : wpList Try.prog ops Q rest (a.put o.dst (.tuple #[.bool false])) w)
 (hMore : ∀ (key v : Value) (w' : World), good key v → KRange k b r good must w' → w'.rangeLeft b r < w.rangeLeft b r → w.grownBy w' (some r) → w'.heap.size = w.heap.size → (Instr.entry (.pointer (some ⟨r, 0, none⟩))).run Try.prog w' = .ok (.tuple #[key, v]) w' → wpList Try.prog ops Q rest (a.put o.dst (.tuple #[.bool true, key, v])) w') :
 wpList Try.prog ops Q (o :: rest) a w := by
 obtain ⟨l, n, left, cnt, hrg, hl, hu⟩ := h
 refine wpList_next_ranges w hg it hop k K heldR (fun x : Value => x) (fun x : Value => x) (fun key _ _ => ⟨key, rfl⟩) (fun v _ _ => ⟨v, rfl⟩) b r n _ left cnt hit hrg (fun _ _ => hDone) ?_
 intro key v kl y w' cnt' hkey hlk hv hat hrg' hlt hgr hsz hen
 have hy : y.1 = .held v := by rw [← Option.some.inj hv]
 rw [hy] at hat
 exact hMore key v w' (at_good K hl hkey hat) ⟨l, n, _, cnt', hrg', hl, hu⟩ (by rw [hrg.left_eq, hrg'.left_eq]; exact hlt) hgr hsz hen
end
end Go.Proofs.Ytgjfejpibielaaa
namespace Go.Proofs.Ytgjfejpibielaaa
open Go.RowKit Go.Maps Go.Shelf
attribute [local go_sem] Oper.semAt_some
theorem below_far {n M : Nat} {w X Y : World} (h : Below n w X) (hg : X.grownBy Y (some M)) (hM : n ≤ M) (hn : n ≤ X.heap.size) : Below n w Y :=
 ⟨hg.os.trans h.1, hg.tape.trans h.2, hg.output.trans h.3, Nat.le_trans h.size hg.size, fun b hb => (hg.block b (by omega) (fun e => by have := Option.some.inj e; omega)).trans (h.block b hb)⟩
theorem below_far2 {n : Nat} {w X Y : World} (h : Below n w X) (hg : X.grownBy Y none) (hn : n ≤ X.heap.size) : Below n w Y :=
 ⟨hg.os.trans h.1, hg.tape.trans h.2, hg.output.trans h.3, Nat.le_trans h.size hg.size, fun b hb => (hg.block b (by omega) (by simp)).trans (h.block b hb)⟩
theorem start_raw (w : World) : Calls Try.prog 62 #[] w (Gives w (.agg #[.int .i64 0, .int .i64 (-1), .int .i64 0])) := start_any w
@[go_sem] theorem eqState (a0 a1 a2 b0 b1 b2 : Int) (w : World) : (Op.equalIn 10000 91 (.agg #[.int .i64 a0, .int .i64 a1, .int .i64 a2]) (.agg #[.int .i64 b0, .int .i64 b1, .int .i64 b2])).run Try.prog w = .ok (a0 == b0 && (a1 == b1 && a2 == b2)) w := by
 have u3 := Try.underlying3
 have a3' := Try.isAgg3
 have z3 := Try.sizeOf3
 have hS : Try.prog.underlying 91 = some (.struct (Try.prog.fieldsOf 91)) := by kernel_rfl
 have hp : Try.prog.stoodInHeld 91 = false := by kernel_rfl
 rw [show (10000 : Nat) = 9999 + 1 from rfl, run_equalIn_agg w 9999 91 _ _ hS hp]
 simp only [Program.fieldsOf, Try.underlying91]
 go_simp
 by_cases h1 : a0 = b0 <;> by_cases h2 : a1 = b1 <;> by_cases h3 : a2 = b2 <;> simp [h1, h2, h3]
theorem KRange.weaken {k : TypeId} {b r : Nat} {good : Value → Value → Prop} {must m2 : Value → Prop} {w : World} (h : KRange k b r good must w) (hm : ∀ x, m2 x → must x) : KRange k b r good m2 w := by
 obtain ⟨l, n, left, cnt, hrg, hl, hu⟩ := h
 exact ⟨l, n, left, cnt, hrg, hl, fun key kl hk => hu key kl (hm key hk)⟩
theorem KRange.kept {k : TypeId} {b r : Nat} {good : Value → Value → Prop} {must : Value → Prop} {w w' : World} {row : Option Nat} (h : KRange k b r good must w) (hg : w.grownBy w' row) (hb : some b ≠ row) (hr : some r ≠ row) : KRange k b r good must w' ∧ w'.rangeLeft b r = w.rangeLeft b r := by
 obtain ⟨l, n, left, cnt, hrg, hl, hu⟩ := h
 exact ⟨⟨l, n, left, cnt, hrg.kept hg hb hr, hl, hu⟩, by rw [hrg.left_eq, (hrg.kept hg hb hr).left_eq]⟩
theorem KRange.below {k : TypeId} {b r : Nat} {good : Value → Value → Prop} {must : Value → Prop} {w w' : World} (h : KRange k b r good must w) (hb : Below w.heap.size w w') : KRange k b r good must w' ∧ w'.rangeLeft b r = w.rangeLeft b r := h.kept (below_grown hb) (by simp) (by simp)
theorem KRange.del {k t e : TypeId} {b r : Nat} {good : Value → Value → Prop} {must : Value → Prop} {w : World} (h : KRange k b r good must w) (K : Keyed Try.prog k) (ht : Try.prog.underlying t = some (.map k e)) (ty : TypeId) {key : Value} {kl : Lit} (hkey : keyOf Try.prog k key = some kl) (hno : ∀ key2, must key2 → keyOf Try.prog k key2 ≠ some kl) :
 ∃ w', (Builtin.delete_ #[t, k] ty #[.map (some b), key]).run Try.prog w = .ok (.tuple #[]) w' ∧ KRange k b r good must w' ∧ w'.rangeLeft b r ≤ w.rangeLeft b r ∧ w.grownBy w' (some b) := by
 obtain ⟨l, n, left, cnt, hrg, hl, hu⟩ := h
 obtain ⟨w', cnt', hrun, hrg', hle, hturn⟩ := hrg.drop K ht hkey ty
 have e1 : (DataW.map l).del kl = .map (l.filter fun p => !p.1.sameKey kl) := rfl
 rw [e1] at hrg'
 refine ⟨w', hrun, ⟨_, n, _, cnt', hrg', fun x hx => hl x (List.mem_filter.1 hx).1, fun key2 kl2 hm2 hk2 => ?_⟩, by rw [hrg.left_eq, hrg'.left_eq]; exact hle, hturn.grown⟩
 obtain ⟨x, hx, hxk⟩ := hu key2 kl2 hm2 hk2
 refine ⟨x, List.mem_filter.2 ⟨hx, ?_⟩, hxk⟩
 cases hs : x.1.sameKey kl with
 | false => rfl
 | true => exact absurd (by rw [hk2, ← hxk, WideAt.sameKey_eq hs]) (hno key2 hm2)
theorem I64.blk {X : World} {A : Option Addr} {xs : List Int} (h : I64 X A xs) (h0 : 0 < xs.length) : ∀ b o, A = some ⟨b, o, none⟩ → b < X.heap.size := fun b o e => by
 obtain ⟨b', o', he, hl⟩ := h.form h0
 rw [e] at he; cases he; exact hl
theorem I64.far {X Y : World} {A : Option Addr} {xs : List Int} {M : Nat} (h : I64 X A xs) (hg : X.grownBy Y (some M)) (hA : ∀ b o, A = some ⟨b, o, none⟩ → b < X.heap.size → b ≠ M) : I64 Y A xs := fun i p hk => by
 obtain ⟨b, off, h0, h1, h2, h3⟩ := h i p hk
 have hb := hg.block b h1 (fun e => hA b off h0 h1 (Option.some.inj e))
 have := old_lt h1 hb
 exact ⟨b, off, h0, this, by omega, (World.cell?_of_block (a := ⟨b, off + i, none⟩) hb).trans h3⟩
theorem MachAt.far {X Y : World} {B M : Nat} {L rest : Nat} {A : Option Addr} {K : List Nat} {c : Nat} {S : Option Addr} {T : List Nat} {d : Nat} {r : Nat} (h : MachAt X B M L rest A K c S T d) (hg : X.grownBy Y (some r)) (hB : B ≠ r) (hA : ∀ b o, A = some ⟨b, o, none⟩ → b ≠ r) (hS : ∀ b o, S = some ⟨b, o, none⟩ → b ≠ r) : MachAt Y B M L rest A K c S T d :=
 ⟨(hg.block B (obj_lt h.1) (fun e => hB (Option.some.inj e))).trans h.1, h.2.1.far hg (fun b o e _ => hA b o e), h.2.2.far hg (fun b o e _ => hS b o e)⟩
/-- what a new machine is: its blocks lie behind what was there -/
def NewAt (w : World) (L rest : Nat) (A : Option Addr) (K : List Nat) (c : Nat) (T : List Nat) (e : Ending) (w' : World) : Prop :=
 ∃ (B M : Nat) (S' : Option Addr) (d' : Nat), e = .returned (.pointer (some ⟨B, 0, none⟩)) ∧ w.heap.size ≤ B ∧ w.heap.size ≤ M ∧ RowKit.Below w.heap.size w w' ∧ MachAt w' B M L rest A K c S' T d' ∧ NeM B M A S' ∧ KMap 91 M (goodF L rest K T) (fun x => x = stV 0 (-1) 0) w'
set_option maxRecDepth 100000 in
set_option maxHeartbeats 1000000 in
theorem new_torn (L rest : Nat) (A : Option Addr) (K : List Nat) (c : Nat) (S : Option Addr) (T : List Nat) (d : Nat) (w : World) (hok : OkM L rest K T) (hA : I64 w A (zs K)) (hS : I64 w S (zs T)) :
 Calls Try.prog 73 #[.agg #[.int .i64 (L : Nat), .int .i64 (K.length : Nat), .slice A K.length c, .int .i64 (rest : Nat)], .slice S T.length d] w (NewAt w L rest A K c T) := by
 obtain ⟨hL2, hL6, hn2, hn8, htl, hkL, htL, hrL⟩ := id hok
 obtain ⟨Ab, Ao, hAe, hAl⟩ := hA.form (by simp [zs]; omega)
 obtain ⟨Sb, So, hSe, hSl⟩ := hS.form (by simp [zs]; omega)
 have hmm := @run_makeMap Try.prog
 have hnil : ∀ (n c : Nat) W, (binOp .eql 22 (.slice S n c) (.slice none 0 0)).run Try.prog W = .ok (.bool false) W := fun n c W => by rw [hSe]; exact Lib.run_eql_slice_some_nil W _ _ _ und22'
 have hHA := hide hAe
 have hHS := hide hSe
 clear hAe hSe
 have HTL := hide htl
 clear htl
 go_enter Try.func73, Try.ntmps73
 go_upto_region 4 with fail
 have hW : Below w.heap.size w (((w.alloc (.cells #[.int .i64 (L : Nat), .int .i64 (K.length : Nat), .slice A K.length c, .int .i64 (rest : Nat)] 24)).alloc (.map #[] 0)).alloc (.cells #[.int .i64 (L : Nat), .int .i64 (K.length : Nat), .slice A K.length c, .int .i64 (rest : Nat), .slice S T.length d, .map (some (w.heap.size + 1))] 120)) := by (repeat (first | exact Below.refl _ _ | assumption | (refine below_gr ?_ (by (first | omega | (simp only [zz] at *; omega))) _) | (refine below_alloc ?_ (by (first | omega | (simp only [zz] at *; omega))) _) | (refine Below.setCell ?_ (by (first | omega | (simp only [zz] at *; omega))) _) | refine below_drewN ?_ _ | refine below_drew ?_ | (refine below_step ?_ (by assumption) (by (first | omega | (simp only [zz] at *; omega))))))
 have hB : BlkAt (((w.alloc (.cells #[.int .i64 (L : Nat), .int .i64 (K.length : Nat), .slice A K.length c, .int .i64 (rest : Nat)] 24)).alloc (.map #[] 0)).alloc (.cells #[.int .i64 (L : Nat), .int .i64 (K.length : Nat), .slice A K.length c, .int .i64 (rest : Nat), .slice S T.length d, .map (some (w.heap.size + 1))] 120)) (w.heap.size + 1 + 1) #[.int .i64 (L : Nat), .int .i64 (K.length : Nat), .slice A K.length c, .int .i64 (rest : Nat), .slice S T.length d, .map (some (w.heap.size + 1))] 120 := by
  have h := heap_alloc_new ((w.alloc (.cells #[.int .i64 (L : Nat), .int .i64 (K.length : Nat), .slice A K.length c, .int .i64 (rest : Nat)] 24)).alloc (.map #[] 0)) (.cells #[.int .i64 (L : Nat), .int .i64 (K.length : Nat), .slice A K.length c, .int .i64 (rest : Nat), .slice S T.length d, .map (some (w.heap.size + 1))] 120)
  rwa [World.size_alloc, World.size_alloc] at h
 have hKM : KMap 91 (w.heap.size + 1) (goodF L rest K T) (fun _ => False) (((w.alloc (.cells #[.int .i64 (L : Nat), .int .i64 (K.length : Nat), .slice A K.length c, .int .i64 (rest : Nat)] 24)).alloc (.map #[] 0)).alloc (.cells #[.int .i64 (L : Nat), .int .i64 (K.length : Nat), .slice A K.length c, .int .i64 (rest : Nat), .slice S T.length d, .map (some (w.heap.size + 1))] 120)) := by
  have h := KMap.made (w.alloc (.cells #[.int .i64 (L : Nat), .int .i64 (K.length : Nat), .slice A K.length c, .int .i64 (rest : Nat)] 24)) 91 (goodF L rest K T)
  rw [World.size_alloc] at h
  exact h.below (by (repeat (first | exact Below.refl _ _ | assumption | refine below_drewN ?_ _ | refine below_drew ?_ | refine below_gr ?_ ?_ _ | refine below_alloc ?_ ?_ _ | refine Below.setCell ?_ ?_ _ | refine below_step ?_ (by assumption) ?_ | omega | (simp only [zz] at *; omega))))
 replace hA := hA.ext hW
 replace hS := hS.ext hW
 have hne : NeM (w.heap.size + 1 + 1) (w.heap.size + 1) A S := ⟨by omega, fun b o e => by rw [hHA.out] at e; cases e; omega, fun b o e => by rw [hHS.out] at e; cases e; omega⟩
 obtain ⟨M, hM⟩ : ∃ M, w.heap.size + 1 = M := ⟨_, rfl⟩
 rw [hM] at hW hB hKM hA hS hne ⊢
 obtain ⟨B, hBB⟩ : ∃ B, M + 1 = B := ⟨_, rfl⟩
 rw [hBB] at hB hne ⊢
 have hM0 : w.heap.size ≤ M := by omega
 have hB0 : w.heap.size ≤ B := by omega
 clear hM hBB hmm hnil
 obtain ⟨wt, hwt⟩ : ∃ wt, (((w.alloc (.cells #[.int .i64 (L : Nat), .int .i64 (K.length : Nat), .slice A K.length c, .int .i64 (rest : Nat)] 24)).alloc (.map #[] 0)).alloc (.cells #[.int .i64 (L : Nat), .int .i64 (K.length : Nat), .slice A K.length c, .int .i64 (rest : Nat), .slice S T.length d, .map (some M)] 120)) = wt := ⟨_, rfl⟩
 rw [hwt] at hW hB hKM hA hS ⊢
 clear hwt
 have hBw := obj_lt hB
 have hMw := hKM.lt
 have hszw := hW.size
 have hm : MachAt wt B M L rest A K c S T d := ⟨hB, hA, hS⟩
 go_wp2_with (first
 | (go_at_call 62; refine (start_any _).mono ?_; rintro e w1 ⟨rfl, hb1⟩; replace hb1 := ex_below hb1; have hz1 := hb1.size; unfold stV stC)
 | (go_at_call 83; refine (from_known B M L rest A K c S T d (fun _ => False) 0 (-1) 0 _ (hm.ext hb1) hok hne (hKM.below hb1) (by omega) ⟨by omega, by omega⟩ (by omega)).mono ?_; rintro e w2 ⟨rfl, hg2, hk2⟩; have hm2 := (hm.ext hb1).grown hne hg2; have hb2 := below_far (below_step hW hb1 hszw) hg2 hM0 (by omega); have hz2 := hg2.size; have hB2 := hm2.1; have c5 := obj_at hB2 5 _ rfl; have hB2l := obj_lt hB2)
 | (at_range; refine wpList_rangeK _ rfl _ 118 rfl 91 2 lawS und118 M rfl hk2 ?_; intro w3 hr3 hg3 hs3))
 go_frame
 have hm3 := hm2.grown hne (grown_none hg3)
 have hb3 := below_far2 hb2 hg3 (by omega)
 have hM2 := hk2.lt
 have hAr := hm2.2.1.blk (by rw [zs_len]; omega)
 have hSr := hm2.2.2.blk (by rw [zs_len, HTL.out]; omega)
 clear hm hB hA hS hKM hW c5 hB2 hk2 hm2 hb2 hb1
 obtain ⟨r, hr⟩ : ∃ r, w2.heap.size = r := ⟨_, rfl⟩
 rw [hr] at hr3 hs3 hB2l hM2 hAr hSr ⊢
 have HAR := hide hAr
 have HSR := hide hSr
 clear hAr hSr
 have hrM : r ≠ M := by omega
 have hrw : w.heap.size ≤ r := by omega
 replace hr3 : KRange 91 M r (goodF L rest K T) (fun x => x = stV 0 (-1) 0) w3 := hr3.weaken (fun x h => .inr h)
 clear hr hg3 hg2
 go_loopw [7] (fun _ wr => KRange 91 M r (goodF L rest K T) (fun x => x = stV 0 (-1) 0) wr ∧ MachAt wr B M L rest A K c S T d ∧ Below w.heap.size w wr ∧ r < wr.heap.size) (fun _ wr => wr.rangeLeft M r)
 case atStart => exact ⟨hr3, hm3, hb3, by omega⟩
 case round =>
  obtain ⟨hkr, hmr, hbr, hrl⟩ := hrel
  have hmb := hmr.1
  have hmbl := obj_lt hmb
  have hrml := hkr.map.lt
  go_wp2_with (at_next; refine wpList_nextK _ rfl _ rfl 91 lawS M r rfl hkr ?_ ?_)
  · go_wp2
    go_ret
    exact ⟨B, M, _, _, rfl, hB0, hM0, hbr, hmr, hne, hkr.map⟩
  · intro key v w4 hgood hk4 hlt4 hg4 hs4 hen
    obtain ⟨p, la, s, hp, hla, hs, rfl, rfl⟩ := hgood
    have hm4 : MachAt w4 B M L rest A K c S T d := MachAt.far hmr hg4 (by omega) (fun b o e => Nat.ne_of_lt (HAR.out b o e)) (fun b o e => Nat.ne_of_lt (HSR.out b o e))
    have hb4 := below_far hbr hg4 hrw (by omega)
    generalize Tt.cnt L rest ((K.zip T).drop p) la s = C at *
    unfold stV stC at hen
    have hr4l := hk4.map.lt
    have hba : Below w4.heap.size w4 (w4.alloc (.cells #[.int .i64 (p : Nat), .int .i64 la, .int .i64 (s : Nat)] 91)) := below_alloc (Below.refl _ _) (Nat.le_refl _) _
    have hX0 : BlkAt (w4.alloc (.cells #[.int .i64 (p : Nat), .int .i64 la, .int .i64 (s : Nat)] 91)) w4.heap.size #[.int .i64 (p : Nat), .int .i64 la, .int .i64 (s : Nat)] 91 := heap_alloc_new _ _
    have hs5 : (w4.alloc (.cells #[.int .i64 (p : Nat), .int .i64 la, .int .i64 (s : Nat)] 91)).heap.size = w4.heap.size + 1 := by simp
    have hb4w := hb4.size
    have HEQ := eqState (p : Nat) la (s : Nat) 0 (-1) 0
    go_upto_region 8 with fail
    rw [← hs4]
    obtain ⟨w5, hw5⟩ : ∃ v, (w4.alloc (.cells #[.int .i64 (p : Nat), .int .i64 la, .int .i64 (s : Nat)] 91)) = v := ⟨_, rfl⟩
    rw [hw5] at hba hX0 hs5 ⊢
    clear hw5 hen hmb hmbl
    have hk5 := hk4.below hba
    have hm5 := hm4.ext hba
    have hb5 := below_step hb4 hba hb4w
    have lr := obj_lt hX0
    obtain ⟨xr, hxr⟩ : ∃ v, w4.heap.size = v := ⟨_, rfl⟩
    rw [hxr] at hX0 hs5 lr ⊢
    have hrx : r < xr := by omega
    have hMx : M < xr := by omega
    have hwx : w.heap.size ≤ xr := by omega
    have hBx : B < xr := by omega
    replace hlt4 : w5.rangeLeft M r < wr.rangeLeft M r := by rw [hk5.2]; exact hlt4
    replace hk5 := hk5.1
    clear hm4 hb4 hk4 hba hg4 hxr hs4 hkr hmr hbr
    have x0 := obj_at hX0 0 _ rfl
    have x1 := obj_at hX0 1 _ rfl
    have x2 := obj_at hX0 2 _ rfl
    have xf := obj_fz hX0 0
    have b0 := obj_at hm5.1 5 _ rfl
    have bl := obj_lt hm5.1
    by_cases hC : C = 0
    · subst hC
      by_cases hst : (((p : Nat) : Int) == 0 && (la == -1 && ((s : Nat) : Int) == 0)) = true
      · rw [hst] at HEQ
        refine wp_region_grow (by kernel_rfl) (by kernel_rfl) ?_
        repeat (go_big_quiet_step ((go_at_call 62; exact Gives.quiet (start_raw _))))
        refine wpQuiet_nil ?_
        intro w6 hb6
        replace hb6 := ex_below hb6
        have hz6 := hb6.size
        go_wp2
        go_roundw
        case rel => exact ⟨(hk5.below hb6).1, hm5.ext hb6, below_step hb5 hb6 (by omega), by omega⟩
        case measure => rw [(hk5.below hb6).2]; exact hlt4
      · have hst' : (((p : Nat) : Int) == 0 && (la == -1 && ((s : Nat) : Int) == 0)) = false := by cases h : (((p : Nat) : Int) == 0 && (la == -1 && ((s : Nat) : Int) == 0)) with | true => exact absurd h hst | false => rfl
        rw [hst'] at HEQ
        have hst := hide hst
        clear hst'
        refine wp_region_grow (by kernel_rfl) (by kernel_rfl) ?_
        repeat (go_big_quiet_step ((go_at_call 62; exact Gives.quiet (start_raw _))))
        refine wpQuiet_nil ?_
        intro w6 hb6
        replace hb6 := ex_below hb6
        have hz6 := hb6.size
        have hk6 := hk5.below hb6
        have hm6 := hm5.ext hb6
        have hb6' := below_step hb5 hb6 (by omega)
        have hX6 := hX0.ext hb6
        clear hX0 hm5 x0 x1 x2 xf b0 bl
        have x0 := obj_at hX6 0 _ rfl
        have x1 := obj_at hX6 1 _ rfl
        have x2 := obj_at hX6 2 _ rfl
        have xf := obj_fz hX6 0
        have b0 := obj_at hm6.1 5 _ rfl
        have bl := obj_lt hm6.1
        have xl := obj_lt hX6
        obtain ⟨kl, hkl⟩ := keyS_of (p := p) (la := la) (s := s) hp hla hs
        have hno : ∀ key2, key2 = stV 0 (-1) 0 → keyOf Try.prog 91 key2 ≠ some kl := by
         rintro key2 rfl he
         have h1 := lawS.inj hkl he
         obtain ⟨rfl, rfl, rfl⟩ := stV_inj h1
         exact hst.out (by decide)
        replace hlt4 : w6.rangeLeft M r < wr.rangeLeft M r := by rw [hk6.2]; exact hlt4
        replace hk6 := hk6.1
        go_upto_region 9 with fail
        have hbd : Below w6.heap.size w6 w6.drew := below_drew (Below.refl _ _)
        obtain ⟨w7, hr7, hk7, hl7, hg7⟩ := (hk6.below hbd).1.del lawS und118 0 hkl hno
        rw [(hk6.below hbd).2] at hl7
        have hm7 := (hm6.ext hbd).grown hne hg7
        have hb7 := below_far (below_step hb6' hbd (by omega)) hg7 hM0 (by rw [size_drew]; omega)
        have hz7 := hg7.size
        rw [size_drew] at hz7
        clear hno hkl hst
        unfold stV stC at hr7
        go_region
        go_wp2
        go_roundw
        case rel => exact ⟨hk7, hm7, hb7, by omega⟩
        case measure => exact Nat.lt_of_le_of_lt hl7 hlt4
    · have hC0 : ((C : Int) == 0) = false := by simp; omega
      clear HEQ
      refine wp_region_grow (by kernel_rfl) (by kernel_rfl) ?_
      repeat (go_big_quiet_step ((go_at_call 62; exact Gives.quiet (start_raw _))))
      refine wpQuiet_nil ?_
      intro w6 hb6
      replace hb6 := ex_below hb6
      have hz6 := hb6.size
      go_wp2
      go_roundw
      case rel => exact ⟨(hk5.below hb6).1, hm5.ext hb6, below_step hb5 hb6 (by omega), by omega⟩
      case measure => rw [(hk5.below hb6).2]; exact hlt4
end Go.Proofs.Ytgjfejpibielaaa
