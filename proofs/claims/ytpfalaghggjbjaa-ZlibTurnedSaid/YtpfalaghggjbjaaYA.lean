/-
  inflate's reader in memory; the walks of its fails, tell, field.
  Conditions: the reader reads bytes that nobody writes meanwhile, no more than 2^30; what it told is its own.
-/
import Derived.Test.YtpfalaghggjbjaaWA
import Derived.Test.YtpfalaghggjbjaaNum
import Derived.Test.YtpfalaghggjbjaaPlK
import Derived.BigRegion
import Derived.StillTailTactics
import Derived.Deep.CutRange
namespace Go.Proofs.Ytpfalaghggjbjaa
open Go.RowKit

/-- Of what was there only block p, and the block that a leads to, are written; what was told lies there still, or in a new block. -/
structure Stp (p : Nat) (w : World) (a : Option Addr) (w' : World) (a' : Option Addr) : Prop where
  mod : Mod (fun k => k = p ∨ blk a = some k) w w'
  at_ : blk a' = blk a ∨ ∃ g, blk a' = some g ∧ w.heap.size ≤ g
theorem Stp.refl (p : Nat) (w : World) (a : Option Addr) : Stp p w a w a := ⟨Mod.refl _ _, .inl rfl⟩
theorem Stp.trans {p : Nat} {w w1 w2 : World} {a a1 a2 : Option Addr} (h : Stp p w a w1 a1) (k : Stp p w1 a1 w2 a2) : Stp p w a w2 a2 := by
  refine ⟨h.mod.trans k.mod (fun _ _ h => h) fun b hb hk => ?_, ?_⟩
  · rcases hk with hk | hk
    · exact .inl hk
    · rcases h.at_ with h1 | ⟨g, h1, h2⟩
      · rw [← h1]; exact .inr hk
      · rw [h1] at hk; cases hk; omega
  · rcases k.at_ with k1 | ⟨g, k1, k2⟩
    · rw [k1]; exact h.at_
    · exact .inr ⟨g, k1, Nat.le_trans h.mod.size k2⟩
theorem Stp.alloc {p : Nat} {w w' : World} {a a' : Option Addr} (h : Stp p w a w' a') (o : Obj) : Stp p w a (w'.alloc o) a' := ⟨h.mod.alloc o, h.at_⟩
theorem Stp.drewN {p : Nat} {w w' : World} {a a' : Option Addr} (h : Stp p w a w' a') (n : Nat) : Stp p w a (w'.drewN n) a' := ⟨h.mod.drewN' n, h.at_⟩
theorem Stp.drew {p : Nat} {w w' : World} {a a' : Option Addr} (h : Stp p w a w' a') : Stp p w a w'.drew a' := ⟨h.mod.drew, h.at_⟩
theorem Stp.set {p : Nat} {w w' : World} {a a' : Option Addr} (h : Stp p w a w' a') (j : Nat) (v : Value) : Stp p w a (w'.setCell ⟨p, j, none⟩ v) a' := ⟨h.mod.setCell _ v fun _ => .inl rfl, h.at_⟩
/-- Only what is new is written. -/
theorem Stp.of_below {p : Nat} {w w' : World} {a : Option Addr} (h : Below w.heap.size w w') : Stp p w a w' a := ⟨⟨h.os, h.tape, h.output, h.size, fun b hb _ => h.block b hb⟩, .inl rfl⟩
theorem Stp.below {p B : Nat} {w w' : World} {a a' : Option Addr} (h : Stp p w a w' a') (hB : B ≤ w.heap.size) (hp : B ≤ p) (ha : ∀ g, blk a = some g → B ≤ g) : Below B w w' :=
  h.mod.below hB fun b _ hb => hb.elim (fun e => by omega) (ha b)

/-- Block p (type e) is a reader of the bytes b, at bit t, that has told o; its error is er; at most m bytes may be told. -/
structure Rr (p B : Nat) (a0 : Option Addr) (cap : Nat) (b : List UInt8) (m : Nat) (w : World) (t : Nat) (o : List UInt8) (er : Nat) (a : Option Addr) : Prop where
  cell : ∃ c, w.heap[p]? = some (.cells #[.slice a0 b.length cap, .int .i64 (t : Int), .slice a o.length c, .int .i64 (m : Int), .int .i64 (er : Int)] 86 (0, 0)) ∧ OB w B a o.length c o
  src : ∀ w' a', Stp p w a w' a' → RB w' a0 b.length cap b
  bp : B ≤ p
  bl : b.length ≤ 1073741824
  ml : m ≤ 1073741824
  tl : t ≤ 8 * b.length
  ol : o.length ≤ m

section
variable {p B : Nat} {a0 : Option Addr} {cap : Nat} {b : List UInt8} {m : Nat} {w : World} {t : Nat} {o : List UInt8} {er : Nat} {a : Option Addr}
theorem Rr.rb (h : Rr p B a0 cap b m w t o er a) : RB w a0 b.length cap b := h.src w a (Stp.refl _ _ _)
theorem Rr.lt (h : Rr p B a0 cap b m w t o er a) : p < w.heap.size := by obtain ⟨c, h1, _⟩ := h.cell; exact lt_at h1
theorem Rr.nep (h : Rr p B a0 cap b m w t o er a) : blk a ≠ some p := by obtain ⟨c, h1, h2⟩ := h.cell; exact own_ne_cells h2 h1 (by decide)
theorem Rr.own (h : Rr p B a0 cap b m w t o er a) : ∀ g, blk a = some g → B ≤ g ∧ g < w.heap.size := by obtain ⟨c, _, h2⟩ := h.cell; exact own_blk h2
theorem Rr.below {w' : World} {a' : Option Addr} (h : Rr p B a0 cap b m w t o er a) (hs : Stp p w a w' a') (hB : B ≤ w.heap.size) : Below B w w' := hs.below hB h.bp fun g hg => (h.own g hg).1
/-- What stays where neither block p nor what was told is written. -/
theorem Rr.kept {w' : World} (h : Rr p B a0 cap b m w t o er a) (hm : Mod (fun _ => False) w w') : Rr p B a0 cap b m w' t o er a := by
  obtain ⟨c, h1, h2⟩ := h.cell
  refine ⟨⟨c, heap_mod hm h1 id, own_mod h2 hm fun _ _ h => h⟩, fun w2 a2 h3 => h.src w2 a2 (Stp.trans ⟨hm.mono fun _ _ h => h.elim, .inl rfl⟩ h3), h.bp, h.bl, h.ml, h.tl, h.ol⟩
theorem Rr.drewN (h : Rr p B a0 cap b m w t o er a) (n : Nat) : Rr p B a0 cap b m (w.drewN n) t o er a := h.kept (Mod.drewN _ w n)
theorem Rr.drew (h : Rr p B a0 cap b m w t o er a) : Rr p B a0 cap b m w.drew t o er a := h.kept (Mod.refl _ w).drew
theorem Rr.alloc (h : Rr p B a0 cap b m w t o er a) (x : Obj) : Rr p B a0 cap b m (w.alloc x) t o er a := h.kept ((Mod.refl _ w).alloc x)
theorem Rr.new {w' : World} (h : Rr p B a0 cap b m w t o er a) (hb : Below w.heap.size w w') : Rr p B a0 cap b m w' t o er a := h.kept ⟨hb.os, hb.tape, hb.output, hb.size, fun k hk _ => hb.block k hk⟩
theorem Rr.set_e (h : Rr p B a0 cap b m w t o er a) {x : Int} (e : Nat) (hx : x = (e : Int)) : Rr p B a0 cap b m (w.setCell ⟨p, 4, none⟩ (.int .i64 x)) t o e a := by
  subst hx
  obtain ⟨c, h1, h2⟩ := h.cell
  refine ⟨⟨c, heap_set (j := 4) h1 _, own_set h2 (own_ne_cells h2 h1 (by decide)) _⟩, fun w2 a2 h3 => h.src w2 a2 (((Stp.refl p w a).set 4 _).trans h3), h.bp, h.bl, h.ml, h.tl, h.ol⟩
theorem Rr.set_t (h : Rr p B a0 cap b m w t o er a) {x : Int} (t' : Nat) (hx : x = (t' : Int)) (ht : t' ≤ 8 * b.length) : Rr p B a0 cap b m (w.setCell ⟨p, 1, none⟩ (.int .i64 x)) t' o er a := by
  subst hx
  obtain ⟨c, h1, h2⟩ := h.cell
  refine ⟨⟨c, heap_set (j := 1) h1 _, own_set h2 (own_ne_cells h2 h1 (by decide)) _⟩, fun w2 a2 h3 => h.src w2 a2 (((Stp.refl p w a).set 1 _).trans h3), h.bp, h.bl, h.ml, ht, h.ol⟩
/-- What the walk reads of it. -/
theorem Rr.cells (h : Rr p B a0 cap b m w t o er a) : ∃ c, w.cell? ⟨p, 0, none⟩ = some (.slice a0 b.length cap) ∧ w.cell? ⟨p, 1, none⟩ = some (.int .i64 (t : Int)) ∧ w.cell? ⟨p, 2, none⟩ = some (.slice a o.length c) ∧
    w.cell? ⟨p, 3, none⟩ = some (.int .i64 (m : Int)) ∧ w.cell? ⟨p, 4, none⟩ = some (.int .i64 (er : Int)) ∧ w.frozen? ⟨p, 1, none⟩ = false ∧ w.frozen? ⟨p, 2, none⟩ = false ∧ w.frozen? ⟨p, 4, none⟩ = false ∧ OB w B a o.length c o := by
  obtain ⟨c, h1, h2⟩ := h.cell
  exact ⟨c, cell_at h1 rfl, cell_at h1 rfl, cell_at h1 rfl, cell_at h1 rfl, cell_at h1 rfl, free_at h1, free_at h1, free_at h1, h2⟩
end

/-- What a call of a reader's comes to: a value, its steps, and the state behind. -/
def ROk (p B : Nat) (a0 : Option Addr) (cap : Nat) (b : List UInt8) (m : Nat) (w : World) (a : Option Addr) (t : Nat) (o : List UInt8) (v : Value) (e : Ending) (w' : World) : Prop :=
  ∃ a', e = .returned v ∧ Stp p w a w' a' ∧ Rr p B a0 cap b m w' t o 0 a'
def RNo (p B : Nat) (a0 : Option Addr) (cap : Nat) (b : List UInt8) (m : Nat) (w : World) (a : Option Addr) (er : Nat) (v : Value) (e : Ending) (w' : World) : Prop :=
  ∃ a' t o, e = .returned v ∧ Stp p w a w' a' ∧ Rr p B a0 cap b m w' t o er a'
/-- It does nothing. -/
def Still (w : World) (v : Value) (e : Ending) (w' : World) : Prop := e = .returned v ∧ w = w'

section
variable {p B : Nat} {a0 : Option Addr} {cap : Nat} {b : List UInt8} {m : Nat} {w : World} {t : Nat} {o : List UInt8} {er : Nat} {a : Option Addr}
set_option maxHeartbeats 1000000 in
theorem fails_live (e : Nat) (h : Rr p B a0 cap b m w t o 0 a) : Calls Try.prog 88 #[.pointer (some ⟨p, 0, none⟩), .int .i64 (e : Int)] w fun en w' => en = .returned (.tuple #[]) ∧ Stp p w a w' a ∧ Rr p B a0 cap b m w' t o e a := by
  obtain ⟨c, c0, c1, c2, c3, c4, f1, f2, f4, -⟩ := h.cells
  go_enter Try.func88, Try.ntmps88
  go_wp2
  go_end0
  exact ⟨rfl, (Stp.refl _ _ _).set 4 _, h.set_e e rfl⟩
set_option maxHeartbeats 1000000 in
theorem fails_dead (e : Nat) (h : Rr p B a0 cap b m w t o er a) (he : er ≠ 0) : Calls Try.prog 88 #[.pointer (some ⟨p, 0, none⟩), .int .i64 (e : Int)] w (Still w (.tuple #[])) := by
  obtain ⟨c, c0, c1, c2, c3, c4, f1, f2, f4, -⟩ := h.cells
  have d : ((er : Int) == 0) = false := by simp; omega
  go_enter Try.func88, Try.ntmps88
  go_wp2
  go_end0
  exact ⟨rfl, rfl⟩

set_option maxRecDepth 100000 in
set_option maxHeartbeats 1000000 in
theorem tell_dead (x : Int) (h : Rr p B a0 cap b m w t o er a) (he : er ≠ 0) : Calls Try.prog 99 #[.pointer (some ⟨p, 0, none⟩), .int .u8 x] w (Still w (.tuple #[])) := by
  obtain ⟨c, c0, c1, c2, c3, c4, f1, f2, f4, -⟩ := h.cells
  have d : ((er : Int) != 0) = true := by simp; omega
  go_enter Try.func99, Try.ntmps99
  go_wp2
  go_end0
  exact ⟨rfl, rfl⟩
set_option maxRecDepth 100000 in
set_option maxHeartbeats 1000000 in
theorem tell_full (x : UInt8) (h : Rr p B a0 cap b m w t o 0 a) (hf : m ≤ o.length) : Calls Try.prog 99 #[.pointer (some ⟨p, 0, none⟩), .int .u8 (x.toNat : Int)] w (RNo p B a0 cap b m w a 3 (.tuple #[])) := by
  obtain ⟨c, c0, c1, c2, c3, c4, f1, f2, f4, -⟩ := h.cells
  have d : decide (m ≤ o.length) = true := by simpa using hf
  go_enter Try.func99, Try.ntmps99
  go_wp2
  go_quiet (fail)
  go_wp2_with (go_at_call 88; go_must (refine (fails_live 3 (h.drewN _)).mono ?_); rintro e w1 ⟨rfl, hs, hr⟩)
  go_end0
  exact ⟨a, t, o, rfl, ((Stp.refl p w a).drewN _).trans hs, hr⟩
set_option maxRecDepth 100000 in
set_option maxHeartbeats 1000000 in
theorem tell_ok (x : UInt8) (h : Rr p B a0 cap b m w t o 0 a) (hf : o.length < m) : Calls Try.prog 99 #[.pointer (some ⟨p, 0, none⟩), .int .u8 (x.toNat : Int)] w (ROk p B a0 cap b m w a t (o ++ [x]) (.tuple #[])) := by
  obtain ⟨c, c0, c1, c2, c3, c4, f1, f2, f4, hown⟩ := h.cells
  have d : decide (m ≤ o.length) = false := by simpa using hf
  have hml := h.ml
  have hbp := h.bp
  go_enter Try.func99, Try.ntmps99
  go_wp2
  go_quiet (fail)
  obtain ⟨wd, hwd, hR, hS⟩ : ∃ wd, wd = w.drewN nq ∧ Rr p B a0 cap b m wd t o 0 a ∧ Stp p w a wd a := ⟨_, rfl, h.drewN nq, (Stp.refl p w a).drewN nq⟩
  rw [← hwd]
  clear hwd c0 c1 c2 c3 c4 f1 f2 f4 hown h
  obtain ⟨c, c0, c1, c2, c3, c4, f1, f2, f4, hown⟩ := hR.cells
  obtain ⟨cx, hcell, hownx⟩ := hR.cell
  have hlt := hR.lt
  go_wp2_with (at_builtin; go_must (refine wpList_appB rfl _ _ rfl B a o.length c o rfl (hown.alloc _) _ 1 1 [x] rfl (rb_new _ _ _ _ x rfl rfl) (by omega) (by simp; omega) ?_); intro a' c' w1 hown1 hgrew; have hp1 := heap_grew hgrew (heap_alloc hcell _) (own_ne_cells hown hcell (by decide)); have f10 := free_at (j := 2) hp1; have c12 := cell_at (j := 2) hp1 rfl)
  go_end0
  have hs1 : Stp p wd a w1 a' := ⟨((Mod.refl _ wd).alloc _).trans hgrew.mod (fun _ _ h => h) (fun k hk h => .inr h), by
    rcases hgrew.at_ with h1 | ⟨g, h1, h2⟩
    · exact .inl h1
    · exact .inr ⟨g, h1, by simp at h2; omega⟩⟩
  have hs2 := hs1.set 2 (.slice a' (o.length + 1) c')
  refine ⟨a', rfl, hS.trans hs2, ⟨c', ?_, ?_⟩, fun w' a2 h2 => hR.src w' a2 (hs2.trans h2), hbp, hR.bl, hml, hR.tl, by simp; omega⟩
  · have := heap_set (j := 2) hp1 (.slice a' (o.length + 1) c')
    rw [List.length_append]
    exact this
  · rw [List.length_append]
    exact own_set hown1 (own_ne_cells hown1 hp1 (by decide)) _

theorem idx_in {t : TypeId} {a : Option Addr} {n c b off : Nat} (h : Idx Try.prog t a n c 1 b off) (k : IntKind) (j : Nat) (x : Int) (hx : x = (j : Int)) (hj : j < n) (w : World) :
    (Instr.indexAt t (.slice a n c) (.int k x)).run Try.prog w = .ok (.pointer (some ⟨b, off + j, none⟩)) w := by
  subst hx
  rw [h, if_pos ⟨by omega, by omega⟩, Int.toNat_natCast, Nat.mul_one]

theorem field_dead (n : Nat) (h : Rr p B a0 cap b m w t o er a) (he : er ≠ 0) : Calls Try.prog 84 #[.pointer (some ⟨p, 0, none⟩), .int .i64 (n : Int)] w (Still w (.int .i64 0)) := by
  obtain ⟨c, c0, c1, c2, c3, c4, f1, f2, f4, -⟩ := h.cells
  have d : ((er : Int) == 0) = false := by simp; omega
  go_enter Try.func84, Try.ntmps84
  go_wp2
  go_loop [5, 6] (fun u v => u = .int .i64 0 ∧ v = .int .i64 0) (fun _ _ => 0)
  case atStart => exact ⟨rfl, rfl⟩
  case round =>
    obtain ⟨rfl, rfl⟩ := hrel
    by_cases h0 : 0 < n
    · have d1 : decide ((0 : Int) < n) = true := by simpa using h0
      go_wp2
      go_ret
      exact ⟨rfl, rfl⟩
    · have d1 : decide ((0 : Int) < n) = false := by simpa using h0
      go_wp2
      go_ret
      exact ⟨rfl, rfl⟩

/-- Bit t of the bytes, as the walk reckons it. -/
theorem bit?_some {b : List UInt8} {t : Nat} (h : t / 8 < b.length) : bit? b t = some ((b.getD (t / 8) 0).toNat / 2 ^ (t % 8) % 2) := by
  unfold bit?
  rw [List.getElem?_eq_getElem h, List.getD, List.getElem?_eq_getElem h]
  rfl
theorem bit?_none {b : List UInt8} {t : Nat} (h : ¬ t / 8 < b.length) : bit? b t = none := by
  unfold bit?
  rw [List.getElem?_eq_none (by omega)]
  rfl
theorem wrap64_small {x : Int} (h0 : -9223372036854775808 ≤ x) (h1 : x ≤ 9223372036854775807) : wrap64 x = x := IntWalk.wrap64_in x ⟨h0, h1⟩
theorem and_one8 (x : Nat) (hx : x < 256) : bits .and .u8 (x : Int) 1 = ((x % 2 : Nat) : Int) := by
  show IntKind.u8.wrap (((BitVec.ofInt 8 (x : Int) &&& BitVec.ofInt 8 1).toNat : Nat) : Int) = _
  have h : (BitVec.ofInt 8 (x : Int) &&& BitVec.ofInt 8 1).toNat = x % 2 := by
    rw [BitVec.toNat_and, BitVec.toNat_ofInt, BitVec.toNat_ofInt]
    have e1 : ((1 : Int) % ((2 ^ 8 : Nat) : Int)).toNat = 1 := by decide
    have e2 : ((x : Int) % ((2 ^ 8 : Nat) : Int)).toNat = x := by omega
    rw [e1, e2, Nat.and_one_is_mod]
  rw [h]
  have hs : IntKind.u8.signed = false := rfl
  simp [IntKind.wrap, IntKind.bits, hs]
  omega
theorem or_num {y z k : Nat} (hk : k < 40) (hy : y < 2 ^ k) (hz : z < 2) : bits .or .i64 (y : Int) ((z : Int) * 2 ^ k) = ((y + z * 2 ^ k : Nat) : Int) := by
  have hp : 2 ^ k ≤ 2 ^ 40 := Nat.pow_le_pow_right (by omega) (by omega)
  have hm : z * 2 ^ k ≤ 1 * 2 ^ k := Nat.mul_le_mul_right _ (by omega)
  have e2 : ((z : Int) * 2 ^ k) = ((z * 2 ^ k : Nat) : Int) := by simp
  rw [e2]
  show IntKind.i64.wrap (((BitVec.ofInt 64 (y : Int) ||| BitVec.ofInt 64 ((z * 2 ^ k : Nat) : Int)).toNat : Nat) : Int) = _
  have h : (BitVec.ofInt 64 (y : Int) ||| BitVec.ofInt 64 ((z * 2 ^ k : Nat) : Int)).toNat = y + z * 2 ^ k := by
    rw [BitVec.toNat_or, BitVec.toNat_ofInt, BitVec.toNat_ofInt]
    have e3 : ((y : Int) % ((2 ^ 64 : Nat) : Int)).toNat = y := by omega
    have e4 : (((z * 2 ^ k : Nat) : Int) % ((2 ^ 64 : Nat) : Int)).toNat = z * 2 ^ k := by omega
    rw [e3, e4, Nat.or_comm, ← Nat.shiftLeft_eq, ← Nat.shiftLeft_add_eq_or_of_lt hy, Nat.add_comm]
  rw [h]
  exact wrap_small_i64 (by omega) (by omega)
theorem or_field {b : List UInt8} {j r y k : Nat} (hk : k < 40) (hy : y < 2 ^ k) : bits .or .i64 (y : Int) (wrap64 (wrap64 (bits .and .u8 (at8 b j / 2 ^ r) 1) * 2 ^ k)) = ((y + (b.getD j 0).toNat / 2 ^ r % 2 * 2 ^ k : Nat) : Int) := by
  have h8 := (b.getD j 0).toNat_lt
  have hd : (b.getD j 0).toNat / 2 ^ r ≤ (b.getD j 0).toNat := Nat.div_le_self _ _
  have e : at8 b j / 2 ^ r = (((b.getD j 0).toNat / 2 ^ r : Nat) : Int) := by unfold at8; simp
  rw [e, and_one8 _ (by omega)]
  generalize (b.getD j 0).toNat / 2 ^ r = q
  have hp : 2 ^ k ≤ 2 ^ 40 := Nat.pow_le_pow_right (by omega) (by omega)
  have hm : q % 2 * 2 ^ k ≤ 1 * 2 ^ k := Nat.mul_le_mul_right _ (by omega)
  have e2 : (((q % 2 : Nat) : Int) * 2 ^ k) = ((q % 2 * 2 ^ k : Nat) : Int) := by simp
  have i1 : wrap64 ((q % 2 : Nat) : Int) = ((q % 2 : Nat) : Int) := wrap64_small (by omega) (by omega)
  rw [i1, wrap64_small (by rw [e2]; omega) (by rw [e2]; omega)]
  exact or_num hk hy (Nat.mod_lt _ (by decide))
/-- A field, from bit k on. -/
def FieldPost (p B : Nat) (a0 : Option Addr) (cap : Nat) (b : List UInt8) (m : Nat) (w : World) (a : Option Addr) (r : R Nat) (e : Ending) (w' : World) : Prop :=
  match r with
  | .ok x t o => ROk p B a0 cap b m w a t o (.int .i64 (x : Int)) e w'
  | .no er => RNo p B a0 cap b m w a er (.int .i64 0) e w'
set_option maxRecDepth 100000 in
set_option maxHeartbeats 2000000 in
theorem field_live (n : Nat) (h : Rr p B a0 cap b m w t o 0 a) (hn : n ≤ 16) : Calls Try.prog 84 #[.pointer (some ⟨p, 0, none⟩), .int .i64 (n : Int)] w (FieldPost p B a0 cap b m w a (fieldM n b m t o)) := by
  have hbl := h.bl
  go_enter Try.func84, Try.ntmps84
  go_wp2
  go_loopw [5, 6] (fun u v wr => ∃ (k y t' : Nat), u = .int .i64 y ∧ v = .int .i64 k ∧ k ≤ n ∧ y < 2 ^ k ∧ Rr p B a0 cap b m wr t' o 0 a ∧ Stp p w a wr a ∧ fieldGo (n - k) k y b m t' o = fieldM n b m t o) (fun _ v _ => n - (intOf v).toNat)
  case atStart => exact ⟨0, 0, t, rfl, rfl, by omega, by decide, h, Stp.refl _ _ _, rfl⟩
  case round =>
    obtain ⟨k, y, t', rfl, rfl, hk, hy, hR, hS, hF⟩ := hrel
    obtain ⟨c, c0, c1, c2, c3, c4, f1, f2, f4, -⟩ := hR.cells
    have HF := Lib.hid hF
    have htl := hR.tl
    have ht9 : t' ≤ 8589934592 := by omega
    clear hF
    by_cases hkn : k < n
    · have d1 : decide (k < n) = true := by simpa using hkn
      by_cases ht : t' / 8 < b.length
      · have d3 : decide (b.length ≤ t' / 8) = false := by simp; omega
        have d2 : decide ((b.length : Int) ≤ (t' : Int) / 8) = false := by simp; omega
        obtain ⟨b8, off, hidx, hc⟩ := Rd.open hR.rb 22 5 Try.underlying22 (by kernel_rfl)
        have e1 : wr.cell? ⟨b8, off + t' / 8, none⟩ = some (.int .u8 (at8 b (t' / 8))) := by rw [hc (t' / 8) (by simpa using ht), cB_get]
        have j1 := idx_in hidx .i64 (t' / 8) ((t' : Int) / 8) (by omega) ht
        clear hc hidx
        go_wp2
        go_quiet (fail)
        go_wp2
        go_quiet (fail)
        go_wp2
        obtain ⟨x, hx, hx2⟩ : ∃ x, x = (b.getD (t' / 8) 0).toNat / 2 ^ (t' % 8) % 2 ∧ x < 2 := ⟨_, rfl, Nat.mod_lt _ (by decide)⟩
        have hbit : bits .or .i64 (y : Int) (wrap64 (wrap64 (bits .and .u8 (at8 b (t' / 8) / 2 ^ (t' % 8)) 1) * 2 ^ k)) = ((y + x * 2 ^ k : Nat) : Int) := by
          rw [hx]; exact or_field (by omega) hy
        refine ⟨⟨k + 1, y + x * 2 ^ k, t' + 1, by rw [hbit], by go_num, by omega, ?_, (hR.drewN _).set_t (t' + 1) (by omega) (by omega), (hS.drewN _).set 1 _, ?_⟩, by simp [intOf]; omega⟩
        · have : x * 2 ^ k ≤ 1 * 2 ^ k := Nat.mul_le_mul_right _ (by omega)
          rw [Nat.pow_succ]; omega
        · rw [← HF.out]
          obtain ⟨d, hd⟩ : ∃ d, n - k = d + 1 := ⟨n - k - 1, by omega⟩
          rw [hd, show n - (k + 1) = d by omega]
          have e : bitM b m t' o = .ok x (t' + 1) o := by unfold bitM; rw [bit?_some ht, ← hx]
          show _ = bnd bitM _ b m t' o
          rw [bnd_ok e]
      · have d3 : decide (b.length ≤ t' / 8) = true := by simp; omega
        have d2 : decide ((b.length : Int) ≤ (t' : Int) / 8) = true := by simp; omega
        go_wp2
        go_quiet (fail)
        go_wp2_with (go_at_call 88; go_must (refine (fails_live 4 (hR.drewN _)).mono ?_); rintro e w1 ⟨rfl, hs, hr⟩)
        go_ret
        have e : fieldM n b m t o = .no 4 := by
          rw [← HF.out]
          obtain ⟨d, hd⟩ : ∃ d, n - k = d + 1 := ⟨n - k - 1, by omega⟩
          rw [hd]
          have e : bitM b m t' o = .no 4 := by unfold bitM; rw [bit?_none ht]
          exact bnd_no e
        rw [e]
        exact ⟨a, t', o, rfl, (hS.drewN _).trans hs, hr⟩
    · have hke : k = n := by omega
      subst hke
      go_wp2
      go_ret
      have e := HF.out
      rw [Nat.sub_self] at e
      rw [← e]
      exact ⟨a, rfl, hS, hR⟩
end
end Go.Proofs.Ytpfalaghggjbjaa
