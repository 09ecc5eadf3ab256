/-
  The walks of zlib.Head and zlib.Unpack.
  Conditions: the slice reads as a list of no more than 2^30 bytes; the limit is from 0 to 2^30.
  The walk of zlib.Unpack.
  Conditions: the slice reads as a list of no more than 2^30 bytes; the limit is from 0 to 2^30.
  The plain law of zlib's Pack and Unpack; the walk of sluicegatelaw06.lives.
  Conditions: the argument reads as a list of bytes.
  The walk of the law ZlibBack.
  Conditions: the argument reads as a list of bytes.
  The plain law of a stream that is cut or too long; the walk of the law ZlibWhole.
  Conditions: the argument reads as a list of bytes.
  The plain law of a stream whose check is turned.
  Conditions: none.
  The walk of the law ZlibTurned.
  Conditions: the argument reads as a list of bytes.
-/
import Derived.Test.YtpfalaghggjbjaaWX
import Derived.Test.YtpfalaghggjbjaaYN
import Derived.BigQuiet
import Derived.Laws.BitsAllLaws
namespace Go.Proofs.Ytpfalaghggjbjaa
open Go.RowKit

/-- What zlib.Head says of a head, in the model's own bits. -/
def headP (l : List UInt8) : Nat :=
  if l.length < 2 then 4 else if (at8 l 0 % 16 != 8) = true then 5 else if decide (7 < at8 l 0 / 16) = true then 5 else if (bits BinOp.and IntKind.u8 (at8 l 1 / 32) 1 != 0) = true then 5
  else if ((bits BinOp.or IntKind.i64 (at8 l 0 * 256) (at8 l 1)).tmod 31 != 0) = true then 5 else 0

set_option maxRecDepth 100000 in
set_option maxHeartbeats 8000000 in
theorem head_any (a : Option Addr) (N cap : Nat) (l : List UInt8) (w : World) (h : RB w a N cap l) :
    Calls Try.prog 38 #[.slice a N cap] w fun e w' => e = .returned (.int .i64 (headP l : Nat)) ∧ ∃ k, w' = w.drewN k := by
  obtain rfl := RB.len h
  by_cases hlt : l.length < 2
  · have d : decide ((l.length : Int) < 2) = true := by simp; omega
    have hP : headP l = 4 := by unfold headP; rw [if_pos hlt]
    rw [hP]
    clear hP
    go_enter Try.func38, Try.ntmps38
    go_wp2
    go_ret
    exact ⟨rfl, 0, rfl⟩
  · have d : decide ((l.length : Int) < 2) = false := by simp; omega
    obtain ⟨b1, o1, i1, k1'⟩ := Rd.open h 22 5 Try.underlying22 (by kernel_rfl)
    have k1 : ∀ j, j < l.length → w.cell? ⟨b1, o1 + j, none⟩ = some (.int .u8 (at8 l j)) := fun j hj => by rw [k1' j (by simpa using hj), cB_get]
    have q0 := k1 0 (by omega)
    have q1 := k1 1 (by omega)
    simp only [Nat.add_zero] at q0 q1
    clear k1 k1'
    have hb0 : 0 ≤ at8 l 0 ∧ at8 l 0 ≤ 255 := ⟨at8_lo _ _, at8_hi _ _⟩
    have hb1 : 0 ≤ at8 l 1 ∧ at8 l 1 ≤ 255 := ⟨at8_lo _ _, at8_hi _ _⟩
    obtain ⟨r, hr⟩ : ∃ r, r = headP l := ⟨_, rfl⟩
    rw [← hr]
    unfold headP at hr
    rw [if_neg hlt] at hr
    generalize at8 l 0 = x at *
    generalize at8 l 1 = y at *
    obtain ⟨hb00, hb01⟩ := hb0
    obtain ⟨hb10, hb11⟩ := hb1
    have key : ∀ (c1 c2 c3 c4 : Bool), (x % 16 != 8) = c1 → decide (7 < x / 16) = c2 → (bits BinOp.and IntKind.u8 (y / 32) 1 != 0) = c3 → ((bits BinOp.or IntKind.i64 (x * 256) y).tmod 31 != 0) = c4 →
        Calls Try.prog 38 #[.slice a l.length cap] w fun e w' => e = .returned (.int .i64 ((if c1 = true then 5 else if c2 = true then 5 else if c3 = true then 5 else if c4 = true then 5 else 0 : Nat) : Int)) ∧ ∃ k, w' = w.drewN k := by
      clear hr
      intro c1 c2 c3 c4 h1 h2 h3 h4
      cases c1
      · cases c2
        · cases c3
          · cases c4
            · simp only [Bool.false_eq_true, if_false]
              go_enter Try.func38, Try.ntmps38
              go_wp2
              go_quiet (fail)
              go_wp2
              go_ret
              exact ⟨rfl, nq, rfl⟩
            · simp only [Bool.false_eq_true, if_false, if_true]
              go_enter Try.func38, Try.ntmps38
              go_wp2
              go_quiet (fail)
              go_wp2
              go_ret
              exact ⟨rfl, nq, rfl⟩
          · simp only [Bool.false_eq_true, if_false, if_true]
            clear h4
            go_enter Try.func38, Try.ntmps38
            go_wp2
            go_quiet (fail)
            go_wp2
            go_ret
            exact ⟨rfl, nq, rfl⟩
        · simp only [Bool.false_eq_true, if_false, if_true]
          clear h4 h3
          go_enter Try.func38, Try.ntmps38
          go_wp2
          go_quiet (fail)
          go_wp2
          go_ret
          exact ⟨rfl, nq, rfl⟩
      · simp only [if_true]
        clear h4 h3 h2
        go_enter Try.func38, Try.ntmps38
        go_wp2
        go_quiet (fail)
        go_wp2
        go_ret
        exact ⟨rfl, nq, rfl⟩
    rw [hr]
    exact key _ _ _ _ rfl rfl rfl rfl

/-- Four bytes as a number, in the model's own bits. -/
def beV (x y z t : Int) : Int := bits BinOp.or IntKind.u32 (bits BinOp.or IntKind.u32 (bits BinOp.or IntKind.u32 (x * 16777216) (y * 65536)) (z * 256)) t
def beL (q : List UInt8) : Int := beV (at8 q 0) (at8 q 1) (at8 q 2) (at8 q 3)
/-- What zlib.Unpack makes of what inflate made. -/
def restP (q : List UInt8) (O : List UInt8) : List UInt8 × Nat :=
  if q.length < 4 then ([], 4) else if beL q ≠ (adler O : Int) then ([], 8) else if 4 < q.length then ([], 5) else (O, 0)
def unpackP (l : List UInt8) (m : Nat) : List UInt8 × Nat :=
  if headP l ≠ 0 then ([], headP l) else if (inflateP (l.drop 2) m).2.2 ≠ 0 then ([], (inflateP (l.drop 2) m).2.2)
  else restP (l.drop (2 + (inflateP (l.drop 2) m).2.1)) (inflateP (l.drop 2) m).1
/-- 'It hands back bytes, an error.' -/
def RetU (w : World) (r : List UInt8 × Nat) (e : Ending) (w' : World) : Prop :=
  ∃ a c, e = .returned (.tuple #[.slice a r.1.length c, .int .i64 (r.2 : Int)]) ∧ OB w' w.heap.size a r.1.length c r.1 ∧ Below w.heap.size w w'
theorem headP_len {l : List UInt8} (h : headP l = 0) : 2 ≤ l.length := by
  unfold headP at h
  by_cases hl : l.length < 2
  · rw [if_pos hl] at h; cases h
  · omega
theorem inflateP_le {b : List UInt8} {n : Nat} : (inflateP b n).2.2 ≠ 0 ∨ ((inflateP b n).2.2 = 0 ∧ (inflateP b n).2.1 ≤ b.length) := by
  by_cases h : (inflateP b n).2.2 = 0
  · exact .inr ⟨h, (ends_len h).2.1⟩
  · exact .inl h

set_option maxRecDepth 100000 in
set_option maxHeartbeats 8000000 in
theorem unpack_any (a : Option Addr) (N cap m : Nat) (l : List UInt8) (w : World) (hl : l.length ≤ 1073741824) (hm : m ≤ 1073741824) (h : RB w a N cap l) :
    Calls Try.prog 36 #[.slice a N cap, .int .i64 (m : Int)] w (RetU w (unpackP l m)) := by
  obtain rfl := RB.len h
  have hd := fun w h => head_any a l.length cap l w h
  have hcap := h.le
  by_cases hh : headP l = 0
  · have hlen := headP_len hh
    have hI := fun a n c w => inflate_any a n c m (l.drop 2) w (by simp; omega) hm
    have hle := @inflateP_le (l.drop 2) m
    rw [hh] at hd
    unfold unpackP
    rw [if_neg (by simp [hh])]
    clear hh
    generalize inflateP (l.drop 2) m = R at *
    obtain ⟨O, n, er⟩ := R
    simp only at hI hle ⊢
    rcases hle with he | ⟨rfl, hle⟩
    · rw [if_pos he]
      have d3 : ((er : Int) != 0) = true := by simp; omega
      clear he
      go_enter Try.func36, Try.ntmps36
      go_wp2_with (first
        | (go_at_call 38; go_must (refine (hd _ h).mono ?_); rintro e w1 ⟨rfl, k1, rfl⟩)
        | (refine wpList_slL rfl _ _ rfl a l.length cap 2 .i64 _ rfl rfl rfl (by omega) ?_)
        | (go_at_call 31; go_must (refine (hI _ _ _ _ (rb_l (RB.drewN h k1) (lo := 2) hlen)).mono ?_); rintro e w2 ⟨a2, c2, rfl, ho2, hb2⟩))
      go_ret2
      exact ⟨none, 0, rfl, World.ownsRow_nil _ _ _ _, (below_drewN (Below.refl w.heap.size w) k1).trans hb2⟩
    · rw [if_neg (by simp)]
      simp only [List.length_drop] at hle
      have hn30 : n ≤ 1073741824 := by omega
      have hadd : (2 : Int) + (n : Int) = ((2 + n : Nat) : Int) := by omega
      have hrq : ∀ wx, Below w.heap.size w wx → RB wx (adv a cap (2 + n)) (l.length - (2 + n)) (cap - (2 + n)) (l.drop (2 + n)) := fun wx hx => rb_l (rd_below0 h hx) (by omega)
      have hql : (l.drop (2 + n)).length = l.length - (2 + n) := by simp
      generalize haq : adv a cap (2 + n) = aq at *
      generalize l.drop (2 + n) = q at *
      generalize hLq : l.length - (2 + n) = Lq at *
      generalize hcq : cap - (2 + n) = cq at *
      obtain rfl := hql
      have Hadd := Lib.hid hadd
      have Hle := Lib.hid hle
      have HLq := Lib.hid hLq
      have Haq := Lib.hid haq
      have Hcq := Lib.hid hcq
      clear hadd hle hLq haq hcq
      unfold restP
      by_cases h4 : q.length < 4
      · rw [if_pos h4]
        have d4 : decide ((q.length : Int) < 4) = true := by simp; omega
        go_enter Try.func36, Try.ntmps36
        go_wp2_with (first
          | (go_at_call 38; go_must (refine (hd _ h).mono ?_); rintro e w1 ⟨rfl, k1, rfl⟩)
          | (refine wpList_slL rfl _ _ rfl a l.length cap 2 .i64 _ rfl rfl rfl (by omega) ?_)
          | (refine wpList_slL rfl _ _ rfl a l.length cap (2 + n) .i64 _ rfl rfl Hadd.out (by have := Hle.out; omega) ?_; rw [Haq.out, HLq.out, Hcq.out])
          | (go_at_call 31; go_must (refine (hI _ _ _ _ (rb_l (RB.drewN h k1) (lo := 2) hlen)).mono ?_); rintro e w2 ⟨a2, c2, rfl, ho2, hb2⟩))
        go_ret2
        exact ⟨none, 0, rfl, World.ownsRow_nil _ _ _ _, (below_drewN (Below.refl w.heap.size w) k1).trans hb2⟩
      · rw [if_neg h4]
        have d4 : decide ((q.length : Int) < 4) = false := by simp; omega
        obtain ⟨c8, h8⟩ : ∃ c8 : Bool, c8 = (beL q != (adler O : Int)) := ⟨_, rfl⟩
        obtain ⟨c5, h5⟩ : ∃ c5 : Bool, c5 = decide ((4 : Int) < q.length) := ⟨_, rfl⟩
        have hr : (if beL q ≠ (adler O : Int) then (([], 8) : List UInt8 × Nat) else if 4 < q.length then ([], 5) else (O, 0)) = (if c8 = true then ([], 8) else if c5 = true then ([], 5) else (O, 0)) := by
          have e : ((4 : Int) < q.length) ↔ 4 < q.length := by omega
          rw [h8, h5]; simp [e]
        rw [hr]
        clear hr
        have HC := h8.symm
        clear h8
        have H5 := h5.symm
        clear h5
        unfold beL beV at HC
        cases c8 <;> cases c5 <;> simp only [Bool.false_eq_true, if_false, if_true]
        all_goals
          go_enter Try.func36, Try.ntmps36
          go_wp2_with (first
            | (go_at_call 38; go_must (refine (hd _ h).mono ?_); rintro e w1 ⟨rfl, k1, rfl⟩)
            | (refine wpList_slL rfl _ _ rfl a l.length cap 2 .i64 _ rfl rfl rfl (by omega) ?_)
            | (refine wpList_slL rfl _ _ rfl a l.length cap (2 + n) .i64 _ rfl rfl Hadd.out (by have := Hle.out; omega) ?_; rw [Haq.out, HLq.out, Hcq.out])
            | (go_at_call 31; go_must (refine (hI _ _ _ _ (rb_l (RB.drewN h k1) (lo := 2) hlen)).mono ?_); rintro e w2 ⟨a2, c2, rfl, ho2, hb2⟩))
          have hb := (below_drewN (Below.refl w.heap.size w) k1).trans hb2
          obtain ⟨b1, o1, i1, kc'⟩ := Rd.open (hrq _ hb) 22 5 Try.underlying22 (by kernel_rfl)
          have kc : ∀ j, j < q.length → w2.cell? ⟨b1, o1 + j, none⟩ = some (.int .u8 (at8 q j)) := fun j hj => by rw [kc' j (by simpa using hj), cB_get]
          have q0 := kc 0 (by omega)
          have q1 := kc 1 (by omega)
          have q2 := kc 2 (by omega)
          have q3 := kc 3 (by omega)
          simp only [Nat.add_zero] at q0
          clear kc kc'
          have ⟨x0, x1⟩ : 0 ≤ at8 q 0 ∧ at8 q 0 ≤ 255 := ⟨at8_lo _ _, at8_hi _ _⟩
          have ⟨y0, y1⟩ : 0 ≤ at8 q 1 ∧ at8 q 1 ≤ 255 := ⟨at8_lo _ _, at8_hi _ _⟩
          have ⟨z0, z1⟩ : 0 ≤ at8 q 2 ∧ at8 q 2 ≤ 255 := ⟨at8_lo _ _, at8_hi _ _⟩
          have ⟨t0, t1⟩ : 0 ≤ at8 q 3 ∧ at8 q 3 ≤ 255 := ⟨at8_lo _ _, at8_hi _ _⟩
          generalize at8 q 0 = x at *
          generalize at8 q 1 = y at *
          generalize at8 q 2 = z at *
          generalize at8 q 3 = t at *
          have hq4 : 4 ≤ q.length := by omega
          go_quiet (fail)
          go_wp2_with (go_at_call 64; go_must (refine (sum_any a2 O.length c2 O _ (OB.rb (ho2.drewN nq))).mono ?_); rintro e w3 ⟨rfl, rfl⟩)
          go_ret2
          first
            | exact ⟨none, 0, rfl, World.ownsRow_nil _ _ _ _, below_drewN hb _⟩
            | exact ⟨a2, c2, rfl, ho2.drewN _, below_drewN hb _⟩
  · have hP : unpackP l m = ([], headP l) := by unfold unpackP; rw [if_pos hh]
    rw [hP]
    clear hP
    have d3 : ((headP l : Int) != 0) = true := by simp; omega
    generalize headP l = er at *
    go_enter Try.func36, Try.ntmps36
    go_wp2_with (first
      | (go_at_call 38; go_must (refine (hd _ h).mono ?_); rintro e w1 ⟨rfl, k1, rfl⟩))
    go_ret2
    exact ⟨none, 0, rfl, World.ownsRow_nil _ _ _ _, below_drewN (Below.refl _ _) _⟩

theorem or_u32 (a b i : Nat) (ha : a * 2 ^ i < 4294967296) (hb : b < 2 ^ i) (hb2 : b < 4294967296) : bits .or .u32 ((a * 2 ^ i : Nat) : Int) (b : Int) = ((a * 2 ^ i + b : Nat) : Int) := by
  have hor : a * 2 ^ i ||| b = a * 2 ^ i + b := by
    rw [← Nat.shiftLeft_eq, Nat.shiftLeft_add_eq_or_of_lt hb]
  generalize a * 2 ^ i = A at *
  have hx : A ||| b < 2 ^ 32 := Nat.or_lt_two_pow (by omega) (by omega)
  have h1 : (BitVec.ofInt 32 (A : Int)).toNat = A := by
    rw [BitVec.ofInt_natCast, BitVec.toNat_ofNat]; exact Nat.mod_eq_of_lt (by omega)
  have h2 : (BitVec.ofInt 32 (b : Int)).toNat = b := by
    rw [BitVec.ofInt_natCast, BitVec.toNat_ofNat]; exact Nat.mod_eq_of_lt (by omega)
  show IntKind.u32.wrap ((BitVec.ofInt 32 (A : Int) ||| BitVec.ofInt 32 (b : Int)).toNat : Int) = _
  rw [BitVec.toNat_or, h1, h2, ← hor]
  simp only [IntKind.wrap, IntKind.bits, IntKind.signed]
  simp
  omega
theorem beL_be4 {s : Nat} (h : s < 4294967296) : beL (be4 s) = (s : Int) := by
  have e0 : at8 (be4 s) 0 = ((s / 16777216 : Nat) : Int) := by simp [at8, be4, List.getD]; omega
  have e1 : at8 (be4 s) 1 = ((s / 65536 % 256 : Nat) : Int) := by simp [at8, be4, List.getD]
  have e2 : at8 (be4 s) 2 = ((s / 256 % 256 : Nat) : Int) := by simp [at8, be4, List.getD]
  have e3 : at8 (be4 s) 3 = ((s % 256 : Nat) : Int) := by simp [at8, be4, List.getD]
  unfold beL beV
  rw [e0, e1, e2, e3]
  have f1 := or_u32 (s / 16777216) (s / 65536 % 256 * 65536) 24 (by omega) (by omega) (by omega)
  have f2 := or_u32 (s / 65536) (s / 256 % 256 * 256) 16 (by omega) (by omega) (by omega)
  have f3 := or_u32 (s / 256) (s % 256) 8 (by omega) (by omega) (by omega)
  rw [show ((s / 16777216 : Nat) : Int) * 16777216 = ((s / 16777216 * 2 ^ 24 : Nat) : Int) by omega, show ((s / 65536 % 256 : Nat) : Int) * 65536 = ((s / 65536 % 256 * 65536 : Nat) : Int) by omega, f1]
  rw [show s / 16777216 * 2 ^ 24 + s / 65536 % 256 * 65536 = s / 65536 * 2 ^ 16 by omega, show ((s / 256 % 256 : Nat) : Int) * 256 = ((s / 256 % 256 * 256 : Nat) : Int) by omega, f2]
  rw [show s / 65536 * 2 ^ 16 + s / 256 % 256 * 256 = s / 256 * 2 ^ 8 by omega, f3]
  omega
theorem head_pack (l : List UInt8) : headP (packP l) = 0 := by
  have e0 : at8 (packP l) 0 = 120 := by simp [at8, packP, List.getD]
  have e1 : at8 (packP l) 1 = 1 := by simp [at8, packP, List.getD]
  unfold headP
  rw [if_neg (by simp [packP]), e0, e1]
  decide +kernel
theorem pack_drop (l : List UInt8) : (packP l).drop 2 = deflateP l ++ be4 (adler l) := by simp [packP]
theorem pack_rest (l : List UInt8) : (packP l).drop (2 + (deflateP l).length) = be4 (adler l) := by
  rw [← List.drop_drop, pack_drop, List.drop_left]
theorem inflate_pack {l : List UInt8} (h : l.length ≤ 65535) {m : Nat} (hm : l.length ≤ m) (c : List UInt8) : inflateP (deflateP l ++ c) m = (l, (deflateP l).length, 0) := by
  have hb := (back_deflate h).1
  have := ends_same (b := deflateP l) (n := l.length) (c := c) (m := m) (by rw [hb]) (by rw [hb]; exact hm)
  rw [hb] at this
  simpa using this
theorem unpack_pack {l : List UInt8} (h : l.length ≤ 65535) {m : Nat} (hm : l.length ≤ m) : unpackP (packP l) m = (l, 0) := by
  unfold unpackP
  rw [head_pack, pack_drop, inflate_pack h hm, pack_rest]
  unfold restP
  rw [beL_be4 (adler_lt l)]
  simp [be4]
theorem unpack_less {l : List UInt8} (h : l.length ≤ 65535) {m : Nat} (hm : m < l.length) : unpackP (packP l) m = ([], 3) := by
  have hl := ends_long (b := deflateP l ++ be4 (adler l)) (n := l.length) (m := m) (by rw [inflate_pack h (Nat.le_refl _)]; exact hm)
  unfold unpackP
  rw [head_pack, pack_drop, hl]
  simp
theorem packP_len (l : List UInt8) : (packP l).length ≤ 6 * l.length + 11 := by
  have := deflateP_length l
  simp [packP, be4]; omega
theorem un_a : unpackP [120, 1, 75, 4, 0, 0, 98, 0, 98] 1 = ([97], 0) := by decide +kernel
theorem pk_a : packP [97] = [120, 1, 75, 4, 0, 0, 98, 0, 98] := by decide +kernel

set_option maxRecDepth 100000 in
set_option maxHeartbeats 4000000 in
theorem lives6_any (w : World) : Calls Try.prog 35 #[] w (TruePost w) := by
  have hA : ∀ a n c w, RB w a n c [120, 1, 75, 4, 0, 0, 98, 0, 98] → Calls Try.prog 36 #[.slice a n c, .int .i64 1] w (RetU w ([97], 0)) := fun a n c w h => by
    have := unpack_any a n c 1 [120, 1, 75, 4, 0, 0, 98, 0, 98] w (by decide) (by decide) h
    rw [un_a] at this
    exact this
  have hB := fun a n c w => pack_any a n c [97] w (by decide)
  rw [pk_a] at hB
  have hC := fun a b n m c d l w => sameBytes_any a b n m c d l l w
  have hcv := conv22
  go_enter Try.func35, Try.ntmps35
  go_wp2_with (first
    | (go_at_call 36; go_must (refine (hA (some ⟨w.heap.size, 0, none⟩) 9 9 _ (rb_news rfl rfl rfl (by decide))).mono ?_); rintro e w1 ⟨a1, c1, rfl, ho1, hb1⟩
       have hz1 := hb1.size
       rw [World.size_alloc] at hz1)
    | (go_at_call 40; go_must (refine (hB (some ⟨w1.heap.size, 0, none⟩) 1 1 _ (rb_mark rfl rfl rfl (by omega))).mono ?_); rintro e w2 ⟨a2, c2, rfl, ho2, hb2⟩
       have hb3 : ∀ o, Below w1.heap.size w1 (w2.alloc o) := fun o => ((Below.refl w1.heap.size w1).alloc (Nat.le_refl _) _).trans ((hb2.mono (by rw [World.size_alloc]; omega)).alloc (by have := hb2.size; rw [World.size_alloc] at this; omega) o)
       have e1 : ∀ o, (convert 22 9 (.slice a1 1 c1)).run Try.prog (w2.alloc o) = .ok (.string ⟨#[97]⟩) (w2.alloc o) := fun o => run_str (rd_below ho1.rb (hb3 o) (fun g hg => (ho1.blk g hg).2)))
    | (go_at_call 21; go_must (refine (hC a2 _ _ _ _ _ [120, 1, 75, 4, 0, 0, 98, 0, 98] _ (OB.rb (ho2.alloc _)) (rb_news rfl rfl rfl (by decide))).mono ?_); rintro e w3 ⟨rfl, rfl⟩))
  go_ret
  refine ⟨rfl, ?_⟩
  simp only [World.size_alloc] at hb1
  exact (((Below.refl w.heap.size w).alloc (Nat.le_refl _) _).trans (hb1.mono (by omega))).trans ((hb3 _).mono (by omega))

set_option maxRecDepth 100000 in
set_option maxHeartbeats 1000000 in
theorem zlibBack_any (a : Option Addr) (N cap : Nat) (l : List UInt8) (n : Int) (w : World) (h : RB w a N cap l) :
    Calls Try.prog 11 #[.slice a N cap, .int .i64 n] w (TruePost w) := by
  obtain rfl := RB.len h
  by_cases hlt : 1200 < l.length
  · have d : decide ((1200 : Int) < l.length) = true := by simp; omega
    go_enter Try.func11, Try.ntmps11
    go_wp2_with (go_at_call 35; go_must (refine (lives6_any _).mono ?_); rintro e w1 ⟨rfl, hb1⟩)
    go_ret
    exact ⟨rfl, hb1⟩
  have d : decide ((1200 : Int) < l.length) = false := by simp; omega
  by_cases hn : n < 0
  · have d2 : decide (n < 0) = true := by simpa using hn
    go_enter Try.func11, Try.ntmps11
    go_wp2_with (go_at_call 35; go_must (refine (lives6_any _).mono ?_); rintro e w1 ⟨rfl, hb1⟩)
    go_ret
    exact ⟨rfl, hb1⟩
  obtain ⟨m, rfl⟩ := Int.eq_ofNat_of_zero_le (show 0 ≤ n by omega)
  clear hn
  have hl6 : l.length ≤ 65535 := by omega
  have hl : l.length ≤ 1073741824 := by omega
  have hpl := packP_len l
  have hU0 : ∀ a N c w, RB w a N c (packP l) → Calls Try.prog 36 #[.slice a N c, .int .i64 (l.length : Int)] w (RetU w (l, 0)) := fun a N c w h => by
    have := unpack_any a N c l.length _ w (by omega) hl h
    rw [unpack_pack hl6 (Nat.le_refl _)] at this
    exact this
  have hU1 : ∀ q : Nat, q ≤ 20000 → ∀ a N c w, RB w a N c (packP l) → Calls Try.prog 36 #[.slice a N c, .int .i64 ((l.length : Int) + (q : Int))] w (RetU w (l, 0)) := fun q hq a N c w h => by
    have := unpack_any a N c (l.length + q) _ w (by omega) (by omega) h
    rw [unpack_pack hl6 (by omega)] at this
    exact this
  have hU2 : 0 < l.length → ∀ a N c w, RB w a N c (packP l) → Calls Try.prog 36 #[.slice a N c, .int .i64 ((l.length : Int) - 1)] w (RetU w ([], 3)) := fun h0 a N c w h => by
    have := unpack_any a N c (l.length - 1) _ w (by omega) (by omega) h
    rw [unpack_less hl6 (by omega), show ((l.length - 1 : Nat) : Int) = (l.length : Int) - 1 by omega] at this
    exact this
  have hH := fun a N c w => head_any a N c (packP l) w
  rw [head_pack l] at hH
  have hP := fun w => pack_any a l.length cap l w hl
  have hC := fun a b n m c d l w => sameBytes_any a b n m c d l l w
  generalize packP l = P at *
  obtain ⟨q, hq⟩ : ∃ q : Nat, q = min m 20000 := ⟨_, rfl⟩
  have hq1 : q ≤ 20000 := by omega
  have hmin : (if (m : Int) < 20000 then (m : Int) else 20000) = (q : Int) := by split <;> omega
  have hmin2 : (if (20000 : Int) < m then 20000 else (m : Int)) = (q : Int) := by split <;> omega
  have hU1 := hU1 q hq1
  clear hq
  by_cases h0 : l.length = 0
  · have g0 : ((l.length : Int) == 0) = true := by simp; exact List.eq_nil_of_length_eq_zero h0
    clear hU2 h0
    go_enter Try.func11, Try.ntmps11
    go_wp2_with (first
      | (go_at_call 35; go_must (refine (lives6_any _).mono ?_); rintro e w1 ⟨rfl, hb1⟩)
      | (go_at_call 40; go_must (refine (hP w1 (rd_below0 h hb1)).mono ?_); rintro e w2 ⟨a2, c2, rfl, ho2, hb2⟩; have b2 := hb1.trans (hb2.mono hb1.size))
      | (go_at_call 36; have _t := hb3; go_must (refine (hU1 _ _ _ w3 (rd_below (OB.rb ho2) hb3 (fun g hg => (ho2.blk g hg).2))).mono ?_); rintro e w4 ⟨a4, c4, rfl, ho4, hb4⟩; have b4 := b3.trans (hb4.mono b3.size); have b24 := hb3.trans (hb4.mono hb3.size))
      | (go_at_call 36; go_must (refine (hU0 _ _ _ w2 (OB.rb ho2)).mono ?_); rintro e w3 ⟨a3, c3, rfl, ho3, hb3⟩; have b3 := b2.trans (hb3.mono b2.size))
      | (go_at_call 21; have _t := y3; go_must (refine (hC a4 a _ _ _ _ l w4 (OB.rb ho4) (rd_below0 h b4)).mono ?_); rintro e wx ⟨rfl, rfl⟩)
      | (go_at_call 21; go_must (refine (hC a3 a _ _ _ _ l w4 (rd_below (OB.rb ho3) hb4 (fun g hg => (ho3.blk g hg).2)) (rd_below0 h b4)).mono ?_); rintro e wx ⟨rfl, rfl⟩; have y3 := 0)
      | (go_at_call 38; go_must (refine (hH _ _ _ w4 (rd_below (OB.rb ho2) b24 (fun g hg => (ho2.blk g hg).2))).mono ?_); rintro e wx ⟨rfl, k5, rfl⟩))
    go_ret
    exact ⟨rfl, below_drewN b4 _⟩
  · have h0' : 0 < l.length := by omega
    have g0 : ((l.length : Int) == 0) = false := by simp; intro hh; subst hh; exact h0 rfl
    have hU2 := hU2 h0'
    clear h0
    go_enter Try.func11, Try.ntmps11
    go_wp2_with (first
      | (go_at_call 35; go_must (refine (lives6_any _).mono ?_); rintro e w1 ⟨rfl, hb1⟩)
      | (go_at_call 40; go_must (refine (hP w1 (rd_below0 h hb1)).mono ?_); rintro e w2 ⟨a2, c2, rfl, ho2, hb2⟩; have b2 := hb1.trans (hb2.mono hb1.size))
      | (go_at_call 36; have _t := hb4; go_must (refine (hU2 _ _ _ _ (RB.drewN (rd_below (OB.rb ho2) b24 (fun g hg => (ho2.blk g hg).2)) k5)).mono ?_); rintro e w5 ⟨a5, c5, rfl, ho5, hb5⟩; have b5 := (below_drewN b4 k5).trans (hb5.mono b4.size))
      | (go_at_call 36; have _t := hb3; go_must (refine (hU1 _ _ _ w3 (rd_below (OB.rb ho2) hb3 (fun g hg => (ho2.blk g hg).2))).mono ?_); rintro e w4 ⟨a4, c4, rfl, ho4, hb4⟩; have b4 := b3.trans (hb4.mono b3.size); have b24 := hb3.trans (hb4.mono hb3.size))
      | (go_at_call 36; go_must (refine (hU0 _ _ _ w2 (OB.rb ho2)).mono ?_); rintro e w3 ⟨a3, c3, rfl, ho3, hb3⟩; have b3 := b2.trans (hb3.mono b2.size))
      | (go_at_call 21; have _t := y3; go_must (refine (hC a4 a _ _ _ _ l w4 (OB.rb ho4) (rd_below0 h b4)).mono ?_); rintro e wx ⟨rfl, rfl⟩)
      | (go_at_call 21; go_must (refine (hC a3 a _ _ _ _ l w4 (rd_below (OB.rb ho3) hb4 (fun g hg => (ho3.blk g hg).2)) (rd_below0 h b4)).mono ?_); rintro e wx ⟨rfl, rfl⟩; have y3 := 0)
      | (go_at_call 38; go_must (refine (hH _ _ _ w4 (rd_below (OB.rb ho2) b24 (fun g hg => (ho2.blk g hg).2))).mono ?_); rintro e wx ⟨rfl, k5, rfl⟩))
    go_ret
    exact ⟨rfl, b5⟩

theorem head_two (q : List UInt8) : headP (120 :: 1 :: q) = 0 := by
  have e0 : at8 (120 :: 1 :: q) 0 = 120 := by simp [at8, List.getD]
  have e1 : at8 (120 :: 1 :: q) 1 = 1 := by simp [at8, List.getD]
  unfold headP
  rw [if_neg (by simp), e0, e1]
  decide +kernel
theorem pack_two (l : List UInt8) : packP l = 120 :: 1 :: (deflateP l ++ be4 (adler l)) := by simp [packP]
theorem unpack_two (q : List UInt8) (m : Nat) {O : List UInt8} {n er : Nat} (h : inflateP q m = (O, n, er)) : unpackP (120 :: 1 :: q) m = if er ≠ 0 then ([], er) else restP (q.drop n) O := by
  unfold unpackP
  have e : (120 :: 1 :: q).drop (2 + n) = q.drop n := by rw [Nat.add_comm]; rfl
  rw [head_two, show (120 :: 1 :: q).drop 2 = q from rfl, h]
  simp only [e]
  simp
theorem unpack_cut {l : List UInt8} (h : l.length ≤ 65535) {i : Nat} (hi : i < (packP l).length) : unpackP ((packP l).take i) l.length = ([], 4) := by
  rw [pack_two] at hi ⊢
  match i, hi with
  | 0, _ => simp [unpackP, headP]
  | 1, _ => simp [unpackP, headP]
  | j + 2, hi =>
    rw [show (120 :: 1 :: (deflateP l ++ be4 (adler l))).take (j + 2) = 120 :: 1 :: (deflateP l ++ be4 (adler l)).take j from rfl]
    have hr := inflate_pack h (Nat.le_refl _) (be4 (adler l))
    by_cases hj : j < (deflateP l).length
    · have := ends_short (b := deflateP l ++ be4 (adler l)) (n := l.length) (k := j) (by rw [hr]) (by rw [hr]; exact hj)
      rw [unpack_two _ _ this, if_pos (by decide)]
    · have hc : (deflateP l ++ be4 (adler l)).take j = deflateP l ++ (be4 (adler l)).take (j - (deflateP l).length) := by
        rw [List.take_append, List.take_of_length_le (by omega)]
      rw [hc, unpack_two _ _ (inflate_pack h (Nat.le_refl _) _), if_neg (by decide), List.drop_left]
      unfold restP
      rw [if_pos]
      simp only [List.length_cons, List.length_append] at hi
      have h4 : (be4 (adler l)).length = 4 := rfl
      rw [List.length_take, h4]
      omega
theorem unpack_long {l : List UInt8} (h : l.length ≤ 65535) (x : UInt8) : unpackP (packP l ++ [x]) l.length = ([], 5) := by
  rw [pack_two, List.cons_append, List.cons_append, List.append_assoc, unpack_two _ _ (inflate_pack h (Nat.le_refl _) _), if_neg (by decide), List.drop_left]
  unfold restP
  have e : beL (be4 (adler l) ++ [x]) = beL (be4 (adler l)) := rfl
  rw [e, beL_be4 (adler_lt l)]
  simp [be4]

set_option maxRecDepth 100000 in
set_option maxHeartbeats 1000000 in
theorem zlibWhole_any (a : Option Addr) (N cap : Nat) (l : List UInt8) (x : UInt8) (w : World) (h : RB w a N cap l) :
    Calls Try.prog 13 #[.slice a N cap, .int .u8 (x.toNat : Int)] w (TruePost w) := by
  obtain rfl := RB.len h
  by_cases hlt : 300 < l.length
  · have d : decide ((300 : Int) < l.length) = true := by simp; omega
    go_enter Try.func13, Try.ntmps13
    go_wp2_with (go_at_call 35; go_must (refine (lives6_any _).mono ?_); rintro e w1 ⟨rfl, hb1⟩)
    go_ret
    exact ⟨rfl, hb1⟩
  have d : decide ((300 : Int) < l.length) = false := by simp; omega
  have hl6 : l.length ≤ 65535 := by omega
  have hl : l.length ≤ 1073741824 := by omega
  have hpl := packP_len l
  have hU : ∀ i, i < (packP l).length → ∀ a N c w, RB w a N c ((packP l).take i) → Calls Try.prog 36 #[.slice a N c, .int .i64 (l.length : Int)] w (RetU w ([], 4)) := fun i hi a N c w h => by
    have := unpack_any a N c l.length _ w (by simp; omega) hl h
    rw [unpack_cut hl6 hi] at this
    exact this
  have hW : ∀ a N c w, RB w a N c (packP l ++ [x]) → Calls Try.prog 36 #[.slice a N c, .int .i64 (l.length : Int)] w (RetU w ([], 5)) := fun a N c w h => by
    have := unpack_any a N c l.length _ w (by simp; omega) hl h
    rw [unpack_long hl6 x] at this
    exact this
  have hP := fun w => pack_any a l.length cap l w hl
  generalize packP l = P at *
  go_enter Try.func13, Try.ntmps13
  go_wp2_with (first
    | (go_at_call 35; go_must (refine (lives6_any _).mono ?_); rintro e w1 ⟨rfl, hb1⟩)
    | (go_at_call 40; go_must (refine (hP w1 (rd_below0 h hb1)).mono ?_); rintro e w2 ⟨a2, c2, rfl, ho2, hb2⟩; have b2 := hb1.trans (hb2.mono hb1.size)))
  have qp : ∀ wx, Below w2.heap.size w2 wx → RB wx a2 P.length c2 P := fun wx hx => rd_below (OB.rb ho2) hx (fun g hg => (ho2.blk g hg).2)
  have hcp := (OB.rb ho2).le
  clear hP
  go_loopw [6] (fun u wr => ∃ i : Nat, u = .int .i64 i ∧ i ≤ P.length ∧ Below w2.heap.size w2 wr) (fun u _ => P.length - (intOf u).toNat)
  case atStart => exact ⟨0, rfl, by omega, Below.refl _ _⟩
  case round =>
    obtain ⟨i, rfl, hi, hbr⟩ := hrel
    by_cases hil : i < P.length
    · have d1 : decide ((i : Int) < P.length) = true := by simp; omega
      have hUi := hU i hil
      clear hU
      go_wp2_with (first
        | (refine wpList_slH rfl _ _ rfl a2 P.length c2 i .i64 _ rfl rfl rfl (by omega) ?_; rw [adv0])
        | (go_at_call 36; go_must (refine (hUi a2 i c2 _ (by have := rb_h (qp _ hbr) (hi := i) (by omega); rw [adv0] at this; exact this)).mono ?_); rintro e w3 ⟨a3, c3, rfl, ho3, hb3⟩))
      exact ⟨⟨i + 1, by go_num, by omega, hbr.trans (hb3.mono hbr.size)⟩, by simp [intOf]; omega⟩
    · obtain rfl : i = P.length := by omega
      clear hU
      have hm2 := ob_made (w := wr) (B := wr.heap.size) (c := #[]) (l := []) rfl rfl rfl (by decide) (Nat.le_refl _)
      have b20 := (Below.refl wr.heap.size wr).alloc (Nat.le_refl _) (.cells #[] 5)
      go_wp2_with (first
        | (go_at_call 36; go_must (refine (hW _ _ _ _ (OB.rb ho5)).mono ?_); rintro e w6 ⟨a6, c6, rfl, ho6, hb6⟩)
        | (at_builtin; have _t := hg4; go_must (refine wpList_appB rfl _ _ rfl wr.heap.size a4 P.length c4 P rfl (ho4.alloc _) _ 1 1 [x] rfl (rb_new _ _ _ _ x rfl rfl) (by omega) (by rw [World.size_alloc]; have := b4.size; omega) ?_); intro a5 c5 w5 ho5 hg5
           have b5 := below_grew (b4.alloc b4.size _) hg5 (by rw [World.size_alloc]; have := b4.size; omega) (fun g hg => (ho4.blk g hg).1))
        | (at_builtin; go_must (refine wpList_appB rfl _ _ rfl wr.heap.size _ 0 0 [] rfl hm2 a2 P.length c2 P rfl (qp _ (hbr.trans (b20.mono hbr.size))) (by omega) (by rw [World.size_alloc]; omega) ?_); intro a4 c4 w4 ho4 hg4; rw [Nat.zero_add, List.nil_append] at ho4
           have b4 := below_grew b20 hg4 (by rw [World.size_alloc]; omega) (fun g hg => (hm2.blk g hg).1)))
      go_ret
      exact ⟨rfl, b2.trans ((hbr.trans ((b5.trans (hb6.mono b5.size)).mono hbr.size)).mono b2.size)⟩

theorem beL_four (x y z t : UInt8) : beL [x, y, z, t] = ((x.toNat * 16777216 + y.toNat * 65536 + z.toNat * 256 + t.toNat : Nat) : Int) := by
  have hx := x.toNat_lt
  have hy := y.toNat_lt
  have hz := z.toNat_lt
  have ht := t.toNat_lt
  show beV (x.toNat : Int) (y.toNat : Int) (z.toNat : Int) (t.toNat : Int) = _
  unfold beV
  have f1 := or_u32 x.toNat (y.toNat * 65536) 24 (by omega) (by omega) (by omega)
  have f2 := or_u32 (x.toNat * 256 + y.toNat) (z.toNat * 256) 16 (by omega) (by omega) (by omega)
  have f3 := or_u32 (x.toNat * 65536 + y.toNat * 256 + z.toNat) t.toNat 8 (by omega) (by omega) (by omega)
  rw [show (x.toNat : Int) * 16777216 = ((x.toNat * 2 ^ 24 : Nat) : Int) by omega, show (y.toNat : Int) * 65536 = ((y.toNat * 65536 : Nat) : Int) by omega, f1]
  rw [show x.toNat * 2 ^ 24 + y.toNat * 65536 = (x.toNat * 256 + y.toNat) * 2 ^ 16 by omega, show (z.toNat : Int) * 256 = ((z.toNat * 256 : Nat) : Int) by omega, f2]
  rw [show (x.toNat * 256 + y.toNat) * 2 ^ 16 + z.toNat * 256 = (x.toNat * 65536 + y.toNat * 256 + z.toNat) * 2 ^ 8 by omega, f3]
theorem xor_same {a b : UInt8} (h : a ^^^ b = a) : b = 0 := by
  have : a ^^^ (a ^^^ b) = a ^^^ a := by rw [h]
  rw [← UInt8.xor_assoc, UInt8.xor_self, UInt8.zero_xor] at this
  exact this
/-- The bytes of d, the highest first. -/
def turned (s d : Nat) : List UInt8 := [UInt8.ofNat (s / 16777216) ^^^ UInt8.ofNat (d / 16777216), UInt8.ofNat (s / 65536) ^^^ UInt8.ofNat (d / 65536), UInt8.ofNat (s / 256) ^^^ UInt8.ofNat (d / 256), UInt8.ofNat s ^^^ UInt8.ofNat d]
theorem beL_turned {s d : Nat} (hs : s < 4294967296) (hd : d < 4294967296) (h0 : d ≠ 0) : beL (turned s d) ≠ (s : Int) := by
  intro h
  have hb := beL_be4 hs
  unfold be4 at hb
  unfold turned at h
  rw [beL_four] at h hb
  have e : ∀ {x y z t x' y' z' t' : UInt8}, x.toNat * 16777216 + y.toNat * 65536 + z.toNat * 256 + t.toNat = x'.toNat * 16777216 + y'.toNat * 65536 + z'.toNat * 256 + t'.toNat → x = x' ∧ y = y' ∧ z = z' ∧ t = t' := by
    intro x y z t x' y' z' t' h
    have := x.toNat_lt; have := y.toNat_lt; have := z.toNat_lt; have := t.toNat_lt
    have := x'.toNat_lt; have := y'.toNat_lt; have := z'.toNat_lt; have := t'.toNat_lt
    refine ⟨UInt8.toNat.inj ?_, UInt8.toNat.inj ?_, UInt8.toNat.inj ?_, UInt8.toNat.inj ?_⟩ <;> omega
  have hq := Int.ofNat.inj (h.trans hb.symm)
  obtain ⟨k1, k2, k3, k4⟩ := e hq
  have l1 := congrArg UInt8.toNat (xor_same k1)
  have l2 := congrArg UInt8.toNat (xor_same k2)
  have l3 := congrArg UInt8.toNat (xor_same k3)
  have l4 := congrArg UInt8.toNat (xor_same k4)
  simp at l1 l2 l3 l4
  omega
theorem unpack_turned {l : List UInt8} (h : l.length ≤ 65535) {d : Nat} (hd : d < 4294967296) (h0 : d ≠ 0) : unpackP (120 :: 1 :: (deflateP l ++ turned (adler l) d)) l.length = ([], 8) := by
  rw [unpack_two _ _ (inflate_pack h (Nat.le_refl _) _), if_neg (by decide), List.drop_left]
  unfold restP
  rw [if_neg (by simp [turned]), if_pos (beL_turned (adler_lt l) hd h0)]
/-- The stream with its last i bytes turned by d's. -/
def turnK (P : List UInt8) (d : Nat) : Nat → List UInt8
  | 0 => P
  | i + 1 => (turnK P d i).set (P.length - 1 - i) ((turnK P d i).getD (P.length - 1 - i) 0 ^^^ UInt8.ofNat (d / 256 ^ i))
theorem turnK_length (P : List UInt8) (d i : Nat) : (turnK P d i).length = P.length := by
  induction i with
  | zero => rfl
  | succ i ih => simp [turnK, ih]
theorem turnK_four (A : List UInt8) (x y z t : UInt8) (d : Nat) : turnK (A ++ [x, y, z, t]) d 4 = A ++ [x ^^^ UInt8.ofNat (d / 16777216), y ^^^ UInt8.ofNat (d / 65536), z ^^^ UInt8.ofNat (d / 256), t ^^^ UInt8.ofNat d] := by
  have e0 : (A ++ [x, y, z, t]).length - 1 - 0 = A.length + 3 := by simp
  have e1 : (A ++ [x, y, z, t]).length - 1 - 1 = A.length + 2 := by simp
  have e2 : (A ++ [x, y, z, t]).length - 1 - 2 = A.length + 1 := by simp
  have e3 : (A ++ [x, y, z, t]).length - 1 - 3 = A.length := by simp
  simp only [turnK, e0, e1, e2, e3]
  simp [List.getD, List.set_append_right]
theorem turnK_pack (l : List UInt8) (d : Nat) : turnK (packP l) d 4 = 120 :: 1 :: (deflateP l ++ turned (adler l) d) := by
  have e : packP l = (120 :: 1 :: deflateP l) ++ be4 (adler l) := by rw [pack_two]; rfl
  rw [e]
  unfold be4
  rw [turnK_four]
  rfl

set_option maxRecDepth 100000 in
set_option maxHeartbeats 1000000 in
theorem zlibTurned_any (a : Option Addr) (N cap : Nat) (l : List UInt8) (d : Nat) (w : World) (hd : d < 4294967296) (h : RB w a N cap l) :
    Calls Try.prog 12 #[.slice a N cap, .int .u32 (d : Int)] w (TruePost w) := by
  obtain rfl := RB.len h
  by_cases hlt : 1200 < l.length
  · have d : decide ((1200 : Int) < l.length) = true := by simp; omega
    go_enter Try.func12, Try.ntmps12
    go_wp2_with (go_at_call 35; go_must (refine (lives6_any _).mono ?_); rintro e w1 ⟨rfl, hb1⟩)
    go_ret
    exact ⟨rfl, hb1⟩
  have dl : decide ((1200 : Int) < l.length) = false := by simp; omega
  by_cases h0 : d = 0
  · subst h0
    go_enter Try.func12, Try.ntmps12
    go_wp2_with (go_at_call 35; go_must (refine (lives6_any _).mono ?_); rintro e w1 ⟨rfl, hb1⟩)
    go_ret
    exact ⟨rfl, hb1⟩
  have d0 : ((d : Int) == 0) = false := by simp; exact h0
  have hl6 : l.length ≤ 65535 := by omega
  have hl : l.length ≤ 1073741824 := by omega
  have hpl := packP_len l
  have hp4 : 4 ≤ (packP l).length := by simp [packP, be4]
  have hU : ∀ a N c w, RB w a N c (turnK (packP l) d 4) → Calls Try.prog 36 #[.slice a N c, .int .i64 (l.length : Int)] w (RetU w ([], 8)) := fun a N c w h => by
    have := unpack_any a N c l.length _ w (by rw [turnK_length]; omega) hl h
    rw [turnK_pack, unpack_turned hl6 hd h0] at this
    exact this
  have hP := fun w => pack_any a l.length cap l w hl
  generalize packP l = P at *
  have g4 : decide ((P.length : Int) < 4) = false := by simp; omega
  clear h0
  go_enter Try.func12, Try.ntmps12
  go_wp2_with (first
    | (go_at_call 35; go_must (refine (lives6_any _).mono ?_); rintro e w1 ⟨rfl, hb1⟩)
    | (go_at_call 40; go_must (refine (hP w1 (rd_below0 h hb1)).mono ?_); rintro e w2 ⟨a2, c2, rfl, ho2, hb2⟩; have b2 := hb1.trans (hb2.mono hb1.size)))
  clear hP
  have z1 := hb2.size
  go_loopw [6] (fun u wr => ∃ i : Nat, u = .int .i64 i ∧ i ≤ 4 ∧ OB wr w1.heap.size a2 P.length c2 (turnK P d i) ∧ Below w1.heap.size w1 wr) (fun u _ => 4 - (intOf u).toNat)
  case atStart => exact ⟨0, rfl, by omega, ho2, hb2⟩
  case round =>
    obtain ⟨i, rfl, hi, hor, hbr⟩ := hrel
    by_cases hi4 : i = 4
    · subst hi4
      go_wp2_with (go_at_call 36; go_must (refine (hU _ _ _ _ (OB.rb hor)).mono ?_); rintro e w6 ⟨a6, c6, rfl, ho6, hb6⟩)
      go_ret
      exact ⟨rfl, hb1.trans ((hbr.trans (hb6.mono hbr.size)).mono hb1.size)⟩
    · obtain ⟨j1, hj1⟩ : ∃ j1 : Nat, j1 = P.length - 1 := ⟨_, rfl⟩
      have s1 : (P.length : Int) - 1 = (j1 : Int) := by omega
      obtain ⟨jj, hjj⟩ : ∃ jj : Nat, jj = P.length - 1 - i := ⟨_, rfl⟩
      have hlt : jj < P.length := by omega
      have hTl := turnK_length P d i
      obtain ⟨v, hv⟩ : ∃ v : UInt8, v = (turnK P d i).getD jj 0 ^^^ UInt8.ofNat (d / 256 ^ i) := ⟨_, rfl⟩
      have hnext : turnK P d (i + 1) = (turnK P d i).set jj v := by rw [hv, hjj]; rfl
      obtain ⟨g, hag, hBg, hput, hfz, hcells⟩ := own_put hor hlt (.int .u8 (v.toNat : Int))
      subst hag
      have e0 := hcells jj (by simp [hTl]; omega)
      rw [cB_get] at e0
      have hvv : bits .xor .u8 (at8 (turnK P d i) jj) ((d / 256 ^ i % 256 : Nat) : Int) = (v.toNat : Int) := by
        rw [hv]
        unfold at8
        rw [u8_xor_nat _ _ (UInt8.toNat_lt _) (by omega)]
        simp
      have hput' : OB (wr.setCell ⟨g, jj, none⟩ (.int .u8 (v.toNat : Int))) w1.heap.size (some ⟨g, 0, none⟩) P.length c2 (turnK P d (i + 1)) := by
        rw [hnext]; unfold OB; rw [cB_set]; exact hput
      have hbr' := hbr.setCell (p := ⟨g, jj, none⟩) (by exact hBg) (.int .u8 (v.toNat : Int))
      clear hput hcells hv hnext hU ho2 hor
      have Hput := Lib.hid hput'
      clear hput'
      generalize at8 (turnK P d i) jj = tv at *
      have hi3 : i = 0 ∨ i = 1 ∨ i = 2 ∨ i = 3 := by omega
      rcases hi3 with rfl | rfl | rfl | rfl
      · obtain rfl : jj = j1 := by omega
        clear hj1 hjj
        have hvv' : bits .xor .u8 tv ((d : Int) % 256) = (v.toNat : Int) := by rw [← hvv]; congr 1; omega
        have Hvv := Lib.hid hvv'
        clear hvv hvv'
        go_wp2
        rw [Hvv.out]
        exact ⟨⟨1, rfl, by omega, Hput.out, hbr'⟩, by simp [intOf]⟩
      · have s2 : (j1 : Int) - 1 = (jj : Int) := by omega
        clear hj1 hjj
        have hvv' : bits .xor .u8 tv ((d : Int) / 256 % 256) = (v.toNat : Int) := by rw [← hvv]; congr 1
        have Hvv := Lib.hid hvv'
        clear hvv hvv'
        go_wp2
        rw [Hvv.out]
        exact ⟨⟨2, rfl, by omega, Hput.out, hbr'⟩, by simp [intOf]⟩
      · have s2 : (j1 : Int) - 2 = (jj : Int) := by omega
        clear hj1 hjj
        have hvv' : bits .xor .u8 tv ((d : Int) / 65536 % 256) = (v.toNat : Int) := by rw [← hvv]; congr 1
        have Hvv := Lib.hid hvv'
        clear hvv hvv'
        go_wp2
        rw [Hvv.out]
        exact ⟨⟨3, rfl, by omega, Hput.out, hbr'⟩, by simp [intOf]⟩
      · have s2 : (j1 : Int) - 3 = (jj : Int) := by omega
        clear hj1 hjj
        have hvv' : bits .xor .u8 tv ((d : Int) / 16777216) = (v.toNat : Int) := by rw [← hvv, show ((d : Int) / 16777216) = ((d / 256 ^ 3 % 256 : Nat) : Int) by omega]
        have Hvv := Lib.hid hvv'
        clear hvv hvv'
        go_wp2
        rw [Hvv.out]
        exact ⟨⟨4, rfl, by omega, Hput.out, hbr'⟩, by simp [intOf]⟩
end Go.Proofs.Ytpfalaghggjbjaa
