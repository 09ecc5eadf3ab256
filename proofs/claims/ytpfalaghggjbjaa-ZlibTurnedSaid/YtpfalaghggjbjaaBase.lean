/-
  What the walks of this seat share: predicates on slices in memory (what a slice reads as; what the call owns), and laws on append over them.
  Conditions: none; plain lemmas.
-/
import Derived.Test.YtpfalaghggjbjaaRows
import Derived.WalkKit
import Derived.WalkSpells
import Derived.WalkLawsBesides
import Derived.Deep.QuietTactic
import Derived.BigQuiet
import Derived.Laws.AppendOwnNone
import Derived.Lib.Hide
import Derived.Test.YtpfalaghggjbjaaPlA
import Derived.Test.YtpfalaghggjbjaaPlH
namespace Go.Proofs.Ytpfalaghggjbjaa
open Go.RowKit

/-- Outside the blocks that S names the world is as it was. -/
structure Mod (S : Nat → Prop) (w w' : World) : Prop where
  os : w'.os = w.os
  tape : w'.tape = w.tape
  output : w'.output = w.output
  size : w.heap.size ≤ w'.heap.size
  block : ∀ k, k < w.heap.size → ¬ S k → w'.heap[k]? = w.heap[k]?

theorem Mod.refl (S : Nat → Prop) (w : World) : Mod S w w := ⟨rfl, rfl, rfl, Nat.le_refl _, fun _ _ _ => rfl⟩
theorem Mod.trans {S T U : Nat → Prop} {w w1 w2 : World} (h : Mod S w w1) (k : Mod T w1 w2) (hs : ∀ b, b < w.heap.size → S b → U b) (ht : ∀ b, b < w.heap.size → T b → U b) : Mod U w w2 :=
  ⟨k.os.trans h.os, k.tape.trans h.tape, k.output.trans h.output, Nat.le_trans h.size k.size, fun b hb hn =>
    (k.block b (Nat.lt_of_lt_of_le hb h.size) (fun t => hn (ht b hb t))).trans (h.block b hb (fun s => hn (hs b hb s)))⟩
theorem Mod.then {S : Nat → Prop} {w w1 w2 : World} (h : Mod S w w1) (k : Mod S w1 w2) : Mod S w w2 := h.trans k (fun _ _ => id) (fun _ _ => id)
theorem Mod.mono {S T : Nat → Prop} {w w' : World} (h : Mod S w w') (hs : ∀ b, b < w.heap.size → S b → T b) : Mod T w w' :=
  ⟨h.os, h.tape, h.output, h.size, fun b hb hn => h.block b hb fun s => hn (hs b hb s)⟩
theorem Mod.drewN (S : Nat → Prop) (w : World) (n : Nat) : Mod S w (w.drewN n) := ⟨rfl, rfl, rfl, Nat.le_refl _, fun _ _ _ => rfl⟩
theorem Mod.drew {S : Nat → Prop} {w w' : World} (h : Mod S w w') : Mod S w w'.drew := ⟨h.os, h.tape, h.output, h.size, h.block⟩
theorem Mod.drewN' {S : Nat → Prop} {w w' : World} (h : Mod S w w') (n : Nat) : Mod S w (w'.drewN n) := ⟨h.os, h.tape, h.output, h.size, h.block⟩
theorem Mod.alloc {S : Nat → Prop} {w w' : World} (h : Mod S w w') (o : Obj) : Mod S w (w'.alloc o) :=
  ⟨h.os, h.tape, h.output, by have := h.size; simp; omega, fun b hb hn => by rw [Below.heap_alloc _ _ _ (by have := h.size; omega)]; exact h.block b hb hn⟩
theorem Mod.setCell {S : Nat → Prop} {w w' : World} (h : Mod S w w') (a : Addr) (v : Value) (ha : a.block < w.heap.size → S a.block) : Mod S w (w'.setCell a v) :=
  ⟨h.os, h.tape, h.output, by have := h.size; simp [World.setCell]; omega, fun b hb hn => by rw [Below.heap_setCell _ _ _ _ (fun e => hn (by subst e; exact ha hb))]; exact h.block b hb hn⟩
theorem Mod.grown {S : Nat → Prop} {w w1 w2 : World} {row : Option Nat} (h : Mod S w w1) (hg : w1.grownBy w2 row) (hr : ∀ k, row = some k → k < w.heap.size → S k) : Mod S w w2 :=
  ⟨hg.os.trans h.os, hg.tape.trans h.tape, hg.output.trans h.output, Nat.le_trans h.size hg.size, fun b hb hn =>
    (hg.block b (Nat.lt_of_lt_of_le hb h.size) (fun e => hn (hr b e.symm hb))).trans (h.block b hb hn)⟩
theorem Mod.of_below {B : Nat} {w w' : World} (h : Below B w w') : Mod (fun k => B ≤ k) w w' := ⟨h.os, h.tape, h.output, h.size, fun b _ hn => h.block b (by omega)⟩
theorem Mod.below {S : Nat → Prop} {B : Nat} {w w' : World} (h : Mod S w w') (hB : B ≤ w.heap.size) (hs : ∀ b, b < w.heap.size → S b → B ≤ b) : Below B w w' :=
  ⟨h.os, h.tape, h.output, h.size, fun b hb => h.block b (by omega) fun s => by have := hs b (by omega) s; omega⟩
theorem Mod.cell {S : Nat → Prop} {w w' : World} (h : Mod S w w') {p : Addr} {v : Value} (hc : w.cell? p = some v) (hp : ¬ S p.block) : w'.cell? p = some v := by
  rw [World.cell?_of_block (h.block p.block (World.block_lt_of_cell? w p hc) hp), hc]

/-- The slice of n elements, sz cells each, with room for cap, at a, reads as the cells xs. -/
structure Rd (w : World) (a : Option Addr) (n cap sz : Nat) (xs : List Value) : Prop where
  len : xs.length = n * sz
  le : n ≤ cap
  small : cap ≤ 9223372036854775807
  at' : n = 0 ∨ ∃ b off, a = some ⟨b, off, none⟩ ∧ ∀ j (h : j < xs.length), w.cell? ⟨b, off + j, none⟩ = some xs[j]

/-- What an index into it comes to. -/
abbrev Idx (P : Program) (t : TypeId) (a : Option Addr) (n cap sz b off : Nat) : Prop :=
  ∀ (w : World) (k : IntKind) (i : Int), (Instr.indexAt t (.slice a n cap) (.int k i)).run P w =
    if 0 ≤ i ∧ i < n then .ok (.pointer (some ⟨b, off + i.toNat * sz, none⟩)) w else (boundsPanic k i n .index).run P w

theorem Rd.open {w : World} {a : Option Addr} {n cap sz : Nat} {xs : List Value} (h : Rd w a n cap sz xs) {P : Program} (t e : TypeId)
    (ht : P.underlying t = some (.slice e)) (hs : (P.info? e).map (·.size) = some sz) :
    ∃ b off, Idx P t a n cap sz b off ∧ (∀ j (h : j < xs.length), w.cell? ⟨b, off + j, none⟩ = some xs[j]) := by
  have he : P.elem t = e := by simp [Program.elem, ht]
  have ht' : P.underlying t = some (.slice (P.elem t)) := by rw [he]; exact ht
  have hsz : ∀ w : World, (sizeOf (P.elem t)).run P w = .ok sz w := by
    intro w
    rw [he]
    cases hi : P.info? e with
    | none => simp [hi] at hs
    | some i => simp [hi] at hs; simp [sizeOf, typeInfo, hi, hs]
  rcases h.at' with h0 | ⟨b, off, rfl, hc⟩
  · subst h0
    have hx : xs.length = 0 := by simpa using h.len
    refine ⟨0, 0, fun w k i => ?_, fun j hj => by omega⟩
    rw [if_neg (by omega)]
    cases a with
    | none => simp [Instr.indexAt, run_underlying ht, asIntOf]
    | some a => rw [run_indexAt_slice _ _ _ _ _ _ _ ht', if_neg (by omega)]
  · refine ⟨b, off, fun w k i => ?_, hc⟩
    rw [run_indexAt_slice _ _ _ _ _ _ _ ht']
    split
    · rw [hsz]; simp [Result.andThen, Addr.add_lit]
    · rfl

/-- What append does to a slice of the call's own: the value, its room, whose block it lies in. -/
theorem append_run {P : Program} (w : World) (B t ty e : Nat) (i : TypeInfo) (z : Value) (size bytes : Nat) (ht : P.underlying t = some (.slice e)) (hi : P.info? e = some i) (hz : i.zero = some z)
    (hsize : i.size = size) (hby : i.bytes = bytes) (hzs : z.cells.size = size) (hsz : 0 < size)
    (a : Option Addr) (n cap : Nat) (xs : List Value) (hown : w.ownsRow B e size (.slice a n cap) n xs)
    (sa : Option Addr) (m cs : Nat) (news : List Value) (hsrc : Rd w sa m cs size news) (h1 : ∀ u ∈ news, u.oneCell' = true)
    (hbytes : (n + m) * bytes ≤ 140737488355328) (h63 : n + m ≤ 9223372036854775807) (hbase : B ≤ w.heap.size) :
    ∃ a' c' w', (Builtin.append_ #[t, t] ty #[.slice a n cap, .slice sa m cs]).run P w = .ok (.slice a' (n + m) c') w' ∧ w'.ownsRow B e size (.slice a' (n + m) c') (n + m) (xs ++ news) ∧
      w.grownBy w' (Value.ownBlock (.slice a n cap)) ∧ (Value.ownBlock (.slice a' (n + m) c') = Value.ownBlock (.slice a n cap) ∨ ∃ g, a' = some ⟨g, 0, none⟩ ∧ w.heap.size ≤ g) := by
  have hmax : n + m ≤ maxLen := by unfold maxLen; omega
  by_cases hne : sa = none
  · subst hne
    have hm : m = 0 := by
      rcases hsrc.at' with h | ⟨b, off, h, _⟩
      · exact h
      · cases h
    subst hm
    have hn : news = [] := List.eq_nil_of_length_eq_zero (by simpa using hsrc.len)
    subst hn
    refine ⟨a, cap, w, ?_, by simpa using hown, World.grownBy.refl _ _, .inl rfl⟩
    rcases hown.2 with ⟨hv, rfl⟩ | ⟨g, cap', cur, hv, _, hg, hnc, _⟩
    · simp only [Value.slice.injEq] at hv
      obtain ⟨rfl, -, rfl⟩ := hv
      subst hsize
      simp [Builtin.append_, run_underlying ht, sizeOf, typeInfo, hi, Builtin.lenOf, Builtin.firstCells]
    · simp only [Value.slice.injEq] at hv
      obtain ⟨rfl, -, rfl⟩ := hv
      simp [Builtin.append_, run_underlying ht, sizeOf, typeInfo, hi, Builtin.lenOf, Builtin.firstCells, hnc, storeCells]
  · obtain ⟨ad, rfl⟩ := Option.ne_none_iff_exists'.1 hne
    have hl := hsrc.len
    have hnews : ∀ j u, news[j]? = some u → w.cell? (ad.add j) = some u := by
      intro j u hu
      rcases hsrc.at' with h0 | ⟨b, off, hb, hc⟩
      · subst h0
        have : news = [] := List.eq_nil_of_length_eq_zero (by simpa using hl)
        subst this
        simp at hu
      · cases hb
        obtain ⟨hj, rfl⟩ := List.getElem?_eq_some_iff.1 hu
        rw [Addr.add_lit]
        exact hc j hj
    subst hsize
    subst hby
    have hlen : (xs ++ news).length = (n + m) * i.size := by rw [List.length_append, hown.1, hl, Nat.add_mul]
    have grown : ∀ (old : Nat), old < n + m → ∀ (row : Option Nat),
        (w.drew.alloc (.cells (xs.toArray ++ news.toArray ++ Builtin.zeroCells z.cells (grownCap w (n + m) old e - (n + m))) e)).ownsRow B e i.size
          (.slice (some ⟨w.heap.size, 0, none⟩) (n + m) (grownCap w (n + m) old e)) (n + m) (xs ++ news) ∧
        w.grownBy (w.drew.alloc (.cells (xs.toArray ++ news.toArray ++ Builtin.zeroCells z.cells (grownCap w (n + m) old e - (n + m))) e)) row := by
      intro old ho row
      have hge := grownCap_ge w (n + m) old e
      have hcm : grownCap w (n + m) old e ≤ maxLen := grownCap_le_maxLen w (n + m) old e hmax
      refine ⟨⟨hlen, .inr ⟨w.heap.size, _, _, rfl, hbase, heap_alloc_new w.drew _, hge, hcm, ?_, ?_⟩⟩, ⟨rfl, rfl, rfl, by simp, fun k hk _ => Below.heap_alloc w.drew _ k hk⟩⟩
      · simp only [Array.size_append, List.size_toArray, size_zeroCells, hzs, hown.1, hl, ← Nat.add_mul]
        congr 1
        omega
      · simp only [Array.toList_append, List.append_assoc]
        rw [← List.append_assoc, ← hlen]
        exact List.take_left
    rcases hown.2 with ⟨hv, rfl⟩ | ⟨g, cap', cur, hv, hbg, hg, hnc, hcm, hcs, htake⟩
    · simp only [Value.slice.injEq] at hv
      obtain ⟨rfl, -, rfl⟩ := hv
      have hx : xs = [] := List.eq_nil_of_length_eq_zero (by simpa using hown.1)
      subst hx
      by_cases hm : m = 0
      · subst hm
        have hn : news = [] := List.eq_nil_of_length_eq_zero (by simpa using hl)
        subst hn
        refine ⟨none, 0, w, ?_, World.ownsRow_nil w B e i.size, World.grownBy.refl _ _, .inl rfl⟩
        simp [Builtin.append_, run_underlying ht, sizeOf, typeInfo, hi, Builtin.lenOf, Builtin.firstCells, loadCells, loadCellsFrom]
      · have hr := run_append_nil (P := P) w t ty e i z ht hi hz ad m cs news hl hnews (by omega) (by omega) (by have hb := hbytes; simp only [Nat.zero_add] at hb; omega)
        have hgr := grown 0 (by omega) (Value.ownBlock (.slice none 0 0))
        simp only [Nat.zero_add, List.nil_append, Array.empty_append] at hgr ⊢
        exact ⟨_, _, _, hr, hgr.1, hgr.2, .inr ⟨_, rfl, Nat.le_refl _⟩⟩
    · simp only [Value.slice.injEq] at hv
      obtain ⟨rfl, -, rfl⟩ := hv
      by_cases hroom : n + m ≤ cap
      · have hfit : n * i.size + news.length ≤ cur.size := by rw [hl, hcs, ← Nat.add_mul]; exact Nat.mul_le_mul_right _ hroom
        have hr := run_append_room (P := P) w t ty e i ht hi g n cap cur hg ad m cs news hl hnews h1 hroom hfit
        refine ⟨_, _, _, hr, ⟨hlen, .inr ⟨g, cap, _, rfl, hbg, setRow_heap w g cur _ e _ hg, hroom, hcm, ?_, ?_⟩⟩, ⟨rfl, rfl, rfl, by simp, fun k hk hk' => setRow_other w g k _ (fun e => hk' (by simp [Value.ownBlock, e]))⟩, .inl rfl⟩
        · simp only [List.size_toArray, List.length_append, List.length_take, List.length_drop, Array.length_toList]
          omega
        · rw [htake, ← hlen]
          exact List.take_left
      · have holds : ∀ j u, xs[j]? = some u → w.cell? ((⟨g, 0, none⟩ : Addr).add j) = some u := hown.cells (g := g) rfl
        have hr := run_append_grow (P := P) w t ty e i z ht hi hz ⟨g, 0, none⟩ n cap xs hown.1 holds ad m cs news hl hnews (by omega) (by omega) (growslice_fits (by omega) hbytes)
        have hgr := grown cap (by omega) (Value.ownBlock (.slice (some ⟨g, 0, none⟩) n cap))
        exact ⟨_, _, _, hr, hgr.1, hgr.2, .inr ⟨_, rfl, Nat.le_refl _⟩⟩

/-- The block that an address lies in. -/
def blk : Option Addr → Option Nat
  | some a => some a.block
  | none => none

theorem ownBlock_slice (a : Option Addr) (n cap : Nat) : Value.ownBlock (.slice a n cap) = blk a := by cases a <;> rfl

/-- Behind an append: what was written is the slice's own block alone; the slice lies there still, or in a new block. -/
structure Grew (w w' : World) (a a' : Option Addr) : Prop where
  by_ : w.grownBy w' (blk a)
  at_ : blk a' = blk a ∨ ∃ g, blk a' = some g ∧ w.heap.size ≤ g

theorem Grew.mod {w w' : World} {a a' : Option Addr} (h : Grew w w' a a') : Mod (fun k => blk a = some k) w w' := (Mod.refl _ w).grown h.by_ fun _ hk _ => hk

/-- The bytes, the numbers, as cells. -/
def cB (l : List UInt8) : List Value := l.map fun c => .int .u8 (c.toNat : Int)
def cI (l : List Int) : List Value := l.map fun x => .int .i64 x
def pc (p : Piece) : List Value := [.int .i64 p.len, .int .i64 p.dist, .int .u8 (p.byte.toNat : Int)]
def cP (l : List Piece) : List Value := l.flatMap pc

/-- A list's element, as a number that the walk does not look into. -/
def at8 (l : List UInt8) (j : Nat) : Int := ((l.getD j 0).toNat : Int)
def atI (l : List Int) (j : Nat) : Int := l.getD j 0
theorem at8_lo (l : List UInt8) (j : Nat) : 0 ≤ at8 l j := by unfold at8; omega
theorem at8_hi (l : List UInt8) (j : Nat) : at8 l j ≤ 255 := by unfold at8; have := (l.getD j 0).toNat_lt; omega
theorem at8_eq (l : List UInt8) (i j : Nat) : at8 l i = at8 l j ↔ l.getD i 0 = l.getD j 0 := by
  unfold at8
  constructor
  · intro h; exact UInt8.toNat_inj.1 (by omega)
  · intro h; rw [h]

@[simp] theorem length_cB (l : List UInt8) : (cB l).length = l.length := by simp [cB]
@[simp] theorem length_cI (l : List Int) : (cI l).length = l.length := by simp [cI]
@[simp] theorem length_cP (l : List Piece) : (cP l).length = l.length * 3 := by
  induction l with
  | nil => rfl
  | cons p l ih => simp only [cP, List.flatMap_cons, List.length_append] at ih ⊢; rw [ih]; simp [pc]; omega
theorem cB_append (l m : List UInt8) : cB (l ++ m) = cB l ++ cB m := by simp [cB]
theorem cI_append (l m : List Int) : cI (l ++ m) = cI l ++ cI m := by simp [cI]
theorem cP_append (l m : List Piece) : cP (l ++ m) = cP l ++ cP m := by simp [cP]
theorem cB_set (l : List UInt8) (j : Nat) (c : UInt8) : cB (l.set j c) = (cB l).set j (.int .u8 (c.toNat : Int)) := by simp [cB, List.map_set]
theorem cI_set (l : List Int) (j : Nat) (c : Int) : cI (l.set j c) = (cI l).set j (.int .i64 c) := by simp [cI, List.map_set]
theorem one_cB (l : List UInt8) : ∀ u ∈ cB l, u.oneCell' = true := by intro u hu; simp [cB] at hu; obtain ⟨c, _, rfl⟩ := hu; rfl
theorem one_cI (l : List Int) : ∀ u ∈ cI l, u.oneCell' = true := by intro u hu; simp [cI] at hu; obtain ⟨c, _, rfl⟩ := hu; rfl
theorem one_cP (l : List Piece) : ∀ u ∈ cP l, u.oneCell' = true := by
  intro u hu
  simp only [cP, List.mem_flatMap, pc] at hu
  obtain ⟨c, _, hu⟩ := hu
  simp at hu
  rcases hu with rfl | rfl | rfl <;> rfl
theorem cB_get (l : List UInt8) (j : Nat) (h : j < (cB l).length) : (cB l)[j] = .int .u8 (at8 l j) := by
  have : j < l.length := by simpa using h
  simp [cB, at8, List.getD, List.getElem?_eq_getElem this]
theorem cI_get (l : List Int) (j : Nat) (h : j < (cI l).length) : (cI l)[j] = .int .i64 (atI l j) := by
  have : j < l.length := by simpa using h
  simp [cI, atI, List.getD, List.getElem?_eq_getElem this]

/-- A []byte, an []int, an []api.Piece at a, that reads as l; the same, and the call's own (in a block from B on). -/
def RB (w : World) (a : Option Addr) (n cap : Nat) (l : List UInt8) : Prop := Rd w a n cap 1 (cB l)
def RI (w : World) (a : Option Addr) (n cap : Nat) (l : List Int) : Prop := Rd w a n cap 1 (cI l)
def RP (w : World) (a : Option Addr) (n cap : Nat) (l : List Piece) : Prop := Rd w a n cap 3 (cP l)
def OB (w : World) (B : Nat) (a : Option Addr) (n cap : Nat) (l : List UInt8) : Prop := w.ownsRow B 5 1 (.slice a n cap) n (cB l)
def OI (w : World) (B : Nat) (a : Option Addr) (n cap : Nat) (l : List Int) : Prop := w.ownsRow B 3 1 (.slice a n cap) n (cI l)
def OP (w : World) (B : Nat) (a : Option Addr) (n cap : Nat) (l : List Piece) : Prop := w.ownsRow B 31 3 (.slice a n cap) n (cP l)

theorem rd_of_own {w : World} {B e sz n cap : Nat} {a : Option Addr} {xs : List Value} (h : w.ownsRow B e sz (.slice a n cap) n xs) : Rd w a n cap sz xs := by
  refine ⟨h.1, ?_, ?_, ?_⟩
  · rcases h.2 with ⟨hv, rfl⟩ | ⟨g, cap', cur, hv, _, _, hn, _⟩
    · exact Nat.zero_le _
    · simp only [Value.slice.injEq] at hv; omega
  · rcases h.2 with ⟨hv, rfl⟩ | ⟨g, cap', cur, hv, _, _, hn, hm, _⟩
    · simp only [Value.slice.injEq] at hv; omega
    · simp only [Value.slice.injEq] at hv; unfold maxLen at hm; omega
  · rcases h.2 with ⟨hv, rfl⟩ | ⟨g, cap', cur, hv, _, hg, hn, hm, hcs, htake⟩
    · exact .inl rfl
    · simp only [Value.slice.injEq] at hv
      refine .inr ⟨g, 0, hv.1, fun j hj => ?_⟩
      have := h.cells (g := g) (by rw [ownBlock_slice, hv.1]; rfl) j xs[j] (List.getElem?_eq_getElem hj)
      rw [Addr.add_lit] at this
      exact this

theorem OB.rb {w : World} {B n cap : Nat} {a : Option Addr} {l : List UInt8} (h : OB w B a n cap l) : RB w a n cap l := rd_of_own h
theorem OI.ri {w : World} {B n cap : Nat} {a : Option Addr} {l : List Int} (h : OI w B a n cap l) : RI w a n cap l := rd_of_own h
theorem OP.rp {w : World} {B n cap : Nat} {a : Option Addr} {l : List Piece} (h : OP w B a n cap l) : RP w a n cap l := rd_of_own h

theorem RB.len {w : World} {a : Option Addr} {n cap : Nat} {l : List UInt8} (h : RB w a n cap l) : n = l.length := by have := Rd.len h; simp at this; omega
theorem RI.len {w : World} {a : Option Addr} {n cap : Nat} {l : List Int} (h : RI w a n cap l) : n = l.length := by have := Rd.len h; simp at this; omega
theorem RP.len {w : World} {a : Option Addr} {n cap : Nat} {l : List Piece} (h : RP w a n cap l) : n = l.length := by have := Rd.len h; simp at this; omega

theorem rd_mod {S : Nat → Prop} {w w' : World} {a : Option Addr} {n cap sz : Nat} {xs : List Value} (h : Rd w a n cap sz xs) (hm : Mod S w w') (hs : ∀ g, blk a = some g → ¬ S g) : Rd w' a n cap sz xs := by
  refine ⟨h.len, h.le, h.small, ?_⟩
  rcases h.at' with h0 | ⟨b, off, rfl, hc⟩
  · exact .inl h0
  · exact .inr ⟨b, off, rfl, fun j hj => hm.cell (hc j hj) (hs b rfl)⟩
/-- What is read from memory that was there stays, where only new memory, or memory from B on, is written. -/
theorem rd_below {B : Nat} {w w' : World} {a : Option Addr} {n cap sz : Nat} {xs : List Value} (h : Rd w a n cap sz xs) (hb : Below B w w') (hs : ∀ g, blk a = some g → g < B) : Rd w' a n cap sz xs := by
  refine ⟨h.len, h.le, h.small, ?_⟩
  rcases h.at' with h0 | ⟨b, off, rfl, hc⟩
  · exact .inl h0
  · exact .inr ⟨b, off, rfl, fun j hj => by rw [hb.cell (by exact hs b rfl)]; exact hc j hj⟩
theorem own_grown {w w' : World} {B e sz n cap : Nat} {a : Option Addr} {xs : List Value} {row : Option Nat} (h : w.ownsRow B e sz (.slice a n cap) n xs) (hg : w.grownBy w' row) (hr : ∀ g, blk a = some g → row ≠ some g) : w'.ownsRow B e sz (.slice a n cap) n xs := by
  refine h.kept hg ?_
  rw [ownBlock_slice]
  cases hb : blk a with
  | none => exact .inl rfl
  | some g => exact .inr fun e => hr g hb e.symm
theorem own_mod {S : Nat → Prop} {w w' : World} {B e sz n cap : Nat} {a : Option Addr} {xs : List Value} (h : w.ownsRow B e sz (.slice a n cap) n xs) (hm : Mod S w w') (hs : ∀ g, blk a = some g → ¬ S g) : w'.ownsRow B e sz (.slice a n cap) n xs := by
  refine ⟨h.1, ?_⟩
  rcases h.2 with h2 | ⟨g, cap', cur, hv, hb, hg, r⟩
  · exact .inl h2
  · refine .inr ⟨g, cap', cur, hv, hb, ?_, r⟩
    simp only [Value.slice.injEq] at hv
    rw [hm.block g (Array.getElem?_eq_some_iff.1 hg).1 (hs g (by rw [hv.1]; rfl))]
    exact hg
theorem own_blk {w : World} {B e sz n cap : Nat} {a : Option Addr} {xs : List Value} (h : w.ownsRow B e sz (.slice a n cap) n xs) : ∀ g, blk a = some g → B ≤ g ∧ g < w.heap.size := by
  intro g hg
  exact h.lt g (by rw [ownBlock_slice]; exact hg)
theorem own_mono {w : World} {B B' e sz n : Nat} {v : Value} {xs : List Value} (h : w.ownsRow B e sz v n xs) (hB : B' ≤ B) : w.ownsRow B' e sz v n xs := by
  refine ⟨h.1, ?_⟩
  rcases h.2 with h2 | ⟨g, cap', cur, hv, hb, r⟩
  · exact .inl h2
  · exact .inr ⟨g, cap', cur, hv, by omega, r⟩

/-- What a new block of cells reads as. -/
theorem rd_new (w : World) (c : Array Value) (e n sz : Nat) (hc : c.size = n * sz) (hn : n ≤ 9223372036854775807) : Rd (w.alloc (.cells c e)) (some ⟨w.heap.size, 0, none⟩) n n sz c.toList := by
  refine ⟨by simpa using hc, Nat.le_refl _, hn, .inr ⟨_, _, rfl, fun j hj => ?_⟩⟩
  have hj' : j < c.size := by simpa using hj
  rw [Nat.zero_add, World.cell?_alloc_new]
  simp [Array.getElem?_eq_getElem hj']
theorem rb_one {w : World} {b off : Nat} {x : Int} {c : UInt8} (h : w.cell? ⟨b, off, none⟩ = some (.int .u8 x)) (hx : x = (c.toNat : Int)) : RB w (some ⟨b, off, none⟩) 1 1 [c] := by
  refine ⟨by simp, Nat.le_refl _, by omega, .inr ⟨b, off, rfl, fun j hj => ?_⟩⟩
  simp at hj
  subst hj
  simpa [cB, hx] using h
theorem ri_one {w : World} {b off : Nat} {x : Int} (h : w.cell? ⟨b, off, none⟩ = some (.int .i64 x)) : RI w (some ⟨b, off, none⟩) 1 1 [x] := by
  refine ⟨by simp, Nat.le_refl _, by omega, .inr ⟨b, off, rfl, fun j hj => ?_⟩⟩
  simp at hj
  subst hj
  simpa [cI] using h

theorem info5 : (Try.prog.info? 5).map (fun i => (i.zero, i.size, i.bytes)) = some (some (.int .u8 0), 1, 1) := by kernel_rfl
theorem info3 : (Try.prog.info? 3).map (fun i => (i.zero, i.size, i.bytes)) = some (some (.int .i64 0), 1, 8) := by kernel_rfl
theorem info31 : (Try.prog.info? 31).map (fun i => (i.zero, i.size, i.bytes)) = some (some (.agg #[.int .i64 0, .int .i64 0, .int .u8 0]), 3, 24) := by kernel_rfl

/-- append, for the walk: whatever the elements. -/
theorem wpList_app {P : Program} {w : World} {ops : Array Oper} {rest : List Oper} {o : Oper} {A : Act} {Q : Exit → Act → World → Prop} (hgd : o.guard = none) (s x : Operand) (t : TypeId)
    (ho : o.op = .call { callee := .builtin .append, args := #[s, x], argTypes := #[t, t] })
    (B e : Nat) (i : TypeInfo) (z : Value) (size bytes : Nat) (ht : P.underlying t = some (.slice e)) (hi : P.info? e = some i) (hz : i.zero = some z)
    (hsize : i.size = size) (hby : i.bytes = bytes) (hzs : z.cells.size = size) (hsz : 0 < size)
    (a : Option Addr) (n cap : Nat) (xs : List Value) (hs : A.eval s = .slice a n cap) (hown : w.ownsRow B e size (.slice a n cap) n xs)
    (sa : Option Addr) (m cs : Nat) (news : List Value) (hx : A.eval x = .slice sa m cs) (hsrc : Rd w sa m cs size news) (h1 : ∀ u ∈ news, u.oneCell' = true)
    (hbytes : (n + m) * bytes ≤ 140737488355328) (h63 : n + m ≤ 9223372036854775807) (hbase : B ≤ w.heap.size)
    (h : ∀ a' c' w', w'.ownsRow B e size (.slice a' (n + m) c') (n + m) (xs ++ news) → Grew w w' a a' → wpList P ops Q rest (A.put o.dst (.slice a' (n + m) c')) w') :
    wpList P ops Q (o :: rest) A w := by
  refine wpList_plain hgd fun K hK => ?_
  obtain ⟨a', c', w', hr, h2, h3, h4⟩ := append_run (P := P) w B t o.type e i z size bytes ht hi hz hsize hby hzs hsz a n cap xs hown sa m cs news hsrc h1 hbytes h63 hbase
  unfold Oper.wp execOp
  simp only [ho, resolve, invoke, builtin, Sem.run_bind, Sem.run_pure, Result.andThen_ok, List.map_toArray, List.map_cons, List.map_nil, hs, hx, hr]
  refine hK _ _ (h a' c' w' h2 ⟨by rw [ownBlock_slice] at h3; exact h3, ?_⟩)
  rw [ownBlock_slice, ownBlock_slice] at h4
  rcases h4 with h4 | ⟨g, rfl, hg⟩
  · exact .inl h4
  · exact .inr ⟨g, rfl, hg⟩

section
variable {w : World} {ops : Array Oper} {rest : List Oper} {o : Oper} {A : Act} {Q : Exit → Act → World → Prop}
/-- append on a []byte of the call's own. -/
theorem wpList_appB (hgd : o.guard = none) (s x : Operand) (ho : o.op = .call { callee := .builtin .append, args := #[s, x], argTypes := #[22, 22] })
    (B : Nat) (a : Option Addr) (n cap : Nat) (l : List UInt8) (hs : A.eval s = .slice a n cap) (hown : OB w B a n cap l)
    (sa : Option Addr) (m cs : Nat) (news : List UInt8) (hx : A.eval x = .slice sa m cs) (hsrc : RB w sa m cs news)
    (hb : n + m ≤ 140737488355328) (hbase : B ≤ w.heap.size)
    (h : ∀ a' c' w', OB w' B a' (n + m) c' (l ++ news) → Grew w w' a a' → wpList Try.prog ops Q rest (A.put o.dst (.slice a' (n + m) c')) w') :
    wpList Try.prog ops Q (o :: rest) A w := by
  obtain ⟨i, hi, hz0, hz1, hz2⟩ := info_parts info5
  exact wpList_app hgd s x 22 ho B 5 i (.int .u8 0) 1 1 Try.underlying22 hi hz0 hz1 hz2 rfl (by decide) a n cap (cB l) hs hown sa m cs (cB news) hx hsrc (one_cB _) (by omega) (by omega) hbase
    fun a' c' w' ho hg => h a' c' w' (by unfold OB; rw [cB_append]; exact ho) hg
/-- append on an []int of the call's own. -/
theorem wpList_appI (hgd : o.guard = none) (s x : Operand) (ho : o.op = .call { callee := .builtin .append, args := #[s, x], argTypes := #[53, 53] })
    (B : Nat) (a : Option Addr) (n cap : Nat) (l : List Int) (hs : A.eval s = .slice a n cap) (hown : OI w B a n cap l)
    (sa : Option Addr) (m cs : Nat) (news : List Int) (hx : A.eval x = .slice sa m cs) (hsrc : RI w sa m cs news)
    (hb : n + m ≤ 1099511627776) (hbase : B ≤ w.heap.size)
    (h : ∀ a' c' w', OI w' B a' (n + m) c' (l ++ news) → Grew w w' a a' → wpList Try.prog ops Q rest (A.put o.dst (.slice a' (n + m) c')) w') :
    wpList Try.prog ops Q (o :: rest) A w := by
  obtain ⟨i, hi, hz0, hz1, hz2⟩ := info_parts info3
  exact wpList_app hgd s x 53 ho B 3 i (.int .i64 0) 1 8 Try.underlying53 hi hz0 hz1 hz2 rfl (by decide) a n cap (cI l) hs hown sa m cs (cI news) hx hsrc (one_cI _) (by omega) (by omega) hbase
    fun a' c' w' ho hg => h a' c' w' (by unfold OI; rw [cI_append]; exact ho) hg
/-- append on an []api.Piece of the call's own. -/
theorem wpList_appP (hgd : o.guard = none) (s x : Operand) (ho : o.op = .call { callee := .builtin .append, args := #[s, x], argTypes := #[26, 26] })
    (B : Nat) (a : Option Addr) (n cap : Nat) (l : List Piece) (hs : A.eval s = .slice a n cap) (hown : OP w B a n cap l)
    (sa : Option Addr) (m cs : Nat) (news : List Piece) (hx : A.eval x = .slice sa m cs) (hsrc : RP w sa m cs news)
    (hb : n + m ≤ 1099511627776) (hbase : B ≤ w.heap.size)
    (h : ∀ a' c' w', OP w' B a' (n + m) c' (l ++ news) → Grew w w' a a' → wpList Try.prog ops Q rest (A.put o.dst (.slice a' (n + m) c')) w') :
    wpList Try.prog ops Q (o :: rest) A w := by
  obtain ⟨i, hi, hz0, hz1, hz2⟩ := info_parts info31
  exact wpList_app hgd s x 26 ho B 31 i (.agg #[.int .i64 0, .int .i64 0, .int .u8 0]) 3 24 Try.underlying26 hi hz0 hz1 hz2 rfl (by decide) a n cap (cP l) hs hown sa m cs (cP news) hx hsrc (one_cP _) (by omega) (by omega) hbase
    fun a' c' w' ho hg => h a' c' w' (by unfold OP; rw [cP_append]; exact ho) hg
end

theorem rd_drewN {w : World} {a : Option Addr} {n cap sz : Nat} {xs : List Value} (h : Rd w a n cap sz xs) (k : Nat) : Rd (w.drewN k) a n cap sz xs := ⟨h.len, h.le, h.small, h.at'⟩
theorem RB.drewN {w : World} {a : Option Addr} {n cap : Nat} {l : List UInt8} (h : RB w a n cap l) (k : Nat) : RB (w.drewN k) a n cap l := rd_drewN h k
theorem RI.drewN {w : World} {a : Option Addr} {n cap : Nat} {l : List Int} (h : RI w a n cap l) (k : Nat) : RI (w.drewN k) a n cap l := rd_drewN h k
theorem RP.drewN {w : World} {a : Option Addr} {n cap : Nat} {l : List Piece} (h : RP w a n cap l) (k : Nat) : RP (w.drewN k) a n cap l := rd_drewN h k

theorem own_drewN {w : World} {B e sz n : Nat} {v : Value} {xs : List Value} (h : w.ownsRow B e sz v n xs) (k : Nat) : (w.drewN k).ownsRow B e sz v n xs := h
theorem OB.drewN {w : World} {B n cap : Nat} {a : Option Addr} {l : List UInt8} (h : OB w B a n cap l) (k : Nat) : OB (w.drewN k) B a n cap l := own_drewN h k
theorem OI.drewN {w : World} {B n cap : Nat} {a : Option Addr} {l : List Int} (h : OI w B a n cap l) (k : Nat) : OI (w.drewN k) B a n cap l := own_drewN h k
theorem OP.drewN {w : World} {B n cap : Nat} {a : Option Addr} {l : List Piece} (h : OP w B a n cap l) (k : Nat) : OP (w.drewN k) B a n cap l := own_drewN h k
theorem OB.alloc {w : World} {B n cap : Nat} {a : Option Addr} {l : List UInt8} (h : OB w B a n cap l) (o : Obj) : OB (w.alloc o) B a n cap l := World.ownsRow.alloc h o
theorem OI.alloc {w : World} {B n cap : Nat} {a : Option Addr} {l : List Int} (h : OI w B a n cap l) (o : Obj) : OI (w.alloc o) B a n cap l := World.ownsRow.alloc h o
theorem OP.alloc {w : World} {B n cap : Nat} {a : Option Addr} {l : List Piece} (h : OP w B a n cap l) (o : Obj) : OP (w.alloc o) B a n cap l := World.ownsRow.alloc h o
theorem OB.blk {w : World} {B n cap : Nat} {a : Option Addr} {l : List UInt8} (h : OB w B a n cap l) : ∀ g, blk a = some g → B ≤ g ∧ g < w.heap.size := own_blk h
theorem OI.blk {w : World} {B n cap : Nat} {a : Option Addr} {l : List Int} (h : OI w B a n cap l) : ∀ g, blk a = some g → B ≤ g ∧ g < w.heap.size := own_blk h
theorem OP.blk {w : World} {B n cap : Nat} {a : Option Addr} {l : List Piece} (h : OP w B a n cap l) : ∀ g, blk a = some g → B ≤ g ∧ g < w.heap.size := own_blk h
theorem below_grew {B : Nat} {w0 w w' : World} {a a' : Option Addr} (h : Below B w0 w) (hg : Grew w w' a a') (hB : B ≤ w.heap.size) (ha : ∀ g, blk a = some g → B ≤ g) : Below B w0 w' :=
  h.grown hg.by_ hB fun k hk => ha k hk
theorem below_drewN {B : Nat} {w0 w : World} (h : Below B w0 w) (k : Nat) : Below B w0 (w.drewN k) := ⟨h.os, h.tape, h.output, h.size, h.block⟩
/-- What the temporary of an append reads as. -/
theorem rb_new (w : World) (g : Nat) (x : Int) (e : Nat) (c : UInt8) (hg : w.heap.size = g) (hx : x = (c.toNat : Int)) : RB (w.alloc (.cells #[.int .u8 x] e)) (some ⟨g, 0, none⟩) 1 1 [c] := by
  subst hx; subst hg; exact rd_new w #[.int .u8 (c.toNat : Int)] e 1 1 rfl (by omega)
theorem ri_new (w : World) (g : Nat) (x : Int) (e : Nat) (hg : w.heap.size = g) : RI (w.alloc (.cells #[.int .i64 x] e)) (some ⟨g, 0, none⟩) 1 1 [x] := by
  subst hg; exact rd_new w #[.int .i64 x] e 1 1 rfl (by omega)
theorem rp_new (w : World) (g : Nat) (x y z : Int) (e : Nat) (c : UInt8) (hg : w.heap.size = g) (hz : z = (c.toNat : Int)) : RP (w.alloc (.cells #[.int .i64 x, .int .i64 y, .int .u8 z] e)) (some ⟨g, 0, none⟩) 1 1 [⟨x, y, c⟩] := by
  subst hz; subst hg; exact rd_new w #[.int .i64 x, .int .i64 y, .int .u8 (c.toNat : Int)] e 1 3 rfl (by omega)

/-- What a store does to its block. -/
theorem heap_set {w : World} {p j e : Nat} {C : Array Value} {m : Nat × Nat} (h : w.heap[p]? = some (.cells C e m)) (v : Value) : (w.setCell ⟨p, j, none⟩ v).heap[p]? = some (.cells (C.setIfInBounds j v) e m) := by
  have hp := (Array.getElem?_eq_some_iff.1 h).1
  simp only [World.setCell]
  rw [Array.getElem?_modify, if_pos rfl, h]
  rfl
theorem cell_at {w : World} {p j e : Nat} {C : Array Value} {m : Nat × Nat} {v : Value} (h : w.heap[p]? = some (.cells C e m)) (hv : C[j]? = some v) : w.cell? ⟨p, j, none⟩ = some v := by simp [World.cell?, h, hv]
theorem free_at {w : World} {p j e : Nat} {C : Array Value} (h : w.heap[p]? = some (.cells C e (0, 0))) : w.frozen? ⟨p, j, none⟩ = false := by simp [World.frozen?, h]
theorem lt_at {w : World} {p : Nat} {o : Obj} (h : w.heap[p]? = some o) : p < w.heap.size := (Array.getElem?_eq_some_iff.1 h).1
theorem heap_alloc {w : World} {p : Nat} {o : Obj} (h : w.heap[p]? = some o) (o' : Obj) : (w.alloc o').heap[p]? = some o := by rw [Below.heap_alloc _ _ _ (lt_at h)]; exact h
theorem heap_set_other {w : World} {p : Nat} {o : Obj} (h : w.heap[p]? = some o) {a : Addr} (ha : a.block ≠ p) (v : Value) : (w.setCell a v).heap[p]? = some o := by rw [Below.heap_setCell _ _ _ _ (fun e => ha e.symm)]; exact h
theorem heap_grew {w w1 : World} {p : Nat} {o : Obj} {a a' : Option Addr} (hg : Grew w w1 a a') (h : w.heap[p]? = some o) (hne : blk a ≠ some p) : w1.heap[p]? = some o := by rw [hg.mod.block p (lt_at h) hne]; exact h
theorem own_set {w : World} {B e sz n c : Nat} {a : Option Addr} {xs : List Value} (h : w.ownsRow B e sz (.slice a n c) n xs) {q : Addr} (hq : blk a ≠ some q.block) (v : Value) : (w.setCell q v).ownsRow B e sz (.slice a n c) n xs :=
  own_mod h (S := fun k => k = q.block) ((Mod.refl _ w).setCell q v fun _ => rfl) fun g hg e => hq (by rw [hg, e])
theorem own_ne_cells {w : World} {B e sz n c g e' : Nat} {a : Option Addr} {xs : List Value} {C : Array Value} {m : Nat × Nat} (h : w.ownsRow B e sz (.slice a n c) n xs) (hg : w.heap[g]? = some (.cells C e' m)) (he : e ≠ e') : blk a ≠ some g := by
  intro hb
  rcases h.2 with ⟨hv, _⟩ | ⟨g', cap', cur, hv, _, hh, _⟩
  · simp only [Value.slice.injEq] at hv; rw [hv.1] at hb; cases hb
  · simp only [Value.slice.injEq] at hv; rw [hv.1] at hb; cases hb
    rw [hg] at hh
    simp at hh
    exact he hh.2.1.symm
/-- A store into a row of the call's own. -/
theorem own_put {w : World} {B e n c : Nat} {a : Option Addr} {xs : List Value} (h : w.ownsRow B e 1 (.slice a n c) n xs) {j : Nat} (hj : j < n) (v : Value) :
    ∃ g, a = some ⟨g, 0, none⟩ ∧ B ≤ g ∧ (w.setCell ⟨g, j, none⟩ v).ownsRow B e 1 (.slice a n c) n (xs.set j v) ∧ w.frozen? ⟨g, j, none⟩ = false ∧ ∀ i (hi : i < xs.length), w.cell? ⟨g, i, none⟩ = some xs[i] := by
  have hlen := h.1
  rcases h.2 with ⟨hv, h0⟩ | ⟨g, cap', cur, hv, hB, hh, hn, hm, hcs, htake⟩
  · omega
  · simp only [Value.slice.injEq] at hv
    obtain ⟨rfl, -, rfl⟩ := hv
    refine ⟨g, rfl, hB, ⟨by simpa using hlen, .inr ⟨g, c, cur.setIfInBounds j v, rfl, hB, heap_set hh v, hn, hm, by simpa using hcs, ?_⟩⟩, free_at hh, fun i hi => ?_⟩
    · rw [← htake, Array.toList_setIfInBounds, List.take_set]
    · have := h.cells (g := g) rfl i xs[i] (List.getElem?_eq_getElem hi)
      rw [Addr.add_lit, Nat.zero_add] at this
      exact this

/-- A slice of the call's own moves on: only its own block, and new memory, are written; it lies there still, or in a new block. -/
structure Mv (w w' : World) (a a' : Option Addr) : Prop where
  mod : Mod (fun k => blk a = some k) w w'
  at_ : blk a' = blk a ∨ ∃ g, blk a' = some g ∧ w.heap.size ≤ g
theorem Grew.mv {w w' : World} {a a' : Option Addr} (h : Grew w w' a a') : Mv w w' a a' := ⟨h.mod, h.at_⟩
theorem Mv.refl (w : World) (a : Option Addr) : Mv w w a a := ⟨Mod.refl _ w, .inl rfl⟩
theorem Mv.trans {w w1 w2 : World} {a a1 a2 : Option Addr} (h : Mv w w1 a a1) (k : Mv w1 w2 a1 a2) : Mv w w2 a a2 := by
  refine ⟨h.mod.trans k.mod (fun _ _ h => h) fun b hb hk => ?_, ?_⟩
  · rcases h.at_ with h1 | ⟨g, h1, h2⟩
    · rw [← h1]; exact hk
    · rw [h1] at hk; cases hk; omega
  · rcases k.at_ with k1 | ⟨g, k1, k2⟩
    · rw [k1]; exact h.at_
    · exact .inr ⟨g, k1, Nat.le_trans h.mod.size k2⟩
theorem Mv.alloc {w w' : World} {a a' : Option Addr} (h : Mv w w' a a') (o : Obj) : Mv w (w'.alloc o) a a' := ⟨h.mod.alloc o, h.at_⟩
theorem Mv.drewN {w w' : World} {a a' : Option Addr} (h : Mv w w' a a') (n : Nat) : Mv w (w'.drewN n) a a' := ⟨h.mod.drewN' n, h.at_⟩
theorem Mv.drew {w w' : World} {a a' : Option Addr} (h : Mv w w' a a') : Mv w w'.drew a a' := ⟨h.mod.drew, h.at_⟩
/-- A store into the slice's block, or into a block that is new since then. -/
theorem Mv.setCell {w w' : World} {a a' : Option Addr} (h : Mv w w' a a') (q : Addr) (v : Value) (hq : blk a' = some q.block ∨ w.heap.size ≤ q.block) : Mv w (w'.setCell q v) a a' :=
  ⟨h.mod.setCell q v fun hlt => by
    rcases hq with hq | hq
    · rcases h.at_ with h1 | ⟨g, h1, h2⟩
      · rw [← h1]; exact hq
      · rw [h1] at hq; cases hq; omega
    · omega, h.at_⟩
theorem Mv.heap {w w' : World} {a a' : Option Addr} {p : Nat} {o : Obj} (h : Mv w w' a a') (hp : w.heap[p]? = some o) (hne : blk a ≠ some p) : w'.heap[p]? = some o := by rw [h.mod.block p (lt_at hp) hne]; exact hp
theorem Mv.below {w w' : World} {a a' : Option Addr} {B : Nat} (h : Mv w w' a a') (hB : B ≤ w.heap.size) (ha : ∀ g, blk a = some g → B ≤ g) : Below B w w' := h.mod.below hB fun b _ hb => ha b hb

theorem cP_get (l : List Piece) (i k : Nat) (hi : i < l.length) (hk : k < 3) : (cP l)[i * 3 + k]? = (pc (l.getD i ⟨0, 0, 0⟩))[k]? := by
  induction l generalizing i with
  | nil => simp at hi
  | cons p l ih =>
    have e : cP (p :: l) = pc p ++ cP l := by simp [cP]
    have hp : (pc p).length = 3 := rfl
    rw [e]
    cases i with
    | zero => rw [List.getElem?_append_left (by omega)]; simp
    | succ i =>
      rw [List.getElem?_append_right (by omega), hp, show (i + 1) * 3 + k - 3 = i * 3 + k by omega, ih i (by simpa using hi)]
      simp
/-- The three cells of a piece. -/
theorem rp_cells {w : World} {b off : Nat} {l : List Piece} (hc : ∀ j (h : j < (cP l).length), w.cell? ⟨b, off + j, none⟩ = some (cP l)[j]) {i : Nat} (hi : i < l.length) :
    w.cell? ⟨b, off + i * 3, none⟩ = some (.int .i64 (l.getD i ⟨0, 0, 0⟩).len) ∧ w.cell? ⟨b, off + i * 3 + 1, none⟩ = some (.int .i64 (l.getD i ⟨0, 0, 0⟩).dist) ∧
      w.cell? ⟨b, off + i * 3 + 2, none⟩ = some (.int .u8 ((l.getD i ⟨0, 0, 0⟩).byte.toNat : Int)) := by
  have hl := length_cP l
  have get : ∀ k (hk : k < 3), w.cell? ⟨b, off + (i * 3 + k), none⟩ = (pc (l.getD i ⟨0, 0, 0⟩))[k]? := fun k hk => by
    have hj : i * 3 + k < (cP l).length := by omega
    rw [hc _ hj, ← cP_get l i k hi hk, List.getElem?_eq_getElem hj]
  exact ⟨get 0 (by omega), get 1 (by omega), get 2 (by omega)⟩

theorem below_setRow1 {B g : Nat} {w0 w : World} (h : Below B w0 w) (hg : B ≤ g) (cs : Array Value) : Below B w0 (w.setRow g cs) :=
  h.trans ⟨rfl, rfl, rfl, by simp [World.setRow], fun k hk => by
    simp only [World.setRow, Array.getElem?_modify]
    rw [if_neg (by omega)]⟩
theorem heap_setRow_other {w : World} {p g : Nat} {o : Obj} (h : w.heap[p]? = some o) (hg : g ≠ p) (cs : Array Value) : (w.setRow g cs).heap[p]? = some o := by
  simp only [World.setRow, Array.getElem?_modify]
  rw [if_neg hg]; exact h
theorem size_setRow1 (w : World) (g : Nat) (cs : Array Value) : (w.setRow g cs).heap.size = w.heap.size := by simp [World.setRow]
/-- A row of numbers as an array's cells. -/
def aI (l : List Int) : Array Value := (cI l).toArray
theorem aI_size (l : List Int) : (aI l).size = l.length := by simp [aI]
theorem aI_get (l : List Int) {j : Nat} (h : j < l.length) : (aI l)[j]? = some (.int .i64 (atI l j)) := by
  have h' : j < (cI l).length := by simpa using h
  rw [aI, List.getElem?_toArray, List.getElem?_eq_getElem h', cI_get]
theorem aI_set (l : List Int) (j : Nat) (x : Int) : (aI l).setIfInBounds j (.int .i64 x) = aI (l.set j x) := by
  rw [aI, List.setIfInBounds_toArray, aI, cI_set]
theorem aI_one (l : List Int) : (aI l).all (·.oneCell') = true := by
  rw [Array.all_eq_true_iff_forall_mem]
  intro v hv
  exact one_cI l v (by simpa [aI] using hv)
theorem atI_natI (l : List Nat) (j : Nat) : atI (natI l) j = ((atN l j : Nat) : Int) := by
  unfold atI natI atN
  by_cases h : j < l.length
  · simp [List.getD, List.getElem?_map, List.getElem?_eq_getElem h]
  · simp [List.getD, List.getElem?_map, List.getElem?_eq_none (Nat.le_of_not_lt h)]
/-- What an index into an array's variable reads, and what a store there leaves. -/
theorem arr_cell {w : World} {p e j : Nat} {l : List Int} {m : Nat × Nat} (h : w.heap[p]? = some (.cells (aI l) e m)) (hj : j < l.length) : w.cell? ⟨p, j, none⟩ = some (.int .i64 (atI l j)) := cell_at h (aI_get l hj)
theorem arr_cellN {w : World} {p e j : Nat} {l : List Nat} {m : Nat × Nat} (h : w.heap[p]? = some (.cells (aI (natI l)) e m)) (hj : j < l.length) : w.cell? ⟨p, j, none⟩ = some (.int .i64 ((atN l j : Nat) : Int)) := by
  rw [arr_cell h (by rw [natI_length]; exact hj), atI_natI]
theorem arr_set {w : World} {p e : Nat} {l : List Int} {m : Nat × Nat} (h : w.heap[p]? = some (.cells (aI l) e m)) (j : Nat) (x : Int) : (w.setCell ⟨p, j, none⟩ (.int .i64 x)).heap[p]? = some (.cells (aI (l.set j x)) e m) := by
  rw [← aI_set]; exact heap_set h _
theorem arr_setN {w : World} {p e : Nat} {l : List Nat} {m : Nat × Nat} (h : w.heap[p]? = some (.cells (aI (natI l)) e m)) (j : Nat) (x : Int) (y : Nat) (hx : x = (y : Int)) : (w.setCell ⟨p, j, none⟩ (.int .i64 x)).heap[p]? = some (.cells (aI (natI (l.set j y))) e m) := by
  subst hx; rw [natI_set]; exact arr_set h j _

/-- A cell that was there reads as it did. -/
theorem cell_below {w w' : World} {p : Addr} {v : Value} (hc : w.cell? p = some v) (hb : Below w.heap.size w w') : w'.cell? p = some v := (hb.cell (World.block_lt_of_cell? w p hc)).trans hc

/-- Draws add up. -/
theorem drs (w : World) (a b : Nat) : ∃ m, (w.drewN a).drewN b = w.drewN m := ⟨a + b, by rw [World.drewN_drewN]⟩
/-- A quiet callee's contract, met where draws have gone ahead of the region. -/
theorem quiet_of2 {P : Program} {f : FuncId} {args : Array Value} {w : World} {m n : Nat} {v : Value}
    (h : Calls P f args (w.drewN (m + n)) fun e w' => e = .returned v ∧ ∃ k, w' = (w.drewN (m + n)).drewN k) : Calls P f args (w.drewN (m + n)) fun e w'' => e = .returned v ∧ ∃ k, w'' = w.drewN (m + k) :=
  h.mono fun _ _ ⟨he, k, hk⟩ => ⟨he, n + k, by rw [hk, World.drewN_drewN, Nat.add_assoc]⟩
theorem ret_int2 {k k' : IntKind} {a b c d : Int} (h : a = b) (h' : c = d) : Ending.returned (.tuple #[.int k a, .int k' c]) = .returned (.tuple #[.int k b, .int k' d]) := by rw [h, h']
theorem ret_int3 {k k' k'' : IntKind} {a b c d e f : Int} (h : a = b) (h' : c = d) (h'' : e = f) : Ending.returned (.tuple #[.int k a, .int k' c, .int k'' e]) = .returned (.tuple #[.int k b, .int k' d, .int k'' f]) := by rw [h, h', h'']
theorem ret_bool {a b : Bool} (h : a = b) : Ending.returned (.bool a) = .returned (.bool b) := by rw [h]
theorem ret_int {k : IntKind} {a b : Int} (h : a = b) : Ending.returned (.int k a) = .returned (.int k b) := by rw [h]

section
variable {w : World} {ops : Array Oper} {rest : List Oper} {o : Oper} {A : Act} {Q : Exit → Act → World → Prop}
theorem made_zeros (n : Nat) : (madeCells (Value.cells (.int .i64 0)) (n * 1)).toList = cI (List.replicate n 0) := by
  apply List.ext_getElem?
  intro i
  by_cases hi : i < n
  · simp [madeCells, cI, hi, Value.cells, Nat.mod_one]
  · rw [List.getElem?_eq_none (by simp [madeCells]; omega), List.getElem?_eq_none (by simp [cI]; omega)]
/-- make([]int, n). -/
theorem wpList_makeI (hgd : o.guard = none) (l c : Operand) (ho : o.op = Op.makeSlice 53 l c) (B n : Nat) (L C : Int) (hl : A.eval l = .int .i64 L) (hc : A.eval c = .int .i64 C) (hL : L = (n : Int)) (hC : C = (n : Int))
    (hn : n ≤ 1099511627776) (hB : B ≤ w.heap.size)
    (h : ∀ w', OI w' B (some ⟨w.heap.size, 0, none⟩) n n (List.replicate n 0) → Mod (fun _ => False) w w' → wpList Try.prog ops Q rest (A.put o.dst (.slice (some ⟨w.heap.size, 0, none⟩) n n)) w') :
    wpList Try.prog ops Q (o :: rest) A w := by
  obtain ⟨i, hi, hz0, hz1, hz2⟩ := info_parts info3
  refine wpList_make_full w hgd l c 53 ho B 3 i (.int .i64 0) 1 Try.underlying53 hi hz0 hz1 .i64 .i64 L C n hl hc hL hC (by rw [hz2]; omega) (by unfold maxLen; omega) hB fun w' hown hg => h w' ?_ ((Mod.refl _ w).grown hg fun k hk => by cases hk)
  unfold OI
  rw [← made_zeros]
  exact hown
/-- make([]byte, 0, n). -/
theorem wpList_makeB0 (hgd : o.guard = none) (l c : Operand) (ho : o.op = Op.makeSlice 22 l c) (B n : Nat) (C : Int) (hl : A.eval l = .int .i64 0) (hc : A.eval c = .int .i64 C) (hC : C = (n : Int))
    (hn : n ≤ 1099511627776) (hB : B ≤ w.heap.size)
    (h : ∀ w', OB w' B (some ⟨w.heap.size, 0, none⟩) 0 n [] → Mod (fun _ => False) w w' → wpList Try.prog ops Q rest (A.put o.dst (.slice (some ⟨w.heap.size, 0, none⟩) 0 n)) w') :
    wpList Try.prog ops Q (o :: rest) A w := by
  obtain ⟨i, hi, hz0, hz1, hz2⟩ := info_parts info5
  exact wpList_make_own w hgd l c 22 ho B 5 i (.int .u8 0) 1 Try.underlying22 hi hz0 hz1 .i64 .i64 C n hl hc hC (by rw [hz2]; omega) (by unfold maxLen; omega) hB fun w' hown hg => h w' hown ((Mod.refl _ w).grown hg fun k hk => by cases hk)
end

theorem oi_put {w : World} {B g n c j : Nat} {l : List Int} (h : OI w B (some ⟨g, 0, none⟩) n c l) (hj : j < n) (x : Int) : OI (w.setCell ⟨g, j, none⟩ (.int .i64 x)) B (some ⟨g, 0, none⟩) n c (l.set j x) := by
  obtain ⟨g', hg, _, hput, _⟩ := own_put h hj (.int .i64 x)
  simp only [Option.some.injEq, Addr.mk.injEq, and_true] at hg
  subst hg
  unfold OI
  rw [cI_set]; exact hput
theorem ob_put {w : World} {B g n c j : Nat} {l : List UInt8} (h : OB w B (some ⟨g, 0, none⟩) n c l) (hj : j < n) (x : UInt8) : OB (w.setCell ⟨g, j, none⟩ (.int .u8 (x.toNat : Int))) B (some ⟨g, 0, none⟩) n c (l.set j x) := by
  obtain ⟨g', hg, _, hput, _⟩ := own_put h hj (.int .u8 (x.toNat : Int))
  simp only [Option.some.injEq, Addr.mk.injEq, and_true] at hg
  subst hg
  unfold OB
  rw [cB_set]; exact hput
theorem oi_cell {w : World} {B g n c j : Nat} {l : List Int} (h : OI w B (some ⟨g, 0, none⟩) n c l) (hj : j < n) : w.cell? ⟨g, j, none⟩ = some (.int .i64 (atI l j)) ∧ w.frozen? ⟨g, j, none⟩ = false := by
  obtain ⟨g', hg, _, _, hf, hc⟩ := own_put h hj (.int .i64 0)
  simp only [Option.some.injEq, Addr.mk.injEq, and_true] at hg
  subst hg
  have := h.ri.len
  exact ⟨by rw [hc j (by simp; omega), cI_get], hf⟩
theorem ob_cell {w : World} {B g n c j : Nat} {l : List UInt8} (h : OB w B (some ⟨g, 0, none⟩) n c l) (hj : j < n) : w.cell? ⟨g, j, none⟩ = some (.int .u8 (at8 l j)) ∧ w.frozen? ⟨g, j, none⟩ = false := by
  obtain ⟨g', hg, _, _, hf, hc⟩ := own_put h hj (.int .u8 0)
  simp only [Option.some.injEq, Addr.mk.injEq, and_true] at hg
  subst hg
  have := h.rb.len
  exact ⟨by rw [hc j (by simp; omega), cB_get], hf⟩
theorem oi_set {w : World} {B n c : Nat} {a : Option Addr} {l : List Int} (h : OI w B a n c l) {q : Addr} (hq : blk a ≠ some q.block) (v : Value) : OI (w.setCell q v) B a n c l := own_set h hq v
theorem ob_set {w : World} {B n c : Nat} {a : Option Addr} {l : List UInt8} (h : OB w B a n c l) {q : Addr} (hq : blk a ≠ some q.block) (v : Value) : OB (w.setCell q v) B a n c l := own_set h hq v
theorem below_mod {S : Nat → Prop} {B : Nat} {w0 w w' : World} (h : Below B w0 w) (hm : Mod S w w') (hB : B ≤ w.heap.size) (hs : ∀ b, b < w.heap.size → S b → B ≤ b) : Below B w0 w' := h.trans (hm.below hB hs)
theorem heap_mod {S : Nat → Prop} {w w' : World} {p : Nat} {o : Obj} (hm : Mod S w w') (h : w.heap[p]? = some o) (hp : ¬ S p) : w'.heap[p]? = some o := by rw [hm.block p (lt_at h) hp]; exact h
end Go.Proofs.Ytpfalaghggjbjaa
