/- S-logic, part 10: numbers, truth, texts. -/
import Derived.Test.YtgihpfidacjogaaDoorSlH
import Derived.Laws.BytesString
import Derived.Laws.Strings
import Derived.Laws.StructEq
set_option linter.unusedVariables false
set_option linter.unusedSimpArgs false
namespace Go.SL
open Go.RowKit

theorem run_eqGuard {P : Program} {w : World} {op : BinOp} {t : TypeId} {x y : Operand} {a b : Value} (h : ¬ (∃ cs ds, a = .agg cs ∧ b = .agg ds)) (h' : a ≠ .nilIface) : (eqGuard op t x y a b).run P w = .ok () w := by
  unfold eqGuard
  split
  · simp only [Bool.not_true, Bool.false_eq_true, if_false]
    split
    · exact absurd rfl h'
    · exact absurd ⟨_, _, rfl, rfl⟩ h
    · rfl
  · simp only [Bool.not_true, Bool.false_eq_true, if_false]
    split
    · exact absurd rfl h'
    · exact absurd ⟨_, _, rfl, rfl⟩ h
    · rfl
  · simp


theorem Dz.of {P : Program} {C : Ctx P} {o : Oper} {s : Sto} {ρA : Operand → AV} {x : AV} (h : ∀ s, Does C o s ρA x s) : Dz C o s ρA x [] [] := fun s1 _ => h s1
def inK (k : IntKind) (n : Int) : Prop := match k with
  | .i64 => -9223372036854775808 ≤ n ∧ n ≤ 9223372036854775807
  | .u8 => 0 ≤ n ∧ n ≤ 255
  | _ => False
theorem wrap_in {k : IntKind} {n : Int} (h : inK k n) : k.wrap n = n := by
  cases k <;> first | exact h.elim | skip
  · simp only [inK] at h
    unfold IntKind.wrap
    simp only [IntKind.bits, IntKind.signed]
    simp
    split <;> omega
  · simp only [inK] at h
    unfold IntKind.wrap
    simp only [IntKind.bits, IntKind.signed]
    simp
    omega
/-- A number as int, as byte. -/
def w64 (x : Int) : Int := IntKind.i64.wrap x
def b8 (x : Int) : UInt8 := UInt8.ofNat (x % 256).toNat
theorem w64_in {x : Int} (h1 : -9223372036854775808 ≤ x) (h2 : x ≤ 9223372036854775807) : w64 x = x := wrap_in (k := .i64) ⟨h1, h2⟩
theorem b8_toNat (x : Int) : ((b8 x).toNat : Int) = x % 256 := by
  unfold b8
  rw [UInt8.toNat_ofNat']
  have h1 : 0 ≤ x % 256 := Int.emod_nonneg _ (by omega)
  have h2 : x % 256 < 256 := Int.emod_lt_of_pos _ (by omega)
  rw [Nat.mod_eq_of_lt (by omega)]
  omega
theorem b8_wrap (x : Int) : IntKind.u8.wrap x = ((b8 x).toNat : Int) := by
  rw [b8_toNat]
  unfold IntKind.wrap
  simp only [IntKind.bits, IntKind.signed]
  simp

/-- An operator at two values of one cell each. -/
theorem Does.bin {P : Program} {C : Ctx P} {o : Oper} {s : Sto} {ρA : Operand → AV} {op : BinOp} {t yt : TypeId} {p q : Operand} (ho : o.op = .binOp op t p q yt) {a b v : Value} (hp : ρA p = .fz (.sc a)) (hq : ρA q = .fz (.sc b))
    (h : ¬ (∃ cs ds, a = .agg cs ∧ b = .agg ds)) (h' : a ≠ .nilIface) (hrun : ∀ w, (Go.binOp op t a b).run P w = .ok v w) (h1 : v.oneCell' = true) : Does C o s ρA (.fz (.sc v)) s :=
  Does.same fun ρ w hh bk H hr => by
    have rp := hr p (by simp [ho, Op.operands])
    have rq := hr q (by simp [ho, Op.operands])
    rw [hp] at rp
    rw [hq] at rq
    refine ⟨v, ?_, .fz (.sc v h1)⟩
    simp only [execOp, ho, rp.sc, rq.sc, Sem.run_bind, run_eqGuard h h', Result.andThen_ok, hrun, Sem.run_pure]

section
variable {P : Program} {C : Ctx P} {dst : Option Nat} {ty : Nat} {pos : String} {af : Array Edge} {gd : Option (Nat × Bool)} {s : Sto} {ρA : Operand → AV} {t yt : TypeId} {p q : Operand}
theorem D.move : Dz C ⟨dst, .move p, ty, pos, af, gd⟩ s ρA (ρA p) [] [] := .of fun _ => Does.move p (.inl rfl)
theorem D.assign : Dz C ⟨dst, .assign p, ty, pos, af, gd⟩ s ρA (ρA p) [] [] := .of fun _ => Does.move p (.inr rfl)
/-- A move, told at once what it moves. -/
theorem D.mv {x : AV} (h : ρA p = x) : Dz C ⟨dst, .move p, ty, pos, af, gd⟩ s ρA x [] [] := by subst h; exact D.move
theorem D.as {x : AV} (h : ρA p = x) : Dz C ⟨dst, .assign p, ty, pos, af, gd⟩ s ρA x [] [] := by subst h; exact D.assign

section
variable {a b : Int} (hp : ρA p = .fz (.sc (.int .i64 a))) (hq : ρA q = .fz (.sc (.int .i64 b)))
include hp hq
theorem D.add : Dz C ⟨dst, .binOp .add t p q yt, ty, pos, af, gd⟩ s ρA (.fz (.sc (.int .i64 (w64 (a + b))))) [] [] :=
  .of fun _ => Does.bin rfl hp hq (by rintro ⟨_, _, h, _⟩; cases h) (by simp) (fun w => by simp [Go.binOp, Op.intArith, w64]) rfl
/-- A sum that is known to be in range. -/
theorem D.addN (h : -9223372036854775808 ≤ a + b ∧ a + b ≤ 9223372036854775807) : Dz C ⟨dst, .binOp .add t p q yt, ty, pos, af, gd⟩ s ρA (.fz (.sc (.int .i64 (a + b)))) [] [] := by
  have := D.add (C := C) (dst := dst) (ty := ty) (pos := pos) (af := af) (gd := gd) (s := s) (t := t) (yt := yt) hp hq
  rw [w64_in h.1 h.2] at this
  exact this
theorem D.sub : Dz C ⟨dst, .binOp .sub t p q yt, ty, pos, af, gd⟩ s ρA (.fz (.sc (.int .i64 (w64 (a - b))))) [] [] :=
  .of fun _ => Does.bin rfl hp hq (by rintro ⟨_, _, h, _⟩; cases h) (by simp) (fun w => by simp [Go.binOp, Op.intArith, w64]) rfl
theorem D.mul : Dz C ⟨dst, .binOp .mul t p q yt, ty, pos, af, gd⟩ s ρA (.fz (.sc (.int .i64 (w64 (a * b))))) [] [] :=
  .of fun _ => Does.bin rfl hp hq (by rintro ⟨_, _, h, _⟩; cases h) (by simp) (fun w => by simp [Go.binOp, Op.intArith, w64]) rfl
theorem D.quo (h0 : b ≠ 0) : Dz C ⟨dst, .binOp .quo t p q yt, ty, pos, af, gd⟩ s ρA (.fz (.sc (.int .i64 (w64 (a.tdiv b))))) [] [] :=
  .of fun _ => Does.bin rfl hp hq (by rintro ⟨_, _, h, _⟩; cases h) (by simp) (fun w => by simp [Go.binOp, Op.intDiv, h0, w64]) rfl
theorem D.rem (h0 : b ≠ 0) : Dz C ⟨dst, .binOp .rem t p q yt, ty, pos, af, gd⟩ s ρA (.fz (.sc (.int .i64 (a.tmod b)))) [] [] :=
  .of fun _ => Does.bin rfl hp hq (by rintro ⟨_, _, h, _⟩; cases h) (by simp) (fun w => by simp [Go.binOp, Op.intDiv, h0]) rfl
end
def xor64 (a b : Int) : Int := IntKind.i64.wrap (BitVec.ofInt IntKind.i64.bits a ^^^ BitVec.ofInt IntKind.i64.bits b).toNat
theorem D.xor {a b : Int} (hp : ρA p = .fz (.sc (.int .i64 a))) (hq : ρA q = .fz (.sc (.int .i64 b))) : Dz C ⟨dst, .binOp .xor t p q yt, ty, pos, af, gd⟩ s ρA (.fz (.sc (.int .i64 (xor64 a b)))) [] [] :=
  .of fun _ => Does.bin rfl hp hq (by rintro ⟨_, _, h, _⟩; cases h) (by simp) (fun w => by simp [Go.binOp, Op.intBits, xor64]) rfl
section
variable {a b : Int} (hp : ρA p = .fz (.sc (.int .u8 a))) (hq : ρA q = .fz (.sc (.int .u8 b)))
include hp hq
theorem D.addB : Dz C ⟨dst, .binOp .add t p q yt, ty, pos, af, gd⟩ s ρA (.fz (.sc (.int .u8 ((b8 (a + b)).toNat : Int)))) [] [] :=
  .of fun _ => Does.bin rfl hp hq (by rintro ⟨_, _, h, _⟩; cases h) (by simp) (fun w => by simp [Go.binOp, Op.intArith, b8_wrap]) rfl
theorem D.subB : Dz C ⟨dst, .binOp .sub t p q yt, ty, pos, af, gd⟩ s ρA (.fz (.sc (.int .u8 ((b8 (a - b)).toNat : Int)))) [] [] :=
  .of fun _ => Does.bin rfl hp hq (by rintro ⟨_, _, h, _⟩; cases h) (by simp) (fun w => by simp [Go.binOp, Op.intArith, b8_wrap]) rfl
theorem D.remB (h0 : b ≠ 0) (h : 0 ≤ a ∧ 0 < b ∧ b < 256) : Dz C ⟨dst, .binOp .rem t p q yt, ty, pos, af, gd⟩ s ρA (.fz (.sc (.int .u8 (a.tmod b)))) [] [] :=
  .of fun _ => Does.bin rfl hp hq (by rintro ⟨_, _, h, _⟩; cases h) (by simp) (fun w => by simp [Go.binOp, Op.intDiv, h0]) rfl
end
section
variable {k : IntKind} {a b : Int} (hp : ρA p = .fz (.sc (.int k a))) (hq : ρA q = .fz (.sc (.int k b)))
include hp hq
theorem D.eqI : Dz C ⟨dst, .binOp .eql t p q yt, ty, pos, af, gd⟩ s ρA (.fz (.sc (.bool (a == b)))) [] [] :=
  .of fun _ => Does.bin rfl hp hq (by rintro ⟨_, _, h, _⟩; cases h) (by simp) (fun w => by simp [Go.binOp, Op.intCmp]) rfl
theorem D.neI : Dz C ⟨dst, .binOp .neq t p q yt, ty, pos, af, gd⟩ s ρA (.fz (.sc (.bool (a != b)))) [] [] :=
  .of fun _ => Does.bin rfl hp hq (by rintro ⟨_, _, h, _⟩; cases h) (by simp) (fun w => by simp [Go.binOp, Op.intCmp]) rfl
theorem D.lt : Dz C ⟨dst, .binOp .lss t p q yt, ty, pos, af, gd⟩ s ρA (.fz (.sc (.bool (decide (a < b))))) [] [] :=
  .of fun _ => Does.bin rfl hp hq (by rintro ⟨_, _, h, _⟩; cases h) (by simp) (fun w => by simp [Go.binOp, Op.intCmp]) rfl
theorem D.le : Dz C ⟨dst, .binOp .leq t p q yt, ty, pos, af, gd⟩ s ρA (.fz (.sc (.bool (decide (a ≤ b))))) [] [] :=
  .of fun _ => Does.bin rfl hp hq (by rintro ⟨_, _, h, _⟩; cases h) (by simp) (fun w => by simp [Go.binOp, Op.intCmp]) rfl
theorem D.gt : Dz C ⟨dst, .binOp .gtr t p q yt, ty, pos, af, gd⟩ s ρA (.fz (.sc (.bool (decide (b < a))))) [] [] :=
  .of fun _ => Does.bin rfl hp hq (by rintro ⟨_, _, h, _⟩; cases h) (by simp) (fun w => by simp [Go.binOp, Op.intCmp]) rfl
theorem D.ge : Dz C ⟨dst, .binOp .geq t p q yt, ty, pos, af, gd⟩ s ρA (.fz (.sc (.bool (decide (b ≤ a))))) [] [] :=
  .of fun _ => Does.bin rfl hp hq (by rintro ⟨_, _, h, _⟩; cases h) (by simp) (fun w => by simp [Go.binOp, Op.intCmp]) rfl
end
section
variable {a b : Bool} (ht : P.underlying t = some .bool) (hp : ρA p = .fz (.sc (.bool a))) (hq : ρA q = .fz (.sc (.bool b)))
include ht hp hq
theorem D.eqB : Dz C ⟨dst, .binOp .eql t p q yt, ty, pos, af, gd⟩ s ρA (.fz (.sc (.bool (a == b)))) [] [] :=
  .of fun _ => Does.bin rfl hp hq (by rintro ⟨_, _, h, _⟩; cases h) (by simp) (fun w => by simp [Go.binOp, Op.equal, Op.maxDepth, run_equalIn_bool' w _ t a b ht]) rfl
theorem D.neB : Dz C ⟨dst, .binOp .neq t p q yt, ty, pos, af, gd⟩ s ρA (.fz (.sc (.bool (a != b)))) [] [] :=
  .of fun _ => Does.bin rfl hp hq (by rintro ⟨_, _, h, _⟩; cases h) (by simp) (fun w => by simp [Go.binOp, Op.equal, Op.maxDepth, run_equalIn_bool' w _ t a b ht, bne]) rfl
end
theorem D.not {a : Bool} (hp : ρA p = .fz (.sc (.bool a))) : Dz C ⟨dst, .unOp .not t p, ty, pos, af, gd⟩ s ρA (.fz (.sc (.bool !a))) [] [] :=
  .of fun _ => Does.same fun ρ w hh bk H hr => by
    have rp := hr p (by simp [Op.operands])
    rw [hp] at rp
    exact ⟨_, by simp [execOp, rp.sc, Op.unary], .fz (.sc _ rfl)⟩
theorem D.neg {n : Int} (hp : ρA p = .fz (.sc (.int .i64 n))) : Dz C ⟨dst, .unOp .neg t p, ty, pos, af, gd⟩ s ρA (.fz (.sc (.int .i64 (w64 (-n))))) [] [] :=
  .of fun _ => Does.same fun ρ w hh bk H hr => by
    have rp := hr p (by simp [Op.operands])
    rw [hp] at rp
    exact ⟨_, by simp [execOp, rp.sc, Op.unary, Op.intArith, w64], .fz (.sc _ rfl)⟩
section
variable {r : Operand} {a : Bool} {x : AV} (hp : ρA p = .fz (.sc (.bool a)))
include hp
theorem D.pickT (ha : a = true) (hq : ρA q = x) : Dz C ⟨dst, .pick p q r, ty, pos, af, gd⟩ s ρA x [] [] :=
  .of fun _ => Does.same fun ρ w hh bk H hr => by
    have rp := hr p (by simp [Op.operands])
    rw [hp, ha] at rp
    have rq := hr q (by simp [Op.operands])
    rw [hq] at rq
    exact ⟨ρ q, by simp [execOp, rp.sc, asBool], rq⟩
theorem D.pickF (ha : a = false) (hq : ρA r = x) : Dz C ⟨dst, .pick p q r, ty, pos, af, gd⟩ s ρA x [] [] :=
  .of fun _ => Does.same fun ρ w hh bk H hr => by
    have rp := hr p (by simp [Op.operands])
    rw [hp, ha] at rp
    have rq := hr r (by simp [Op.operands])
    rw [hq] at rq
    exact ⟨ρ r, by simp [execOp, rp.sc, asBool], rq⟩
/-- a && c, a || c: told alike on both ways. -/
theorem D.andT {c : Bool} (ha : a = true) (hq : ρA q = .fz (.sc (.bool c))) : Dz C ⟨dst, .pick p q r, ty, pos, af, gd⟩ s ρA (.fz (.sc (.bool (a && c)))) [] [] := by
  have := D.pickT (C := C) (dst := dst) (ty := ty) (pos := pos) (af := af) (gd := gd) (s := s) (r := r) hp ha hq
  subst ha; exact this
theorem D.andF {c : Bool} (ha : a = false) (hq : ρA r = .fz (.sc (.bool false))) : Dz C ⟨dst, .pick p q r, ty, pos, af, gd⟩ s ρA (.fz (.sc (.bool (a && c)))) [] [] := by
  have := D.pickF (C := C) (dst := dst) (ty := ty) (pos := pos) (af := af) (gd := gd) (s := s) (q := q) hp ha hq
  subst ha; exact this
theorem D.orT {c : Bool} (ha : a = true) (hq : ρA q = .fz (.sc (.bool true))) : Dz C ⟨dst, .pick p q r, ty, pos, af, gd⟩ s ρA (.fz (.sc (.bool (a || c)))) [] [] := by
  have := D.pickT (C := C) (dst := dst) (ty := ty) (pos := pos) (af := af) (gd := gd) (s := s) (r := r) hp ha hq
  subst ha; exact this
theorem D.orF {c : Bool} (ha : a = false) (hq : ρA r = .fz (.sc (.bool c))) : Dz C ⟨dst, .pick p q r, ty, pos, af, gd⟩ s ρA (.fz (.sc (.bool (a || c)))) [] [] := by
  have := D.pickF (C := C) (dst := dst) (ty := ty) (pos := pos) (af := af) (gd := gd) (s := s) (q := q) hp ha hq
  subst ha; exact this
end

/-! ### From one kind to another -/
def ki (P : Program) (t : TypeId) (k : IntKind) : Bool := match P.underlying t with
  | some (.int k') => k' == k
  | _ => false
theorem ki_spec {t : TypeId} {k : IntKind} (h : ki P t k = true) : P.underlying t = some (.int k) := by
  unfold ki at h
  cases hu : P.underlying t with
  | none => rw [hu] at h; cases h
  | some d => rw [hu] at h; cases d <;> simp at h; rw [h]
theorem run_cvt {src dst : TypeId} {k k' : IntKind} (hs : ki P src k = true) (hd : ki P dst k' = true) (n : Int) (w : World) : (convert src dst (.int k n)).run P w = .ok (.int k' (k'.wrap n)) w := by
  simp [convert, run_underlying (ki_spec hs), run_underlying (ki_spec hd), Conv.intToInt]
theorem D.toB {src d : TypeId} {n : Int} (hs : ki P src .i64 = true) (hd : ki P d .u8 = true) (hp : ρA p = .fz (.sc (.int .i64 n))) : Dz C ⟨dst, .convert src d p, ty, pos, af, gd⟩ s ρA (.fz (.sc (.int .u8 ((b8 n).toNat : Int)))) [] [] :=
  .of fun _ => Does.same fun ρ w hh bk H hr => by
    have rp := hr p (by simp [Op.operands])
    rw [hp] at rp
    exact ⟨_, by simp [execOp, rp.sc, run_cvt hs hd, b8_wrap], .fz (.sc _ rfl)⟩
theorem D.toI {src d : TypeId} {c : UInt8} (hs : ki P src .u8 = true) (hd : ki P d .i64 = true) (hp : ρA p = .fz (.sc (.int .u8 (c.toNat : Int)))) : Dz C ⟨dst, .convert src d p, ty, pos, af, gd⟩ s ρA (.fz (.sc (.int .i64 (c.toNat : Int)))) [] [] :=
  .of fun _ => Does.same fun ρ w hh bk H hr => by
    have rp := hr p (by simp [Op.operands])
    rw [hp] at rp
    have hc := c.toNat_lt
    have e1 : IntKind.i64.wrap (c.toNat : Int) = (c.toNat : Int) := wrap_in (k := .i64) ⟨by omega, by omega⟩
    exact ⟨.int .i64 (c.toNat : Int), by simp [execOp, rp.sc, run_cvt hs hd, e1], .fz (.sc _ rfl)⟩
theorem D.toII {src d : TypeId} {n : Int} (hs : ki P src .i64 = true) (hd : ki P d .i64 = true) (hp : ρA p = .fz (.sc (.int .i64 n))) : Dz C ⟨dst, .convert src d p, ty, pos, af, gd⟩ s ρA (.fz (.sc (.int .i64 (w64 n)))) [] [] :=
  .of fun _ => Does.same fun ρ w hh bk H hr => by
    have rp := hr p (by simp [Op.operands])
    rw [hp] at rp
    exact ⟨_, by simp [execOp, rp.sc, run_cvt hs hd, w64], .fz (.sc _ rfl)⟩
end

/-! ### Texts as lists of bytes -/
def bs (x : List UInt8) : ByteArray := ⟨x.toArray⟩
theorem bs_toList (x : List UInt8) : (bs x).toList = x := by rw [ByteArray.toList_eq]; simp [bs]
theorem bs_size (x : List UInt8) : (bs x).size = x.length := by simp [bs, ByteArray.size]
theorem bs_append (x y : List UInt8) : bs x ++ bs y = bs (x ++ y) := by
  apply ByteArray.ext
  simp [bs]
theorem bs_inj {x y : List UInt8} (h : bs x = bs y) : x = y := by rw [← bs_toList x, h, bs_toList]
theorem bs_get (x : List UInt8) (i : Nat) : (bs x)[i]? = x[i]? := by
  by_cases h : i < x.length
  · have h' : i < (bs x).size := by rw [bs_size]; exact h
    rw [getElem?_pos (bs x) i h', getElem?_pos x i h]
    simp [bs, ByteArray.getElem_eq_getElem_data]
  · have h' : ¬ i < (bs x).size := by rw [bs_size]; exact h
    rw [getElem?_neg (bs x) i h', getElem?_neg x i h]
theorem bs_extract (x : List UInt8) (l h : Nat) : (bs x).extract l h = bs ((x.drop l).take (h - l)) := by
  apply ByteArray.ext
  simp [bs, List.take_drop]
  

/-- Texts: reading a byte, a part, two as one. -/
def rd {α : Type} (l : List α) (i : Int) : Option α := if 0 ≤ i then l[i.toNat]? else none
def cut {α : Type} (l : List α) (a b : Int) : Option (List α) := if 0 ≤ a ∧ a ≤ b ∧ b ≤ l.length then some ((l.drop a.toNat).take (b - a).toNat) else none
def cat (a b : List UInt8) : Option (List UInt8) := if a.length + b.length ≤ 9223372036854775807 then some (a ++ b) else none
theorem rd_some {α : Type} {l : List α} {i : Int} {x : α} (h : rd l i = some x) : 0 ≤ i ∧ i < l.length ∧ l[i.toNat]? = some x := by
  unfold rd at h
  split at h
  · rename_i h0
    have := (List.getElem?_eq_some_iff.1 h).1
    exact ⟨h0, by omega, h⟩
  · cases h
theorem cut_some {α : Type} {l r : List α} {a b : Int} (h : cut l a b = some r) : 0 ≤ a ∧ a ≤ b ∧ b ≤ l.length ∧ r = (l.drop a.toNat).take (b - a).toNat := by
  unfold cut at h
  split at h
  · rename_i h0
    cases h
    exact ⟨h0.1, h0.2.1, h0.2.2, rfl⟩
  · cases h
theorem cat_some {a b r : List UInt8} (h : cat a b = some r) : a.length + b.length ≤ 9223372036854775807 ∧ r = a ++ b := by
  unfold cat at h
  split at h
  · rename_i h0; cases h; exact ⟨h0, rfl⟩
  · cases h

section
variable {P : Program} {C : Ctx P} {dst : Option Nat} {ty : Nat} {pos : String} {af : Array Edge} {gd : Option (Nat × Bool)} {s : Sto} {ρA : Operand → AV} {t yt : TypeId} {p q : Operand}
section
variable {a b : List UInt8} (hp : ρA p = .fz (.sc (.string (bs a)))) (hq : ρA q = .fz (.sc (.string (bs b))))
include hp hq
theorem D.cat {r : List UInt8} (h : cat a b = some r) : Dz C ⟨dst, .binOp .add t p q yt, ty, pos, af, gd⟩ s ρA (.fz (.sc (.string (bs r)))) [] [] :=
  .of fun _ => Does.bin rfl hp hq (by rintro ⟨_, _, h, _⟩; cases h) (by simp) (fun w => by
    obtain ⟨h, rfl⟩ := cat_some h
    have hm : ¬ (((bs a).size + (bs b).size : Nat) : Int) > IntKind.i64.max := by
      rw [bs_size, bs_size]; simp only [IntKind.max, IntKind.signed, IntKind.bits]; simp; omega
    simp only [Go.binOp, Op.stringOp]
    rw [if_neg hm, bs_append]
    rfl) rfl
theorem D.eqS : Dz C ⟨dst, .binOp .eql t p q yt, ty, pos, af, gd⟩ s ρA (.fz (.sc (.bool (a == b)))) [] [] :=
  .of fun _ => Does.bin rfl hp hq (by rintro ⟨_, _, h, _⟩; cases h) (by simp) (fun w => by simp [Go.binOp, Op.stringOp, bs_toList]) rfl
theorem D.neS : Dz C ⟨dst, .binOp .neq t p q yt, ty, pos, af, gd⟩ s ρA (.fz (.sc (.bool (!(a == b))))) [] [] :=
  .of fun _ => Does.bin rfl hp hq (by rintro ⟨_, _, h, _⟩; cases h) (by simp) (fun w => by simp [Go.binOp, Op.stringOp, bs_toList]) rfl
theorem D.ltS : Dz C ⟨dst, .binOp .lss t p q yt, ty, pos, af, gd⟩ s ρA (.fz (.sc (.bool (Op.bytesLess a b)))) [] [] :=
  .of fun _ => Does.bin rfl hp hq (by rintro ⟨_, _, h, _⟩; cases h) (by simp) (fun w => by simp [Go.binOp, Op.stringOp, bs_toList]) rfl
theorem D.gtS : Dz C ⟨dst, .binOp .gtr t p q yt, ty, pos, af, gd⟩ s ρA (.fz (.sc (.bool (!(Op.bytesLess a b || a == b))))) [] [] :=
  .of fun _ => Does.bin rfl hp hq (by rintro ⟨_, _, h, _⟩; cases h) (by simp) (fun w => by simp [Go.binOp, Op.stringOp, bs_toList]) rfl
end
def isStr (P : Program) (t : TypeId) : Bool := match P.underlying t with
  | some .string => true
  | _ => false
theorem isStr_spec (h : isStr P t = true) : P.underlying t = some .string := by
  unfold isStr at h
  cases hu : P.underlying t with
  | none => rw [hu] at h; cases h
  | some d => rw [hu] at h; cases d <;> simp at h; rfl
theorem D.lenS {a : List UInt8} (ht : isStr P t = true) (hp : ρA p = .fz (.sc (.string (bs a)))) : Dz C ⟨dst, .call { callee := .builtin .len, args := ⟨[p]⟩, argTypes := ⟨[t]⟩ }, ty, pos, af, gd⟩ s ρA (.fz (.sc (.int .i64 (a.length : Int)))) [] [] :=
  .of fun _ => Does.same fun ρ w hh bk H hr => by
    have r := hr p (by simp [Op.operands, Call.operands])
    rw [hp] at r
    exact ⟨.int .i64 a.length, by simp [execOp, resolve, invoke, builtin, r.sc, Builtin.len_, run_underlying (isStr_spec ht), goInt, bs_size], .fz (.sc _ rfl)⟩
theorem D.idxS {a : List UInt8} {k : IntKind} {i : Int} {c : UInt8} (ht : isStr P t = true) (hp : ρA p = .fz (.sc (.string (bs a)))) (hq : ρA q = .fz (.sc (.int k i))) (h : rd a i = some c) : Dz C ⟨dst, .index t p q, ty, pos, af, gd⟩ s ρA (.fz (.sc (.int .u8 (c.toNat : Int)))) [] [] :=
  .of fun _ => Does.same fun ρ w hh bk H hr => by
    have r := hr p (by simp [Op.operands])
    have rq := hr q (by simp [Op.operands])
    rw [hp] at r
    rw [hq] at rq
    obtain ⟨h0, h1, h2⟩ := rd_some h
    refine ⟨.int .u8 c.toNat, ?_, .fz (.sc _ rfl)⟩
    simp [execOp, r.sc, rq.sc, Instr.index, asIntOf, run_underlying (isStr_spec ht), h0, bs_get, h2]
theorem run_sliceBound {x : Value} {k : IntKind} {i : Int} {y : Nat} {code : BoundsCode} (hx : x = .int k i) (h0 : 0 ≤ i) (h1 : i ≤ y) (w : World) : (Instr.sliceBound x y code).run P w = .ok i.toNat w := by
  subst hx
  simp [Instr.sliceBound, asIntOf, h0, h1]
theorem D.cutS {a r : List UInt8} {lo hi : Option Operand} {i j : Int} (ht : isStr P t = true) (hp : ρA p = .fz (.sc (.string (bs a)))) (hl : (lo = none ∧ i = 0) ∨ ∃ l k, lo = some l ∧ ρA l = .fz (.sc (.int k i))) (hh : (hi = none ∧ j = a.length) ∨ ∃ h k, hi = some h ∧ ρA h = .fz (.sc (.int k j)))
    (hc : cut a i j = some r) : Dz C ⟨dst, .slice t p lo hi none, ty, pos, af, gd⟩ s ρA (.fz (.sc (.string (bs r)))) [] [] :=
  .of fun _ => Does.same fun ρ w hh' bk H hr => by
    have rp := hr p (by simp [Op.operands])
    rw [hp] at rp
    obtain ⟨c1, c2, c3, rfl⟩ := cut_some hc
    refine ⟨.string (bs ((a.drop i.toNat).take (j - i).toNat)), ?_, .fz (.sc _ rfl)⟩
    have e1 : (bs a).extract i.toNat j.toNat = bs ((a.drop i.toNat).take (j - i).toNat) := by
      rw [bs_extract]
      congr 2
      omega
    have e0 : (bs a).extract 0 j.toNat = bs (a.take j.toNat) := by rw [bs_extract]; simp
    rcases hl with ⟨rfl, rfl⟩ | ⟨l, k, rfl, hl⟩ <;> rcases hh with ⟨rfl, rfl⟩ | ⟨h, k', rfl, hh⟩
    · rw [← e1]
      simp [execOp, rp.sc, Instr.sliceAt, Instr.slice, Instr.sliceBounds, run_underlying (isStr_spec ht), bs_size]
      rw [bs_extract]; simp
    · have rh := hr h (by simp [Op.operands])
      rw [hh] at rh
      rw [← e1]
      simp [execOp, rp.sc, Instr.sliceAt, Instr.slice, Instr.sliceBounds, run_underlying (isStr_spec ht), run_sliceBound rh.sc (by omega) (show j ≤ (bs a).size by rw [bs_size]; exact c3)]
    · have rl := hr l (by simp [Op.operands])
      rw [hl] at rl
      rw [← e1]
      simp [execOp, rp.sc, Instr.sliceAt, Instr.slice, Instr.sliceBounds, run_underlying (isStr_spec ht), run_sliceBound rl.sc (by omega) (show i ≤ (a.length : Nat) from c2), bs_size]
    · have rl := hr l (by simp [Op.operands])
      rw [hl] at rl
      have rh := hr h (by simp [Op.operands])
      rw [hh] at rh
      rw [← e1]
      simp [execOp, rp.sc, Instr.sliceAt, Instr.slice, Instr.sliceBounds, run_underlying (isStr_spec ht), run_sliceBound rl.sc (by omega) (show i ≤ j.toNat by omega), run_sliceBound rh.sc (by omega) (show j ≤ (bs a).size by rw [bs_size]; exact c3)]
end

end Go.SL
