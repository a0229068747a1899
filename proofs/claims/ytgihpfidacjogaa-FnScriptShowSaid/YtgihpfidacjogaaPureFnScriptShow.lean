/- FnScriptShow of the given program returns true for every code: what ScriptShow of the program and of the reference write of a drawn mask is one figure for each element. Conditions: none beyond the row's own. -/
import Derived.Test.YtgihpfidacjogaaPFnScriptShowx2
namespace Go.Proofs.Ytgihpfidacjogaa.Pure
open Go.RowKit Go.Proofs.Ytgihpfidacjogaa.PFnScriptShow Go.Proofs.YtgihpfidacjogaaW.PrintWords Go.Proofs.YtgihpfidacjogaaW.PrintLast

def sh (b : Bool) : UInt8 := if b then 49 else 48
def shl_ (l : List Bool) : ByteArray := ⟨(l.map sh).toArray⟩

theorem ba_append (a : ByteArray) (xs : List UInt8) (x : UInt8) : a ++ (⟨#[x]⟩ : ByteArray) ++ (⟨xs.toArray⟩ : ByteArray) = a ++ (⟨(x :: xs).toArray⟩ : ByteArray) := by
  apply ByteArray.ext
  simp [ByteArray.data_append]
theorem ba_nil (a : ByteArray) : a ++ (⟨([] : List UInt8).toArray⟩ : ByteArray) = a := by
  apply ByteArray.ext
  simp [ByteArray.data_append]

theorem wrap_in (i : Int) (h0 : -9223372036854775808 ≤ i) (h1 : i ≤ 9223372036854775807) : wrap64 i = i := by unfold wrap64; omega

theorem spec_show (l : List Bool) (hl : l.length ≤ 1000000) : ∀ (d : Nat) (i : Nat) (acc : ByteArray), i + d = l.length → acc.size + d ≤ 2000000 →
    Ev (fun k => spec_ScriptShow.l0 k l acc (i : Int)) (acc ++ shl_ (l.drop i)) := by
  intro d
  induction d with
  | zero =>
    intro i acc hi ha
    refine Ev.step (f := fun _ => some (acc ++ shl_ (l.drop i))) (fun k => ?_) (Ev.now _)
    simp only [spec_ScriptShow.l0]
    rw [if_neg (by omega), List.drop_eq_nil_of_le (by omega)]
    unfold shl_
    rw [List.map_nil, ba_nil]
  | succ d ih =>
    intro i acc hi ha
    have hlt : i < l.length := by omega
    have hd : l.drop i = l[i] :: l.drop (i + 1) := List.drop_eq_getElem_cons hlt
    have hr : rdOf false l (i : Int) = l[i] := by simp [rdOf, hlt]
    have hw : wrap64 ((i : Int) + 1) = ((i + 1 : Nat) : Int) := by rw [wrap_in] <;> omega
    have key : ∀ c : UInt8, c = sh l[i] → Ev (fun k => spec_ScriptShow.l0 k l (acc ++ (⟨#[c]⟩ : ByteArray)) ((i + 1 : Nat) : Int)) (acc ++ shl_ (l.drop i)) := by
      intro c hc
      have := ih (i + 1) (acc ++ (⟨#[c]⟩ : ByteArray)) (by omega) (by simp [ByteArray.size_append]; have : (⟨#[c]⟩ : ByteArray).size = 1 := rfl; omega)
      rw [hd]
      unfold shl_ at this ⊢
      rw [List.map_cons, ← hc]
      have e := ba_append acc (List.map sh (l.drop (i + 1))) c
      rw [e] at this
      exact this
    cases hb : l[i] with
    | true =>
      refine Ev.step (fun k => ?_) (key 49 (by rw [hb]; rfl))
      simp only [spec_ScriptShow.l0]
      rw [if_pos (by omega), if_pos (by omega), hr, hb, if_pos rfl, if_pos (by omega), hw]
    | false =>
      refine Ev.step (fun k => ?_) (key 48 (by rw [hb]; rfl))
      simp only [spec_ScriptShow.l0]
      rw [if_pos (by omega), if_pos (by omega), hr, hb, if_neg (by decide), if_pos (by omega), hw]

def shi (b : Bool) : Int := if b then 49 else 48
theorem impl_show (l : List Bool) (hl : l.length ≤ 1000000) : ∀ (d : Nat) (i : Nat) (acc : List Int), i + d = l.length → acc.length + d ≤ 2000000 →
    Ev (fun k => impl_ScriptShow.l0 k acc l (l.length : Int) (i : Int)) (strOfNums (acc ++ (l.drop i).map shi)) := by
  intro d
  induction d with
  | zero =>
    intro i acc hi ha
    refine Ev.step (f := fun _ => some (strOfNums (acc ++ (l.drop i).map shi))) (fun k => ?_) (Ev.now _)
    simp only [impl_ScriptShow.l0]
    rw [if_neg (by omega), List.drop_eq_nil_of_le (by omega)]
    simp
  | succ d ih =>
    intro i acc hi ha
    have hlt : i < l.length := by omega
    have hd : l.drop i = l[i] :: l.drop (i + 1) := List.drop_eq_getElem_cons hlt
    have hr : rdOf false l (i : Int) = l[i] := by simp [rdOf, hlt]
    have hw : wrap64 ((i : Int) + 1) = ((i + 1 : Nat) : Int) := by rw [wrap_in] <;> omega
    have key : ∀ c : Int, c = shi l[i] → Ev (fun k => impl_ScriptShow.l0 k (acc ++ [c]) l (l.length : Int) ((i + 1 : Nat) : Int)) (strOfNums (acc ++ (l.drop i).map shi)) := by
      intro c hc
      have := ih (i + 1) (acc ++ [c]) (by omega) (by simp; omega)
      rw [hd, List.map_cons, ← hc]
      simpa using this
    cases hb : l[i] with
    | true =>
      refine Ev.step (fun k => ?_) (key 49 (by rw [hb]; rfl))
      simp only [impl_ScriptShow.l0]
      rw [if_pos (by omega), if_pos (by omega), if_pos (by omega), hr, hb, if_pos rfl, if_pos (by omega), hw]
    | false =>
      refine Ev.step (fun k => ?_) (key 48 (by rw [hb]; rfl))
      simp only [impl_ScriptShow.l0]
      rw [if_pos (by omega), if_pos (by omega), if_pos (by omega), hr, hb, if_neg (by decide), if_pos (by omega), hw]

theorem shows_one (l : List Bool) : strOfNums (([] : List Int) ++ (l.drop 0).map shi) = (⟨#[]⟩ : ByteArray) ++ shl_ (l.drop 0) := by
  apply ByteArray.ext
  simp [strOfNums, shl_, ByteArray.data_append]
  exact ⟨fun _ => rfl, fun _ => rfl⟩

theorem xor_in (a b : Int) (ha : 0 ≤ a) (ha' : a < 2 ^ 40) (hb : 0 ≤ b) (hb' : b < 2 ^ 40) : 0 ≤ Go.bits .xor .i64 a b := by
  obtain ⟨x, rfl⟩ := Int.eq_ofNat_of_zero_le ha
  obtain ⟨y, rfl⟩ := Int.eq_ofNat_of_zero_le hb
  have hx : x < 2 ^ 40 := by exact_mod_cast ha'
  have hy : y < 2 ^ 40 := by exact_mod_cast hb'
  have h := Nat.xor_lt_two_pow hx hy
  have e1 : x % 2 ^ IntKind.i64.bits = x := Nat.mod_eq_of_lt (by simp only [IntKind.bits]; omega)
  have e2 : y % 2 ^ IntKind.i64.bits = y := Nat.mod_eq_of_lt (by simp only [IntKind.bits]; omega)
  simp only [Go.bits, BitVec.ofInt_natCast, BitVec.toNat_xor, BitVec.toNat_ofNat, e1, e2]
  rw [IntKind.wrap_i64]
  generalize x ^^^ y = z at h
  have : ((z : Nat) : Int) < 2 ^ 40 := by exact_mod_cast h
  omega

theorem rd_in (b : List Int) (hb : ∀ x ∈ b, 0 ≤ x ∧ x ≤ 255) (i : Int) : 0 ≤ rd b i ∧ rd b i ≤ 255 := by
  unfold rd
  rw [List.getD_eq_getElem?_getD]
  by_cases h : i.toNat < b.length
  · rw [List.getElem?_eq_getElem h]
    exact hb _ (List.getElem_mem h)
  · rw [List.getElem?_eq_none (by omega)]
    exact ⟨by decide, by decide⟩

theorem pick_ok (b : List Int) (hb : ∀ x ∈ b, 0 ≤ x ∧ x ≤ 255) (hbl : b.length ≤ 2000) (p n : Int) (hp0 : 0 ≤ p) (hp : p ≤ 1000000000) (hn : 1 ≤ n) :
    ∃ r, (∀ k, spec_l6Rd_pick.f (k + 1) b p n = some (r, p + 1)) ∧ 0 ≤ r ∧ r < n := by
  have e1 : wrap64 (p + 1) = p + 1 := by rw [wrap_in] <;> omega
  have e2 : wrap64 (p + 1 - 1) = p := by rw [wrap_in] <;> omega
  by_cases h0 : b.length = 0
  · refine ⟨0, fun k => ?_, by omega, by omega⟩
    unfold spec_l6Rd_pick.f
    rw [if_neg (by omega)]
    simp only [spec_l6Rd_pick.j0]
    rw [if_pos (by simp [h0]), e1]
  · have hf : ((b.length : Int) == 0) = false := beq_eq_false_iff_ne.mpr (by omega)
    by_cases h1 : p < (b.length : Int)
    · have hr := rd_in b hb p
      have e3 : wrap64 (rd b p) = rd b p := by rw [wrap_in] <;> omega
      refine ⟨Int.tmod (rd b p) n, fun k => ?_, Int.tmod_nonneg _ hr.1, Int.tmod_lt_of_pos _ (by omega)⟩
      unfold spec_l6Rd_pick.f
      rw [if_neg (by omega)]
      simp only [spec_l6Rd_pick.j0]
      rw [hf, if_neg (by decide), e1, e2, if_pos h1, if_pos hp0, if_neg (by omega), e3]
    · have hL : (0 : Int) < b.length := by omega
      have t1 := Int.tmod_nonneg (b.length : Int) hp0
      have t2 := Int.tmod_lt_of_pos p hL
      have e3 : wrap64 (p * 7) = p * 7 := by rw [wrap_in] <;> omega
      have e4 : wrap64 (p * 7 + 3) = p * 7 + 3 := by rw [wrap_in] <;> omega
      have t3 := Int.tmod_nonneg (b.length : Int) (show 0 ≤ p * 7 + 3 by omega)
      have t4 := Int.tmod_lt_of_pos (p * 7 + 3) hL
      have r1 := rd_in b hb (Int.tmod p b.length)
      have r2 := rd_in b hb (Int.tmod (p * 7 + 3) b.length)
      have d1 : 0 ≤ Int.tdiv p b.length := Int.tdiv_nonneg hp0 (by omega)
      have d2 : Int.tdiv p b.length ≤ p := Int.tdiv_le_self _ hp0
      generalize hx1 : rd b (Int.tmod p b.length) = x1 at r1
      generalize hx2 : rd b (Int.tmod (p * 7 + 3) b.length) = x2 at r2
      generalize hq : Int.tdiv p b.length = q at d1 d2
      have w1 : wrap64 x1 = x1 := by rw [wrap_in] <;> omega
      have w2 : wrap64 (x1 * 131) = x1 * 131 := by rw [wrap_in] <;> omega
      have w3 : wrap64 x2 = x2 := by rw [wrap_in] <;> omega
      have w4 : wrap64 (x2 * 1117) = x2 * 1117 := by rw [wrap_in] <;> omega
      have w5 : wrap64 (x1 * 131 + x2 * 1117) = x1 * 131 + x2 * 1117 := by rw [wrap_in] <;> omega
      have w6 : wrap64 (p * 29) = p * 29 := by rw [wrap_in] <;> omega
      have w7 : wrap64 (x1 * 131 + x2 * 1117 + p * 29) = x1 * 131 + x2 * 1117 + p * 29 := by rw [wrap_in] <;> omega
      have w8 : wrap64 q = q := by rw [wrap_in] <;> omega
      have w9 : wrap64 (q * 53) = q * 53 := by rw [wrap_in] <;> omega
      have w10 : wrap64 (x1 * 131 + x2 * 1117 + p * 29 + q * 53) = x1 * 131 + x2 * 1117 + p * 29 + q * 53 := by rw [wrap_in] <;> omega
      have hx : 0 ≤ x1 * 131 + x2 * 1117 + p * 29 + q * 53 ∧ x1 * 131 + x2 * 1117 + p * 29 + q * 53 < 2 ^ 40 := by omega
      generalize hxx : x1 * 131 + x2 * 1117 + p * 29 + q * 53 = x at hx w10
      have d3 : 0 ≤ Int.tdiv x 64 := Int.tdiv_nonneg hx.1 (by omega)
      have d4 : Int.tdiv x 64 ≤ x := Int.tdiv_le_self _ hx.1
      have w11 : wrap64 (Int.tdiv x 64) = Int.tdiv x 64 := by rw [wrap_in] <;> omega
      have hxor := xor_in x (Int.tdiv x 64) hx.1 hx.2 d3 (by omega)
      refine ⟨Int.tmod (Go.bits .xor .i64 x (Int.tdiv x 64)) n, fun k => ?_, Int.tmod_nonneg _ hxor, Int.tmod_lt_of_pos _ (by omega)⟩
      unfold spec_l6Rd_pick.f
      rw [if_neg (by omega)]
      simp only [spec_l6Rd_pick.j0]
      rw [hf, if_neg (by decide), e1, e2, if_neg h1, if_neg (by omega), if_pos t1, if_pos t2, e3, e4, if_pos t3, if_pos t4, if_neg (by omega), hx1, hx2, hq, w1, w2, w3, w4, w5, w6, w7, w8, w9, hxx, w10, w11]

theorem draw_show (b : List Int) (hb : ∀ x ∈ b, 0 ≤ x ∧ x ≤ 255) (hbl : b.length ≤ 2000) : ∀ (d : Nat) (acc : List Bool) (n p : Int), n = d → 0 ≤ p → p + d ≤ 1000000 → acc.length + d ≤ 1000 →
    ∃ r, Ev (fun k => spec_DrawScriptShow.l0 k acc n b p) r ∧ r.length ≤ 1000 := by
  intro d
  induction d with
  | zero =>
    intro acc n p hn hp hpd hacc
    refine ⟨acc, Ev.step (f := fun _ => some acc) (fun k => ?_) (Ev.now _), by omega⟩
    simp only [spec_DrawScriptShow.l0]
    rw [if_neg (by omega)]
  | succ d ih =>
    intro acc n p hn hp hpd hacc
    obtain ⟨x, hx, _, _⟩ := pick_ok b hb hbl p 2 hp (by omega) (by omega)
    obtain ⟨r, hr, hl⟩ := ih (acc ++ [x == 0]) (n - 1) (p + 1) (by omega) (by omega) (by omega) (by simp; omega)
    refine ⟨r, ?_, hl⟩
    have hw : wrap64 (n - 1) = n - 1 := by rw [wrap_in] <;> omega
    have hp' : Ev (fun k => spec_l6Rd_pick.f k b p 2) (x, p + 1) := Ev.step hx (Ev.now _)
    refine Ev.step (f := fun k => (spec_l6Rd_pick.f k b p 2).bind fun bt126 => (if acc.length < 140737488355328 then (spec_DrawScriptShow.l0 k (acc ++ [(bt126.1 == 0)]) (wrap64 (n - 1)) b bt126.2) else none)) (fun k => ?_) (Ev.bind hp' ?_)
    · simp only [spec_DrawScriptShow.l0]
      rw [if_pos (by omega)]
    · refine Ev.congr (fun k => ?_) hr
      rw [if_pos (by omega), hw]

theorem law_loop (l : List Bool) (s : ByteArray) (hs : s = shl_ l) (hl : l.length ≤ 1000) : ∀ (d : Nat) (i : Nat), i + d = l.length → Ev (fun k => laws_FnScriptShow.l0 k l s (i : Int)) true := by
  have hsz : s.size = l.length := by subst hs; simp [shl_, ByteArray.size]
  intro d
  induction d with
  | zero =>
    intro i hi
    refine Ev.step (f := fun _ => some true) (fun k => ?_) (Ev.now _)
    simp only [laws_FnScriptShow.l0]
    rw [if_neg (by omega)]
  | succ d ih =>
    intro i hi
    have hlt : i < l.length := by omega
    have hr : rdOf false l (i : Int) = l[i] := by simp [rdOf, hlt]
    have hbt : bt s (i : Int) = if l[i] then 49 else 48 := by
      rw [← bt_at s i (by simpa using by omega)]
      subst hs
      have : ((shl_ l)[i]'(by omega)) = sh l[i] := by simp [shl_, ByteArray.getElem_eq_getElem_data]
      simp only [Int.toNat_natCast, this]
      cases l[i] <;> rfl
    have hw : wrap64 ((i : Int) + 1) = ((i + 1 : Nat) : Int) := by rw [wrap_in] <;> omega
    refine Ev.step (fun k => ?_) (ih (i + 1) (by omega))
    simp only [laws_FnScriptShow.l0]
    rw [if_pos (by omega), if_pos (by omega), if_pos (by omega), hr, hbt, hw, if_neg]
    cases l[i] <;> decide

theorem wf_u8 {x : Int} (h : (Lit.int .u8 x).wf = true) : 0 ≤ x ∧ x ≤ 255 := by
  simp [Lit.wf, IntKind.min, IntKind.max, IntKind.signed, IntKind.bits] at h
  omega

theorem FnScriptShow : laws_FnScriptShow.Pure := by
  intro l0 _ _ hwf
  by_cases hbig : (l0.length : Int) > 1048576
  · exact ⟨0, by unfold laws_FnScriptShow.f; rw [if_pos hbig]⟩
  have hopen : ∃ b : List Int, spec_l6Open.f l0 = some (b, 0) ∧ (∀ x ∈ b, 0 ≤ x ∧ x ≤ 255) ∧ b.length ≤ 2000 := by
    unfold spec_l6Open.f
    by_cases h : (l0.length : Int) > 2000
    · refine ⟨l0.take 2000, by rw [if_pos h, if_pos (by omega)], fun x hx => wf_u8 (hwf x (List.mem_of_mem_take hx)), by simp; omega⟩
    · exact ⟨l0, by rw [if_neg h], fun x hx => wf_u8 (hwf x hx), by omega⟩
  obtain ⟨b, hb, hbx, hbl⟩ := hopen
  obtain ⟨n, hn, hn0, hn1⟩ := pick_ok b hbx hbl 0 20 (by omega) (by omega) (by omega)
  obtain ⟨m, hm⟩ := Int.eq_ofNat_of_zero_le hn0
  obtain ⟨mask, hmask, hml⟩ := draw_show b hbx hbl m [] n (0 + 1) hm (by omega) (by omega) (by simp; omega)
  have hdraw : Ev (fun k => spec_DrawScriptShow.f k l0) mask := by
    have hp' : Ev (fun k => spec_l6Rd_pick.f k b 0 20) (n, 0 + 1) := Ev.step hn (Ev.now _)
    refine Ev.congr (f := fun k => (spec_l6Rd_pick.f k b 0 20).bind fun bt124 => spec_DrawScriptShow.l0 k ([] : List Bool) bt124.1 b bt124.2) (fun k => ?_) (Ev.bind hp' hmask)
    unfold spec_DrawScriptShow.f
    rw [hb]
    rfl
  have hs := spec_show mask (by omega) mask.length 0 (⟨#[]⟩ : ByteArray) (by omega) (by have : (⟨#[]⟩ : ByteArray).size = 0 := rfl; omega)
  have hi := impl_show mask (by omega) mask.length 0 [] (by omega) (by simp; omega)
  rw [shows_one] at hi
  have hsh : (⟨#[]⟩ : ByteArray) ++ shl_ (mask.drop 0) = shl_ mask := by
    apply ByteArray.ext
    simp [ByteArray.data_append]
  rw [hsh] at hs hi
  have hloop := law_loop mask (shl_ mask) rfl hml mask.length 0 (by omega)
  refine Ev.rounds (Ev.congr (f := fun k => (spec_DrawScriptShow.f k l0).bind fun t131 => ((impl_ScriptShow.f k t131).bind fun t134 => ((spec_ScriptShow.f k t131).bind fun t135 => (if t134.toList = t135.toList then (laws_FnScriptShow.j0 k t131 t134 ((t134.size : Int) != (t131.length : Int))) else (laws_FnScriptShow.j0 k t131 t134 true))))) (fun k => by unfold laws_FnScriptShow.f; rw [if_neg hbig]) (Ev.bind hdraw (Ev.bind (a := shl_ mask) hi (Ev.bind (a := shl_ mask) hs ?_))))
  refine Ev.congr (f := fun k => laws_FnScriptShow.j0 k mask (shl_ mask) (((shl_ mask).size : Int) != (mask.length : Int))) (fun k => if_pos rfl) ?_
  refine Ev.step (fun k => ?_) hloop
  simp only [laws_FnScriptShow.j0]
  rw [if_neg]
  · rfl
  · simp [shl_, ByteArray.size]

end Go.Proofs.Ytgihpfidacjogaa.Pure
