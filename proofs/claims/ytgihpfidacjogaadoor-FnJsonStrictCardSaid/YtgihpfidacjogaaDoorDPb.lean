/- A text of the proof of FnJsonStrict: DPb. -/
import Derived.Test.YtgihpfidacjogaaDoorDF
import Derived.Test.YtgihpfidacjogaaDoorDL
import Derived.Test.YtgihpfidacjogaaDoorProg
import Derived.KernelRfl
import Derived.Test.YtgihpfidacjogaaDoorDPa
set_option linter.unusedVariables false
set_option linter.unusedSimpArgs false
namespace Fw
open Go Go.SL Go.RowKit Go.Proofs
set_option maxRecDepth 4000

theorem spec_l31Rd_value_ok {r : L31Rd} {deep : Int} {y : Json × L31Rd} (hh0 : spec_l31Rd_value r deep = some y) (g : Nat → Nat) : Fn Tryd.prog 15 (stoF g [(0, .box 41 [aS r.s, aI r.at_, aB r.ok])]) [.pt 0 (g 0) 0, aI deep] (stoF g [(0, .box 41 [aS y.2.s, aI y.2.at_, aB y.2.ok])]) (.ag [aI y.1.Kind, aB y.1.Flag, aS y.1.Text, aL 1 eS y.1.Names, aL 5 Json.c y.1.Kids]) := spec_l31Rd_value_all.1 _ _ _ hh0 g

theorem spec_l31Rd_kids_ok {r : L31Rd} {j : Json} {end_ : Str} {deep : Int} {y : Json × L31Rd} (hh0 : spec_l31Rd_kids r j end_ deep = some y) (g : Nat → Nat) : Fn Tryd.prog 27 (stoF g [(0, .box 41 [aS r.s, aI r.at_, aB r.ok])]) [.pt 0 (g 0) 0, .ag [aI j.Kind, aB j.Flag, aS j.Text, nilA, nilA], aS end_, aI deep] (stoF g [(0, .box 41 [aS y.2.s, aI y.2.at_, aB y.2.ok])]) (.ag [aI y.1.Kind, aB y.1.Flag, aS y.1.Text, aL 1 eS y.1.Names, aL 5 Json.c y.1.Kids]) := spec_l31Rd_value_all.2.1 _ _ _ _ _ hh0 g

theorem spec_JsonRead_ok {text : Str} {y : Json × Bool} (hh0 : spec_JsonRead text = some y) (g : Nat → Nat) : Fn Tryd.prog 5 (stoF g []) [aS text] (stoF g []) (.tu [.ag [aI y.1.Kind, aB y.1.Flag, aS y.1.Text, aL 1 eS y.1.Names, aL 5 Json.c y.1.Kids], aB y.2]) := by
  refine Fn.of0 (hs := []) (kl := []) (L := (fun f => [(2, .pt 0 (f 0) 0), (3, aB y.2)])) (O := (fun f => [(0, .box 27 [aI y.1.Kind, aB y.1.Flag, aS y.1.Text, aL 1 eS y.1.Names, aL 5 Json.c y.1.Kids])])) Tryd.func5 rfl Tryd.ntmps5 rfl (fun f hf => ⟨.nil, .many (by decide) (.cons (Nat.le_of_ble_eq_true rfl) (.cellN rfl rfl T27 (Nat.le_of_ble_eq_true rfl)) (.ag (.all rfl)) (.cons (Nat.le_of_ble_eq_true rfl) (.tmp rfl) (.c .fz) .nil))⟩) rfl rfl (fun C => ?_)
  have hf : agree g [] g := agree_refl g _
  refine EW.seq ?_
  refine EW.region ?_
  refine .w rfl (D.alloc 0 rfl ZF27 rfl rfl) ?_
  refine .p rfl (D.as (x := aB false) rfl) ?_
  refine .nil ?_
  refine EW.seq ?_
  refine EW.seq ?_
  refine EW.region ?_
  refine .p rfl (D.mv (x := aS text) rfl) ?_
  refine .p rfl (D.lenS S9 rfl) ?_
  refine .p rfl (D.gt rfl rfl) ?_
  refine .nil ?_
  rcases it hh0 with ⟨hb, hh0⟩ | ⟨hb, hh0⟩
  · refine EW.condT rfl rfl hb ?_
    refine EW.seq ?_
    refine EW.region ?_
    refine .p rfl (D.build FS27 ZF27 rfl .nil rfl) ?_
    refine .st rfl (D.st T27 rfl rfl rfl rfl rfl rfl) ?_
    refine .p rfl (D.as (x := aB false) rfl) ?_
    refine .nil ?_
    obtain rfl := sj_ hh0
    exact EW.retA [0] (fun _ h => ⟨.inr rfl, h⟩) hf ⟨.c (.pt rfl rfl rfl), .c .fz, trivial⟩ ⟨rfl, .box (.cons .fz (.cons .fz (.cons .fz (.cons .nil (.cons .nil .nil))))), rfl⟩
  · refine EW.condF rfl rfl hb ?_
    refine EW.skip ?_
    refine EW.seq ?_
    refine EW.region ?_
    refine .p rfl (D.mv (x := aS text) rfl) ?_
    refine .p rfl (D.build FS41 ZF41 rfl (.cons rfl (.cons rfl .nil)) rfl) ?_
    refine .w rfl (D.box 1 rfl rfl) ?_
    refine .p rfl (D.as rfl) ?_
    refine .nil ?_
    refine EW.seq ?_
    refine EW.region ?_
    refine .p rfl (D.mv rfl) ?_
    obtain ⟨r, h_r, hh0⟩ := bs_ hh0
    refine .c rfl (D.callG (eff := [(1, ⟨_, .box 41 [aS r.2.s, aI r.2.at_, aB r.2.ok]⟩)]) (spec_l31Rd_value_ok h_r g) C15 rfl [(0, 1)] [] [1] (.cons (.c (.pt rfl rfl rfl rfl)) (.cons (.c .fz) .nil)) rfl rfl (.cons rfl (.box (.all rfl)) .nil) rfl rfl rfl (.same rfl rfl rfl (.box (.all rfl)) .nil) .nil (.v (.ag (.all rfl)))) ?_
    refine .w rfl (D.alloc 2 rfl ZF27 rfl rfl) ?_
    refine .st rfl (D.st T27 rfl rfl rfl rfl rfl rfl) ?_
    refine .nil ?_
    refine EW.seq ?_
    refine EW.seq ?_
    refine EW.region ?_
    refine .p rfl (D.mv rfl) ?_
    refine .p rfl (D.nck rfl rfl) ?_
    refine .p rfl (D.fld O41_2 rfl rfl rfl) ?_
    refine .p rfl (D.ld1 T4 rfl rfl rfl) ?_
    refine .p rfl (D.not rfl) ?_
    refine .p rfl (D.mv (x := aB (!r.2.ok)) rfl) ?_
    refine .fork2 [27, 26, 25, 24, 23, 22, 21] 28 (aB ((!r.2.ok) || (r.2.at_ != (text.length : Int)))) 8 (!r.2.ok) (fun hb5 K k5 => ?_) (fun hb5 K k5 => ?_) ?_
    ·
      refine .gn rfl rfl rfl (nF hb5) ?_
      refine .gn rfl rfl rfl (nF hb5) ?_
      refine .gn rfl rfl rfl (nF hb5) ?_
      refine .gn rfl rfl rfl (nF hb5) ?_
      refine .gn rfl rfl rfl (nF hb5) ?_
      refine .gn rfl rfl rfl (nF hb5) ?_
      refine .gn rfl rfl rfl (nF hb5) ?_
      refine .p rfl (D.orT (c := (r.2.at_ != (text.length : Int))) rfl hb5 rfl) ?_
      exact .drp (.same (.drop (.drop (.drop (.drop (.drop (.drop (.drop .nil)))))))) k5
    ·
      refine .gy rfl rfl rfl hb5 rfl (D.mv rfl) ?_
      refine .gy rfl rfl rfl hb5 rfl (D.nck rfl rfl) ?_
      refine .gy rfl rfl rfl hb5 rfl (D.fld O41_1 rfl rfl rfl) ?_
      refine .gy rfl rfl rfl hb5 rfl (D.ld1 T3 rfl rfl rfl) ?_
      refine .gy rfl rfl rfl hb5 rfl (D.mv (x := aS text) rfl) ?_
      refine .gy rfl rfl rfl hb5 rfl (D.lenS S9 rfl) ?_
      refine .gy rfl rfl rfl hb5 rfl (D.neI rfl rfl) ?_
      refine .p rfl (D.orF rfl hb5 rfl) ?_
      exact .drp (.same (.drop (.drop (.drop (.drop (.drop (.drop (.drop .nil)))))))) k5
    refine .p rfl (D.mv (x := aB ((!r.2.ok) || (r.2.at_ != (text.length : Int)))) rfl) ?_
    obtain ⟨b, hh1, hh0⟩ := bs_ hh0
    refine .fork2 [33, 32, 31, 30] 34 (aB b) 5 ((!r.2.ok) || (r.2.at_ != (text.length : Int))) (fun hb14 K k14 => ?_) (fun hb14 K k14 => ?_) ?_
    ·
      replace hh1 := itT hh1 hb14
      refine .gn rfl rfl rfl (nF hb14) ?_
      refine .gn rfl rfl rfl (nF hb14) ?_
      refine .gn rfl rfl rfl (nF hb14) ?_
      refine .gn rfl rfl rfl (nF hb14) ?_
      obtain rfl := sj_ hh1
      refine .p rfl (D.pickT rfl hb14 rfl) ?_
      exact .drp (.same (.drop (.drop (.drop (.drop .nil))))) k14
    ·
      replace hh1 := itF hh1 hb14
      refine .gy rfl rfl rfl hb14 rfl (D.ldN T27 rfl rfl rfl rfl) ?_
      obtain ⟨r1, h_r1, hh1⟩ := bs_ hh1
      refine .gy rfl rfl rfl hb14 rfl (D.call0 (spec_JsonWrite_ok h_r1 g) C11 rfl [] (.cons (.ag (.all rfl)) .nil) (.v (.c .fz))) ?_
      refine .gy rfl rfl rfl hb14 rfl (D.mv (x := aS text) rfl) ?_
      refine .gy rfl rfl rfl hb14 rfl (D.neS rfl rfl) ?_
      obtain rfl := sj_ hh1
      refine .p rfl (D.pickF rfl hb14 rfl) ?_
      exact .drp (.same (.drop (.drop (.drop (.drop .nil))))) k14
    refine .p rfl (D.mv (x := aB b) rfl) ?_
    refine .fork2 [37, 36] 38 (aB (b || (text == []))) 3 b (fun hb20 K k20 => ?_) (fun hb20 K k20 => ?_) ?_
    ·
      refine .gn rfl rfl rfl (nF hb20) ?_
      refine .gn rfl rfl rfl (nF hb20) ?_
      refine .p rfl (D.orT (c := (text == [])) rfl hb20 rfl) ?_
      exact .drp (.same (.drop (.drop .nil))) k20
    ·
      refine .gy rfl rfl rfl hb20 rfl (D.mv (x := aS text) rfl) ?_
      refine .gy rfl rfl rfl hb20 rfl (D.eqS rfl rfl) ?_
      refine .p rfl (D.orF rfl hb20 rfl) ?_
      exact .drp (.same (.drop (.drop .nil))) k20
    refine .nil ?_
    rcases it hh0 with ⟨hb, hh0⟩ | ⟨hb, hh0⟩
    · refine EW.condT rfl rfl hb ?_
      refine EW.seq ?_
      refine EW.region ?_
      refine .p rfl (D.build FS27 ZF27 rfl .nil rfl) ?_
      refine .st rfl (D.st T27 rfl rfl rfl rfl rfl rfl) ?_
      refine .p rfl (D.as (x := aB false) rfl) ?_
      refine .nil ?_
      obtain rfl := sj_ hh0
      exact EW.retA [0] (fun _ h => ⟨.inr rfl, h⟩) hf ⟨.c (.pt rfl rfl rfl), .c .fz, trivial⟩ ⟨rfl, .box (.cons .fz (.cons .fz (.cons .fz (.cons .nil (.cons .nil .nil))))), rfl⟩
    · refine EW.condF rfl rfl hb ?_
      refine EW.skip ?_
      refine EW.seq ?_
      refine EW.region ?_
      refine .p rfl (D.ldN T27 rfl rfl rfl rfl) ?_
      refine .st rfl (D.st T27 rfl rfl rfl rfl rfl rfl) ?_
      refine .p rfl (D.as (x := aB true) rfl) ?_
      refine .nil ?_
      obtain rfl := sj_ hh0
      exact EW.retA [0] (fun _ h => ⟨.inr rfl, h⟩) hf ⟨.c (.pt rfl rfl rfl), .c .fz, trivial⟩ ⟨rfl, .box (.all rfl), rfl⟩

theorem internal_stringslite_HasPrefix_ok {s : Str} {prefix_ : Str} {y : Bool} (hh0 : internal_stringslite_HasPrefix s prefix_ = some y) (g : Nat → Nat) : Fn Tryd.prog 52 (stoF g []) [aS s, aS prefix_] (stoF g []) (aB y) := by
  refine Fn.of0 (hs := []) (kl := []) (L := (fun f => [(4, aB y)])) (O := (fun f => [])) Tryd.func52 rfl Tryd.ntmps52 rfl (fun f hf => ⟨.nil, .one (Nat.le_of_ble_eq_true rfl) (.tmp rfl) (.c .fz)⟩) rfl rfl (fun C => ?_)
  have hf : agree g [] g := agree_refl g _
  refine EW.seq ?_
  refine EW.region ?_
  refine .p rfl (D.as (x := aB false) rfl) ?_
  refine .nil ?_
  refine EW.seq ?_
  refine EW.region ?_
  refine .p rfl (D.mv (x := aS s) rfl) ?_
  refine .p rfl (D.lenS S9 rfl) ?_
  refine .p rfl (D.mv (x := aS prefix_) rfl) ?_
  refine .p rfl (D.lenS S9 rfl) ?_
  refine .p rfl (D.ge rfl rfl) ?_
  refine .p rfl (D.mv (x := aB (decide ((prefix_.length : Int) ≤ (s.length : Int)))) rfl) ?_
  obtain ⟨b, hh1, hh0⟩ := bs_ hh0
  refine .fork2 [16, 15, 14, 13, 12, 11] 17 (aB b) 7 (decide ((prefix_.length : Int) ≤ (s.length : Int))) (fun hb5 K k5 => ?_) (fun hb5 K k5 => ?_) ?_
  ·
    replace hh1 := itT hh1 hb5
    refine .gy rfl rfl rfl hb5 rfl (D.mv (x := aS s) rfl) ?_
    refine .gy rfl rfl rfl hb5 rfl (D.mv (x := aS prefix_) rfl) ?_
    refine .gy rfl rfl rfl hb5 rfl (D.lenS S9 rfl) ?_
    obtain ⟨s1, h_s1, hh1⟩ := bs_ hh1
    refine .gy rfl rfl rfl hb5 rfl (D.cutS S9 rfl (.inl ⟨rfl, rfl⟩) (.inr ⟨_, _, rfl, rfl⟩) h_s1) ?_
    refine .gy rfl rfl rfl hb5 rfl (D.mv (x := aS prefix_) rfl) ?_
    refine .gy rfl rfl rfl hb5 rfl (D.eqS rfl rfl) ?_
    obtain rfl := sj_ hh1
    refine .p rfl (D.pickT rfl hb5 rfl) ?_
    exact .drp (.same (.drop (.drop (.drop (.drop (.drop (.drop .nil))))))) k5
  ·
    replace hh1 := itF hh1 hb5
    refine .gn rfl rfl rfl (nT hb5) ?_
    refine .gn rfl rfl rfl (nT hb5) ?_
    refine .gn rfl rfl rfl (nT hb5) ?_
    refine .gn rfl rfl rfl (nT hb5) ?_
    refine .gn rfl rfl rfl (nT hb5) ?_
    refine .gn rfl rfl rfl (nT hb5) ?_
    obtain rfl := sj_ hh1
    refine .p rfl (D.pickF rfl hb5 rfl) ?_
    exact .drp (.same (.drop (.drop (.drop (.drop (.drop (.drop .nil))))))) k5
  refine .p rfl (D.as (x := aB b) rfl) ?_
  refine .nil ?_
  obtain rfl := sj_ hh0
  exact EW.retA [] (fun _ h => ⟨.inr rfl, h⟩) hf ⟨.c .fz, trivial⟩ rfl

theorem internal_stringslite_TrimPrefix_ok {s : Str} {prefix_ : Str} {y : Str} (hh0 : internal_stringslite_TrimPrefix s prefix_ = some y) (g : Nat → Nat) : Fn Tryd.prog 54 (stoF g []) [aS s, aS prefix_] (stoF g []) (aS y) := by
  refine Fn.of0 (hs := []) (kl := []) (L := (fun f => [(4, aS y)])) (O := (fun f => [])) Tryd.func54 rfl Tryd.ntmps54 rfl (fun f hf => ⟨.nil, .one (Nat.le_of_ble_eq_true rfl) (.tmp rfl) (.c .fz)⟩) rfl rfl (fun C => ?_)
  have hf : agree g [] g := agree_refl g _
  refine EW.seq ?_
  refine EW.region ?_
  refine .p rfl (D.as (x := aS []) rfl) ?_
  refine .nil ?_
  refine EW.seq ?_
  refine EW.seq ?_
  refine EW.region ?_
  refine .p rfl (D.mv (x := aS s) rfl) ?_
  refine .p rfl (D.mv (x := aS prefix_) rfl) ?_
  obtain ⟨r, h_r, hh0⟩ := bs_ hh0
  refine .p rfl (D.call0 (internal_stringslite_HasPrefix_ok h_r g) C52 rfl [] (.cons (.c .fz) (.cons (.c .fz) .nil)) (.v (.c .fz))) ?_
  refine .nil ?_
  rcases it hh0 with ⟨hb, hh0⟩ | ⟨hb, hh0⟩
  · refine EW.condT rfl rfl hb ?_
    refine EW.seq ?_
    refine EW.region ?_
    refine .p rfl (D.mv (x := aS s) rfl) ?_
    refine .p rfl (D.mv (x := aS prefix_) rfl) ?_
    refine .p rfl (D.lenS S9 rfl) ?_
    obtain ⟨s1, h_s1, hh0⟩ := bs_ hh0
    refine .p rfl (D.cutS S9 rfl (.inr ⟨_, _, rfl, rfl⟩) (.inl ⟨rfl, rfl⟩) h_s1) ?_
    refine .p rfl (D.as (x := aS s1) rfl) ?_
    refine .nil ?_
    obtain rfl := sj_ hh0
    exact EW.retA [] (fun _ h => ⟨.inr rfl, h⟩) hf ⟨.c .fz, trivial⟩ rfl
  · refine EW.condF rfl rfl hb ?_
    refine EW.skip ?_
    refine EW.seq ?_
    refine EW.region ?_
    refine .p rfl (D.mv (x := aS s) rfl) ?_
    refine .p rfl (D.as (x := aS s) rfl) ?_
    refine .nil ?_
    obtain rfl := sj_ hh0
    exact EW.retA [] (fun _ h => ⟨.inr rfl, h⟩) hf ⟨.c .fz, trivial⟩ rfl

theorem strings_TrimPrefix_ok {s : Str} {prefix_ : Str} {y : Str} (hh0 : strings_TrimPrefix s prefix_ = some y) (g : Nat → Nat) : Fn Tryd.prog 41 (stoF g []) [aS s, aS prefix_] (stoF g []) (aS y) := by
  refine Fn.of0 (hs := []) (kl := []) (L := (fun f => [(4, aS y)])) (O := (fun f => [])) Tryd.func41 rfl Tryd.ntmps41 rfl (fun f hf => ⟨.nil, .one (Nat.le_of_ble_eq_true rfl) (.tmp rfl) (.c .fz)⟩) rfl rfl (fun C => ?_)
  have hf : agree g [] g := agree_refl g _
  refine EW.seq ?_
  refine EW.region ?_
  refine .p rfl (D.as (x := aS []) rfl) ?_
  refine .nil ?_
  refine EW.seq ?_
  refine EW.region ?_
  refine .p rfl (D.mv (x := aS s) rfl) ?_
  refine .p rfl (D.mv (x := aS prefix_) rfl) ?_
  obtain ⟨r, h_r, hh0⟩ := bs_ hh0
  refine .p rfl (D.call0 (internal_stringslite_TrimPrefix_ok h_r g) C54 rfl [] (.cons (.c .fz) (.cons (.c .fz) .nil)) (.v (.c .fz))) ?_
  refine .p rfl (D.as (x := aS r) rfl) ?_
  refine .nil ?_
  obtain rfl := sj_ hh0
  exact EW.retA [] (fun _ h => ⟨.inr rfl, h⟩) hf ⟨.c .fz, trivial⟩ rfl

theorem impl_within_ok {n : Int} {low : Int} {high : Int} {y : Bool} (hh0 : impl_within n low high = some y) (g : Nat → Nat) : Fn Tryd.prog 42 (stoF g []) [aI n, aI low, aI high] (stoF g []) (aB y) := by
  refine Fn.of0 (hs := []) (kl := []) (L := (fun f => [(6, aB y)])) (O := (fun f => [])) Tryd.func42 rfl Tryd.ntmps42 rfl (fun f hf => ⟨.nil, .one (Nat.le_of_ble_eq_true rfl) (.tmp rfl) (.c .fz)⟩) rfl rfl (fun C => ?_)
  have hf : agree g [] g := agree_refl g _
  refine EW.seq ?_
  refine EW.region ?_
  refine .p rfl (D.as (x := aB false) rfl) ?_
  refine .nil ?_
  refine EW.seq ?_
  refine EW.region ?_
  refine .p rfl (D.mv (x := aI n) rfl) ?_
  refine .p rfl (D.mv (x := aI low) rfl) ?_
  refine .p rfl (D.ge rfl rfl) ?_
  refine .p rfl (D.mv (x := aB (decide (low ≤ n))) rfl) ?_
  refine .fork2 [13, 12, 11] 14 (aB ((decide (low ≤ n)) && (decide (n ≤ high)))) 4 (decide (low ≤ n)) (fun hb3 K k3 => ?_) (fun hb3 K k3 => ?_) ?_
  ·
    refine .gy rfl rfl rfl hb3 rfl (D.mv (x := aI n) rfl) ?_
    refine .gy rfl rfl rfl hb3 rfl (D.mv (x := aI high) rfl) ?_
    refine .gy rfl rfl rfl hb3 rfl (D.le rfl rfl) ?_
    refine .p rfl (D.andT rfl hb3 rfl) ?_
    exact .drp (.same (.drop (.drop (.drop .nil)))) k3
  ·
    refine .gn rfl rfl rfl (nT hb3) ?_
    refine .gn rfl rfl rfl (nT hb3) ?_
    refine .gn rfl rfl rfl (nT hb3) ?_
    refine .p rfl (D.andF (c := (decide (n ≤ high))) rfl hb3 rfl) ?_
    exact .drp (.same (.drop (.drop (.drop .nil)))) k3
  refine .p rfl (D.as (x := aB ((decide (low ≤ n)) && (decide (n ≤ high)))) rfl) ?_
  refine .nil ?_
  obtain rfl := sj_ hh0
  exact EW.retA [] (fun _ h => ⟨.inr rfl, h⟩) hf ⟨.c .fz, trivial⟩ rfl

theorem internal_bytealg_Cutover_ok {n : Int} {y : Int} (hh0 : internal_bytealg_Cutover n = some y) (g : Nat → Nat) : Fn Tryd.prog 77 (stoF g []) [aI n] (stoF g []) (aI y) := by
  refine Fn.of0 (hs := []) (kl := []) (L := (fun f => [(2, aI y)])) (O := (fun f => [])) Tryd.func77 rfl Tryd.ntmps77 rfl (fun f hf => ⟨.nil, .one (Nat.le_of_ble_eq_true rfl) (.tmp rfl) (.c .fz)⟩) rfl rfl (fun C => ?_)
  have hf : agree g [] g := agree_refl g _
  refine EW.seq ?_
  refine EW.region ?_
  refine .p rfl (D.as (x := aI 0) rfl) ?_
  refine .nil ?_
  refine EW.seq ?_
  refine EW.region ?_
  refine .p rfl (D.mv (x := aI n) rfl) ?_
  refine .p rfl (D.add rfl rfl) ?_
  refine .p rfl (D.quo rfl rfl (by decide)) ?_
  refine .p rfl (D.as (x := aI (w64 ((w64 (n + 16)).tdiv 8))) rfl) ?_
  refine .nil ?_
  obtain rfl := sj_ hh0
  exact EW.retA [] (fun _ h => ⟨.inr rfl, h⟩) hf ⟨.c .fz, trivial⟩ rfl

theorem impl_numOk_ok {s : Str} {y : Bool} (hh0 : impl_numOk s = some y) (g : Nat → Nat) : Fn Tryd.prog 32 (stoF g []) [aS s] (stoF g []) (aB y) := by
  refine Fn.of0 (hs := []) (kl := []) (L := (fun f => [(2, aB y)])) (O := (fun f => [])) Tryd.func32 rfl Tryd.ntmps32 rfl (fun f hf => ⟨.nil, .one (Nat.le_of_ble_eq_true rfl) (.tmp rfl) (.c .fz)⟩) rfl rfl (fun C => ?_)
  have hf : agree g [] g := agree_refl g _
  refine EW.seq ?_
  refine EW.region ?_
  refine .p rfl (D.as (x := aB false) rfl) ?_
  refine .nil ?_
  refine EW.seq ?_
  refine EW.seq ?_
  refine EW.region ?_
  refine .p rfl (D.mv (x := aS s) rfl) ?_
  refine .p rfl (D.eqS rfl rfl) ?_
  refine .nil ?_
  rcases it hh0 with ⟨hb, hh0⟩ | ⟨hb, hh0⟩
  · refine EW.condT rfl rfl hb ?_
    refine EW.seq ?_
    refine EW.region ?_
    refine .p rfl (D.as (x := aB true) rfl) ?_
    refine .nil ?_
    obtain rfl := sj_ hh0
    exact EW.retA [] (fun _ h => ⟨.inr rfl, h⟩) hf ⟨.c .fz, trivial⟩ rfl
  · refine EW.condF rfl rfl hb ?_
    refine EW.skip ?_
    refine EW.seq ?_
    refine EW.region ?_
    refine .p rfl (D.mv (x := aS s) rfl) ?_
    obtain ⟨r, h_r, hh0⟩ := bs_ hh0
    refine .p rfl (D.call0 (strings_TrimPrefix_ok h_r g) C41 rfl [] (.cons (.c .fz) (.cons (.c .fz) .nil)) (.v (.c .fz))) ?_
    refine .p rfl (D.as (x := aS r) rfl) ?_
    refine .nil ?_
    refine EW.seq ?_
    refine EW.region ?_
    refine .p rfl (D.mv (x := aS r) rfl) ?_
    refine .p rfl (D.lenS S9 rfl) ?_
    obtain ⟨r1, h_r1, hh0⟩ := bs_ hh0
    refine .p rfl (D.call0 (impl_within_ok h_r1 g) C42 rfl [] (.cons (.c .fz) (.cons (.c .fz) (.cons (.c .fz) .nil))) (.v (.c .fz))) ?_
    refine .p rfl (D.mv (x := aB r1) rfl) ?_
    obtain ⟨b, hh1, hh0⟩ := bs_ hh0
    refine .fork2 [13, 12, 11] 14 (aB b) 4 r1 (fun hb3 K k3 => ?_) (fun hb3 K k3 => ?_) ?_
    ·
      replace hh1 := itT hh1 hb3
      refine .gy rfl rfl rfl hb3 rfl (D.mv (x := aS r) rfl) ?_
      obtain ⟨c, h_c, hh1⟩ := bs_ hh1
      refine .gy rfl rfl rfl hb3 rfl (D.idxS S9 rfl rfl h_c) ?_
      refine .gy rfl rfl rfl hb3 rfl (D.neI rfl rfl) ?_
      obtain rfl := sj_ hh1
      refine .p rfl (D.pickT rfl hb3 rfl) ?_
      exact .drp (.same (.drop (.drop (.drop .nil)))) k3
    ·
      replace hh1 := itF hh1 hb3
      refine .gn rfl rfl rfl (nT hb3) ?_
      refine .gn rfl rfl rfl (nT hb3) ?_
      refine .gn rfl rfl rfl (nT hb3) ?_
      obtain rfl := sj_ hh1
      refine .p rfl (D.pickF rfl hb3 rfl) ?_
      exact .drp (.same (.drop (.drop (.drop .nil)))) k3
    refine .p rfl (D.mv (x := aB b) rfl) ?_
    obtain ⟨b1, hh1, hh0⟩ := bs_ hh0
    refine .fork2 [18, 17, 16] 19 (aB b1) 4 b (fun hb8 K k8 => ?_) (fun hb8 K k8 => ?_) ?_
    ·
      replace hh1 := itT hh1 hb8
      refine .gy rfl rfl rfl hb8 rfl (D.mv (x := aS r) rfl) ?_
      obtain ⟨r2, h_r2, hh1⟩ := bs_ hh1
      refine .gy rfl rfl rfl hb8 rfl (D.call0 (strings_Trim_ok h_r2 g) C43 rfl [] (.cons (.c .fz) (.cons (.c .fz) .nil)) (.v (.c .fz))) ?_
      refine .gy rfl rfl rfl hb8 rfl (D.eqS rfl rfl) ?_
      obtain rfl := sj_ hh1
      refine .p rfl (D.pickT rfl hb8 rfl) ?_
      exact .drp (.same (.drop (.drop (.drop .nil)))) k8
    ·
      replace hh1 := itF hh1 hb8
      refine .gn rfl rfl rfl (nT hb8) ?_
      refine .gn rfl rfl rfl (nT hb8) ?_
      refine .gn rfl rfl rfl (nT hb8) ?_
      obtain rfl := sj_ hh1
      refine .p rfl (D.pickF rfl hb8 rfl) ?_
      exact .drp (.same (.drop (.drop (.drop .nil)))) k8
    refine .p rfl (D.as (x := aB b1) rfl) ?_
    refine .nil ?_
    obtain rfl := sj_ hh0
    exact EW.retA [] (fun _ h => ⟨.inr rfl, h⟩) hf ⟨.c .fz, trivial⟩ rfl

theorem impl_textOk_l0_ok (s : Str) : ∀ (x : Int) (o : (Unit) ⊕ (Bool)), impl_textOk_l0 s x = some o →
    ∀ (most : Int) (g : Nat → Nat) (C : Ctx Tryd.prog) (Q : Exit → St → Prop), (∀ v, o = .inl v → ∀ σ', At g [] (fun f => [(0, aS s), (1, aI most)]) (fun f => []) σ' → Q (.exit 0) σ') → (∀ r, o = .inr r → ∀ σ', At g [] (fun f => [(4, aB r)]) (fun f => []) σ' → Q .ret σ') → ∀ σ, At g [] (fun f => [(0, aS s), (1, aI most), (7, aI (s.length : Int)), (8, aI x)]) (fun f => []) σ → EWL C 38 (bAt Tryd.f33 [1, 0, 1, 0, 0]) σ Q := by
  refine impl_textOk_l0.partial_correctness s (fun x o => ∀ (most : Int) (g : Nat → Nat) (C : Ctx Tryd.prog) (Q : Exit → St → Prop), (∀ v, o = .inl v → ∀ σ', At g [] (fun f => [(0, aS s), (1, aI most)]) (fun f => []) σ' → Q (.exit 0) σ') → (∀ r, o = .inr r → ∀ σ', At g [] (fun f => [(4, aB r)]) (fun f => []) σ' → Q .ret σ') → ∀ σ, At g [] (fun f => [(0, aS s), (1, aI most), (7, aI (s.length : Int)), (8, aI x)]) (fun f => []) σ → EWL C 38 (bAt Tryd.f33 [1, 0, 1, 0, 0]) σ Q) ?_
  intro self ih x o hh0
  intro most g C Q hx hr σ hσ
  obtain ⟨f, hf, rfl⟩ := hσ
  refine EWL.round ?_
  refine EW.seq ?_
  refine EW.region ?_
  refine .p rfl (D.lt rfl rfl) ?_
  refine .nil ?_
  refine EW.seq ?_
  rcases it hh0 with ⟨hb, hh0⟩ | ⟨hb, hh0⟩
  · refine EW.condT rfl rfl hb ?_
    refine EW.skip ?_
    refine EW.seq ?_
    refine EW.block ?_
    refine EW.seq ?_
    refine EW.region ?_
    refine .p rfl (D.mv (x := aI x) rfl) ?_
    refine .p rfl (D.as (x := aI x) rfl) ?_
    refine .nil ?_
    refine EW.seq ?_
    refine EW.region ?_
    refine .p rfl (D.mv (x := aS s) rfl) ?_
    refine .p rfl (D.mv (x := aI x) rfl) ?_
    obtain ⟨c, h_c, hh0⟩ := bs_ hh0
    refine .p rfl (D.idxS S9 rfl rfl h_c) ?_
    refine .p rfl (D.lt rfl rfl) ?_
    refine .p rfl (D.mv (x := aB (decide ((c.toNat : Int) < 32))) rfl) ?_
    refine .fork2 [19, 18, 17, 16] 20 (aB ((decide ((c.toNat : Int) < 32)) || (decide (126 < (c.toNat : Int))))) 5 (decide ((c.toNat : Int) < 32)) (fun hb4 K k4 => ?_) (fun hb4 K k4 => ?_) ?_
    ·
      refine .gn rfl rfl rfl (nF hb4) ?_
      refine .gn rfl rfl rfl (nF hb4) ?_
      refine .gn rfl rfl rfl (nF hb4) ?_
      refine .gn rfl rfl rfl (nF hb4) ?_
      refine .p rfl (D.orT (c := (decide (126 < (c.toNat : Int)))) rfl hb4 rfl) ?_
      exact .drp (.same (.drop (.drop (.drop (.drop .nil))))) k4
    ·
      refine .gy rfl rfl rfl hb4 rfl (D.mv (x := aS s) rfl) ?_
      refine .gy rfl rfl rfl hb4 rfl (D.mv (x := aI x) rfl) ?_
      refine .gy rfl rfl rfl hb4 rfl (D.idxS S9 rfl rfl h_c) ?_
      refine .gy rfl rfl rfl hb4 rfl (D.gt rfl rfl) ?_
      refine .p rfl (D.orF rfl hb4 rfl) ?_
      exact .drp (.same (.drop (.drop (.drop (.drop .nil))))) k4
    refine .p rfl (D.mv (x := aB ((decide ((c.toNat : Int) < 32)) || (decide (126 < (c.toNat : Int))))) rfl) ?_
    refine .fork2 [25, 24, 23, 22] 26 (aB (((decide ((c.toNat : Int) < 32)) || (decide (126 < (c.toNat : Int)))) || ((c.toNat : Int) == 34))) 5 ((decide ((c.toNat : Int) < 32)) || (decide (126 < (c.toNat : Int)))) (fun hb10 K k10 => ?_) (fun hb10 K k10 => ?_) ?_
    ·
      refine .gn rfl rfl rfl (nF hb10) ?_
      refine .gn rfl rfl rfl (nF hb10) ?_
      refine .gn rfl rfl rfl (nF hb10) ?_
      refine .gn rfl rfl rfl (nF hb10) ?_
      refine .p rfl (D.orT (c := ((c.toNat : Int) == 34)) rfl hb10 rfl) ?_
      exact .drp (.same (.drop (.drop (.drop (.drop .nil))))) k10
    ·
      refine .gy rfl rfl rfl hb10 rfl (D.mv (x := aS s) rfl) ?_
      refine .gy rfl rfl rfl hb10 rfl (D.mv (x := aI x) rfl) ?_
      refine .gy rfl rfl rfl hb10 rfl (D.idxS S9 rfl rfl h_c) ?_
      refine .gy rfl rfl rfl hb10 rfl (D.eqI rfl rfl) ?_
      refine .p rfl (D.orF rfl hb10 rfl) ?_
      exact .drp (.same (.drop (.drop (.drop (.drop .nil))))) k10
    refine .p rfl (D.mv (x := aB (((decide ((c.toNat : Int) < 32)) || (decide (126 < (c.toNat : Int)))) || ((c.toNat : Int) == 34))) rfl) ?_
    refine .fork2 [31, 30, 29, 28] 32 (aB ((((decide ((c.toNat : Int) < 32)) || (decide (126 < (c.toNat : Int)))) || ((c.toNat : Int) == 34)) || ((c.toNat : Int) == 92))) 5 (((decide ((c.toNat : Int) < 32)) || (decide (126 < (c.toNat : Int)))) || ((c.toNat : Int) == 34)) (fun hb16 K k16 => ?_) (fun hb16 K k16 => ?_) ?_
    ·
      refine .gn rfl rfl rfl (nF hb16) ?_
      refine .gn rfl rfl rfl (nF hb16) ?_
      refine .gn rfl rfl rfl (nF hb16) ?_
      refine .gn rfl rfl rfl (nF hb16) ?_
      refine .p rfl (D.orT (c := ((c.toNat : Int) == 92)) rfl hb16 rfl) ?_
      exact .drp (.same (.drop (.drop (.drop (.drop .nil))))) k16
    ·
      refine .gy rfl rfl rfl hb16 rfl (D.mv (x := aS s) rfl) ?_
      refine .gy rfl rfl rfl hb16 rfl (D.mv (x := aI x) rfl) ?_
      refine .gy rfl rfl rfl hb16 rfl (D.idxS S9 rfl rfl h_c) ?_
      refine .gy rfl rfl rfl hb16 rfl (D.eqI rfl rfl) ?_
      refine .p rfl (D.orF rfl hb16 rfl) ?_
      exact .drp (.same (.drop (.drop (.drop (.drop .nil))))) k16
    refine .nil ?_
    rcases it hh0 with ⟨hb, hh0⟩ | ⟨hb, hh0⟩
    · refine EW.condT rfl rfl hb ?_
      refine EW.seq ?_
      refine EW.region ?_
      refine .p rfl (D.as (x := aB false) rfl) ?_
      refine .nil ?_
      obtain rfl := sj_ hh0
      exact EW.retA [] (fun _ h => hr _ rfl _ h) hf ⟨.c .fz, trivial⟩ rfl
    · refine EW.condF rfl rfl hb ?_
      refine EW.skip ?_
      refine EW.region ?_
      refine .p rfl (D.add rfl rfl) ?_
      refine .p rfl (D.mv (x := aI (w64 (x + 1))) rfl) ?_
      refine .nil ?_
      exact EWL.less [] (ih _ _ hh0 most _ _ _ hx hr) hf ⟨.c .fz, .c .fz, .c .fz, .c .fz, trivial⟩ rfl
  · refine EW.condF rfl rfl hb ?_
    obtain rfl := sj_ hh0
    exact EW.exitA [] (fun _ h => hx _ rfl _ h) hf ⟨.c .fz, .c .fz, trivial⟩ rfl

theorem impl_textOk_ok {s : Str} {most : Int} {y : Bool} (hh0 : impl_textOk s most = some y) (g : Nat → Nat) : Fn Tryd.prog 33 (stoF g []) [aS s, aI most] (stoF g []) (aB y) := by
  refine Fn.of0 (hs := []) (kl := []) (L := (fun f => [(4, aB y)])) (O := (fun f => [])) Tryd.func33 rfl Tryd.ntmps33 rfl (fun f hf => ⟨.nil, .one (Nat.le_of_ble_eq_true rfl) (.tmp rfl) (.c .fz)⟩) rfl rfl (fun C => ?_)
  have hf : agree g [] g := agree_refl g _
  refine EW.seq ?_
  refine EW.region ?_
  refine .p rfl (D.as (x := aB false) rfl) ?_
  refine .nil ?_
  refine EW.seq ?_
  refine EW.seq ?_
  refine EW.region ?_
  refine .p rfl (D.mv (x := aS s) rfl) ?_
  refine .p rfl (D.lenS S9 rfl) ?_
  refine .p rfl (D.mv (x := aI 0) rfl) ?_
  refine .nil ?_
  obtain ⟨o_, hl, hh0⟩ := bs_ hh0
  refine EW.bj (fun σ' => ∃ v, o_ = .inl v ∧ At g [] (fun f => [(0, aS s), (1, aI most)]) (fun f => []) σ') (EW.block (EW.loop (EWL.less [] (impl_textOk_l0_ok _ _ _ hl most g C _ (fun _ e _ h => ⟨_, e, h⟩) ?_) hf ⟨.c .fz, .c .fz, .c .fz, .c .fz, trivial⟩ rfl))) ?_
  · rintro r rfl σ' h
    obtain rfl := sj_ hh0
    exact ⟨.inr rfl, h⟩
  rintro _ ⟨v, rfl, f, hf, rfl⟩
  refine EW.seq ?_
  refine EW.region ?_
  refine .p rfl (D.mv (x := aS s) rfl) ?_
  refine .p rfl (D.lenS S9 rfl) ?_
  refine .p rfl (D.mv (x := aI most) rfl) ?_
  refine .p rfl (D.le rfl rfl) ?_
  refine .p rfl (D.as (x := aB (decide ((s.length : Int) ≤ most))) rfl) ?_
  refine .nil ?_
  obtain rfl := sj_ hh0
  exact EW.retA [] (fun _ h => ⟨.inr rfl, h⟩) hf ⟨.c .fz, trivial⟩ rfl

theorem impl_nameOk_l0_ok (s : Str) : ∀ (x : Int) (o : (Unit) ⊕ (Bool)), impl_nameOk_l0 s x = some o →
    ∀ (g : Nat → Nat) (C : Ctx Tryd.prog) (Q : Exit → St → Prop), (∀ v, o = .inl v → ∀ σ', At g [] (fun f => [(0, aS s)]) (fun f => []) σ' → Q (.exit 0) σ') → (∀ r, o = .inr r → ∀ σ', At g [] (fun f => [(2, aB r)]) (fun f => []) σ' → Q .ret σ') → ∀ σ, At g [] (fun f => [(0, aS s), (5, aI (s.length : Int)), (6, aI x)]) (fun f => []) σ → EWL C 23 (bAt Tryd.f44 [1, 0, 1, 0, 0]) σ Q := by
  refine impl_nameOk_l0.partial_correctness s (fun x o => ∀ (g : Nat → Nat) (C : Ctx Tryd.prog) (Q : Exit → St → Prop), (∀ v, o = .inl v → ∀ σ', At g [] (fun f => [(0, aS s)]) (fun f => []) σ' → Q (.exit 0) σ') → (∀ r, o = .inr r → ∀ σ', At g [] (fun f => [(2, aB r)]) (fun f => []) σ' → Q .ret σ') → ∀ σ, At g [] (fun f => [(0, aS s), (5, aI (s.length : Int)), (6, aI x)]) (fun f => []) σ → EWL C 23 (bAt Tryd.f44 [1, 0, 1, 0, 0]) σ Q) ?_
  intro self ih x o hh0
  intro g C Q hx hr σ hσ
  obtain ⟨f, hf, rfl⟩ := hσ
  refine EWL.round ?_
  refine EW.seq ?_
  refine EW.region ?_
  refine .p rfl (D.lt rfl rfl) ?_
  refine .nil ?_
  refine EW.seq ?_
  rcases it hh0 with ⟨hb, hh0⟩ | ⟨hb, hh0⟩
  · refine EW.condT rfl rfl hb ?_
    refine EW.skip ?_
    refine EW.seq ?_
    refine EW.block ?_
    refine EW.seq ?_
    refine EW.region ?_
    refine .p rfl (D.mv (x := aI x) rfl) ?_
    refine .p rfl (D.as (x := aI x) rfl) ?_
    refine .nil ?_
    refine EW.seq ?_
    refine EW.region ?_
    refine .p rfl (D.mv (x := aS s) rfl) ?_
    refine .p rfl (D.mv (x := aI x) rfl) ?_
    obtain ⟨c, h_c, hh0⟩ := bs_ hh0
    refine .p rfl (D.idxS S9 rfl rfl h_c) ?_
    refine .p rfl (D.lt rfl rfl) ?_
    refine .p rfl (D.mv (x := aB (decide ((c.toNat : Int) < 97))) rfl) ?_
    refine .fork2 [17, 16, 15, 14] 18 (aB ((decide ((c.toNat : Int) < 97)) || (decide (122 < (c.toNat : Int))))) 5 (decide ((c.toNat : Int) < 97)) (fun hb4 K k4 => ?_) (fun hb4 K k4 => ?_) ?_
    ·
      refine .gn rfl rfl rfl (nF hb4) ?_
      refine .gn rfl rfl rfl (nF hb4) ?_
      refine .gn rfl rfl rfl (nF hb4) ?_
      refine .gn rfl rfl rfl (nF hb4) ?_
      refine .p rfl (D.orT (c := (decide (122 < (c.toNat : Int)))) rfl hb4 rfl) ?_
      exact .drp (.same (.drop (.drop (.drop (.drop .nil))))) k4
    ·
      refine .gy rfl rfl rfl hb4 rfl (D.mv (x := aS s) rfl) ?_
      refine .gy rfl rfl rfl hb4 rfl (D.mv (x := aI x) rfl) ?_
      refine .gy rfl rfl rfl hb4 rfl (D.idxS S9 rfl rfl h_c) ?_
      refine .gy rfl rfl rfl hb4 rfl (D.gt rfl rfl) ?_
      refine .p rfl (D.orF rfl hb4 rfl) ?_
      exact .drp (.same (.drop (.drop (.drop (.drop .nil))))) k4
    refine .nil ?_
    rcases it hh0 with ⟨hb, hh0⟩ | ⟨hb, hh0⟩
    · refine EW.condT rfl rfl hb ?_
      refine EW.seq ?_
      refine EW.region ?_
      refine .p rfl (D.as (x := aB false) rfl) ?_
      refine .nil ?_
      obtain rfl := sj_ hh0
      exact EW.retA [] (fun _ h => hr _ rfl _ h) hf ⟨.c .fz, trivial⟩ rfl
    · refine EW.condF rfl rfl hb ?_
      refine EW.skip ?_
      refine EW.region ?_
      refine .p rfl (D.add rfl rfl) ?_
      refine .p rfl (D.mv (x := aI (w64 (x + 1))) rfl) ?_
      refine .nil ?_
      exact EWL.less [] (ih _ _ hh0 _ _ _ hx hr) hf ⟨.c .fz, .c .fz, .c .fz, trivial⟩ rfl
  · refine EW.condF rfl rfl hb ?_
    obtain rfl := sj_ hh0
    exact EW.exitA [] (fun _ h => hx _ rfl _ h) hf ⟨.c .fz, trivial⟩ rfl

theorem impl_nameOk_ok {s : Str} {y : Bool} (hh0 : impl_nameOk s = some y) (g : Nat → Nat) : Fn Tryd.prog 44 (stoF g []) [aS s] (stoF g []) (aB y) := by
  refine Fn.of0 (hs := []) (kl := []) (L := (fun f => [(2, aB y)])) (O := (fun f => [])) Tryd.func44 rfl Tryd.ntmps44 rfl (fun f hf => ⟨.nil, .one (Nat.le_of_ble_eq_true rfl) (.tmp rfl) (.c .fz)⟩) rfl rfl (fun C => ?_)
  have hf : agree g [] g := agree_refl g _
  refine EW.seq ?_
  refine EW.region ?_
  refine .p rfl (D.as (x := aB false) rfl) ?_
  refine .nil ?_
  refine EW.seq ?_
  refine EW.seq ?_
  refine EW.region ?_
  refine .p rfl (D.mv (x := aS s) rfl) ?_
  refine .p rfl (D.lenS S9 rfl) ?_
  refine .p rfl (D.mv (x := aI 0) rfl) ?_
  refine .nil ?_
  obtain ⟨o_, hl, hh0⟩ := bs_ hh0
  refine EW.bj (fun σ' => ∃ v, o_ = .inl v ∧ At g [] (fun f => [(0, aS s)]) (fun f => []) σ') (EW.block (EW.loop (EWL.less [] (impl_nameOk_l0_ok _ _ _ hl g C _ (fun _ e _ h => ⟨_, e, h⟩) ?_) hf ⟨.c .fz, .c .fz, .c .fz, trivial⟩ rfl))) ?_
  · rintro r rfl σ' h
    obtain rfl := sj_ hh0
    exact ⟨.inr rfl, h⟩
  rintro _ ⟨v, rfl, f, hf, rfl⟩
  refine EW.seq ?_
  refine EW.region ?_
  refine .p rfl (D.mv (x := aS s) rfl) ?_
  refine .p rfl (D.lenS S9 rfl) ?_
  obtain ⟨r1, h_r1, hh0⟩ := bs_ hh0
  refine .p rfl (D.call0 (impl_within_ok h_r1 g) C42 rfl [] (.cons (.c .fz) (.cons (.c .fz) (.cons (.c .fz) .nil))) (.v (.c .fz))) ?_
  refine .p rfl (D.as (x := aB r1) rfl) ?_
  refine .nil ?_
  obtain rfl := sj_ hh0
  exact EW.retA [] (fun _ h => ⟨.inr rfl, h⟩) hf ⟨.c .fz, trivial⟩ rfl

theorem slices_Index_l0_ok (s : (List Str)) (v : Str) : ∀ (x : Int) (o : (Unit) ⊕ (Int)), slices_Index_l0 s v x = some o →
    ∀ (g : Nat → Nat) (C : Ctx Tryd.prog) (Q : Exit → St → Prop), (∀ v, o = .inl v → ∀ σ', At g [] (fun f => []) (fun f => []) σ' → Q (.exit 0) σ') → (∀ r, o = .inr r → ∀ σ', At g [] (fun f => [(4, aI r)]) (fun f => []) σ' → Q .ret σ') → ∀ σ, At g [] (fun f => [(0, aL 1 eS s), (1, aS v), (7, aI (s.length : Int)), (8, aI x)]) (fun f => []) σ → EWL C 19 (bAt Tryd.f62 [1, 0, 1, 0, 0]) σ Q := by
  refine slices_Index_l0.partial_correctness s v (fun x o => ∀ (g : Nat → Nat) (C : Ctx Tryd.prog) (Q : Exit → St → Prop), (∀ v, o = .inl v → ∀ σ', At g [] (fun f => []) (fun f => []) σ' → Q (.exit 0) σ') → (∀ r, o = .inr r → ∀ σ', At g [] (fun f => [(4, aI r)]) (fun f => []) σ' → Q .ret σ') → ∀ σ, At g [] (fun f => [(0, aL 1 eS s), (1, aS v), (7, aI (s.length : Int)), (8, aI x)]) (fun f => []) σ → EWL C 19 (bAt Tryd.f62 [1, 0, 1, 0, 0]) σ Q) ?_
  intro self ih x o hh0
  intro g C Q hx hr σ hσ
  obtain ⟨f, hf, rfl⟩ := hσ
  refine EWL.round ?_
  refine EW.seq ?_
  refine EW.region ?_
  refine .p rfl (D.lt rfl rfl) ?_
  refine .nil ?_
  refine EW.seq ?_
  rcases it hh0 with ⟨hb, hh0⟩ | ⟨hb, hh0⟩
  · refine EW.condT rfl rfl hb ?_
    refine EW.skip ?_
    refine EW.seq ?_
    refine EW.block ?_
    refine EW.seq ?_
    refine EW.region ?_
    refine .p rfl (D.mv (x := aI x) rfl) ?_
    refine .p rfl (D.as (x := aI x) rfl) ?_
    refine .nil ?_
    refine EW.seq ?_
    refine EW.region ?_
    refine .p rfl (D.mv (x := aS v) rfl) ?_
    refine .p rfl (D.mv (x := aL 1 eS s) rfl) ?_
    refine .p rfl (D.mv (x := aI x) rfl) ?_
    obtain ⟨e, h_e, hh0⟩ := bs_ hh0
    refine .p rfl (D.idx E24 rfl rfl h_e rfl) ?_
    refine .p rfl (D.ldp1 T9 rfl rfl) ?_
    refine .p rfl (D.eqS rfl rfl) ?_
    refine .nil ?_
    rcases it hh0 with ⟨hb, hh0⟩ | ⟨hb, hh0⟩
    · refine EW.condT rfl rfl hb ?_
      refine EW.seq ?_
      refine EW.region ?_
      refine .p rfl (D.mv (x := aI x) rfl) ?_
      refine .p rfl (D.as (x := aI x) rfl) ?_
      refine .nil ?_
      obtain rfl := sj_ hh0
      exact EW.retA [] (fun _ h => hr _ rfl _ h) hf ⟨.c .fz, trivial⟩ rfl
    · refine EW.condF rfl rfl hb ?_
      refine EW.skip ?_
      refine EW.region ?_
      refine .p rfl (D.add rfl rfl) ?_
      refine .p rfl (D.mv (x := aI (w64 (x + 1))) rfl) ?_
      refine .nil ?_
      exact EWL.less [] (ih _ _ hh0 _ _ _ hx hr) hf ⟨.c .fz, .c .fz, .c .fz, .c .fz, trivial⟩ rfl
  · refine EW.condF rfl rfl hb ?_
    obtain rfl := sj_ hh0
    exact EW.exitA [] (fun _ h => hx _ rfl _ h) hf trivial rfl

theorem slices_Index_ok {s : (List Str)} {v : Str} {y : Int} (hh0 : slices_Index s v = some y) (g : Nat → Nat) : Fn Tryd.prog 62 (stoF g []) [aL 1 eS s, aS v] (stoF g []) (aI y) := by
  refine Fn.of0 (hs := []) (kl := []) (L := (fun f => [(4, aI y)])) (O := (fun f => [])) Tryd.func62 rfl Tryd.ntmps62 rfl (fun f hf => ⟨.nil, .one (Nat.le_of_ble_eq_true rfl) (.tmp rfl) (.c .fz)⟩) rfl rfl (fun C => ?_)
  have hf : agree g [] g := agree_refl g _
  refine EW.seq ?_
  refine EW.region ?_
  refine .p rfl (D.as (x := aI 0) rfl) ?_
  refine .nil ?_
  refine EW.seq ?_
  refine EW.seq ?_
  refine EW.region ?_
  refine .p rfl (D.mv (x := aL 1 eS s) rfl) ?_
  refine .klen 6 rfl rfl fun hl => ?_
  refine .p rfl (D.len E24 rfl) ?_
  refine .p rfl (D.mv (x := aI 0) rfl) ?_
  refine .nil ?_
  obtain ⟨o_, hl, hh0⟩ := bs_ hh0
  refine EW.bj (fun σ' => ∃ v1, o_ = .inl v1 ∧ At g [] (fun f => []) (fun f => []) σ') (EW.block (EW.loop (EWL.less [] (slices_Index_l0_ok _ _ _ _ hl g C _ (fun _ e _ h => ⟨_, e, h⟩) ?_) hf ⟨.c .fz, .c .fz, .c .fz, .c .fz, trivial⟩ rfl))) ?_
  · rintro r rfl σ' h
    obtain rfl := sj_ hh0
    exact ⟨.inr rfl, h⟩
  rintro _ ⟨v1, rfl, f, hf, rfl⟩
  refine EW.seq ?_
  refine EW.region ?_
  refine .p rfl (D.as (x := aI (-1)) rfl) ?_
  refine .nil ?_
  obtain rfl := sj_ hh0
  exact EW.retA [] (fun _ h => ⟨.inr rfl, h⟩) hf ⟨.c .fz, trivial⟩ rfl

theorem slices_Contains_ok {s : (List Str)} {v : Str} {y : Bool} (hh0 : slices_Contains s v = some y) (g : Nat → Nat) : Fn Tryd.prog 45 (stoF g []) [aL 1 eS s, aS v] (stoF g []) (aB y) := by
  refine Fn.of0 (hs := []) (kl := []) (L := (fun f => [(4, aB y)])) (O := (fun f => [])) Tryd.func45 rfl Tryd.ntmps45 rfl (fun f hf => ⟨.nil, .one (Nat.le_of_ble_eq_true rfl) (.tmp rfl) (.c .fz)⟩) rfl rfl (fun C => ?_)
  have hf : agree g [] g := agree_refl g _
  refine EW.seq ?_
  refine EW.region ?_
  refine .p rfl (D.as (x := aB false) rfl) ?_
  refine .nil ?_
  refine EW.seq ?_
  refine EW.region ?_
  refine .p rfl (D.mv (x := aL 1 eS s) rfl) ?_
  refine .p rfl (D.mv (x := aS v) rfl) ?_
  obtain ⟨r, h_r, hh0⟩ := bs_ hh0
  refine .p rfl (D.call0 (slices_Index_ok h_r g) C62 rfl [] (.cons (.c .fz) (.cons (.c .fz) .nil)) (.v (.c .fz))) ?_
  refine .p rfl (D.ge rfl rfl) ?_
  refine .p rfl (D.as (x := aB (decide (0 ≤ r))) rfl) ?_
  refine .nil ?_
  obtain rfl := sj_ hh0
  exact EW.retA [] (fun _ h => ⟨.inr rfl, h⟩) hf ⟨.c .fz, trivial⟩ rfl

theorem impl_namesOk_l0_ok (list : (List Str)) : ∀ (x : Int) (o : (Unit) ⊕ (Bool)), impl_namesOk_l0 list x = some o →
    ∀ (g : Nat → Nat) (C : Ctx Tryd.prog) (Q : Exit → St → Prop), (∀ v, o = .inl v → ∀ σ', At g [] (fun f => []) (fun f => []) σ' → Q (.exit 0) σ') → (∀ r, o = .inr r → ∀ σ', At g [] (fun f => [(2, aB r)]) (fun f => []) σ' → Q .ret σ') → ∀ σ, At g [] (fun f => [(0, aL 1 eS list), (5, aL 1 eS list), (6, aI (list.length : Int)), (7, aI x)]) (fun f => []) σ → EWL C 23 (bAt Tryd.f34 [1, 0, 1, 0, 0]) σ Q := by
  refine impl_namesOk_l0.partial_correctness list (fun x o => ∀ (g : Nat → Nat) (C : Ctx Tryd.prog) (Q : Exit → St → Prop), (∀ v, o = .inl v → ∀ σ', At g [] (fun f => []) (fun f => []) σ' → Q (.exit 0) σ') → (∀ r, o = .inr r → ∀ σ', At g [] (fun f => [(2, aB r)]) (fun f => []) σ' → Q .ret σ') → ∀ σ, At g [] (fun f => [(0, aL 1 eS list), (5, aL 1 eS list), (6, aI (list.length : Int)), (7, aI x)]) (fun f => []) σ → EWL C 23 (bAt Tryd.f34 [1, 0, 1, 0, 0]) σ Q) ?_
  intro self ih x o hh0
  intro g C Q hx hr σ hσ
  obtain ⟨f, hf, rfl⟩ := hσ
  refine EWL.round ?_
  refine EW.seq ?_
  refine EW.region ?_
  refine .p rfl (D.lt rfl rfl) ?_
  refine .nil ?_
  refine EW.seq ?_
  rcases it hh0 with ⟨hb, hh0⟩ | ⟨hb, hh0⟩
  · refine EW.condT rfl rfl hb ?_
    refine EW.skip ?_
    refine EW.seq ?_
    refine EW.block ?_
    refine EW.seq ?_
    refine EW.region ?_
    refine .p rfl (D.mv (x := aI x) rfl) ?_
    obtain ⟨e, h_e, hh0⟩ := bs_ hh0
    refine .p rfl (D.idx E24 rfl rfl h_e rfl) ?_
    refine .p rfl (D.ldp1 T9 rfl rfl) ?_
    refine .p rfl (D.as (x := aI x) rfl) ?_
    refine .p rfl (D.as (x := aS e) rfl) ?_
    refine .nil ?_
    refine EW.seq ?_
    refine EW.region ?_
    refine .p rfl (D.mv (x := aS e) rfl) ?_
    obtain ⟨r, h_r, hh0⟩ := bs_ hh0
    refine .p rfl (D.call0 (impl_nameOk_ok h_r g) C44 rfl [] (.cons (.c .fz) .nil) (.v (.c .fz))) ?_
    refine .p rfl (D.not rfl) ?_
    refine .p rfl (D.mv (x := aB (!r)) rfl) ?_
    obtain ⟨b, hh1, hh0⟩ := bs_ hh0
    refine .fork2 [20, 19, 18, 17, 16] 21 (aB b) 6 (!r) (fun hb3 K k3 => ?_) (fun hb3 K k3 => ?_) ?_
    ·
      replace hh1 := itT hh1 hb3
      refine .gn rfl rfl rfl (nF hb3) ?_
      refine .gn rfl rfl rfl (nF hb3) ?_
      refine .gn rfl rfl rfl (nF hb3) ?_
      refine .gn rfl rfl rfl (nF hb3) ?_
      refine .gn rfl rfl rfl (nF hb3) ?_
      obtain rfl := sj_ hh1
      refine .p rfl (D.pickT rfl hb3 rfl) ?_
      exact .drp (.same (.drop (.drop (.drop (.drop (.drop .nil)))))) k3
    ·
      replace hh1 := itF hh1 hb3
      refine .gy rfl rfl rfl hb3 rfl (D.mv (x := aL 1 eS list) rfl) ?_
      refine .gy rfl rfl rfl hb3 rfl (D.mv (x := aI x) rfl) ?_
      obtain ⟨l, h_l, hh1⟩ := bs_ hh1
      refine .gy rfl rfl rfl hb3 rfl (D.cutL E24 rfl (.inl ⟨rfl, rfl⟩) (.inr ⟨_, _, rfl, rfl⟩) h_l) ?_
      refine .gy rfl rfl rfl hb3 rfl (D.mv (x := aS e) rfl) ?_
      obtain ⟨r1, h_r1, hh1⟩ := bs_ hh1
      refine .gy rfl rfl rfl hb3 rfl (D.call0 (slices_Contains_ok h_r1 g) C45 rfl [] (.cons (.c .fz) (.cons (.c .fz) .nil)) (.v (.c .fz))) ?_
      obtain rfl := sj_ hh1
      refine .p rfl (D.pickF rfl hb3 rfl) ?_
      exact .drp (.same (.drop (.drop (.drop (.drop (.drop .nil)))))) k3
    refine .nil ?_
    rcases it hh0 with ⟨hb, hh0⟩ | ⟨hb, hh0⟩
    · refine EW.condT rfl rfl hb ?_
      refine EW.seq ?_
      refine EW.region ?_
      refine .p rfl (D.as (x := aB false) rfl) ?_
      refine .nil ?_
      obtain rfl := sj_ hh0
      exact EW.retA [] (fun _ h => hr _ rfl _ h) hf ⟨.c .fz, trivial⟩ rfl
    · refine EW.condF rfl rfl hb ?_
      refine EW.skip ?_
      refine EW.region ?_
      refine .p rfl (D.add rfl rfl) ?_
      refine .p rfl (D.mv (x := aI (w64 (x + 1))) rfl) ?_
      refine .nil ?_
      exact EWL.less [] (ih _ _ hh0 _ _ _ hx hr) hf ⟨.c .fz, .c .fz, .c .fz, .c .fz, trivial⟩ rfl
  · refine EW.condF rfl rfl hb ?_
    obtain rfl := sj_ hh0
    exact EW.exitA [] (fun _ h => hx _ rfl _ h) hf trivial rfl

theorem impl_namesOk_ok {list : (List Str)} {y : Bool} (hh0 : impl_namesOk list = some y) (g : Nat → Nat) : Fn Tryd.prog 34 (stoF g []) [aL 1 eS list] (stoF g []) (aB y) := by
  refine Fn.of0 (hs := []) (kl := []) (L := (fun f => [(2, aB y)])) (O := (fun f => [])) Tryd.func34 rfl Tryd.ntmps34 rfl (fun f hf => ⟨.nil, .one (Nat.le_of_ble_eq_true rfl) (.tmp rfl) (.c .fz)⟩) rfl rfl (fun C => ?_)
  have hf : agree g [] g := agree_refl g _
  refine EW.seq ?_
  refine EW.region ?_
  refine .p rfl (D.as (x := aB false) rfl) ?_
  refine .nil ?_
  refine EW.seq ?_
  refine EW.seq ?_
  refine EW.region ?_
  refine .p rfl (D.mv (x := aL 1 eS list) rfl) ?_
  refine .klen 5 rfl rfl fun hl => ?_
  refine .p rfl (D.len E24 rfl) ?_
  refine .p rfl (D.mv (x := aI 0) rfl) ?_
  refine .nil ?_
  obtain ⟨o_, hl, hh0⟩ := bs_ hh0
  refine EW.bj (fun σ' => ∃ v, o_ = .inl v ∧ At g [] (fun f => []) (fun f => []) σ') (EW.block (EW.loop (EWL.less [] (impl_namesOk_l0_ok _ _ _ hl g C _ (fun _ e _ h => ⟨_, e, h⟩) ?_) hf ⟨.c .fz, .c .fz, .c .fz, .c .fz, trivial⟩ rfl))) ?_
  · rintro r2 rfl σ' h
    obtain rfl := sj_ hh0
    exact ⟨.inr rfl, h⟩
  rintro _ ⟨v, rfl, f, hf, rfl⟩
  refine EW.seq ?_
  refine EW.region ?_
  refine .p rfl (D.as (x := aB true) rfl) ?_
  refine .nil ?_
  obtain rfl := sj_ hh0
  exact EW.retA [] (fun _ h => ⟨.inr rfl, h⟩) hf ⟨.c .fz, trivial⟩ rfl

theorem impl_Json_formed_all : (∀ (t : Json) (o_ : Int) (A : Int) (y : Bool × Int), impl_Json_formed t o_ A = some y → ∀ g : Nat → Nat, Fn Tryd.prog 18 (stoF g [(0, .box 3 [aI A])]) [.ag [aI t.Kind, aB t.Flag, aS t.Text, aL 1 eS t.Names, aL 5 Json.c t.Kids], aI o_, .pt 0 (g 0) 0] (stoF g [(0, .box 3 [aI y.2])]) (aB y.1))
   ∧ (∀ (t : Json) (o_ : Int) (x1 : Bool) (x2 : Int) (A1 : Int) (o : Bool × Int), impl_Json_formed_l1 t o_ x1 x2 A1 = some o → ∀ (g : Nat → Nat) (C : Ctx Tryd.prog) (Q : Exit → St → Prop), (∀ σ', At g [0] (fun f => [(9, aB o.1)]) (fun f => [(0, .box 3 [aI o.2])]) σ' → Q (.exit 1) σ') → ∀ σ, At g [0] (fun f => [(1, aI o_), (2, .pt 0 (f 0) 0), (3, .pt 1 (f 1) 0), (9, aB x1), (10, aI x2)]) (fun f => [(0, .box 3 [aI A1]), (1, .box 27 [aI t.Kind, aB t.Flag, aS t.Text, aL 1 eS t.Names, aL 5 Json.c t.Kids])]) σ → EWL C 130 (bAt Tryd.f18 [1, 1, 1, 1, 1, 1, 1, 0, 1, 0, 0]) σ Q) := by
  refine impl_Json_formed.mpc (fun t o_ A y => ∀ g : Nat → Nat, Fn Tryd.prog 18 (stoF g [(0, .box 3 [aI A])]) [.ag [aI t.Kind, aB t.Flag, aS t.Text, aL 1 eS t.Names, aL 5 Json.c t.Kids], aI o_, .pt 0 (g 0) 0] (stoF g [(0, .box 3 [aI y.2])]) (aB y.1))
    (fun t o_ x1 x2 A1 o => ∀ (g : Nat → Nat) (C : Ctx Tryd.prog) (Q : Exit → St → Prop), (∀ σ', At g [0] (fun f => [(9, aB o.1)]) (fun f => [(0, .box 3 [aI o.2])]) σ' → Q (.exit 1) σ') → ∀ σ, At g [0] (fun f => [(1, aI o_), (2, .pt 0 (f 0) 0), (3, .pt 1 (f 1) 0), (9, aB x1), (10, aI x2)]) (fun f => [(0, .box 3 [aI A1]), (1, .box 27 [aI t.Kind, aB t.Flag, aS t.Text, aL 1 eS t.Names, aL 5 Json.c t.Kids])]) σ → EWL C 130 (bAt Tryd.f18 [1, 1, 1, 1, 1, 1, 1, 0, 1, 0, 0]) σ Q) ?_ ?_
  · intro sf_impl_Json_formed_l1 ih_impl_Json_formed_l1 t o_ A y hh0
    intro g
    refine Fn.of0 (hs := [0]) (kl := [0]) (L := (fun f => [(6, aB y.1)])) (O := (fun f => [(0, .box 3 [aI y.2])])) Tryd.func18 rfl Tryd.ntmps18 rfl (fun f hf => ⟨(.same rfl hf.1 (.box (.all rfl)) .nil), .one (Nat.le_of_ble_eq_true rfl) (.tmp rfl) (.c .fz)⟩) rfl rfl (fun C => ?_)
    have hf : agree g [0] g := agree_refl g _
    refine EW.seq ?_
    refine EW.region ?_
    refine .w rfl (D.box 1 rfl rfl) ?_
    refine .p rfl (D.as (x := aB false) rfl) ?_
    refine .nil ?_
    refine EW.seq ?_
    refine EW.region ?_
    refine .p rfl (D.mv rfl) ?_
    refine .p rfl (D.nck rfl rfl) ?_
    refine .p rfl (D.ld1 T3 rfl rfl rfl) ?_
    refine .p rfl (D.sub rfl rfl) ?_
    refine .p rfl (D.nck rfl rfl) ?_
    refine .st rfl (D.st T3 rfl rfl rfl rfl rfl rfl) ?_
    refine .nil ?_
    refine EW.seq ?_
    refine EW.seq ?_
    refine EW.region ?_
    refine .p rfl (D.mv rfl) ?_
    refine .p rfl (D.nck rfl rfl) ?_
    refine .p rfl (D.ld1 T3 rfl rfl rfl) ?_
    refine .p rfl (D.lt rfl rfl) ?_
    refine .p rfl (D.mv (x := aB (decide ((w64 (A - 1)) < 0))) rfl) ?_
    refine .fork2 [22, 21] 23 (aB ((decide ((w64 (A - 1)) < 0)) || (decide (5 < o_)))) 3 (decide ((w64 (A - 1)) < 0)) (fun hb4 K k4 => ?_) (fun hb4 K k4 => ?_) ?_
    ·
      refine .gn rfl rfl rfl (nF hb4) ?_
      refine .gn rfl rfl rfl (nF hb4) ?_
      refine .p rfl (D.orT (c := (decide (5 < o_))) rfl hb4 rfl) ?_
      exact .drp (.same (.drop (.drop .nil))) k4
    ·
      refine .gy rfl rfl rfl hb4 rfl (D.mv (x := aI o_) rfl) ?_
      refine .gy rfl rfl rfl hb4 rfl (D.gt rfl rfl) ?_
      refine .p rfl (D.orF rfl hb4 rfl) ?_
      exact .drp (.same (.drop (.drop .nil))) k4
    refine .nil ?_
    rcases it hh0 with ⟨hb, hh0⟩ | ⟨hb, hh0⟩
    · refine EW.condT rfl rfl hb ?_
      refine EW.seq ?_
      refine EW.region ?_
      refine .p rfl (D.as (x := aB false) rfl) ?_
      refine .nil ?_
      obtain rfl := sj_ hh0
      exact EW.retA [0] (fun _ h => ⟨.inr rfl, h⟩) hf ⟨.c .fz, trivial⟩ ⟨rfl, .box (.all rfl), rfl⟩
    · refine EW.condF rfl rfl hb ?_
      refine EW.skip ?_
      refine EW.seq ?_
      refine EW.region ?_
      refine .p rfl (D.fld O27_1 rfl rfl rfl) ?_
      refine .p rfl (D.ld1 T4 rfl rfl rfl) ?_
      refine .p rfl (D.not rfl) ?_
      refine .p rfl (D.mv (x := aB (!t.Flag)) rfl) ?_
      refine .fork2 [30, 29, 28] 31 (aB ((!t.Flag) && (t.Text == []))) 4 (!t.Flag) (fun hb3 K k3 => ?_) (fun hb3 K k3 => ?_) ?_
      ·
        refine .gy rfl rfl rfl hb3 rfl (D.fld O27_2 rfl rfl rfl) ?_
        refine .gy rfl rfl rfl hb3 rfl (D.ld1 T9 rfl rfl rfl) ?_
        refine .gy rfl rfl rfl hb3 rfl (D.eqS rfl rfl) ?_
        refine .p rfl (D.andT rfl hb3 rfl) ?_
        exact .drp (.same (.drop (.drop (.drop .nil)))) k3
      ·
        refine .gn rfl rfl rfl (nT hb3) ?_
        refine .gn rfl rfl rfl (nT hb3) ?_
        refine .gn rfl rfl rfl (nT hb3) ?_
        refine .p rfl (D.andF (c := (t.Text == [])) rfl hb3 rfl) ?_
        exact .drp (.same (.drop (.drop (.drop .nil)))) k3
      refine .p rfl (D.as (x := aB ((!t.Flag) && (t.Text == []))) rfl) ?_
      refine .nil ?_
      refine EW.seq ?_
      refine EW.region ?_
      refine .p rfl (D.fld O27_3 rfl rfl rfl) ?_
      refine .p rfl (D.ld1 T24 rfl rfl rfl) ?_
      refine .klen 33 rfl rfl fun hl => ?_
      refine .p rfl (D.len E24 rfl) ?_
      refine .p rfl (D.eqI rfl rfl) ?_
      refine .p rfl (D.mv (x := aB ((t.Names.length : Int) == 0)) rfl) ?_
      refine .fork2 [40, 39, 38, 37] 41 (aB (((t.Names.length : Int) == 0) && ((t.Kids.length : Int) == 0))) 5 ((t.Names.length : Int) == 0) (fun hb4 K k4 => ?_) (fun hb4 K k4 => ?_) ?_
      ·
        refine .gy rfl rfl rfl hb4 rfl (D.fld O27_4 rfl rfl rfl) ?_
        refine .gy rfl rfl rfl hb4 rfl (D.ld1 T25 rfl rfl rfl) ?_
        refine .klen 38 rfl rfl fun hl1 => ?_
        refine .gy rfl rfl rfl hb4 rfl (D.len E25 rfl) ?_
        refine .gy rfl rfl rfl hb4 rfl (D.eqI rfl rfl) ?_
        refine .p rfl (D.andT rfl hb4 rfl) ?_
        exact .drp (.same (.drop (.drop (.drop (.drop .nil))))) k4
      ·
        refine .gn rfl rfl rfl (nT hb4) ?_
        refine .gn rfl rfl rfl (nT hb4) ?_
        refine .gn rfl rfl rfl (nT hb4) ?_
        refine .gn rfl rfl rfl (nT hb4) ?_
        refine .p rfl (D.andF (c := ((t.Kids.length : Int) == 0)) rfl hb4 rfl) ?_
        exact .drp (.same (.drop (.drop (.drop (.drop .nil))))) k4
      refine .p rfl (D.as (x := aB (((t.Names.length : Int) == 0) && ((t.Kids.length : Int) == 0))) rfl) ?_
      refine .nil ?_
      refine EW.seq ?_
      refine EW.region ?_
      refine .p rfl (D.as (x := aB false) rfl) ?_
      refine .nil ?_
      refine EW.seq ?_
      refine EW.seq ?_
      refine EW.region ?_
      refine .p rfl (D.fld O27_0 rfl rfl rfl) ?_
      refine .p rfl (D.ld1 T3 rfl rfl rfl) ?_
      refine .nil ?_
      obtain ⟨o_1, hh1, hh0⟩ := bs_ hh0
      refine EW.bj (At g [0] (fun f => [(1, aI o_), (2, .pt 0 (f 0) 0), (3, .pt 1 (f 1) 0), (9, aB o_1)]) (fun f => [(0, .box 3 [aI (w64 (A - 1))]), (1, .box 27 [aI t.Kind, aB t.Flag, aS t.Text, aL 1 eS t.Names, aL 5 Json.c t.Kids])])) ?_ ?_
      · refine EW.block ?_
        refine EW.seq ?_
        refine EW.region ?_
        refine .p rfl (D.eqI rfl rfl) ?_
        refine .p rfl (D.as (x := aB (t.Kind == 1)) rfl) ?_
        refine .nil ?_
        rcases it hh1 with ⟨hb, hh1⟩ | ⟨hb, hh1⟩
        · refine EW.condT rfl rfl hb ?_
          refine EW.region ?_
          refine .p rfl (D.mv (x := aB ((!t.Flag) && (t.Text == []))) rfl) ?_
          refine .p rfl (D.mv (x := aB ((!t.Flag) && (t.Text == []))) rfl) ?_
          refine .fork2 [48] 49 (aB (((!t.Flag) && (t.Text == [])) && (((t.Names.length : Int) == 0) && ((t.Kids.length : Int) == 0)))) 2 ((!t.Flag) && (t.Text == [])) (fun hb1 K k1 => ?_) (fun hb1 K k1 => ?_) ?_
          ·
            refine .gy rfl rfl rfl hb1 rfl (D.mv (x := aB (((t.Names.length : Int) == 0) && ((t.Kids.length : Int) == 0))) rfl) ?_
            refine .p rfl (D.andT rfl hb1 rfl) ?_
            exact .drp (.same (.drop .nil)) k1
          ·
            refine .gn rfl rfl rfl (nT hb1) ?_
            refine .p rfl (D.andF (c := (((t.Names.length : Int) == 0) && ((t.Kids.length : Int) == 0))) rfl hb1 rfl) ?_
            exact .drp (.same (.drop .nil)) k1
          refine .p rfl (D.as (x := aB (((!t.Flag) && (t.Text == [])) && (((t.Names.length : Int) == 0) && ((t.Kids.length : Int) == 0)))) rfl) ?_
          obtain rfl := sj_ hh1
          exact .nilA [0, 1] (fun _ h => h) hf ⟨.c .fz, .c (.pt rfl rfl rfl), .c (.pt rfl rfl rfl), .c .fz, trivial⟩ ⟨rfl, .box (.all rfl), rfl, .box (.all rfl), rfl⟩
        · refine EW.condF rfl rfl hb ?_
          refine EW.seq ?_
          refine EW.region ?_
          refine .p rfl (D.eqI rfl rfl) ?_
          refine .p rfl (D.as (x := aB (t.Kind == 2)) rfl) ?_
          refine .nil ?_
          rcases it hh1 with ⟨hb, hh1⟩ | ⟨hb, hh1⟩
          · refine EW.condT rfl rfl hb ?_
            refine EW.region ?_
            refine .p rfl (D.fld O27_2 rfl rfl rfl) ?_
            refine .p rfl (D.ld1 T9 rfl rfl rfl) ?_
            refine .p rfl (D.eqS rfl rfl) ?_
            refine .p rfl (D.mv (x := aB (t.Text == [])) rfl) ?_
            refine .fork2 [56] 57 (aB ((t.Text == []) && (((t.Names.length : Int) == 0) && ((t.Kids.length : Int) == 0)))) 2 (t.Text == []) (fun hb3 K k3 => ?_) (fun hb3 K k3 => ?_) ?_
            ·
              refine .gy rfl rfl rfl hb3 rfl (D.mv (x := aB (((t.Names.length : Int) == 0) && ((t.Kids.length : Int) == 0))) rfl) ?_
              refine .p rfl (D.andT rfl hb3 rfl) ?_
              exact .drp (.same (.drop .nil)) k3
            ·
              refine .gn rfl rfl rfl (nT hb3) ?_
              refine .p rfl (D.andF (c := (((t.Names.length : Int) == 0) && ((t.Kids.length : Int) == 0))) rfl hb3 rfl) ?_
              exact .drp (.same (.drop .nil)) k3
            refine .p rfl (D.as (x := aB ((t.Text == []) && (((t.Names.length : Int) == 0) && ((t.Kids.length : Int) == 0)))) rfl) ?_
            obtain rfl := sj_ hh1
            exact .nilA [0, 1] (fun _ h => h) hf ⟨.c .fz, .c (.pt rfl rfl rfl), .c (.pt rfl rfl rfl), .c .fz, trivial⟩ ⟨rfl, .box (.all rfl), rfl, .box (.all rfl), rfl⟩
          · refine EW.condF rfl rfl hb ?_
            refine EW.seq ?_
            refine EW.region ?_
            refine .p rfl (D.eqI rfl rfl) ?_
            refine .p rfl (D.as (x := aB (t.Kind == 3)) rfl) ?_
            refine .nil ?_
            rcases it hh1 with ⟨hb, hh1⟩ | ⟨hb, hh1⟩
            · refine EW.condT rfl rfl hb ?_
              refine EW.region ?_
              refine .p rfl (D.fld O27_1 rfl rfl rfl) ?_
              refine .p rfl (D.ld1 T4 rfl rfl rfl) ?_
              refine .p rfl (D.not rfl) ?_
              refine .p rfl (D.mv (x := aB (!t.Flag)) rfl) ?_
              refine .fork2 [64] 65 (aB ((!t.Flag) && (((t.Names.length : Int) == 0) && ((t.Kids.length : Int) == 0)))) 2 (!t.Flag) (fun hb3 K k3 => ?_) (fun hb3 K k3 => ?_) ?_
              ·
                refine .gy rfl rfl rfl hb3 rfl (D.mv (x := aB (((t.Names.length : Int) == 0) && ((t.Kids.length : Int) == 0))) rfl) ?_
                refine .p rfl (D.andT rfl hb3 rfl) ?_
                exact .drp (.same (.drop .nil)) k3
              ·
                refine .gn rfl rfl rfl (nT hb3) ?_
                refine .p rfl (D.andF (c := (((t.Names.length : Int) == 0) && ((t.Kids.length : Int) == 0))) rfl hb3 rfl) ?_
                exact .drp (.same (.drop .nil)) k3
              refine .p rfl (D.mv (x := aB ((!t.Flag) && (((t.Names.length : Int) == 0) && ((t.Kids.length : Int) == 0)))) rfl) ?_
              obtain ⟨b, hh2, hh1⟩ := bs_ hh1
              refine .fork2 [69, 68, 67] 70 (aB b) 4 ((!t.Flag) && (((t.Names.length : Int) == 0) && ((t.Kids.length : Int) == 0))) (fun hb6 K k6 => ?_) (fun hb6 K k6 => ?_) ?_
              ·
                replace hh2 := itT hh2 hb6
                refine .gy rfl rfl rfl hb6 rfl (D.fld O27_2 rfl rfl rfl) ?_
                refine .gy rfl rfl rfl hb6 rfl (D.ld1 T9 rfl rfl rfl) ?_
                obtain ⟨r, h_r, hh2⟩ := bs_ hh2
                refine .gy rfl rfl rfl hb6 rfl (D.call0 (impl_numOk_ok h_r g) C32 rfl [] (.cons (.c .fz) .nil) (.v (.c .fz))) ?_
                obtain rfl := sj_ hh2
                refine .p rfl (D.pickT rfl hb6 rfl) ?_
                exact .drp (.same (.drop (.drop (.drop .nil)))) k6
              ·
                replace hh2 := itF hh2 hb6
                refine .gn rfl rfl rfl (nT hb6) ?_
                refine .gn rfl rfl rfl (nT hb6) ?_
                refine .gn rfl rfl rfl (nT hb6) ?_
                obtain rfl := sj_ hh2
                refine .p rfl (D.pickF rfl hb6 rfl) ?_
                exact .drp (.same (.drop (.drop (.drop .nil)))) k6
              refine .p rfl (D.as (x := aB b) rfl) ?_
              obtain rfl := sj_ hh1
              exact .nilA [0, 1] (fun _ h => h) hf ⟨.c .fz, .c (.pt rfl rfl rfl), .c (.pt rfl rfl rfl), .c .fz, trivial⟩ ⟨rfl, .box (.all rfl), rfl, .box (.all rfl), rfl⟩
            · refine EW.condF rfl rfl hb ?_
              refine EW.seq ?_
              refine EW.region ?_
              refine .p rfl (D.eqI rfl rfl) ?_
              refine .p rfl (D.as (x := aB (t.Kind == 4)) rfl) ?_
              refine .nil ?_
              rcases it hh1 with ⟨hb, hh1⟩ | ⟨hb, hh1⟩
              · refine EW.condT rfl rfl hb ?_
                refine EW.region ?_
                refine .p rfl (D.fld O27_1 rfl rfl rfl) ?_
                refine .p rfl (D.ld1 T4 rfl rfl rfl) ?_
                refine .p rfl (D.not rfl) ?_
                refine .p rfl (D.mv (x := aB (!t.Flag)) rfl) ?_
                refine .fork2 [77] 78 (aB ((!t.Flag) && (((t.Names.length : Int) == 0) && ((t.Kids.length : Int) == 0)))) 2 (!t.Flag) (fun hb3 K k3 => ?_) (fun hb3 K k3 => ?_) ?_
                ·
                  refine .gy rfl rfl rfl hb3 rfl (D.mv (x := aB (((t.Names.length : Int) == 0) && ((t.Kids.length : Int) == 0))) rfl) ?_
                  refine .p rfl (D.andT rfl hb3 rfl) ?_
                  exact .drp (.same (.drop .nil)) k3
                ·
                  refine .gn rfl rfl rfl (nT hb3) ?_
                  refine .p rfl (D.andF (c := (((t.Names.length : Int) == 0) && ((t.Kids.length : Int) == 0))) rfl hb3 rfl) ?_
                  exact .drp (.same (.drop .nil)) k3
                refine .p rfl (D.mv (x := aB ((!t.Flag) && (((t.Names.length : Int) == 0) && ((t.Kids.length : Int) == 0)))) rfl) ?_
                obtain ⟨b1, hh2, hh1⟩ := bs_ hh1
                refine .fork2 [82, 81, 80] 83 (aB b1) 4 ((!t.Flag) && (((t.Names.length : Int) == 0) && ((t.Kids.length : Int) == 0))) (fun hb6 K k6 => ?_) (fun hb6 K k6 => ?_) ?_
                ·
                  replace hh2 := itT hh2 hb6
                  refine .gy rfl rfl rfl hb6 rfl (D.fld O27_2 rfl rfl rfl) ?_
                  refine .gy rfl rfl rfl hb6 rfl (D.ld1 T9 rfl rfl rfl) ?_
                  obtain ⟨r1, h_r1, hh2⟩ := bs_ hh2
                  refine .gy rfl rfl rfl hb6 rfl (D.call0 (impl_textOk_ok h_r1 g) C33 rfl [] (.cons (.c .fz) (.cons (.c .fz) .nil)) (.v (.c .fz))) ?_
                  obtain rfl := sj_ hh2
                  refine .p rfl (D.pickT rfl hb6 rfl) ?_
                  exact .drp (.same (.drop (.drop (.drop .nil)))) k6
                ·
                  replace hh2 := itF hh2 hb6
                  refine .gn rfl rfl rfl (nT hb6) ?_
                  refine .gn rfl rfl rfl (nT hb6) ?_
                  refine .gn rfl rfl rfl (nT hb6) ?_
                  obtain rfl := sj_ hh2
                  refine .p rfl (D.pickF rfl hb6 rfl) ?_
                  exact .drp (.same (.drop (.drop (.drop .nil)))) k6
                refine .p rfl (D.as (x := aB b1) rfl) ?_
                obtain rfl := sj_ hh1
                exact .nilA [0, 1] (fun _ h => h) hf ⟨.c .fz, .c (.pt rfl rfl rfl), .c (.pt rfl rfl rfl), .c .fz, trivial⟩ ⟨rfl, .box (.all rfl), rfl, .box (.all rfl), rfl⟩
              · refine EW.condF rfl rfl hb ?_
                refine EW.seq ?_
                refine EW.region ?_
                refine .p rfl (D.eqI rfl rfl) ?_
                refine .p rfl (D.as (x := aB (t.Kind == 5)) rfl) ?_
                refine .nil ?_
                rcases it hh1 with ⟨hb, hh1⟩ | ⟨hb, hh1⟩
                · refine EW.condT rfl rfl hb ?_
                  refine EW.region ?_
                  refine .p rfl (D.mv (x := aB ((!t.Flag) && (t.Text == []))) rfl) ?_
                  refine .p rfl (D.mv (x := aB ((!t.Flag) && (t.Text == []))) rfl) ?_
                  refine .fork2 [91, 90, 89, 88] 92 (aB (((!t.Flag) && (t.Text == [])) && ((t.Names.length : Int) == 0))) 5 ((!t.Flag) && (t.Text == [])) (fun hb1 K k1 => ?_) (fun hb1 K k1 => ?_) ?_
                  ·
                    refine .gy rfl rfl rfl hb1 rfl (D.fld O27_3 rfl rfl rfl) ?_
                    refine .gy rfl rfl rfl hb1 rfl (D.ld1 T24 rfl rfl rfl) ?_
                    refine .klen 89 rfl rfl fun hl2 => ?_
                    refine .gy rfl rfl rfl hb1 rfl (D.len E24 rfl) ?_
                    refine .gy rfl rfl rfl hb1 rfl (D.eqI rfl rfl) ?_
                    refine .p rfl (D.andT rfl hb1 rfl) ?_
                    exact .drp (.same (.drop (.drop (.drop (.drop .nil))))) k1
                  ·
                    refine .gn rfl rfl rfl (nT hb1) ?_
                    refine .gn rfl rfl rfl (nT hb1) ?_
                    refine .gn rfl rfl rfl (nT hb1) ?_
                    refine .gn rfl rfl rfl (nT hb1) ?_
                    refine .p rfl (D.andF (c := ((t.Names.length : Int) == 0)) rfl hb1 rfl) ?_
                    exact .drp (.same (.drop (.drop (.drop (.drop .nil))))) k1
                  refine .p rfl (D.as (x := aB (((!t.Flag) && (t.Text == [])) && ((t.Names.length : Int) == 0))) rfl) ?_
                  obtain rfl := sj_ hh1
                  exact .nilA [0, 1] (fun _ h => h) hf ⟨.c .fz, .c (.pt rfl rfl rfl), .c (.pt rfl rfl rfl), .c .fz, trivial⟩ ⟨rfl, .box (.all rfl), rfl, .box (.all rfl), rfl⟩
                · refine EW.condF rfl rfl hb ?_
                  refine EW.seq ?_
                  refine EW.region ?_
                  refine .p rfl (D.eqI rfl rfl) ?_
                  refine .p rfl (D.as (x := aB (t.Kind == 6)) rfl) ?_
                  refine .nil ?_
                  rcases it hh1 with ⟨hb, hh1⟩ | ⟨hb, hh1⟩
                  · refine EW.condT rfl rfl hb ?_
                    refine EW.region ?_
                    refine .p rfl (D.mv (x := aB ((!t.Flag) && (t.Text == []))) rfl) ?_
                    refine .p rfl (D.mv (x := aB ((!t.Flag) && (t.Text == []))) rfl) ?_
                    refine .fork2 [103, 102, 101, 100, 99, 98, 97] 104 (aB (((!t.Flag) && (t.Text == [])) && ((t.Names.length : Int) == (t.Kids.length : Int)))) 8 ((!t.Flag) && (t.Text == [])) (fun hb1 K k1 => ?_) (fun hb1 K k1 => ?_) ?_
                    ·
                      refine .gy rfl rfl rfl hb1 rfl (D.fld O27_3 rfl rfl rfl) ?_
                      refine .gy rfl rfl rfl hb1 rfl (D.ld1 T24 rfl rfl rfl) ?_
                      refine .klen 98 rfl rfl fun hl3 => ?_
                      refine .gy rfl rfl rfl hb1 rfl (D.len E24 rfl) ?_
                      refine .gy rfl rfl rfl hb1 rfl (D.fld O27_4 rfl rfl rfl) ?_
                      refine .gy rfl rfl rfl hb1 rfl (D.ld1 T25 rfl rfl rfl) ?_
                      refine .klen 101 rfl rfl fun hl4 => ?_
                      refine .gy rfl rfl rfl hb1 rfl (D.len E25 rfl) ?_
                      refine .gy rfl rfl rfl hb1 rfl (D.eqI rfl rfl) ?_
                      refine .p rfl (D.andT rfl hb1 rfl) ?_
                      exact .drp (.same (.drop (.drop (.drop (.drop (.drop (.drop (.drop .nil)))))))) k1
                    ·
                      refine .gn rfl rfl rfl (nT hb1) ?_
                      refine .gn rfl rfl rfl (nT hb1) ?_
                      refine .gn rfl rfl rfl (nT hb1) ?_
                      refine .gn rfl rfl rfl (nT hb1) ?_
                      refine .gn rfl rfl rfl (nT hb1) ?_
                      refine .gn rfl rfl rfl (nT hb1) ?_
                      refine .gn rfl rfl rfl (nT hb1) ?_
                      refine .p rfl (D.andF (c := ((t.Names.length : Int) == (t.Kids.length : Int))) rfl hb1 rfl) ?_
                      exact .drp (.same (.drop (.drop (.drop (.drop (.drop (.drop (.drop .nil)))))))) k1
                    refine .p rfl (D.mv (x := aB (((!t.Flag) && (t.Text == [])) && ((t.Names.length : Int) == (t.Kids.length : Int)))) rfl) ?_
                    obtain ⟨b2, hh2, hh1⟩ := bs_ hh1
                    refine .fork2 [108, 107, 106] 109 (aB b2) 4 (((!t.Flag) && (t.Text == [])) && ((t.Names.length : Int) == (t.Kids.length : Int))) (fun hb10 K k10 => ?_) (fun hb10 K k10 => ?_) ?_
                    ·
                      replace hh2 := itT hh2 hb10
                      refine .gy rfl rfl rfl hb10 rfl (D.fld O27_3 rfl rfl rfl) ?_
                      refine .gy rfl rfl rfl hb10 rfl (D.ld1 T24 rfl rfl rfl) ?_
                      obtain ⟨r2, h_r2, hh2⟩ := bs_ hh2
                      refine .gy rfl rfl rfl hb10 rfl (D.call0 (impl_namesOk_ok h_r2 g) C34 rfl [] (.cons (.c .fz) .nil) (.v (.c .fz))) ?_
                      obtain rfl := sj_ hh2
                      refine .p rfl (D.pickT rfl hb10 rfl) ?_
                      exact .drp (.same (.drop (.drop (.drop .nil)))) k10
                    ·
                      replace hh2 := itF hh2 hb10
                      refine .gn rfl rfl rfl (nT hb10) ?_
                      refine .gn rfl rfl rfl (nT hb10) ?_
                      refine .gn rfl rfl rfl (nT hb10) ?_
                      obtain rfl := sj_ hh2
                      refine .p rfl (D.pickF rfl hb10 rfl) ?_
                      exact .drp (.same (.drop (.drop (.drop .nil)))) k10
                    refine .p rfl (D.as (x := aB b2) rfl) ?_
                    obtain rfl := sj_ hh1
                    exact .nilA [0, 1] (fun _ h => h) hf ⟨.c .fz, .c (.pt rfl rfl rfl), .c (.pt rfl rfl rfl), .c .fz, trivial⟩ ⟨rfl, .box (.all rfl), rfl, .box (.all rfl), rfl⟩
                  · refine EW.condF rfl rfl hb ?_
                    obtain rfl := sj_ hh1
                    exact EW.skipA [0, 1] (fun _ h => h) hf ⟨.c .fz, .c (.pt rfl rfl rfl), .c (.pt rfl rfl rfl), .c .fz, trivial⟩ ⟨rfl, .box (.all rfl), rfl, .box (.all rfl), rfl⟩
      · rintro _ ⟨f, hf, rfl⟩
        refine EW.seq ?_
        refine EW.seq ?_
        refine EW.region ?_
        refine .p rfl (D.as (x := aI 0) rfl) ?_
        refine .nil ?_
        obtain ⟨o_2, hl, hh0⟩ := bs_ hh0
        refine EW.bj (At g [0] (fun f => [(9, aB o_2.1)]) (fun f => [(0, .box 3 [aI o_2.2])])) (EW.block (EW.loop (EWL.less [0, 1] (ih_impl_Json_formed_l1 _ _ _ _ _ _ hl g C _ (fun _ h => h)) hf ⟨.c .fz, .c (.pt rfl rfl rfl), .c (.pt rfl rfl rfl), .c .fz, .c .fz, trivial⟩ ⟨rfl, .box (.all rfl), rfl, .box (.all rfl), rfl⟩))) ?_
        rintro _ ⟨f, hf, rfl⟩
        refine EW.seq ?_
        refine EW.region ?_
        refine .p rfl (D.mv (x := aB o_2.1) rfl) ?_
        refine .p rfl (D.as (x := aB o_2.1) rfl) ?_
        refine .nil ?_
        obtain rfl := sj_ hh0
        exact EW.retA [0] (fun _ h => ⟨.inr rfl, h⟩) hf ⟨.c .fz, trivial⟩ ⟨rfl, .box (.all rfl), rfl⟩
  · intro sf_impl_Json_formed sf_impl_Json_formed_l1 ih_impl_Json_formed ih_impl_Json_formed_l1 t o_ x1 x2 A1 o hh0
    intro g C Q hx σ hσ
    obtain ⟨f, hf, rfl⟩ := hσ
    refine EWL.round ?_
    refine EW.seq ?_
    refine EW.seq ?_
    refine EW.region ?_
    refine .p rfl (D.mv (x := aI x2) rfl) ?_
    refine .p rfl (D.fld O27_4 rfl rfl rfl) ?_
    refine .p rfl (D.ld1 T25 rfl rfl rfl) ?_
    refine .klen 112 rfl rfl fun hl5 => ?_
    refine .p rfl (D.len E25 rfl) ?_
    refine .p rfl (D.lt rfl rfl) ?_
    refine .p rfl (D.mv (x := aB (decide (x2 < (t.Kids.length : Int)))) rfl) ?_
    refine .fork2 [116] 117 (aB ((decide (x2 < (t.Kids.length : Int))) && x1)) 2 (decide (x2 < (t.Kids.length : Int))) (fun hb5 K k5 => ?_) (fun hb5 K k5 => ?_) ?_
    ·
      refine .gy rfl rfl rfl hb5 rfl (D.mv (x := aB x1) rfl) ?_
      refine .p rfl (D.andT rfl hb5 rfl) ?_
      exact .drp (.same (.drop .nil)) k5
    ·
      refine .gn rfl rfl rfl (nT hb5) ?_
      refine .p rfl (D.andF (c := x1) rfl hb5 rfl) ?_
      exact .drp (.same (.drop .nil)) k5
    refine .nil ?_
    rcases it hh0 with ⟨hb, hh0⟩ | ⟨hb, hh0⟩
    · refine EW.condT rfl rfl hb ?_
      refine EW.skip ?_
      refine EW.seq ?_
      refine EW.block ?_
      refine EW.region ?_
      refine .p rfl (D.fld O27_4 rfl rfl rfl) ?_
      refine .p rfl (D.ld1 T25 rfl rfl rfl) ?_
      refine .p rfl (D.mv (x := aI x2) rfl) ?_
      obtain ⟨Kid, h_Kid, hh0⟩ := bs_ hh0
      refine .p rfl (D.idx E25 rfl rfl h_Kid (Json.c_eq _)) ?_
      refine .p rfl (D.ldpN T27 rfl rfl rfl) ?_
      refine .p rfl (D.mv (x := aI o_) rfl) ?_
      refine .p rfl (D.add rfl rfl) ?_
      refine .p rfl (D.mv rfl) ?_
      obtain ⟨r3, h_r3, hh0⟩ := bs_ hh0
      refine .c rfl (D.callG (eff := [(0, ⟨_, .box 3 [aI r3.2]⟩)]) (ih_impl_Json_formed _ _ _ _ h_r3 g) C18 rfl [(0, 0)] [] [0] (.cons (.ag (.all rfl)) (.cons (.c .fz) (.cons (.c (.pt rfl rfl rfl rfl)) .nil))) rfl rfl (.cons rfl (.box (.all rfl)) .nil) rfl rfl rfl (.same rfl rfl rfl (.box (.all rfl)) .nil) .nil (.v (.c .fz))) ?_
      refine .p rfl (D.as (x := aB r3.1) rfl) ?_
      refine .nil ?_
      refine EW.region ?_
      refine .p rfl (D.mv (x := aI x2) rfl) ?_
      refine .p rfl (D.add rfl rfl) ?_
      refine .p rfl (D.as (x := aI (w64 (x2 + 1))) rfl) ?_
      refine .nil ?_
      exact EWL.less [0, 1] (ih_impl_Json_formed_l1 _ _ _ _ _ _ hh0 _ _ _ hx) hf ⟨.c .fz, .c (.pt rfl rfl rfl), .c (.pt rfl rfl rfl), .c .fz, .c .fz, trivial⟩ ⟨rfl, .box (.all rfl), rfl, .box (.all rfl), rfl⟩
    · refine EW.condF rfl rfl hb ?_
      obtain rfl := sj_ hh0
      exact EW.exitA [0] (fun _ h => hx _ h) hf ⟨.c .fz, trivial⟩ ⟨rfl, .box (.all rfl), rfl⟩


theorem impl_Json_formed_ok {t : Json} {o_ : Int} {A : Int} {y : Bool × Int} (hh0 : impl_Json_formed t o_ A = some y) (g : Nat → Nat) : Fn Tryd.prog 18 (stoF g [(0, .box 3 [aI A])]) [.ag [aI t.Kind, aB t.Flag, aS t.Text, aL 1 eS t.Names, aL 5 Json.c t.Kids], aI o_, .pt 0 (g 0) 0] (stoF g [(0, .box 3 [aI y.2])]) (aB y.1) := impl_Json_formed_all.1 _ _ _ _ hh0 g

theorem impl_Json_write_all : (∀ (j : Json) (y : Str), impl_Json_write j = some y → ∀ g : Nat → Nat, Fn Tryd.prog 19 (stoF g []) [.ag [aI j.Kind, aB j.Flag, aS j.Text, aL 1 eS j.Names, aL 5 Json.c j.Kids]] (stoF g []) (aS y))
   ∧ (∀ (j : Json) (x : Int) (out : (List Str)) (o : (List Str)), impl_Json_write_l0 j x out = some o → ∀ (g : Nat → Nat) (C : Ctx Tryd.prog) (Q : Exit → St → Prop), (∀ σ', At g [] (fun f => [(1, .pt 0 (f 0) 0), (3, .ow 1 (f 1))]) (fun f => [(0, .box 27 [aI j.Kind, aB j.Flag, aS j.Text, aL 1 eS j.Names, aL 5 Json.c j.Kids]), (1, oR 9 1 eS o)]) σ' → Q (.exit 0) σ') → ∀ σ, At g [] (fun f => [(1, .pt 0 (f 0) 0), (3, .ow 1 (f 1)), (9, aL 5 Json.c j.Kids), (10, aI (j.Kids.length : Int)), (11, aI x)]) (fun f => [(0, .box 27 [aI j.Kind, aB j.Flag, aS j.Text, aL 1 eS j.Names, aL 5 Json.c j.Kids]), (1, oR 9 1 eS out)]) σ → EWL C 63 (bAt Tryd.f19 [1, 1, 0, 1, 0, 0]) σ Q) := by
  refine impl_Json_write.mpc (fun j y => ∀ g : Nat → Nat, Fn Tryd.prog 19 (stoF g []) [.ag [aI j.Kind, aB j.Flag, aS j.Text, aL 1 eS j.Names, aL 5 Json.c j.Kids]] (stoF g []) (aS y))
    (fun j x out o => ∀ (g : Nat → Nat) (C : Ctx Tryd.prog) (Q : Exit → St → Prop), (∀ σ', At g [] (fun f => [(1, .pt 0 (f 0) 0), (3, .ow 1 (f 1))]) (fun f => [(0, .box 27 [aI j.Kind, aB j.Flag, aS j.Text, aL 1 eS j.Names, aL 5 Json.c j.Kids]), (1, oR 9 1 eS o)]) σ' → Q (.exit 0) σ') → ∀ σ, At g [] (fun f => [(1, .pt 0 (f 0) 0), (3, .ow 1 (f 1)), (9, aL 5 Json.c j.Kids), (10, aI (j.Kids.length : Int)), (11, aI x)]) (fun f => [(0, .box 27 [aI j.Kind, aB j.Flag, aS j.Text, aL 1 eS j.Names, aL 5 Json.c j.Kids]), (1, oR 9 1 eS out)]) σ → EWL C 63 (bAt Tryd.f19 [1, 1, 0, 1, 0, 0]) σ Q) ?_ ?_
  · intro sf_impl_Json_write_l0 ih_impl_Json_write_l0 j y hh0
    intro g
    refine Fn.of0 (hs := []) (kl := []) (L := (fun f => [(2, aS y)])) (O := (fun f => [])) Tryd.func19 rfl Tryd.ntmps19 rfl (fun f hf => ⟨.nil, .one (Nat.le_of_ble_eq_true rfl) (.tmp rfl) (.c .fz)⟩) rfl rfl (fun C => ?_)
    have hf : agree g [] g := agree_refl g _
    refine EW.seq ?_
    refine EW.region ?_
    refine .w rfl (D.box 0 rfl rfl) ?_
    refine .p rfl (D.as (x := aS []) rfl) ?_
    refine .nil ?_
    refine EW.seq ?_
    refine EW.region ?_
    refine .w rfl (D.litO 1 rfl (l := ([] : List Str)) (enc := eS) Tryd.underlying24 ZB9 rfl rfl rfl (fun _ => rfl) .nil) ?_
    refine .p rfl (D.as rfl) ?_
    refine .nil ?_
    refine EW.seq ?_
    refine EW.seq ?_
    refine EW.region ?_
    refine .p rfl (D.fld O27_4 rfl rfl rfl) ?_
    refine .p rfl (D.ld1 T25 rfl rfl rfl) ?_
    refine .klen 9 rfl rfl fun hl => ?_
    refine .p rfl (D.len E25 rfl) ?_
    refine .p rfl (D.mv (x := aI 0) rfl) ?_
    refine .nil ?_
    obtain ⟨o_1, hl, hh0⟩ := bs_ hh0
    refine EW.bj (At g [] (fun f => [(1, .pt 0 (f 0) 0), (3, .ow 1 (f 1))]) (fun f => [(0, .box 27 [aI j.Kind, aB j.Flag, aS j.Text, aL 1 eS j.Names, aL 5 Json.c j.Kids]), (1, oR 9 1 eS o_1)])) (EW.block (EW.loop (EWL.less [0, 1] (ih_impl_Json_write_l0 _ _ _ _ hl g C _ (fun _ h => h)) hf ⟨.c (.pt rfl rfl rfl), .c (.ow rfl rfl rfl), .c .fz, .c .fz, .c .fz, trivial⟩ ⟨rfl, .box (.all rfl), rfl, .row, rfl⟩))) ?_
    rintro _ ⟨f, hf, rfl⟩
    refine EW.seq ?_
    refine EW.seq ?_
    refine EW.region ?_
    refine .p rfl (D.fld O27_0 rfl rfl rfl) ?_
    refine .p rfl (D.ld1 T3 rfl rfl rfl) ?_
    refine .nil ?_
    refine EW.block ?_
    refine EW.seq ?_
    refine EW.region ?_
    refine .p rfl (D.eqI rfl rfl) ?_
    refine .p rfl (D.as (x := aB (j.Kind == 1)) rfl) ?_
    refine .nil ?_
    rcases it hh0 with ⟨hb, hh0⟩ | ⟨hb, hh0⟩
    · refine EW.condT rfl rfl hb ?_
      refine EW.seq ?_
      refine EW.region ?_
      refine .p rfl (D.as (x := aS [110, 117, 108, 108]) rfl) ?_
      refine .nil ?_
      obtain rfl := sj_ hh0
      exact EW.retA [] (fun _ h => ⟨.inr rfl, h⟩) hf ⟨.c .fz, trivial⟩ rfl
    · refine EW.condF rfl rfl hb ?_
      refine EW.seq ?_
      refine EW.region ?_
      refine .p rfl (D.eqI rfl rfl) ?_
      refine .p rfl (D.as (x := aB (j.Kind == 2)) rfl) ?_
      refine .nil ?_
      rcases it hh0 with ⟨hb, hh0⟩ | ⟨hb, hh0⟩
      · refine EW.condT rfl rfl hb ?_
        refine EW.seq ?_
        refine EW.seq ?_
        refine EW.region ?_
        refine .p rfl (D.fld O27_1 rfl rfl rfl) ?_
        refine .p rfl (D.ld1 T4 rfl rfl rfl) ?_
        refine .nil ?_
        rcases it hh0 with ⟨hb, hh0⟩ | ⟨hb, hh0⟩
        · refine EW.condT rfl rfl hb ?_
          refine EW.seq ?_
          refine EW.region ?_
          refine .p rfl (D.as (x := aS [116, 114, 117, 101]) rfl) ?_
          refine .nil ?_
          obtain rfl := sj_ hh0
          exact EW.retA [] (fun _ h => ⟨.inr rfl, h⟩) hf ⟨.c .fz, trivial⟩ rfl
        · refine EW.condF rfl rfl hb ?_
          refine EW.skip ?_
          refine EW.seq ?_
          refine EW.region ?_
          refine .p rfl (D.as (x := aS [102, 97, 108, 115, 101]) rfl) ?_
          refine .nil ?_
          obtain rfl := sj_ hh0
          exact EW.retA [] (fun _ h => ⟨.inr rfl, h⟩) hf ⟨.c .fz, trivial⟩ rfl
      · refine EW.condF rfl rfl hb ?_
        refine EW.seq ?_
        refine EW.region ?_
        refine .p rfl (D.eqI rfl rfl) ?_
        refine .p rfl (D.as (x := aB (j.Kind == 3)) rfl) ?_
        refine .nil ?_
        rcases it hh0 with ⟨hb, hh0⟩ | ⟨hb, hh0⟩
        · refine EW.condT rfl rfl hb ?_
          refine EW.seq ?_
          refine EW.region ?_
          refine .p rfl (D.fld O27_2 rfl rfl rfl) ?_
          refine .p rfl (D.ld1 T9 rfl rfl rfl) ?_
          refine .p rfl (D.as (x := aS j.Text) rfl) ?_
          refine .nil ?_
          obtain rfl := sj_ hh0
          exact EW.retA [] (fun _ h => ⟨.inr rfl, h⟩) hf ⟨.c .fz, trivial⟩ rfl
        · refine EW.condF rfl rfl hb ?_
          refine EW.seq ?_
          refine EW.region ?_
          refine .p rfl (D.eqI rfl rfl) ?_
          refine .p rfl (D.as (x := aB (j.Kind == 4)) rfl) ?_
          refine .nil ?_
          rcases it hh0 with ⟨hb, hh0⟩ | ⟨hb, hh0⟩
          · refine EW.condT rfl rfl hb ?_
            refine EW.seq ?_
            refine EW.region ?_
            refine .p rfl (D.fld O27_2 rfl rfl rfl) ?_
            refine .p rfl (D.ld1 T9 rfl rfl rfl) ?_
            obtain ⟨s4, h_s4, hh0⟩ := bs_ hh0
            refine .p rfl (D.cat rfl rfl h_s4) ?_
            obtain ⟨s5, h_s5, hh0⟩ := bs_ hh0
            refine .p rfl (D.cat rfl rfl h_s5) ?_
            refine .p rfl (D.as (x := aS s5) rfl) ?_
            refine .nil ?_
            obtain rfl := sj_ hh0
            exact EW.retA [] (fun _ h => ⟨.inr rfl, h⟩) hf ⟨.c .fz, trivial⟩ rfl
          · refine EW.condF rfl rfl hb ?_
            refine EW.seq ?_
            refine EW.region ?_
            refine .p rfl (D.eqI rfl rfl) ?_
            refine .p rfl (D.as (x := aB (j.Kind == 5)) rfl) ?_
            refine .nil ?_
            rcases it hh0 with ⟨hb, hh0⟩ | ⟨hb, hh0⟩
            · refine EW.condT rfl rfl hb ?_
              refine EW.seq ?_
              refine EW.region ?_
              refine .p rfl (D.mv rfl) ?_
              refine EOps.less (g := g) (hs := []) (L := (fun f => [(55, aL 1 eS o_1)])) (O := (fun f => [])) [] (fun σ' hσ' => ?_) hf ⟨.c (.row rfl rfl), trivial⟩ rfl
              obtain ⟨f, hf, rfl⟩ := hσ'
              obtain ⟨r1, h_r1, hh0⟩ := bs_ hh0
              refine .p rfl (D.call0 (strings_Join_ok h_r1 g) C35 rfl [] (.cons (.c .fz) (.cons (.c .fz) .nil)) (.v (.c .fz))) ?_
              obtain ⟨s6, h_s6, hh0⟩ := bs_ hh0
              refine .p rfl (D.cat rfl rfl h_s6) ?_
              obtain ⟨s7, h_s7, hh0⟩ := bs_ hh0
              refine .p rfl (D.cat rfl rfl h_s7) ?_
              refine .p rfl (D.as (x := aS s7) rfl) ?_
              refine .nil ?_
              obtain rfl := sj_ hh0
              exact EW.retA [] (fun _ h => ⟨.inr rfl, h⟩) hf ⟨.c .fz, trivial⟩ rfl
            · refine EW.condF rfl rfl hb ?_
              refine EW.skip ?_
              refine EW.seq ?_
              refine EW.region ?_
              refine .p rfl (D.mv rfl) ?_
              refine EOps.less (g := g) (hs := []) (L := (fun f => [(59, aL 1 eS o_1)])) (O := (fun f => [])) [] (fun σ' hσ' => ?_) hf ⟨.c (.row rfl rfl), trivial⟩ rfl
              obtain ⟨f, hf, rfl⟩ := hσ'
              obtain ⟨r2, h_r2, hh0⟩ := bs_ hh0
              refine .p rfl (D.call0 (strings_Join_ok h_r2 g) C35 rfl [] (.cons (.c .fz) (.cons (.c .fz) .nil)) (.v (.c .fz))) ?_
              obtain ⟨s8, h_s8, hh0⟩ := bs_ hh0
              refine .p rfl (D.cat rfl rfl h_s8) ?_
              obtain ⟨s9, h_s9, hh0⟩ := bs_ hh0
              refine .p rfl (D.cat rfl rfl h_s9) ?_
              refine .p rfl (D.as (x := aS s9) rfl) ?_
              refine .nil ?_
              obtain rfl := sj_ hh0
              exact EW.retA [] (fun _ h => ⟨.inr rfl, h⟩) hf ⟨.c .fz, trivial⟩ rfl
  · intro sf_impl_Json_write sf_impl_Json_write_l0 ih_impl_Json_write ih_impl_Json_write_l0 j x out o hh0
    intro g C Q hx σ hσ
    obtain ⟨f, hf, rfl⟩ := hσ
    refine EWL.round ?_
    refine EW.seq ?_
    refine EW.region ?_
    refine .p rfl (D.lt rfl rfl) ?_
    refine .nil ?_
    refine EW.seq ?_
    rcases it hh0 with ⟨hb, hh0⟩ | ⟨hb, hh0⟩
    · refine EW.condT rfl rfl hb ?_
      refine EW.skip ?_
      refine EW.seq ?_
      refine EW.block ?_
      refine EW.seq ?_
      refine EW.region ?_
      refine .p rfl (D.mv (x := aI x) rfl) ?_
      obtain ⟨Kid, h_Kid, hh0⟩ := bs_ hh0
      refine .p rfl (D.idx E25 rfl rfl h_Kid (Json.c_eq _)) ?_
      refine .p rfl (D.ldpN T27 rfl rfl rfl) ?_
      refine .w rfl (D.alloc 2 rfl ZF27 rfl rfl) ?_
      refine .p rfl (D.as (x := aI x) rfl) ?_
      refine .st rfl (D.st T27 rfl rfl rfl rfl rfl rfl) ?_
      refine .nil ?_
      refine EW.seq ?_
      refine EW.region ?_
      refine .p rfl (D.ldN T27 rfl rfl rfl rfl) ?_
      obtain ⟨r, h_r, hh0⟩ := bs_ hh0
      refine .p rfl (D.call0 (ih_impl_Json_write _ _ h_r g) C19 rfl [] (.cons (.ag (.all rfl)) .nil) (.v (.c .fz))) ?_
      refine .p rfl (D.as (x := aS r) rfl) ?_
      refine .nil ?_
      refine EW.seq ?_
      refine EW.seq ?_
      refine EW.region ?_
      refine .p rfl (D.fld O27_0 rfl rfl rfl) ?_
      refine .p rfl (D.ld1 T3 rfl rfl rfl) ?_
      refine .p rfl (D.eqI rfl rfl) ?_
      refine .nil ?_
      obtain ⟨o_, hh1, hh0⟩ := bs_ hh0
      refine EW.bj (At g [] (fun f => [(1, .pt 0 (f 0) 0), (3, .ow 1 (f 1)), (6, aS o_), (9, aL 5 Json.c j.Kids), (10, aI (j.Kids.length : Int)), (11, aI x)]) (fun f => [(0, .box 27 [aI j.Kind, aB j.Flag, aS j.Text, aL 1 eS j.Names, aL 5 Json.c j.Kids]), (1, oR 9 1 eS out)])) ?_ ?_
      · rcases it hh1 with ⟨hb, hh1⟩ | ⟨hb, hh1⟩
        · refine EW.condT rfl rfl hb ?_
          refine EW.region ?_
          refine .p rfl (D.fld O27_3 rfl rfl rfl) ?_
          refine .p rfl (D.ld1 T24 rfl rfl rfl) ?_
          refine .p rfl (D.mv (x := aI x) rfl) ?_
          obtain ⟨Name, h_Name, hh1⟩ := bs_ hh1
          refine .p rfl (D.idx E24 rfl rfl h_Name rfl) ?_
          refine .p rfl (D.ldp1 T9 rfl rfl) ?_
          obtain ⟨s1, h_s1, hh1⟩ := bs_ hh1
          refine .p rfl (D.cat rfl rfl h_s1) ?_
          obtain ⟨s2, h_s2, hh1⟩ := bs_ hh1
          refine .p rfl (D.cat rfl rfl h_s2) ?_
          refine .p rfl (D.mv (x := aS r) rfl) ?_
          obtain ⟨s3, h_s3, hh1⟩ := bs_ hh1
          refine .p rfl (D.cat rfl rfl h_s3) ?_
          refine .p rfl (D.as (x := aS s3) rfl) ?_
          obtain rfl := sj_ hh1
          exact .nilA [0, 1] (fun _ h => h) hf ⟨.c (.pt rfl rfl rfl), .c (.ow rfl rfl rfl), .c .fz, .c .fz, .c .fz, .c .fz, trivial⟩ ⟨rfl, .box (.all rfl), rfl, .row, rfl⟩
        · refine EW.condF rfl rfl hb ?_
          obtain rfl := sj_ hh1
          exact EW.skipA [0, 1] (fun _ h => h) hf ⟨.c (.pt rfl rfl rfl), .c (.ow rfl rfl rfl), .c .fz, .c .fz, .c .fz, .c .fz, trivial⟩ ⟨rfl, .box (.all rfl), rfl, .row, rfl⟩
      · rintro _ ⟨f, hf, rfl⟩
        refine EW.region ?_
        refine .p rfl (D.mv rfl) ?_
        refine .p rfl (D.mv (x := aS o_) rfl) ?_
        refine .p rfl (D.litZ (l := ([o_] : List Str)) (enc := eS) Tryd.underlying24 ZB9 rfl rfl rfl (fun _ => rfl) (.cons (.one .fz) .nil)) ?_
        obtain ⟨out2, h_out2, hh0⟩ := bs_ hh0
        refine .w rfl (D.app (enc := eS) (ks := []) Tryd.underlying24 Z9 rfl rfl (.fz) h_out2) ?_
        refine .p rfl (D.as rfl) ?_
        refine .nil ?_
        refine EW.region ?_
        refine .p rfl (D.add rfl rfl) ?_
        refine .p rfl (D.mv (x := aI (w64 (x + 1))) rfl) ?_
        refine .nil ?_
        exact EWL.less [0, 1] (ih_impl_Json_write_l0 _ _ _ _ hh0 _ _ _ hx) hf ⟨.c (.pt rfl rfl rfl), .c (.ow rfl rfl rfl), .c .fz, .c .fz, .c .fz, trivial⟩ ⟨rfl, .box (.all rfl), rfl, .row, rfl⟩
    · refine EW.condF rfl rfl hb ?_
      obtain rfl := sj_ hh0
      exact EW.exitA [0, 1] (fun _ h => hx _ h) hf ⟨.c (.pt rfl rfl rfl), .c (.ow rfl rfl rfl), trivial⟩ ⟨rfl, .box (.all rfl), rfl, .row, rfl⟩


theorem impl_Json_write_ok {j : Json} {y : Str} (hh0 : impl_Json_write j = some y) (g : Nat → Nat) : Fn Tryd.prog 19 (stoF g []) [.ag [aI j.Kind, aB j.Flag, aS j.Text, aL 1 eS j.Names, aL 5 Json.c j.Kids]] (stoF g []) (aS y) := impl_Json_write_all.1 _ _ hh0 g

theorem impl_JsonOk_ok {j : Json} {y : Bool} (hh0 : impl_JsonOk j = some y) (g : Nat → Nat) : Fn Tryd.prog 8 (stoF g []) [.ag [aI j.Kind, aB j.Flag, aS j.Text, aL 1 eS j.Names, aL 5 Json.c j.Kids]] (stoF g []) (aB y) := by
  refine Fn.of0 (hs := []) (kl := []) (L := (fun f => [(2, aB y)])) (O := (fun f => [])) Tryd.func8 rfl Tryd.ntmps8 rfl (fun f hf => ⟨.nil, .one (Nat.le_of_ble_eq_true rfl) (.tmp rfl) (.c .fz)⟩) rfl rfl (fun C => ?_)
  have hf : agree g [] g := agree_refl g _
  refine EW.seq ?_
  refine EW.region ?_
  refine .w rfl (D.box 0 rfl rfl) ?_
  refine .p rfl (D.as (x := aB false) rfl) ?_
  refine .nil ?_
  refine EW.seq ?_
  refine EW.region ?_
  refine .w rfl (D.alloc 1 rfl ZF3 rfl rfl) ?_
  refine .st rfl (D.st T3 rfl rfl rfl rfl rfl rfl) ?_
  refine .nil ?_
  refine EW.seq ?_
  refine EW.region ?_
  refine .p rfl (D.ldN T27 rfl rfl rfl rfl) ?_
  obtain ⟨r, h_r, hh0⟩ := bs_ hh0
  refine .c rfl (D.callG (eff := [(1, ⟨_, .box 3 [aI r.2]⟩)]) (impl_Json_formed_ok h_r g) C18 rfl [(0, 1)] [] [1] (.cons (.ag (.all rfl)) (.cons (.c .fz) (.cons (.c (.pt rfl rfl rfl rfl)) .nil))) rfl rfl (.cons rfl (.box (.all rfl)) .nil) rfl rfl rfl (.same rfl rfl rfl (.box (.all rfl)) .nil) .nil (.v (.c .fz))) ?_
  refine .p rfl (D.mv (x := aB r.1) rfl) ?_
  obtain ⟨b, hh1, hh0⟩ := bs_ hh0
  refine .fork2 [10, 9, 8, 7] 11 (aB b) 5 r.1 (fun hb2 K k2 => ?_) (fun hb2 K k2 => ?_) ?_
  ·
    replace hh1 := itT hh1 hb2
    refine .gy rfl rfl rfl hb2 rfl (D.ldN T27 rfl rfl rfl rfl) ?_
    obtain ⟨r1, h_r1, hh1⟩ := bs_ hh1
    refine .gy rfl rfl rfl hb2 rfl (D.call0 (impl_Json_write_ok h_r1 g) C19 rfl [] (.cons (.ag (.all rfl)) .nil) (.v (.c .fz))) ?_
    refine .gy rfl rfl rfl hb2 rfl (D.lenS S9 rfl) ?_
    refine .gy rfl rfl rfl hb2 rfl (D.le rfl rfl) ?_
    obtain rfl := sj_ hh1
    refine .p rfl (D.pickT rfl hb2 rfl) ?_
    exact .drp (.same (.drop (.drop (.drop (.drop .nil))))) k2
  ·
    replace hh1 := itF hh1 hb2
    refine .gn rfl rfl rfl (nT hb2) ?_
    refine .gn rfl rfl rfl (nT hb2) ?_
    refine .gn rfl rfl rfl (nT hb2) ?_
    refine .gn rfl rfl rfl (nT hb2) ?_
    obtain rfl := sj_ hh1
    refine .p rfl (D.pickF rfl hb2 rfl) ?_
    exact .drp (.same (.drop (.drop (.drop (.drop .nil))))) k2
  refine .p rfl (D.as (x := aB b) rfl) ?_
  refine .nil ?_
  obtain rfl := sj_ hh0
  exact EW.retA [] (fun _ h => ⟨.inr rfl, h⟩) hf ⟨.c .fz, trivial⟩ rfl

theorem impl_JsonWrite_ok {j : Json} {y : Str} (hh0 : impl_JsonWrite j = some y) (g : Nat → Nat) : Fn Tryd.prog 9 (stoF g []) [.ag [aI j.Kind, aB j.Flag, aS j.Text, aL 1 eS j.Names, aL 5 Json.c j.Kids]] (stoF g []) (aS y) := by
  refine Fn.of0 (hs := []) (kl := []) (L := (fun f => [(2, aS y)])) (O := (fun f => [])) Tryd.func9 rfl Tryd.ntmps9 rfl (fun f hf => ⟨.nil, .one (Nat.le_of_ble_eq_true rfl) (.tmp rfl) (.c .fz)⟩) rfl rfl (fun C => ?_)
  have hf : agree g [] g := agree_refl g _
  refine EW.seq ?_
  refine EW.region ?_
  refine .w rfl (D.box 0 rfl rfl) ?_
  refine .p rfl (D.as (x := aS []) rfl) ?_
  refine .nil ?_
  refine EW.seq ?_
  refine EW.seq ?_
  refine EW.region ?_
  refine .p rfl (D.ldN T27 rfl rfl rfl rfl) ?_
  obtain ⟨r, h_r, hh0⟩ := bs_ hh0
  refine .p rfl (D.call0 (impl_JsonOk_ok h_r g) C8 rfl [] (.cons (.ag (.all rfl)) .nil) (.v (.c .fz))) ?_
  refine .p rfl (D.not rfl) ?_
  refine .nil ?_
  rcases it hh0 with ⟨hb, hh0⟩ | ⟨hb, hh0⟩
  · refine EW.condT rfl rfl hb ?_
    refine EW.seq ?_
    refine EW.region ?_
    refine .p rfl (D.as (x := aS []) rfl) ?_
    refine .nil ?_
    obtain rfl := sj_ hh0
    exact EW.retA [] (fun _ h => ⟨.inr rfl, h⟩) hf ⟨.c .fz, trivial⟩ rfl
  · refine EW.condF rfl rfl hb ?_
    refine EW.skip ?_
    refine EW.seq ?_
    refine EW.region ?_
    refine .p rfl (D.ldN T27 rfl rfl rfl rfl) ?_
    obtain ⟨r1, h_r1, hh0⟩ := bs_ hh0
    refine .p rfl (D.call0 (impl_Json_write_ok h_r1 g) C19 rfl [] (.cons (.ag (.all rfl)) .nil) (.v (.c .fz))) ?_
    refine .p rfl (D.as (x := aS r1) rfl) ?_
    refine .nil ?_
    obtain rfl := sj_ hh0
    exact EW.retA [] (fun _ h => ⟨.inr rfl, h⟩) hf ⟨.c .fz, trivial⟩ rfl

theorem strings_HasPrefix_ok {s : Str} {prefix_ : Str} {y : Bool} (hh0 : strings_HasPrefix s prefix_ = some y) (g : Nat → Nat) : Fn Tryd.prog 39 (stoF g []) [aS s, aS prefix_] (stoF g []) (aB y) := by
  refine Fn.of0 (hs := []) (kl := []) (L := (fun f => [(4, aB y)])) (O := (fun f => [])) Tryd.func39 rfl Tryd.ntmps39 rfl (fun f hf => ⟨.nil, .one (Nat.le_of_ble_eq_true rfl) (.tmp rfl) (.c .fz)⟩) rfl rfl (fun C => ?_)
  have hf : agree g [] g := agree_refl g _
  refine EW.seq ?_
  refine EW.region ?_
  refine .p rfl (D.as (x := aB false) rfl) ?_
  refine .nil ?_
  refine EW.seq ?_
  refine EW.region ?_
  refine .p rfl (D.mv (x := aS s) rfl) ?_
  refine .p rfl (D.mv (x := aS prefix_) rfl) ?_
  obtain ⟨r, h_r, hh0⟩ := bs_ hh0
  refine .p rfl (D.call0 (internal_stringslite_HasPrefix_ok h_r g) C52 rfl [] (.cons (.c .fz) (.cons (.c .fz) .nil)) (.v (.c .fz))) ?_
  refine .p rfl (D.as (x := aB r) rfl) ?_
  refine .nil ?_
  obtain rfl := sj_ hh0
  exact EW.retA [] (fun _ h => ⟨.inr rfl, h⟩) hf ⟨.c .fz, trivial⟩ rfl

theorem impl_jsonReader_skip_ok {r : JsonReader} {s : Str} {y : Bool × JsonReader} (hh0 : impl_jsonReader_skip r s = some y) (g : Nat → Nat) : Fn Tryd.prog 29 (stoF g [(0, .box 45 [aS r.s, aI r.at_])]) [.pt 0 (g 0) 0, aS s] (stoF g [(0, .box 45 [aS y.2.s, aI y.2.at_])]) (aB y.1) := by
  refine Fn.of0 (hs := [0]) (kl := [0]) (L := (fun f => [(4, aB y.1)])) (O := (fun f => [(0, .box 45 [aS y.2.s, aI y.2.at_])])) Tryd.func29 rfl Tryd.ntmps29 rfl (fun f hf => ⟨(.same rfl hf.1 (.box (.all rfl)) .nil), .one (Nat.le_of_ble_eq_true rfl) (.tmp rfl) (.c .fz)⟩) rfl rfl (fun C => ?_)
  have hf : agree g [0] g := agree_refl g _
  refine EW.seq ?_
  refine EW.region ?_
  refine .p rfl (D.as (x := aB false) rfl) ?_
  refine .nil ?_
  refine EW.seq ?_
  refine EW.seq ?_
  refine EW.drawU MX ?_
  refine .p rfl (D.mv rfl) ?_
  refine .p rfl (D.nck rfl rfl) ?_
  refine .p rfl (D.fld O45_0 rfl rfl rfl) ?_
  refine .p rfl (D.ld1 T9 rfl rfl rfl) ?_
  refine .p rfl (D.mv rfl) ?_
  refine .p rfl (D.nck rfl rfl) ?_
  refine .p rfl (D.fld O45_1 rfl rfl rfl) ?_
  refine .p rfl (D.ld1 T3 rfl rfl rfl) ?_
  obtain ⟨s1, h_s1, hh0⟩ := bs_ hh0
  refine .p rfl (D.cutS S9 rfl (.inr ⟨_, _, rfl, rfl⟩) (.inl ⟨rfl, rfl⟩) h_s1) ?_
  refine .p rfl (D.mv (x := aS s) rfl) ?_
  obtain ⟨r1, h_r1, hh0⟩ := bs_ hh0
  refine .p rfl (D.call0 (strings_HasPrefix_ok h_r1 g) C39 rfl [] (.cons (.c .fz) (.cons (.c .fz) .nil)) (.v (.c .fz))) ?_
  refine .nil (M := [0, 1, 3, 7, 0, 16, 48, 112, 255, 0, 1023]) (by kernel_rfl) (Up.of ?_)
  rcases it hh0 with ⟨hb, hh0⟩ | ⟨hb, hh0⟩
  · refine EW.condT rfl rfl hb ?_
    refine EW.seq ?_
    refine EW.region ?_
    refine .p rfl (D.mv rfl) ?_
    refine .p rfl (D.nck rfl rfl) ?_
    refine .p rfl (D.fld O45_1 rfl rfl rfl) ?_
    refine .p rfl (D.ld1 T3 rfl rfl rfl) ?_
    refine .p rfl (D.mv (x := aS s) rfl) ?_
    refine .p rfl (D.lenS S9 rfl) ?_
    refine .p rfl (D.add rfl rfl) ?_
    refine .p rfl (D.nck rfl rfl) ?_
    refine .p rfl (D.fld O45_1 rfl rfl rfl) ?_
    refine .st rfl (D.st T3 rfl rfl rfl rfl rfl rfl) ?_
    refine .nil ?_
    refine EW.seq ?_
    refine EW.region ?_
    refine .p rfl (D.as (x := aB true) rfl) ?_
    refine .nil ?_
    obtain rfl := sj_ hh0
    exact EW.retA [0] (fun _ h => ⟨.inr rfl, h⟩) hf ⟨.c .fz, trivial⟩ ⟨rfl, .box (.all rfl), rfl⟩
  · refine EW.condF rfl rfl hb ?_
    refine EW.skip ?_
    refine EW.seq ?_
    refine EW.region ?_
    refine .p rfl (D.as (x := aB false) rfl) ?_
    refine .nil ?_
    obtain rfl := sj_ hh0
    exact EW.retA [0] (fun _ h => ⟨.inr rfl, h⟩) hf ⟨.c .fz, trivial⟩ ⟨rfl, .box (.all rfl), rfl⟩

theorem impl_jsonReader_upTo_l0_ok (r : JsonReader) (ends : Str) : ∀ (at_ : Int) (o : Int), impl_jsonReader_upTo_l0 r ends at_ = some o →
    ∀ (g : Nat → Nat) (C : Ctx Tryd.prog) (Q : Exit → St → Prop), (∀ σ', At g [0] (fun f => [(0, .pt 0 (f 0) 0), (5, aI r.at_)]) (fun f => [(0, .box 45 [aS r.s, aI o])]) σ' → Q (.exit 0) σ') → ∀ σ, At g [0] (fun f => [(0, .pt 0 (f 0) 0), (1, aS ends), (5, aI r.at_)]) (fun f => [(0, .box 45 [aS r.s, aI at_])]) σ → EWL C 51 (bAt Tryd.f31 [1, 1, 0, 0, 0]) σ Q := by
  refine impl_jsonReader_upTo_l0.partial_correctness r ends (fun at_ o => ∀ (g : Nat → Nat) (C : Ctx Tryd.prog) (Q : Exit → St → Prop), (∀ σ', At g [0] (fun f => [(0, .pt 0 (f 0) 0), (5, aI r.at_)]) (fun f => [(0, .box 45 [aS r.s, aI o])]) σ' → Q (.exit 0) σ') → ∀ σ, At g [0] (fun f => [(0, .pt 0 (f 0) 0), (1, aS ends), (5, aI r.at_)]) (fun f => [(0, .box 45 [aS r.s, aI at_])]) σ → EWL C 51 (bAt Tryd.f31 [1, 1, 0, 0, 0]) σ Q) ?_
  intro self ih at_ o hh0
  intro g C Q hx σ hσ
  obtain ⟨f, hf, rfl⟩ := hσ
  refine EWL.round ?_
  refine EW.seq ?_
  refine EW.seq ?_
  obtain ⟨o_, hh1, hh0⟩ := bs_ hh0
  refine EW.bj (At g [0] (fun f => [(0, .pt 0 (f 0) 0), (1, aS ends), (5, aI r.at_), (33, aB o_)]) (fun f => [(0, .box 45 [aS r.s, aI at_])])) ?_ ?_
  · refine EW.drawU MX ?_
    refine .p rfl (D.mv rfl) ?_
    refine .p rfl (D.nck rfl rfl) ?_
    refine .p rfl (D.fld O45_1 rfl rfl rfl) ?_
    refine .p rfl (D.ld1 T3 rfl rfl rfl) ?_
    refine .p rfl (D.mv rfl) ?_
    refine .p rfl (D.nck rfl rfl) ?_
    refine .p rfl (D.fld O45_0 rfl rfl rfl) ?_
    refine .p rfl (D.ld1 T9 rfl rfl rfl) ?_
    refine .p rfl (D.lenS S9 rfl) ?_
    refine .p rfl (D.lt rfl rfl) ?_
    refine .p rfl (D.mv (x := aB (decide (at_ < (r.s.length : Int)))) rfl) ?_
    rcases it hh1 with ⟨hb10, hh1⟩ | ⟨hb10, hh1⟩
    ·
      refine .gy rfl rfl rfl hb10 rfl (D.mv (x := aS ends) rfl) ?_
      refine .gy rfl rfl rfl hb10 rfl (D.mv rfl) ?_
      refine .gy rfl rfl rfl hb10 rfl (D.nck rfl rfl) ?_
      refine .gy rfl rfl rfl hb10 rfl (D.fld O45_0 rfl rfl rfl) ?_
      refine .gy rfl rfl rfl hb10 rfl (D.ld1 T9 rfl rfl rfl) ?_
      refine .gy rfl rfl rfl hb10 rfl (D.mv rfl) ?_
      refine .gy rfl rfl rfl hb10 rfl (D.nck rfl rfl) ?_
      refine .gy rfl rfl rfl hb10 rfl (D.fld O45_1 rfl rfl rfl) ?_
      refine .gy rfl rfl rfl hb10 rfl (D.ld1 T3 rfl rfl rfl) ?_
      obtain ⟨c, h_c, hh1⟩ := bs_ hh1
      refine .gy rfl rfl rfl hb10 rfl (D.idxS S9 rfl rfl h_c) ?_
      obtain ⟨r1, h_r1, hh1⟩ := bs_ hh1
      refine .gy rfl rfl rfl hb10 rfl (D.call0 (strings_IndexByte_ok h_r1 g) C40 rfl [] (.cons (.c .fz) (.cons (.c .fz) .nil)) (.v (.c .fz))) ?_
      refine .gy rfl rfl rfl hb10 rfl (D.lt rfl rfl) ?_
      refine .p rfl (D.pickT rfl hb10 rfl) ?_
      obtain rfl := sj_ hh1
      exact .nil (M := [0, 1, 3, 7, 0, 16, 48, 112, 240, 511, 1023, 2047, 2047, 6143, 14335, 30719, 2047, 67583, 198655, 460799, 1046527, 2097151, 4194303, 8388607]) (by kernel_rfl) (Up.at [0] (fun _ h => h) hf ⟨.c (.pt rfl rfl rfl), .c .fz, .c .fz, .c .fz, trivial⟩ ⟨rfl, .box (.all rfl), rfl⟩)
    ·
      refine .gn rfl rfl rfl (nT hb10) ?_
      refine .gn rfl rfl rfl (nT hb10) ?_
      refine .gn rfl rfl rfl (nT hb10) ?_
      refine .gn rfl rfl rfl (nT hb10) ?_
      refine .gn rfl rfl rfl (nT hb10) ?_
      refine .gn rfl rfl rfl (nT hb10) ?_
      refine .gn rfl rfl rfl (nT hb10) ?_
      refine .gn rfl rfl rfl (nT hb10) ?_
      refine .gn rfl rfl rfl (nT hb10) ?_
      refine .gn rfl rfl rfl (nT hb10) ?_
      refine .gn rfl rfl rfl (nT hb10) ?_
      refine .gn rfl rfl rfl (nT hb10) ?_
      refine .p rfl (D.pickF rfl hb10 rfl) ?_
      obtain rfl := sj_ hh1
      exact .nil (M := [0, 1, 3, 7, 0, 16, 48, 112, 240, 511, 1023, 2047, 2047, 6143, 14335, 30719, 2047, 67583, 198655, 460799, 1046527, 2097151, 4194303, 8388607]) (by kernel_rfl) (Up.at [0] (fun _ h => h) hf ⟨.c (.pt rfl rfl rfl), .c .fz, .c .fz, .c .fz, trivial⟩ ⟨rfl, .box (.all rfl), rfl⟩)
  · rintro _ ⟨f, hf, rfl⟩
    rcases it hh0 with ⟨hb, hh0⟩ | ⟨hb, hh0⟩
    · refine EW.condT rfl rfl hb ?_
      refine EW.skip ?_
      refine EW.block ?_
      refine EW.region ?_
      refine .p rfl (D.mv rfl) ?_
      refine .p rfl (D.nck rfl rfl) ?_
      refine .p rfl (D.fld O45_1 rfl rfl rfl) ?_
      refine .p rfl (D.ld1 T3 rfl rfl rfl) ?_
      refine .p rfl (D.add rfl rfl) ?_
      refine .p rfl (D.nck rfl rfl) ?_
      refine .p rfl (D.fld O45_1 rfl rfl rfl) ?_
      refine .st rfl (D.st T3 rfl rfl rfl rfl rfl rfl) ?_
      refine .nil ?_
      exact EWL.less [0] (ih _ _ hh0 _ _ _ hx) hf ⟨.c (.pt rfl rfl rfl), .c .fz, .c .fz, trivial⟩ ⟨rfl, .box (.all rfl), rfl⟩
    · refine EW.condF rfl rfl hb ?_
      obtain rfl := sj_ hh0
      exact EW.exitA [0] (fun _ h => hx _ h) hf ⟨.c (.pt rfl rfl rfl), .c .fz, trivial⟩ ⟨rfl, .box (.all rfl), rfl⟩

theorem impl_jsonReader_upTo_ok {r : JsonReader} {ends : Str} {y : Str × JsonReader} (hh0 : impl_jsonReader_upTo r ends = some y) (g : Nat → Nat) : Fn Tryd.prog 31 (stoF g [(0, .box 45 [aS r.s, aI r.at_])]) [.pt 0 (g 0) 0, aS ends] (stoF g [(0, .box 45 [aS y.2.s, aI y.2.at_])]) (aS y.1) := by
  refine Fn.of0 (hs := [0]) (kl := [0]) (L := (fun f => [(4, aS y.1)])) (O := (fun f => [(0, .box 45 [aS y.2.s, aI y.2.at_])])) Tryd.func31 rfl Tryd.ntmps31 rfl (fun f hf => ⟨(.same rfl hf.1 (.box (.all rfl)) .nil), .one (Nat.le_of_ble_eq_true rfl) (.tmp rfl) (.c .fz)⟩) rfl rfl (fun C => ?_)
  have hf : agree g [0] g := agree_refl g _
  refine EW.seq ?_
  refine EW.region ?_
  refine .p rfl (D.as (x := aS []) rfl) ?_
  refine .nil ?_
  refine EW.seq ?_
  refine EW.region ?_
  refine .p rfl (D.mv rfl) ?_
  refine .p rfl (D.nck rfl rfl) ?_
  refine .p rfl (D.fld O45_1 rfl rfl rfl) ?_
  refine .p rfl (D.ld1 T3 rfl rfl rfl) ?_
  refine .p rfl (D.as (x := aI r.at_) rfl) ?_
  refine .nil ?_
  refine EW.seq ?_
  obtain ⟨o_1, hl, hh0⟩ := bs_ hh0
  refine EW.bj (At g [0] (fun f => [(0, .pt 0 (f 0) 0), (5, aI r.at_)]) (fun f => [(0, .box 45 [aS r.s, aI o_1])])) (EW.block (EW.loop (EWL.less [0] (impl_jsonReader_upTo_l0_ok _ _ _ _ hl g C _ (fun _ h => h)) hf ⟨.c (.pt rfl rfl rfl), .c .fz, .c .fz, trivial⟩ ⟨rfl, .box (.all rfl), rfl⟩))) ?_
  rintro _ ⟨f, hf, rfl⟩
  refine EW.seq ?_
  refine EW.drawU MX ?_
  refine .p rfl (D.mv rfl) ?_
  refine .p rfl (D.nck rfl rfl) ?_
  refine .p rfl (D.fld O45_0 rfl rfl rfl) ?_
  refine .p rfl (D.ld1 T9 rfl rfl rfl) ?_
  refine .p rfl (D.mv (x := aI r.at_) rfl) ?_
  refine .p rfl (D.mv rfl) ?_
  refine .p rfl (D.nck rfl rfl) ?_
  refine .p rfl (D.fld O45_1 rfl rfl rfl) ?_
  refine .p rfl (D.ld1 T3 rfl rfl rfl) ?_
  obtain ⟨s, h_s, hh0⟩ := bs_ hh0
  refine .p rfl (D.cutS S9 rfl (.inr ⟨_, _, rfl, rfl⟩) (.inr ⟨_, _, rfl, rfl⟩) h_s) ?_
  refine .p rfl (D.as (x := aS s) rfl) ?_
  refine .nil (M := [0, 1, 3, 7, 0, 0, 32, 96, 224, 511, 1023]) (by kernel_rfl) (Up.of ?_)
  obtain rfl := sj_ hh0
  exact EW.retA [0] (fun _ h => ⟨.inr rfl, h⟩) hf ⟨.c .fz, trivial⟩ ⟨rfl, .box (.all rfl), rfl⟩

theorem impl_jsonReader_text_ok {r : JsonReader} {y : Str × JsonReader} (hh0 : impl_jsonReader_text r = some y) (g : Nat → Nat) : Fn Tryd.prog 30 (stoF g [(0, .box 45 [aS r.s, aI r.at_])]) [.pt 0 (g 0) 0] (stoF g [(0, .box 45 [aS y.2.s, aI y.2.at_])]) (aS y.1) := by
  refine Fn.of0 (hs := [0]) (kl := [0]) (L := (fun f => [(2, aS y.1)])) (O := (fun f => [(0, .box 45 [aS y.2.s, aI y.2.at_])])) Tryd.func30 rfl Tryd.ntmps30 rfl (fun f hf => ⟨(.same rfl hf.1 (.box (.all rfl)) .nil), .one (Nat.le_of_ble_eq_true rfl) (.tmp rfl) (.c .fz)⟩) rfl rfl (fun C => ?_)
  have hf : agree g [0] g := agree_refl g _
  refine EW.seq ?_
  refine EW.region ?_
  refine .p rfl (D.as (x := aS []) rfl) ?_
  refine .nil ?_
  refine EW.seq ?_
  refine EW.region ?_
  refine .p rfl (D.mv rfl) ?_
  obtain ⟨r1, h_r1, hh0⟩ := bs_ hh0
  refine .c rfl (D.callG (eff := [(0, ⟨_, .box 45 [aS r1.2.s, aI r1.2.at_]⟩)]) (impl_jsonReader_upTo_ok h_r1 g) C31 rfl [(0, 0)] [] [0] (.cons (.c (.pt rfl rfl rfl rfl)) (.cons (.c .fz) .nil)) rfl rfl (.cons rfl (.box (.all rfl)) .nil) rfl rfl rfl (.same rfl rfl rfl (.box (.all rfl)) .nil) .nil (.v (.c .fz))) ?_
  refine .p rfl (D.as (x := aS r1.1) rfl) ?_
  refine .nil ?_
  refine EW.seq ?_
  refine EW.region ?_
  refine .p rfl (D.mv rfl) ?_
  obtain ⟨r2, h_r2, hh0⟩ := bs_ hh0
  refine .c rfl (D.callG (eff := [(0, ⟨_, .box 45 [aS r2.2.s, aI r2.2.at_]⟩)]) (impl_jsonReader_skip_ok h_r2 g) C29 rfl [(0, 0)] [] [0] (.cons (.c (.pt rfl rfl rfl rfl)) (.cons (.c .fz) .nil)) rfl rfl (.cons rfl (.box (.all rfl)) .nil) rfl rfl rfl (.same rfl rfl rfl (.box (.all rfl)) .nil) .nil (.v (.c .fz))) ?_
  refine .nil ?_
  refine EW.seq ?_
  refine EW.region ?_
  refine .p rfl (D.mv (x := aS r1.1) rfl) ?_
  refine .p rfl (D.as (x := aS r1.1) rfl) ?_
  refine .nil ?_
  obtain rfl := sj_ hh0
  exact EW.retA [0] (fun _ h => ⟨.inr rfl, h⟩) hf ⟨.c .fz, trivial⟩ ⟨rfl, .box (.all rfl), rfl⟩

theorem impl_jsonReader_value_all : (∀ (r : JsonReader) (deep : Int) (y : Json × JsonReader), impl_jsonReader_value r deep = some y → ∀ g : Nat → Nat, Fn Tryd.prog 16 (stoF g [(0, .box 45 [aS r.s, aI r.at_])]) [.pt 0 (g 0) 0, aI deep] (stoF g [(0, .box 45 [aS y.2.s, aI y.2.at_])]) (.ag [aI y.1.Kind, aB y.1.Flag, aS y.1.Text, aL 1 eS y.1.Names, aL 5 Json.c y.1.Kids]))
   ∧ (∀ (deep : Int) (s2 : Str) (at_2 : Int) (out3 : (List Str)) (out4 : (List Json)) (o : Str × Int × (List Str) × (List Json)), impl_jsonReader_value_l3 deep s2 at_2 out3 out4 = some o → ∀ (g : Nat → Nat) (C : Ctx Tryd.prog) (Q : Exit → St → Prop), (∀ σ', At g [0] (fun f => [(0, .pt 0 (f 0) 0), (4, .pt 1 (f 1) 0), (6, .pt 6 (f 6) 0)]) (fun f => [(0, .box 45 [aS o.1, aI o.2.1]), (1, .box 27 [aI 0, aB false, aS [], nilA, nilA]), (4, oR 9 1 eS o.2.2.1), (5, oR 27 5 Json.c o.2.2.2), (6, .box 27 [aI 6, aB false, aS [], .ow 4 (f 4), .ow 5 (f 5)])]) σ' → Q (.exit 3) σ') → ∀ σ, At g [0] (fun f => [(0, .pt 0 (f 0) 0), (1, aI deep), (4, .pt 1 (f 1) 0), (6, .pt 6 (f 6) 0)]) (fun f => [(0, .box 45 [aS s2, aI at_2]), (1, .box 27 [aI 0, aB false, aS [], nilA, nilA]), (4, oR 9 1 eS out3), (5, oR 27 5 Json.c out4), (6, .box 27 [aI 6, aB false, aS [], .ow 4 (f 4), .ow 5 (f 5)])]) σ → EWL C 97 (bAt Tryd.f16 [1, 1, 0, 0, 1, 1, 1, 1, 1, 1, 1, 1, 1, 1, 1, 0, 1, 1, 0, 0, 0]) σ Q)
   ∧ (∀ (deep : Int) (s : Str) (at_ : Int) (out : (List Json)) (o : Str × Int × (List Json)), impl_jsonReader_value_l1 deep s at_ out = some o → ∀ (g : Nat → Nat) (C : Ctx Tryd.prog) (Q : Exit → St → Prop), (∀ σ', At g [0] (fun f => [(0, .pt 0 (f 0) 0), (4, .pt 1 (f 1) 0), (5, .pt 3 (f 3) 0)]) (fun f => [(0, .box 45 [aS o.1, aI o.2.1]), (1, .box 27 [aI 0, aB false, aS [], nilA, nilA]), (2, oR 27 5 Json.c o.2.2), (3, .box 27 [aI 5, aB false, aS [], nilA, .ow 2 (f 2)])]) σ' → Q (.exit 1) σ') → ∀ σ, At g [0] (fun f => [(0, .pt 0 (f 0) 0), (1, aI deep), (4, .pt 1 (f 1) 0), (5, .pt 3 (f 3) 0)]) (fun f => [(0, .box 45 [aS s, aI at_]), (1, .box 27 [aI 0, aB false, aS [], nilA, nilA]), (2, oR 27 5 Json.c out), (3, .box 27 [aI 5, aB false, aS [], nilA, .ow 2 (f 2)])]) σ → EWL C 97 (bAt Tryd.f16 [1, 1, 0, 0, 1, 1, 1, 1, 1, 1, 1, 1, 1, 0, 1, 1, 0, 0, 0]) σ Q) := by
  refine impl_jsonReader_value.mpc (fun r deep y => ∀ g : Nat → Nat, Fn Tryd.prog 16 (stoF g [(0, .box 45 [aS r.s, aI r.at_])]) [.pt 0 (g 0) 0, aI deep] (stoF g [(0, .box 45 [aS y.2.s, aI y.2.at_])]) (.ag [aI y.1.Kind, aB y.1.Flag, aS y.1.Text, aL 1 eS y.1.Names, aL 5 Json.c y.1.Kids]))
    (fun deep s2 at_2 out3 out4 o => ∀ (g : Nat → Nat) (C : Ctx Tryd.prog) (Q : Exit → St → Prop), (∀ σ', At g [0] (fun f => [(0, .pt 0 (f 0) 0), (4, .pt 1 (f 1) 0), (6, .pt 6 (f 6) 0)]) (fun f => [(0, .box 45 [aS o.1, aI o.2.1]), (1, .box 27 [aI 0, aB false, aS [], nilA, nilA]), (4, oR 9 1 eS o.2.2.1), (5, oR 27 5 Json.c o.2.2.2), (6, .box 27 [aI 6, aB false, aS [], .ow 4 (f 4), .ow 5 (f 5)])]) σ' → Q (.exit 3) σ') → ∀ σ, At g [0] (fun f => [(0, .pt 0 (f 0) 0), (1, aI deep), (4, .pt 1 (f 1) 0), (6, .pt 6 (f 6) 0)]) (fun f => [(0, .box 45 [aS s2, aI at_2]), (1, .box 27 [aI 0, aB false, aS [], nilA, nilA]), (4, oR 9 1 eS out3), (5, oR 27 5 Json.c out4), (6, .box 27 [aI 6, aB false, aS [], .ow 4 (f 4), .ow 5 (f 5)])]) σ → EWL C 97 (bAt Tryd.f16 [1, 1, 0, 0, 1, 1, 1, 1, 1, 1, 1, 1, 1, 1, 1, 0, 1, 1, 0, 0, 0]) σ Q)
    (fun deep s at_ out o => ∀ (g : Nat → Nat) (C : Ctx Tryd.prog) (Q : Exit → St → Prop), (∀ σ', At g [0] (fun f => [(0, .pt 0 (f 0) 0), (4, .pt 1 (f 1) 0), (5, .pt 3 (f 3) 0)]) (fun f => [(0, .box 45 [aS o.1, aI o.2.1]), (1, .box 27 [aI 0, aB false, aS [], nilA, nilA]), (2, oR 27 5 Json.c o.2.2), (3, .box 27 [aI 5, aB false, aS [], nilA, .ow 2 (f 2)])]) σ' → Q (.exit 1) σ') → ∀ σ, At g [0] (fun f => [(0, .pt 0 (f 0) 0), (1, aI deep), (4, .pt 1 (f 1) 0), (5, .pt 3 (f 3) 0)]) (fun f => [(0, .box 45 [aS s, aI at_]), (1, .box 27 [aI 0, aB false, aS [], nilA, nilA]), (2, oR 27 5 Json.c out), (3, .box 27 [aI 5, aB false, aS [], nilA, .ow 2 (f 2)])]) σ → EWL C 97 (bAt Tryd.f16 [1, 1, 0, 0, 1, 1, 1, 1, 1, 1, 1, 1, 1, 0, 1, 1, 0, 0, 0]) σ Q) ?_ ?_ ?_
  · intro sf_impl_jsonReader_value_l3 sf_impl_jsonReader_value_l1 ih_impl_jsonReader_value_l3 ih_impl_jsonReader_value_l1 r deep y hh0
    intro g
    refine Fn.of0 (hs := [0]) (kl := [0]) (L := (fun f => [(4, .pt 1 (f 1) 0)])) (O := (fun f => [(0, .box 45 [aS y.2.s, aI y.2.at_]), (1, .box 27 [aI y.1.Kind, aB y.1.Flag, aS y.1.Text, aL 1 eS y.1.Names, aL 5 Json.c y.1.Kids])])) Tryd.func16 rfl Tryd.ntmps16 rfl (fun f hf => ⟨(.same rfl hf.1 (.box (.all rfl)) .nil), .one (Nat.le_of_ble_eq_true rfl) (.cellN rfl rfl T27 (Nat.le_of_ble_eq_true rfl)) (.ag (.all rfl))⟩) rfl rfl (fun C => ?_)
    have hf : agree g [0] g := agree_refl g _
    refine EW.seq ?_
    refine EW.region ?_
    refine .w rfl (D.alloc 1 rfl ZF27 rfl rfl) ?_
    refine .nil ?_
    refine EW.seq ?_
    refine EW.seq ?_
    refine EW.region ?_
    refine .p rfl (D.mv (x := aI deep) rfl) ?_
    refine .p rfl (D.gt rfl rfl) ?_
    refine .nil ?_
    rcases it hh0 with ⟨hb, hh0⟩ | ⟨hb, hh0⟩
    · refine EW.condT rfl rfl hb ?_
      refine EW.seq ?_
      refine EW.region ?_
      refine .p rfl (D.build FS27 ZF27 rfl .nil rfl) ?_
      refine .st rfl (D.st T27 rfl rfl rfl rfl rfl rfl) ?_
      refine .nil ?_
      obtain rfl := sj_ hh0
      exact EW.retA [0, 1] (fun _ h => ⟨.inr rfl, h⟩) hf ⟨.c (.pt rfl rfl rfl), trivial⟩ ⟨rfl, .box (.all rfl), rfl, .box (.cons .fz (.cons .fz (.cons .fz (.cons .nil (.cons .nil .nil))))), rfl⟩
    · refine EW.condF rfl rfl hb ?_
      refine EW.skip ?_
      refine EW.seq ?_
      refine EW.block ?_
      refine EW.seq ?_
      refine EW.region ?_
      refine .p rfl (D.mv rfl) ?_
      obtain ⟨r1, h_r1, hh0⟩ := bs_ hh0
      refine .c rfl (D.callG (eff := [(0, ⟨_, .box 45 [aS r1.2.s, aI r1.2.at_]⟩)]) (impl_jsonReader_skip_ok h_r1 g) C29 rfl [(0, 0)] [] [0] (.cons (.c (.pt rfl rfl rfl rfl)) (.cons (.c .fz) .nil)) rfl rfl (.cons rfl (.box (.all rfl)) .nil) rfl rfl rfl (.same rfl rfl rfl (.box (.all rfl)) .nil) .nil (.v (.c .fz))) ?_
      refine .p rfl (D.as (x := aB r1.1) rfl) ?_
      refine .nil ?_
      rcases it hh0 with ⟨hb, hh0⟩ | ⟨hb, hh0⟩
      · refine EW.condT rfl rfl hb ?_
        refine EW.seq ?_
        refine EW.region ?_
        refine .p rfl (D.build FS27 ZF27 rfl (.cons rfl .nil) rfl) ?_
        refine .st rfl (D.st T27 rfl rfl rfl rfl rfl rfl) ?_
        refine .nil ?_
        obtain rfl := sj_ hh0
        exact EW.retA [0, 1] (fun _ h => ⟨.inr rfl, h⟩) hf ⟨.c (.pt rfl rfl rfl), trivial⟩ ⟨rfl, .box (.all rfl), rfl, .box (.cons .fz (.cons .fz (.cons .fz (.cons .nil (.cons .nil .nil))))), rfl⟩
      · refine EW.condF rfl rfl hb ?_
        refine EW.seq ?_
        refine EW.region ?_
        refine .p rfl (D.mv rfl) ?_
        obtain ⟨r2, h_r2, hh0⟩ := bs_ hh0
        refine .c rfl (D.callG (eff := [(0, ⟨_, .box 45 [aS r2.2.s, aI r2.2.at_]⟩)]) (impl_jsonReader_skip_ok h_r2 g) C29 rfl [(0, 0)] [] [0] (.cons (.c (.pt rfl rfl rfl rfl)) (.cons (.c .fz) .nil)) rfl rfl (.cons rfl (.box (.all rfl)) .nil) rfl rfl rfl (.same rfl rfl rfl (.box (.all rfl)) .nil) .nil (.v (.c .fz))) ?_
        refine .p rfl (D.as (x := aB r2.1) rfl) ?_
        refine .nil ?_
        rcases it hh0 with ⟨hb, hh0⟩ | ⟨hb, hh0⟩
        · refine EW.condT rfl rfl hb ?_
          refine EW.seq ?_
          refine EW.region ?_
          refine .p rfl (D.build FS27 ZF27 rfl (.cons rfl (.cons rfl .nil)) rfl) ?_
          refine .st rfl (D.st T27 rfl rfl rfl rfl rfl rfl) ?_
          refine .nil ?_
          obtain rfl := sj_ hh0
          exact EW.retA [0, 1] (fun _ h => ⟨.inr rfl, h⟩) hf ⟨.c (.pt rfl rfl rfl), trivial⟩ ⟨rfl, .box (.all rfl), rfl, .box (.cons .fz (.cons .fz (.cons .fz (.cons .nil (.cons .nil .nil))))), rfl⟩
        · refine EW.condF rfl rfl hb ?_
          refine EW.seq ?_
          refine EW.region ?_
          refine .p rfl (D.mv rfl) ?_
          obtain ⟨r3, h_r3, hh0⟩ := bs_ hh0
          refine .c rfl (D.callG (eff := [(0, ⟨_, .box 45 [aS r3.2.s, aI r3.2.at_]⟩)]) (impl_jsonReader_skip_ok h_r3 g) C29 rfl [(0, 0)] [] [0] (.cons (.c (.pt rfl rfl rfl rfl)) (.cons (.c .fz) .nil)) rfl rfl (.cons rfl (.box (.all rfl)) .nil) rfl rfl rfl (.same rfl rfl rfl (.box (.all rfl)) .nil) .nil (.v (.c .fz))) ?_
          refine .p rfl (D.as (x := aB r3.1) rfl) ?_
          refine .nil ?_
          rcases it hh0 with ⟨hb, hh0⟩ | ⟨hb, hh0⟩
          · refine EW.condT rfl rfl hb ?_
            refine EW.seq ?_
            refine EW.region ?_
            refine .p rfl (D.build FS27 ZF27 rfl (.cons rfl .nil) rfl) ?_
            refine .st rfl (D.st T27 rfl rfl rfl rfl rfl rfl) ?_
            refine .nil ?_
            obtain rfl := sj_ hh0
            exact EW.retA [0, 1] (fun _ h => ⟨.inr rfl, h⟩) hf ⟨.c (.pt rfl rfl rfl), trivial⟩ ⟨rfl, .box (.all rfl), rfl, .box (.cons .fz (.cons .fz (.cons .fz (.cons .nil (.cons .nil .nil))))), rfl⟩
          · refine EW.condF rfl rfl hb ?_
            refine EW.seq ?_
            refine EW.region ?_
            refine .p rfl (D.mv rfl) ?_
            obtain ⟨r4, h_r4, hh0⟩ := bs_ hh0
            refine .c rfl (D.callG (eff := [(0, ⟨_, .box 45 [aS r4.2.s, aI r4.2.at_]⟩)]) (impl_jsonReader_skip_ok h_r4 g) C29 rfl [(0, 0)] [] [0] (.cons (.c (.pt rfl rfl rfl rfl)) (.cons (.c .fz) .nil)) rfl rfl (.cons rfl (.box (.all rfl)) .nil) rfl rfl rfl (.same rfl rfl rfl (.box (.all rfl)) .nil) .nil (.v (.c .fz))) ?_
            refine .p rfl (D.as (x := aB r4.1) rfl) ?_
            refine .nil ?_
            rcases it hh0 with ⟨hb, hh0⟩ | ⟨hb, hh0⟩
            · refine EW.condT rfl rfl hb ?_
              refine EW.seq ?_
              refine EW.region ?_
              refine .p rfl (D.mv rfl) ?_
              obtain ⟨r5, h_r5, hh0⟩ := bs_ hh0
              refine .c rfl (D.callG (eff := [(0, ⟨_, .box 45 [aS r5.2.s, aI r5.2.at_]⟩)]) (impl_jsonReader_text_ok h_r5 g) C30 rfl [(0, 0)] [] [0] (.cons (.c (.pt rfl rfl rfl rfl)) .nil) rfl rfl (.cons rfl (.box (.all rfl)) .nil) rfl rfl rfl (.same rfl rfl rfl (.box (.all rfl)) .nil) .nil (.v (.c .fz))) ?_
              refine .p rfl (D.build FS27 ZF27 rfl (.cons rfl (.cons rfl .nil)) rfl) ?_
              refine .st rfl (D.st T27 rfl rfl rfl rfl rfl rfl) ?_
              refine .nil ?_
              obtain rfl := sj_ hh0
              exact EW.retA [0, 1] (fun _ h => ⟨.inr rfl, h⟩) hf ⟨.c (.pt rfl rfl rfl), trivial⟩ ⟨rfl, .box (.all rfl), rfl, .box (.cons .fz (.cons .fz (.cons .fz (.cons .nil (.cons .nil .nil))))), rfl⟩
            · refine EW.condF rfl rfl hb ?_
              refine EW.seq ?_
              refine EW.region ?_
              refine .p rfl (D.mv rfl) ?_
              obtain ⟨r6, h_r6, hh0⟩ := bs_ hh0
              refine .c rfl (D.callG (eff := [(0, ⟨_, .box 45 [aS r6.2.s, aI r6.2.at_]⟩)]) (impl_jsonReader_skip_ok h_r6 g) C29 rfl [(0, 0)] [] [0] (.cons (.c (.pt rfl rfl rfl rfl)) (.cons (.c .fz) .nil)) rfl rfl (.cons rfl (.box (.all rfl)) .nil) rfl rfl rfl (.same rfl rfl rfl (.box (.all rfl)) .nil) .nil (.v (.c .fz))) ?_
              refine .p rfl (D.as (x := aB r6.1) rfl) ?_
              refine .nil ?_
              rcases it hh0 with ⟨hb, hh0⟩ | ⟨hb, hh0⟩
              · refine EW.condT rfl rfl hb ?_
                refine EW.seq ?_
                refine EW.region ?_
                refine .w rfl (D.litO 2 rfl (l := ([] : List Json)) (enc := Json.c) Tryd.underlying25 ZB27 rfl rfl rfl (Json.c_len) .nil) ?_
                refine .p rfl (D.build FS27 ZF27 rfl (.cons rfl (.cons rfl .nil)) rfl) ?_
                refine .w rfl (D.alloc 3 rfl ZF27 rfl rfl) ?_
                refine .st rfl (D.st T27 rfl rfl rfl rfl rfl rfl) ?_
                refine .nil ?_
                refine EW.seq ?_
                refine EW.seq ?_
                refine EW.region ?_
                refine .p rfl (D.mv rfl) ?_
                obtain ⟨r7, h_r7, hh0⟩ := bs_ hh0
                refine .c rfl (D.callG (eff := [(0, ⟨_, .box 45 [aS r7.2.s, aI r7.2.at_]⟩)]) (impl_jsonReader_skip_ok h_r7 g) C29 rfl [(0, 0)] [] [0] (.cons (.c (.pt rfl rfl rfl rfl)) (.cons (.c .fz) .nil)) rfl rfl (.cons rfl (.box (.all rfl)) .nil) rfl rfl rfl (.same rfl rfl rfl (.box (.all rfl)) .nil) .nil (.v (.c .fz))) ?_
                refine .nil ?_
                rcases it hh0 with ⟨hb, hh0⟩ | ⟨hb, hh0⟩
                · refine EW.condT rfl rfl hb ?_
                  refine EW.seq ?_
                  refine EW.region ?_
                  refine .p rfl (D.ldN T27 rfl rfl rfl rfl) ?_
                  refine .st rfl (D.st T27 rfl rfl rfl rfl rfl rfl) ?_
                  refine .nil ?_
                  obtain rfl := sj_ hh0
                  exact EW.retA [0, 1] (fun _ h => ⟨.inr rfl, h⟩) hf ⟨.c (.pt rfl rfl rfl), trivial⟩ ⟨rfl, .box (.all rfl), rfl, .box (.cons .fz (.cons .fz (.cons .fz (.cons .nil (.cons (.row rfl rfl) .nil))))), rfl⟩
                · refine EW.condF rfl rfl hb ?_
                  refine EW.skip ?_
                  refine EW.seq ?_
                  obtain ⟨o_, hl, hh0⟩ := bs_ hh0
                  refine EW.bj (At g [0] (fun f => [(0, .pt 0 (f 0) 0), (4, .pt 1 (f 1) 0), (5, .pt 3 (f 3) 0)]) (fun f => [(0, .box 45 [aS o_.1, aI o_.2.1]), (1, .box 27 [aI 0, aB false, aS [], nilA, nilA]), (2, oR 27 5 Json.c o_.2.2), (3, .box 27 [aI 5, aB false, aS [], nilA, .ow 2 (f 2)])])) (EW.block (EW.loop (EWL.less [0, 1, 2, 3] (ih_impl_jsonReader_value_l1 _ _ _ _ _ hl g C _ (fun _ h => h)) hf ⟨.c (.pt rfl rfl rfl), .c .fz, .c (.pt rfl rfl rfl), .c (.pt rfl rfl rfl), trivial⟩ ⟨rfl, .box (.all rfl), rfl, .box (.all rfl), rfl, .row, rfl, .box (.cons .fz (.cons .fz (.cons .fz (.cons .fz (.cons (.ow rfl rfl rfl) .nil))))), rfl⟩))) ?_
                  rintro _ ⟨f, hf, rfl⟩
                  refine EW.seq ?_
                  refine EW.region ?_
                  refine .p rfl (D.mv rfl) ?_
                  obtain ⟨r10, h_r10, hh0⟩ := bs_ hh0
                  refine .c rfl (D.callG (eff := [(0, ⟨_, .box 45 [aS r10.2.s, aI r10.2.at_]⟩)]) (impl_jsonReader_skip_ok h_r10 g) C29 rfl [(0, 0)] [] [0] (.cons (.c (.pt rfl rfl rfl rfl)) (.cons (.c .fz) .nil)) rfl rfl (.cons rfl (.box (.all rfl)) .nil) rfl rfl rfl (.same rfl rfl rfl (.box (.all rfl)) .nil) .nil (.v (.c .fz))) ?_
                  refine .nil ?_
                  refine EW.seq ?_
                  refine EW.region ?_
                  refine .p rfl (D.ldN T27 rfl rfl rfl rfl) ?_
                  refine .st rfl (D.st T27 rfl rfl rfl rfl rfl rfl) ?_
                  refine .nil ?_
                  obtain rfl := sj_ hh0
                  exact EW.retA [0, 1] (fun _ h => ⟨.inr rfl, h⟩) hf ⟨.c (.pt rfl rfl rfl), trivial⟩ ⟨rfl, .box (.all rfl), rfl, .box (.cons .fz (.cons .fz (.cons .fz (.cons .nil (.cons (.row rfl rfl) .nil))))), rfl⟩
              · refine EW.condF rfl rfl hb ?_
                refine EW.seq ?_
                refine EW.region ?_
                refine .p rfl (D.mv rfl) ?_
                obtain ⟨r11, h_r11, hh0⟩ := bs_ hh0
                refine .c rfl (D.callG (eff := [(0, ⟨_, .box 45 [aS r11.2.s, aI r11.2.at_]⟩)]) (impl_jsonReader_skip_ok h_r11 g) C29 rfl [(0, 0)] [] [0] (.cons (.c (.pt rfl rfl rfl rfl)) (.cons (.c .fz) .nil)) rfl rfl (.cons rfl (.box (.all rfl)) .nil) rfl rfl rfl (.same rfl rfl rfl (.box (.all rfl)) .nil) .nil (.v (.c .fz))) ?_
                refine .p rfl (D.as (x := aB r11.1) rfl) ?_
                refine .nil ?_
                rcases it hh0 with ⟨hb, hh0⟩ | ⟨hb, hh0⟩
                · refine EW.condT rfl rfl hb ?_
                  refine EW.seq ?_
                  refine EW.region ?_
                  refine .w rfl (D.litO 4 rfl (l := ([] : List Str)) (enc := eS) Tryd.underlying24 ZB9 rfl rfl rfl (fun _ => rfl) .nil) ?_
                  refine .w rfl (D.litO 5 rfl (l := ([] : List Json)) (enc := Json.c) Tryd.underlying25 ZB27 rfl rfl rfl (Json.c_len) .nil) ?_
                  refine .p rfl (D.build FS27 ZF27 rfl (.cons rfl (.cons rfl (.cons rfl .nil))) rfl) ?_
                  refine .w rfl (D.alloc 6 rfl ZF27 rfl rfl) ?_
                  refine .st rfl (D.st T27 rfl rfl rfl rfl rfl rfl) ?_
                  refine .nil ?_
                  refine EW.seq ?_
                  refine EW.seq ?_
                  refine EW.region ?_
                  refine .p rfl (D.mv rfl) ?_
                  obtain ⟨r12, h_r12, hh0⟩ := bs_ hh0
                  refine .c rfl (D.callG (eff := [(0, ⟨_, .box 45 [aS r12.2.s, aI r12.2.at_]⟩)]) (impl_jsonReader_skip_ok h_r12 g) C29 rfl [(0, 0)] [] [0] (.cons (.c (.pt rfl rfl rfl rfl)) (.cons (.c .fz) .nil)) rfl rfl (.cons rfl (.box (.all rfl)) .nil) rfl rfl rfl (.same rfl rfl rfl (.box (.all rfl)) .nil) .nil (.v (.c .fz))) ?_
                  refine .nil ?_
                  rcases it hh0 with ⟨hb, hh0⟩ | ⟨hb, hh0⟩
                  · refine EW.condT rfl rfl hb ?_
                    refine EW.seq ?_
                    refine EW.region ?_
                    refine .p rfl (D.ldN T27 rfl rfl rfl rfl) ?_
                    refine .st rfl (D.st T27 rfl rfl rfl rfl rfl rfl) ?_
                    refine .nil ?_
                    obtain rfl := sj_ hh0
                    exact EW.retA [0, 1] (fun _ h => ⟨.inr rfl, h⟩) hf ⟨.c (.pt rfl rfl rfl), trivial⟩ ⟨rfl, .box (.all rfl), rfl, .box (.cons .fz (.cons .fz (.cons .fz (.cons (.row rfl rfl) (.cons (.row rfl rfl) .nil))))), rfl⟩
                  · refine EW.condF rfl rfl hb ?_
                    refine EW.skip ?_
                    refine EW.seq ?_
                    obtain ⟨o_1, hl, hh0⟩ := bs_ hh0
                    refine EW.bj (At g [0] (fun f => [(0, .pt 0 (f 0) 0), (4, .pt 1 (f 1) 0), (6, .pt 6 (f 6) 0)]) (fun f => [(0, .box 45 [aS o_1.1, aI o_1.2.1]), (1, .box 27 [aI 0, aB false, aS [], nilA, nilA]), (4, oR 9 1 eS o_1.2.2.1), (5, oR 27 5 Json.c o_1.2.2.2), (6, .box 27 [aI 6, aB false, aS [], .ow 4 (f 4), .ow 5 (f 5)])])) (EW.block (EW.loop (EWL.less [0, 1, 4, 5, 6] (ih_impl_jsonReader_value_l3 _ _ _ _ _ _ hl g C _ (fun _ h => h)) hf ⟨.c (.pt rfl rfl rfl), .c .fz, .c (.pt rfl rfl rfl), .c (.pt rfl rfl rfl), trivial⟩ ⟨rfl, .box (.all rfl), rfl, .box (.all rfl), rfl, .row, rfl, .row, rfl, .box (.cons .fz (.cons .fz (.cons .fz (.cons (.ow rfl rfl rfl) (.cons (.ow rfl rfl rfl) .nil))))), rfl⟩))) ?_
                    rintro _ ⟨f, hf, rfl⟩
                    refine EW.seq ?_
                    refine EW.region ?_
                    refine .p rfl (D.mv rfl) ?_
                    obtain ⟨r18, h_r18, hh0⟩ := bs_ hh0
                    refine .c rfl (D.callG (eff := [(0, ⟨_, .box 45 [aS r18.2.s, aI r18.2.at_]⟩)]) (impl_jsonReader_skip_ok h_r18 g) C29 rfl [(0, 0)] [] [0] (.cons (.c (.pt rfl rfl rfl rfl)) (.cons (.c .fz) .nil)) rfl rfl (.cons rfl (.box (.all rfl)) .nil) rfl rfl rfl (.same rfl rfl rfl (.box (.all rfl)) .nil) .nil (.v (.c .fz))) ?_
                    refine .nil ?_
                    refine EW.seq ?_
                    refine EW.region ?_
                    refine .p rfl (D.ldN T27 rfl rfl rfl rfl) ?_
                    refine .st rfl (D.st T27 rfl rfl rfl rfl rfl rfl) ?_
                    refine .nil ?_
                    obtain rfl := sj_ hh0
                    exact EW.retA [0, 1] (fun _ h => ⟨.inr rfl, h⟩) hf ⟨.c (.pt rfl rfl rfl), trivial⟩ ⟨rfl, .box (.all rfl), rfl, .box (.cons .fz (.cons .fz (.cons .fz (.cons (.row rfl rfl) (.cons (.row rfl rfl) .nil))))), rfl⟩
                · refine EW.condF rfl rfl hb ?_
                  refine EW.skip ?_
                  refine EW.seq ?_
                  refine EW.region ?_
                  refine .p rfl (D.mv rfl) ?_
                  obtain ⟨r19, h_r19, hh0⟩ := bs_ hh0
                  refine .c rfl (D.callG (eff := [(0, ⟨_, .box 45 [aS r19.2.s, aI r19.2.at_]⟩)]) (impl_jsonReader_upTo_ok h_r19 g) C31 rfl [(0, 0)] [] [0] (.cons (.c (.pt rfl rfl rfl rfl)) (.cons (.c .fz) .nil)) rfl rfl (.cons rfl (.box (.all rfl)) .nil) rfl rfl rfl (.same rfl rfl rfl (.box (.all rfl)) .nil) .nil (.v (.c .fz))) ?_
                  refine .p rfl (D.build FS27 ZF27 rfl (.cons rfl (.cons rfl .nil)) rfl) ?_
                  refine .st rfl (D.st T27 rfl rfl rfl rfl rfl rfl) ?_
                  refine .nil ?_
                  obtain rfl := sj_ hh0
                  exact EW.retA [0, 1] (fun _ h => ⟨.inr rfl, h⟩) hf ⟨.c (.pt rfl rfl rfl), trivial⟩ ⟨rfl, .box (.all rfl), rfl, .box (.cons .fz (.cons .fz (.cons .fz (.cons .nil (.cons .nil .nil))))), rfl⟩
  · intro sf_impl_jsonReader_value sf_impl_jsonReader_value_l3 ih_impl_jsonReader_value ih_impl_jsonReader_value_l3 deep s2 at_2 out3 out4 o hh0
    intro g C Q hx σ hσ
    obtain ⟨f, hf, rfl⟩ := hσ
    refine EWL.round ?_
    refine EW.seq ?_
    refine EW.seq ?_
    refine EW.region ?_
    refine .p rfl (D.fld O27_4 rfl rfl rfl) ?_
    refine .p rfl (D.ld1 T25 rfl rfl rfl) ?_
    refine .p rfl (D.lenO E25 rfl rfl) ?_
    refine .p rfl (D.le rfl rfl) ?_
    refine .nil ?_
    rcases it hh0 with ⟨hb, hh0⟩ | ⟨hb, hh0⟩
    · refine EW.condT rfl rfl hb ?_
      refine EW.skip ?_
      refine EW.block ?_
      refine EW.seq ?_
      refine EW.region ?_
      refine .p rfl (D.mv rfl) ?_
      obtain ⟨r13, h_r13, hh0⟩ := bs_ hh0
      refine .c rfl (D.callG (eff := [(0, ⟨_, .box 45 [aS r13.2.s, aI r13.2.at_]⟩)]) (impl_jsonReader_skip_ok h_r13 g) C29 rfl [(0, 0)] [] [0] (.cons (.c (.pt rfl rfl rfl rfl)) (.cons (.c .fz) .nil)) rfl rfl (.cons rfl (.box (.all rfl)) .nil) rfl rfl rfl (.same rfl rfl rfl (.box (.all rfl)) .nil) .nil (.v (.c .fz))) ?_
      refine .nil ?_
      refine EW.seq ?_
      refine EW.drawU MX ?_
      refine .p rfl (D.fld O27_3 rfl rfl rfl) ?_
      refine .p rfl (D.ld1 T24 rfl rfl rfl) ?_
      refine .p rfl (D.mv rfl) ?_
      obtain ⟨r14, h_r14, hh0⟩ := bs_ hh0
      refine .c rfl (D.callG (eff := [(0, ⟨_, .box 45 [aS r14.2.s, aI r14.2.at_]⟩)]) (impl_jsonReader_text_ok h_r14 g) C30 rfl [(0, 0)] [] [0] (.cons (.c (.pt rfl rfl rfl rfl)) .nil) rfl rfl (.cons rfl (.box (.all rfl)) .nil) rfl rfl rfl (.same rfl rfl rfl (.box (.all rfl)) .nil) .nil (.v (.c .fz))) ?_
      refine .p rfl (D.litZ (l := ([r14.1] : List Str)) (enc := eS) Tryd.underlying24 ZB9 rfl rfl rfl (fun _ => rfl) (.cons (.one .fz) .nil)) ?_
      obtain ⟨out7, h_out7, hh0⟩ := bs_ hh0
      refine .w rfl (D.app (enc := eS) (ks := []) Tryd.underlying24 Z9 rfl rfl (.fz) h_out7) ?_
      refine .p rfl (D.fld O27_3 rfl rfl rfl) ?_
      refine .st rfl (D.st T24 rfl rfl rfl rfl rfl rfl) ?_
      refine .nil (M := [0, 1, 0, 4, 12, 31, 63, 127]) (by kernel_rfl) (Up.of ?_)
      refine EW.seq ?_
      refine EW.region ?_
      refine .p rfl (D.mv rfl) ?_
      obtain ⟨r15, h_r15, hh0⟩ := bs_ hh0
      refine .c rfl (D.callG (eff := [(0, ⟨_, .box 45 [aS r15.2.s, aI r15.2.at_]⟩)]) (impl_jsonReader_skip_ok h_r15 g) C29 rfl [(0, 0)] [] [0] (.cons (.c (.pt rfl rfl rfl rfl)) (.cons (.c .fz) .nil)) rfl rfl (.cons rfl (.box (.all rfl)) .nil) rfl rfl rfl (.same rfl rfl rfl (.box (.all rfl)) .nil) .nil (.v (.c .fz))) ?_
      refine .nil ?_
      refine EW.seq ?_
      refine EW.drawU MX ?_
      refine .p rfl (D.fld O27_4 rfl rfl rfl) ?_
      refine .p rfl (D.ld1 T25 rfl rfl rfl) ?_
      refine .p rfl (D.mv rfl) ?_
      refine .p rfl (D.mv (x := aI deep) rfl) ?_
      refine .p rfl (D.add rfl rfl) ?_
      obtain ⟨r16, h_r16, hh0⟩ := bs_ hh0
      refine .c rfl (D.callG (eff := [(0, ⟨_, .box 45 [aS r16.2.s, aI r16.2.at_]⟩)]) (ih_impl_jsonReader_value _ _ _ h_r16 g) C16 rfl [(0, 0)] [] [0] (.cons (.c (.pt rfl rfl rfl rfl)) (.cons (.c .fz) .nil)) rfl rfl (.cons rfl (.box (.all rfl)) .nil) rfl rfl rfl (.same rfl rfl rfl (.box (.all rfl)) .nil) .nil (.v (.ag (.all rfl)))) ?_
      refine .p rfl (D.litZ (l := ([r16.1] : List Json)) (enc := Json.c) Tryd.underlying25 ZB27 rfl rfl rfl (Json.c_len) (.cons (.agE (Json.c_eq _) (.ofE rfl)) .nil)) ?_
      obtain ⟨out8, h_out8, hh0⟩ := bs_ hh0
      refine .w rfl (D.app (enc := Json.c) (ks := []) Tryd.underlying25 Z27 rfl rfl (.fz) h_out8) ?_
      refine .p rfl (D.fld O27_4 rfl rfl rfl) ?_
      refine .st rfl (D.st T25 rfl rfl rfl rfl rfl rfl) ?_
      refine .nil (M := [0, 1, 0, 0, 8, 28, 60, 127, 255, 511]) (by kernel_rfl) (Up.of ?_)
      refine EW.seq ?_
      refine EW.region ?_
      refine .p rfl (D.mv rfl) ?_
      obtain ⟨r17, h_r17, hh0⟩ := bs_ hh0
      refine .c rfl (D.callG (eff := [(0, ⟨_, .box 45 [aS r17.2.s, aI r17.2.at_]⟩)]) (impl_jsonReader_skip_ok h_r17 g) C29 rfl [(0, 0)] [] [0] (.cons (.c (.pt rfl rfl rfl rfl)) (.cons (.c .fz) .nil)) rfl rfl (.cons rfl (.box (.all rfl)) .nil) rfl rfl rfl (.same rfl rfl rfl (.box (.all rfl)) .nil) .nil (.v (.c .fz))) ?_
      refine .p rfl (D.not rfl) ?_
      refine .nil ?_
      rcases it hh0 with ⟨hb, hh0⟩ | ⟨hb, hh0⟩
      · refine EW.condT rfl rfl hb ?_
        obtain rfl := sj_ hh0
        exact EW.exitA [0, 1, 4, 5, 6] (fun _ h => hx _ h) hf ⟨.c (.pt rfl rfl rfl), .c (.pt rfl rfl rfl), .c (.pt rfl rfl rfl), trivial⟩ ⟨rfl, .box (.all rfl), rfl, .box (.all rfl), rfl, .row, rfl, .row, rfl, .box (.cons .fz (.cons .fz (.cons .fz (.cons (.ow rfl rfl rfl) (.cons (.ow rfl rfl rfl) .nil))))), rfl⟩
      · refine EW.condF rfl rfl hb ?_
        refine EW.skip ?_
        exact EWL.less [0, 1, 4, 5, 6] (ih_impl_jsonReader_value_l3 _ _ _ _ _ _ hh0 _ _ _ hx) hf ⟨.c (.pt rfl rfl rfl), .c .fz, .c (.pt rfl rfl rfl), .c (.pt rfl rfl rfl), trivial⟩ ⟨rfl, .box (.all rfl), rfl, .box (.all rfl), rfl, .row, rfl, .row, rfl, .box (.cons .fz (.cons .fz (.cons .fz (.cons (.ow rfl rfl rfl) (.cons (.ow rfl rfl rfl) .nil))))), rfl⟩
    · refine EW.condF rfl rfl hb ?_
      obtain rfl := sj_ hh0
      exact EW.exitA [0, 1, 4, 5, 6] (fun _ h => hx _ h) hf ⟨.c (.pt rfl rfl rfl), .c (.pt rfl rfl rfl), .c (.pt rfl rfl rfl), trivial⟩ ⟨rfl, .box (.all rfl), rfl, .box (.all rfl), rfl, .row, rfl, .row, rfl, .box (.cons .fz (.cons .fz (.cons .fz (.cons (.ow rfl rfl rfl) (.cons (.ow rfl rfl rfl) .nil))))), rfl⟩
  · intro sf_impl_jsonReader_value sf_impl_jsonReader_value_l1 ih_impl_jsonReader_value ih_impl_jsonReader_value_l1 deep s at_ out o hh0
    intro g C Q hx σ hσ
    obtain ⟨f, hf, rfl⟩ := hσ
    refine EWL.round ?_
    refine EW.seq ?_
    refine EW.seq ?_
    refine EW.region ?_
    refine .p rfl (D.fld O27_4 rfl rfl rfl) ?_
    refine .p rfl (D.ld1 T25 rfl rfl rfl) ?_
    refine .p rfl (D.lenO E25 rfl rfl) ?_
    refine .p rfl (D.le rfl rfl) ?_
    refine .nil ?_
    rcases it hh0 with ⟨hb, hh0⟩ | ⟨hb, hh0⟩
    · refine EW.condT rfl rfl hb ?_
      refine EW.skip ?_
      refine EW.block ?_
      refine EW.seq ?_
      refine EW.drawU MX ?_
      refine .p rfl (D.fld O27_4 rfl rfl rfl) ?_
      refine .p rfl (D.ld1 T25 rfl rfl rfl) ?_
      refine .p rfl (D.mv rfl) ?_
      refine .p rfl (D.mv (x := aI deep) rfl) ?_
      refine .p rfl (D.add rfl rfl) ?_
      obtain ⟨r8, h_r8, hh0⟩ := bs_ hh0
      refine .c rfl (D.callG (eff := [(0, ⟨_, .box 45 [aS r8.2.s, aI r8.2.at_]⟩)]) (ih_impl_jsonReader_value _ _ _ h_r8 g) C16 rfl [(0, 0)] [] [0] (.cons (.c (.pt rfl rfl rfl rfl)) (.cons (.c .fz) .nil)) rfl rfl (.cons rfl (.box (.all rfl)) .nil) rfl rfl rfl (.same rfl rfl rfl (.box (.all rfl)) .nil) .nil (.v (.ag (.all rfl)))) ?_
      refine .p rfl (D.litZ (l := ([r8.1] : List Json)) (enc := Json.c) Tryd.underlying25 ZB27 rfl rfl rfl (Json.c_len) (.cons (.agE (Json.c_eq _) (.ofE rfl)) .nil)) ?_
      obtain ⟨out2, h_out2, hh0⟩ := bs_ hh0
      refine .w rfl (D.app (enc := Json.c) (ks := []) Tryd.underlying25 Z27 rfl rfl (.fz) h_out2) ?_
      refine .p rfl (D.fld O27_4 rfl rfl rfl) ?_
      refine .st rfl (D.st T25 rfl rfl rfl rfl rfl rfl) ?_
      refine .nil (M := [0, 1, 0, 0, 8, 28, 60, 127, 255, 511]) (by kernel_rfl) (Up.of ?_)
      refine EW.seq ?_
      refine EW.region ?_
      refine .p rfl (D.mv rfl) ?_
      obtain ⟨r9, h_r9, hh0⟩ := bs_ hh0
      refine .c rfl (D.callG (eff := [(0, ⟨_, .box 45 [aS r9.2.s, aI r9.2.at_]⟩)]) (impl_jsonReader_skip_ok h_r9 g) C29 rfl [(0, 0)] [] [0] (.cons (.c (.pt rfl rfl rfl rfl)) (.cons (.c .fz) .nil)) rfl rfl (.cons rfl (.box (.all rfl)) .nil) rfl rfl rfl (.same rfl rfl rfl (.box (.all rfl)) .nil) .nil (.v (.c .fz))) ?_
      refine .p rfl (D.not rfl) ?_
      refine .nil ?_
      rcases it hh0 with ⟨hb, hh0⟩ | ⟨hb, hh0⟩
      · refine EW.condT rfl rfl hb ?_
        obtain rfl := sj_ hh0
        exact EW.exitA [0, 1, 2, 3] (fun _ h => hx _ h) hf ⟨.c (.pt rfl rfl rfl), .c (.pt rfl rfl rfl), .c (.pt rfl rfl rfl), trivial⟩ ⟨rfl, .box (.all rfl), rfl, .box (.all rfl), rfl, .row, rfl, .box (.cons .fz (.cons .fz (.cons .fz (.cons .fz (.cons (.ow rfl rfl rfl) .nil))))), rfl⟩
      · refine EW.condF rfl rfl hb ?_
        refine EW.skip ?_
        exact EWL.less [0, 1, 2, 3] (ih_impl_jsonReader_value_l1 _ _ _ _ _ hh0 _ _ _ hx) hf ⟨.c (.pt rfl rfl rfl), .c .fz, .c (.pt rfl rfl rfl), .c (.pt rfl rfl rfl), trivial⟩ ⟨rfl, .box (.all rfl), rfl, .box (.all rfl), rfl, .row, rfl, .box (.cons .fz (.cons .fz (.cons .fz (.cons .fz (.cons (.ow rfl rfl rfl) .nil))))), rfl⟩
    · refine EW.condF rfl rfl hb ?_
      obtain rfl := sj_ hh0
      exact EW.exitA [0, 1, 2, 3] (fun _ h => hx _ h) hf ⟨.c (.pt rfl rfl rfl), .c (.pt rfl rfl rfl), .c (.pt rfl rfl rfl), trivial⟩ ⟨rfl, .box (.all rfl), rfl, .box (.all rfl), rfl, .row, rfl, .box (.cons .fz (.cons .fz (.cons .fz (.cons .fz (.cons (.ow rfl rfl rfl) .nil))))), rfl⟩


theorem impl_jsonReader_value_ok {r : JsonReader} {deep : Int} {y : Json × JsonReader} (hh0 : impl_jsonReader_value r deep = some y) (g : Nat → Nat) : Fn Tryd.prog 16 (stoF g [(0, .box 45 [aS r.s, aI r.at_])]) [.pt 0 (g 0) 0, aI deep] (stoF g [(0, .box 45 [aS y.2.s, aI y.2.at_])]) (.ag [aI y.1.Kind, aB y.1.Flag, aS y.1.Text, aL 1 eS y.1.Names, aL 5 Json.c y.1.Kids]) := impl_jsonReader_value_all.1 _ _ _ hh0 g

theorem impl_JsonRead_ok {text : Str} {y : Json × Bool} (hh0 : impl_JsonRead text = some y) (g : Nat → Nat) : Fn Tryd.prog 6 (stoF g []) [aS text] (stoF g []) (.tu [.ag [aI y.1.Kind, aB y.1.Flag, aS y.1.Text, aL 1 eS y.1.Names, aL 5 Json.c y.1.Kids], aB y.2]) := by
  refine Fn.of0 (hs := []) (kl := []) (L := (fun f => [(2, .pt 0 (f 0) 0), (3, aB y.2)])) (O := (fun f => [(0, .box 27 [aI y.1.Kind, aB y.1.Flag, aS y.1.Text, aL 1 eS y.1.Names, aL 5 Json.c y.1.Kids])])) Tryd.func6 rfl Tryd.ntmps6 rfl (fun f hf => ⟨.nil, .many (by decide) (.cons (Nat.le_of_ble_eq_true rfl) (.cellN rfl rfl T27 (Nat.le_of_ble_eq_true rfl)) (.ag (.all rfl)) (.cons (Nat.le_of_ble_eq_true rfl) (.tmp rfl) (.c .fz) .nil))⟩) rfl rfl (fun C => ?_)
  have hf : agree g [] g := agree_refl g _
  refine EW.seq ?_
  refine EW.region ?_
  refine .w rfl (D.alloc 0 rfl ZF27 rfl rfl) ?_
  refine .p rfl (D.as (x := aB false) rfl) ?_
  refine .nil ?_
  refine EW.seq ?_
  refine EW.seq ?_
  refine EW.region ?_
  refine .p rfl (D.mv (x := aS text) rfl) ?_
  refine .p rfl (D.eqS rfl rfl) ?_
  refine .p rfl (D.mv (x := aB (text == [])) rfl) ?_
  refine .fork2 [11, 10, 9] 12 (aB ((text == []) || (decide (300 < (text.length : Int))))) 4 (text == []) (fun hb2 K k2 => ?_) (fun hb2 K k2 => ?_) ?_
  ·
    refine .gn rfl rfl rfl (nF hb2) ?_
    refine .gn rfl rfl rfl (nF hb2) ?_
    refine .gn rfl rfl rfl (nF hb2) ?_
    refine .p rfl (D.orT (c := (decide (300 < (text.length : Int)))) rfl hb2 rfl) ?_
    exact .drp (.same (.drop (.drop (.drop .nil)))) k2
  ·
    refine .gy rfl rfl rfl hb2 rfl (D.mv (x := aS text) rfl) ?_
    refine .gy rfl rfl rfl hb2 rfl (D.lenS S9 rfl) ?_
    refine .gy rfl rfl rfl hb2 rfl (D.gt rfl rfl) ?_
    refine .p rfl (D.orF rfl hb2 rfl) ?_
    exact .drp (.same (.drop (.drop (.drop .nil)))) k2
  refine .nil ?_
  rcases it hh0 with ⟨hb, hh0⟩ | ⟨hb, hh0⟩
  · refine EW.condT rfl rfl hb ?_
    refine EW.seq ?_
    refine EW.region ?_
    refine .p rfl (D.build FS27 ZF27 rfl .nil rfl) ?_
    refine .st rfl (D.st T27 rfl rfl rfl rfl rfl rfl) ?_
    refine .p rfl (D.as (x := aB false) rfl) ?_
    refine .nil ?_
    obtain rfl := sj_ hh0
    exact EW.retA [0] (fun _ h => ⟨.inr rfl, h⟩) hf ⟨.c (.pt rfl rfl rfl), .c .fz, trivial⟩ ⟨rfl, .box (.cons .fz (.cons .fz (.cons .fz (.cons .nil (.cons .nil .nil))))), rfl⟩
  · refine EW.condF rfl rfl hb ?_
    refine EW.skip ?_
    refine EW.seq ?_
    refine EW.region ?_
    refine .p rfl (D.mv (x := aS text) rfl) ?_
    refine .p rfl (D.build FS45 ZF45 rfl (.cons rfl .nil) rfl) ?_
    refine .w rfl (D.box 1 rfl rfl) ?_
    refine .p rfl (D.as rfl) ?_
    refine .nil ?_
    refine EW.seq ?_
    refine EW.region ?_
    refine .p rfl (D.mv rfl) ?_
    obtain ⟨r, h_r, hh0⟩ := bs_ hh0
    refine .c rfl (D.callG (eff := [(1, ⟨_, .box 45 [aS r.2.s, aI r.2.at_]⟩)]) (impl_jsonReader_value_ok h_r g) C16 rfl [(0, 1)] [] [1] (.cons (.c (.pt rfl rfl rfl rfl)) (.cons (.c .fz) .nil)) rfl rfl (.cons rfl (.box (.all rfl)) .nil) rfl rfl rfl (.same rfl rfl rfl (.box (.all rfl)) .nil) .nil (.v (.ag (.all rfl)))) ?_
    refine .w rfl (D.alloc 2 rfl ZF27 rfl rfl) ?_
    refine .st rfl (D.st T27 rfl rfl rfl rfl rfl rfl) ?_
    refine .nil ?_
    refine EW.seq ?_
    refine EW.seq ?_
    refine EW.region ?_
    refine .p rfl (D.ldN T27 rfl rfl rfl rfl) ?_
    obtain ⟨r1, h_r1, hh0⟩ := bs_ hh0
    refine .p rfl (D.call0 (impl_JsonWrite_ok h_r1 g) C9 rfl [] (.cons (.ag (.all rfl)) .nil) (.v (.c .fz))) ?_
    refine .p rfl (D.mv (x := aS text) rfl) ?_
    refine .p rfl (D.neS rfl rfl) ?_
    refine .nil ?_
    rcases it hh0 with ⟨hb, hh0⟩ | ⟨hb, hh0⟩
    · refine EW.condT rfl rfl hb ?_
      refine EW.seq ?_
      refine EW.region ?_
      refine .p rfl (D.build FS27 ZF27 rfl .nil rfl) ?_
      refine .st rfl (D.st T27 rfl rfl rfl rfl rfl rfl) ?_
      refine .p rfl (D.as (x := aB false) rfl) ?_
      refine .nil ?_
      obtain rfl := sj_ hh0
      exact EW.retA [0] (fun _ h => ⟨.inr rfl, h⟩) hf ⟨.c (.pt rfl rfl rfl), .c .fz, trivial⟩ ⟨rfl, .box (.cons .fz (.cons .fz (.cons .fz (.cons .nil (.cons .nil .nil))))), rfl⟩
    · refine EW.condF rfl rfl hb ?_
      refine EW.skip ?_
      refine EW.seq ?_
      refine EW.region ?_
      refine .p rfl (D.ldN T27 rfl rfl rfl rfl) ?_
      refine .st rfl (D.st T27 rfl rfl rfl rfl rfl rfl) ?_
      refine .p rfl (D.as (x := aB true) rfl) ?_
      refine .nil ?_
      obtain rfl := sj_ hh0
      exact EW.retA [0] (fun _ h => ⟨.inr rfl, h⟩) hf ⟨.c (.pt rfl rfl rfl), .c .fz, trivial⟩ ⟨rfl, .box (.all rfl), rfl⟩

theorem laws_lfTexts_l0_ok (a : (List Str)) (b : (List Str)) : ∀ (i : Int) (o : (Unit) ⊕ (Bool)), laws_lfTexts_l0 a b i = some o →
    ∀ (g : Nat → Nat) (C : Ctx Tryd.prog) (Q : Exit → St → Prop), (∀ v, o = .inl v → ∀ σ', At g [] (fun f => []) (fun f => []) σ' → Q (.exit 0) σ') → (∀ r, o = .inr r → ∀ σ', At g [] (fun f => [(4, aB r)]) (fun f => []) σ' → Q .ret σ') → ∀ σ, At g [] (fun f => [(0, aL 1 eS a), (1, aL 1 eS b), (5, aI i)]) (fun f => []) σ → EWL C 26 (bAt Tryd.f17 [1, 1, 0, 1, 0, 0]) σ Q := by
  refine laws_lfTexts_l0.partial_correctness a b (fun i o => ∀ (g : Nat → Nat) (C : Ctx Tryd.prog) (Q : Exit → St → Prop), (∀ v, o = .inl v → ∀ σ', At g [] (fun f => []) (fun f => []) σ' → Q (.exit 0) σ') → (∀ r, o = .inr r → ∀ σ', At g [] (fun f => [(4, aB r)]) (fun f => []) σ' → Q .ret σ') → ∀ σ, At g [] (fun f => [(0, aL 1 eS a), (1, aL 1 eS b), (5, aI i)]) (fun f => []) σ → EWL C 26 (bAt Tryd.f17 [1, 1, 0, 1, 0, 0]) σ Q) ?_
  intro self ih i o hh0
  intro g C Q hx hr σ hσ
  obtain ⟨f, hf, rfl⟩ := hσ
  refine EWL.round ?_
  refine EW.seq ?_
  refine EW.seq ?_
  refine EW.region ?_
  refine .p rfl (D.mv (x := aI i) rfl) ?_
  refine .p rfl (D.mv (x := aL 1 eS a) rfl) ?_
  refine .klen 12 rfl rfl fun hl2 => ?_
  refine .p rfl (D.len E24 rfl) ?_
  refine .p rfl (D.lt rfl rfl) ?_
  refine .nil ?_
  rcases it hh0 with ⟨hb, hh0⟩ | ⟨hb, hh0⟩
  · refine EW.condT rfl rfl hb ?_
    refine EW.skip ?_
    refine EW.seq ?_
    refine EW.block ?_
    refine EW.seq ?_
    refine EW.drawU MX ?_
    refine .p rfl (D.mv (x := aL 1 eS a) rfl) ?_
    refine .p rfl (D.mv (x := aI i) rfl) ?_
    obtain ⟨e, h_e, hh0⟩ := bs_ hh0
    refine .p rfl (D.idx E24 rfl rfl h_e rfl) ?_
    refine .p rfl (D.ldp1 T9 rfl rfl) ?_
    refine .p rfl (D.mv (x := aL 1 eS b) rfl) ?_
    refine .p rfl (D.mv (x := aI i) rfl) ?_
    obtain ⟨e1, h_e1, hh0⟩ := bs_ hh0
    refine .p rfl (D.idx E24 rfl rfl h_e1 rfl) ?_
    refine .p rfl (D.ldp1 T9 rfl rfl) ?_
    refine .p rfl (D.neS rfl rfl) ?_
    refine .nil (M := [0, 0, 3, 7, 0, 0, 48, 112, 255]) (by kernel_rfl) (Up.of ?_)
    rcases it hh0 with ⟨hb, hh0⟩ | ⟨hb, hh0⟩
    · refine EW.condT rfl rfl hb ?_
      refine EW.seq ?_
      refine EW.region ?_
      refine .p rfl (D.as (x := aB false) rfl) ?_
      refine .nil ?_
      obtain rfl := sj_ hh0
      exact EW.retA [] (fun _ h => hr _ rfl _ h) hf ⟨.c .fz, trivial⟩ rfl
    · refine EW.condF rfl rfl hb ?_
      refine EW.skip ?_
      refine EW.region ?_
      refine .p rfl (D.mv (x := aI i) rfl) ?_
      refine .p rfl (D.add rfl rfl) ?_
      obtain ⟨i1, h_i1, hh0⟩ := bs_ hh0
      refine .p rfl (D.as (x := aI i1) (congrArg aI (sj_ h_i1))) ?_
      refine .nil ?_
      exact EWL.less [] (ih _ _ hh0 _ _ _ hx hr) hf ⟨.c .fz, .c .fz, .c .fz, trivial⟩ rfl
  · refine EW.condF rfl rfl hb ?_
    obtain rfl := sj_ hh0
    exact EW.exitA [] (fun _ h => hx _ rfl _ h) hf trivial rfl

theorem laws_lfTexts_ok {a : (List Str)} {b : (List Str)} {y : Bool} (hh0 : laws_lfTexts a b = some y) (g : Nat → Nat) : Fn Tryd.prog 17 (stoF g []) [aL 1 eS a, aL 1 eS b] (stoF g []) (aB y) := by
  refine Fn.of0 (hs := []) (kl := []) (L := (fun f => [(4, aB y)])) (O := (fun f => [])) Tryd.func17 rfl Tryd.ntmps17 rfl (fun f hf => ⟨.nil, .one (Nat.le_of_ble_eq_true rfl) (.tmp rfl) (.c .fz)⟩) rfl rfl (fun C => ?_)
  have hf : agree g [] g := agree_refl g _
  refine EW.seq ?_
  refine EW.region ?_
  refine .p rfl (D.as (x := aB false) rfl) ?_
  refine .nil ?_
  refine EW.seq ?_
  refine EW.seq ?_
  refine EW.region ?_
  refine .p rfl (D.mv (x := aL 1 eS a) rfl) ?_
  refine .klen 6 rfl rfl fun hl => ?_
  refine .p rfl (D.len E24 rfl) ?_
  refine .p rfl (D.mv (x := aL 1 eS b) rfl) ?_
  refine .klen 8 rfl rfl fun hl1 => ?_
  refine .p rfl (D.len E24 rfl) ?_
  refine .p rfl (D.neI rfl rfl) ?_
  refine .nil ?_
  rcases it hh0 with ⟨hb, hh0⟩ | ⟨hb, hh0⟩
  · refine EW.condT rfl rfl hb ?_
    refine EW.seq ?_
    refine EW.region ?_
    refine .p rfl (D.as (x := aB false) rfl) ?_
    refine .nil ?_
    obtain rfl := sj_ hh0
    exact EW.retA [] (fun _ h => ⟨.inr rfl, h⟩) hf ⟨.c .fz, trivial⟩ rfl
  · refine EW.condF rfl rfl hb ?_
    refine EW.skip ?_
    refine EW.seq ?_
    refine EW.seq ?_
    refine EW.region ?_
    refine .p rfl (D.as (x := aI 0) rfl) ?_
    refine .nil ?_
    obtain ⟨o_, hl, hh0⟩ := bs_ hh0
    refine EW.bj (fun σ' => ∃ v, o_ = .inl v ∧ At g [] (fun f => []) (fun f => []) σ') (EW.block (EW.loop (EWL.less [] (laws_lfTexts_l0_ok _ _ _ _ hl g C _ (fun _ e _ h => ⟨_, e, h⟩) ?_) hf ⟨.c .fz, .c .fz, .c .fz, trivial⟩ rfl))) ?_
    · rintro r rfl σ' h
      obtain rfl := sj_ hh0
      exact ⟨.inr rfl, h⟩
    rintro _ ⟨v, rfl, f, hf, rfl⟩
    refine EW.seq ?_
    refine EW.region ?_
    refine .p rfl (D.as (x := aB true) rfl) ?_
    refine .nil ?_
    obtain rfl := sj_ hh0
    exact EW.retA [] (fun _ h => ⟨.inr rfl, h⟩) hf ⟨.c .fz, trivial⟩ rfl

theorem laws_lfJson_all : (∀ (a : Json) (b : Json) (y : Bool), laws_lfJson a b = some y → ∀ g : Nat → Nat, Fn Tryd.prog 7 (stoF g []) [.ag [aI a.Kind, aB a.Flag, aS a.Text, aL 1 eS a.Names, aL 5 Json.c a.Kids], .ag [aI b.Kind, aB b.Flag, aS b.Text, aL 1 eS b.Names, aL 5 Json.c b.Kids]] (stoF g []) (aB y))
   ∧ (∀ (a : Json) (b : Json) (i : Int) (o : (Unit) ⊕ (Bool)), laws_lfJson_l0 a b i = some o → ∀ (g : Nat → Nat) (C : Ctx Tryd.prog) (Q : Exit → St → Prop), (∀ v, o = .inl v → ∀ σ', At g [] (fun f => []) (fun f => []) σ' → Q (.exit 0) σ') → (∀ r, o = .inr r → ∀ σ', At g [] (fun f => [(4, aB r)]) (fun f => []) σ' → Q .ret σ') → ∀ σ, At g [] (fun f => [(2, .pt 0 (f 0) 0), (3, .pt 1 (f 1) 0), (5, aI i)]) (fun f => [(0, .box 27 [aI a.Kind, aB a.Flag, aS a.Text, aL 1 eS a.Names, aL 5 Json.c a.Kids]), (1, .box 27 [aI b.Kind, aB b.Flag, aS b.Text, aL 1 eS b.Names, aL 5 Json.c b.Kids])]) σ → EWL C 61 (bAt Tryd.f7 [1, 1, 0, 1, 0, 0]) σ Q) := by
  refine laws_lfJson.mpc (fun a b y => ∀ g : Nat → Nat, Fn Tryd.prog 7 (stoF g []) [.ag [aI a.Kind, aB a.Flag, aS a.Text, aL 1 eS a.Names, aL 5 Json.c a.Kids], .ag [aI b.Kind, aB b.Flag, aS b.Text, aL 1 eS b.Names, aL 5 Json.c b.Kids]] (stoF g []) (aB y))
    (fun a b i o => ∀ (g : Nat → Nat) (C : Ctx Tryd.prog) (Q : Exit → St → Prop), (∀ v, o = .inl v → ∀ σ', At g [] (fun f => []) (fun f => []) σ' → Q (.exit 0) σ') → (∀ r, o = .inr r → ∀ σ', At g [] (fun f => [(4, aB r)]) (fun f => []) σ' → Q .ret σ') → ∀ σ, At g [] (fun f => [(2, .pt 0 (f 0) 0), (3, .pt 1 (f 1) 0), (5, aI i)]) (fun f => [(0, .box 27 [aI a.Kind, aB a.Flag, aS a.Text, aL 1 eS a.Names, aL 5 Json.c a.Kids]), (1, .box 27 [aI b.Kind, aB b.Flag, aS b.Text, aL 1 eS b.Names, aL 5 Json.c b.Kids])]) σ → EWL C 61 (bAt Tryd.f7 [1, 1, 0, 1, 0, 0]) σ Q) ?_ ?_
  · intro sf_laws_lfJson_l0 ih_laws_lfJson_l0 a b y hh0
    intro g
    refine Fn.of0 (hs := []) (kl := []) (L := (fun f => [(4, aB y)])) (O := (fun f => [])) Tryd.func7 rfl Tryd.ntmps7 rfl (fun f hf => ⟨.nil, .one (Nat.le_of_ble_eq_true rfl) (.tmp rfl) (.c .fz)⟩) rfl rfl (fun C => ?_)
    have hf : agree g [] g := agree_refl g _
    refine EW.seq ?_
    refine EW.region ?_
    refine .w rfl (D.box 0 rfl rfl) ?_
    refine .w rfl (D.box 1 rfl rfl) ?_
    refine .p rfl (D.as (x := aB false) rfl) ?_
    refine .nil ?_
    refine EW.seq ?_
    refine EW.seq ?_
    refine EW.region ?_
    refine .p rfl (D.fld O27_0 rfl rfl rfl) ?_
    refine .p rfl (D.ld1 T3 rfl rfl rfl) ?_
    refine .p rfl (D.fld O27_0 rfl rfl rfl) ?_
    refine .p rfl (D.ld1 T3 rfl rfl rfl) ?_
    refine .p rfl (D.neI rfl rfl) ?_
    refine .p rfl (D.mv (x := aB (a.Kind != b.Kind)) rfl) ?_
    refine .fork2 [16, 15, 14, 13, 12] 17 (aB ((a.Kind != b.Kind) || (a.Flag != b.Flag))) 6 (a.Kind != b.Kind) (fun hb5 K k5 => ?_) (fun hb5 K k5 => ?_) ?_
    ·
      refine .gn rfl rfl rfl (nF hb5) ?_
      refine .gn rfl rfl rfl (nF hb5) ?_
      refine .gn rfl rfl rfl (nF hb5) ?_
      refine .gn rfl rfl rfl (nF hb5) ?_
      refine .gn rfl rfl rfl (nF hb5) ?_
      refine .p rfl (D.orT (c := (a.Flag != b.Flag)) rfl hb5 rfl) ?_
      exact .drp (.same (.drop (.drop (.drop (.drop (.drop .nil)))))) k5
    ·
      refine .gy rfl rfl rfl hb5 rfl (D.fld O27_1 rfl rfl rfl) ?_
      refine .gy rfl rfl rfl hb5 rfl (D.ld1 T4 rfl rfl rfl) ?_
      refine .gy rfl rfl rfl hb5 rfl (D.fld O27_1 rfl rfl rfl) ?_
      refine .gy rfl rfl rfl hb5 rfl (D.ld1 T4 rfl rfl rfl) ?_
      refine .gy rfl rfl rfl hb5 rfl (D.neB Tryd.underlying4 rfl rfl) ?_
      refine .p rfl (D.orF rfl hb5 rfl) ?_
      exact .drp (.same (.drop (.drop (.drop (.drop (.drop .nil)))))) k5
    refine .p rfl (D.mv (x := aB ((a.Kind != b.Kind) || (a.Flag != b.Flag))) rfl) ?_
    refine .fork2 [23, 22, 21, 20, 19] 24 (aB (((a.Kind != b.Kind) || (a.Flag != b.Flag)) || (!(a.Text == b.Text)))) 6 ((a.Kind != b.Kind) || (a.Flag != b.Flag)) (fun hb12 K k12 => ?_) (fun hb12 K k12 => ?_) ?_
    ·
      refine .gn rfl rfl rfl (nF hb12) ?_
      refine .gn rfl rfl rfl (nF hb12) ?_
      refine .gn rfl rfl rfl (nF hb12) ?_
      refine .gn rfl rfl rfl (nF hb12) ?_
      refine .gn rfl rfl rfl (nF hb12) ?_
      refine .p rfl (D.orT (c := (!(a.Text == b.Text))) rfl hb12 rfl) ?_
      exact .drp (.same (.drop (.drop (.drop (.drop (.drop .nil)))))) k12
    ·
      refine .gy rfl rfl rfl hb12 rfl (D.fld O27_2 rfl rfl rfl) ?_
      refine .gy rfl rfl rfl hb12 rfl (D.ld1 T9 rfl rfl rfl) ?_
      refine .gy rfl rfl rfl hb12 rfl (D.fld O27_2 rfl rfl rfl) ?_
      refine .gy rfl rfl rfl hb12 rfl (D.ld1 T9 rfl rfl rfl) ?_
      refine .gy rfl rfl rfl hb12 rfl (D.neS rfl rfl) ?_
      refine .p rfl (D.orF rfl hb12 rfl) ?_
      exact .drp (.same (.drop (.drop (.drop (.drop (.drop .nil)))))) k12
    refine .p rfl (D.mv (x := aB (((a.Kind != b.Kind) || (a.Flag != b.Flag)) || (!(a.Text == b.Text)))) rfl) ?_
    obtain ⟨b1, hh1, hh0⟩ := bs_ hh0
    refine .fork2 [31, 30, 29, 28, 27, 26] 32 (aB b1) 7 (((a.Kind != b.Kind) || (a.Flag != b.Flag)) || (!(a.Text == b.Text))) (fun hb19 K k19 => ?_) (fun hb19 K k19 => ?_) ?_
    ·
      replace hh1 := itT hh1 hb19
      refine .gn rfl rfl rfl (nF hb19) ?_
      refine .gn rfl rfl rfl (nF hb19) ?_
      refine .gn rfl rfl rfl (nF hb19) ?_
      refine .gn rfl rfl rfl (nF hb19) ?_
      refine .gn rfl rfl rfl (nF hb19) ?_
      refine .gn rfl rfl rfl (nF hb19) ?_
      obtain rfl := sj_ hh1
      refine .p rfl (D.pickT rfl hb19 rfl) ?_
      exact .drp (.same (.drop (.drop (.drop (.drop (.drop (.drop .nil))))))) k19
    ·
      replace hh1 := itF hh1 hb19
      refine .gy rfl rfl rfl hb19 rfl (D.fld O27_3 rfl rfl rfl) ?_
      refine .gy rfl rfl rfl hb19 rfl (D.ld1 T24 rfl rfl rfl) ?_
      refine .gy rfl rfl rfl hb19 rfl (D.fld O27_3 rfl rfl rfl) ?_
      refine .gy rfl rfl rfl hb19 rfl (D.ld1 T24 rfl rfl rfl) ?_
      obtain ⟨r, h_r, hh1⟩ := bs_ hh1
      refine .gy rfl rfl rfl hb19 rfl (D.call0 (laws_lfTexts_ok h_r g) C17 rfl [] (.cons (.c .fz) (.cons (.c .fz) .nil)) (.v (.c .fz))) ?_
      refine .gy rfl rfl rfl hb19 rfl (D.not rfl) ?_
      obtain rfl := sj_ hh1
      refine .p rfl (D.pickF rfl hb19 rfl) ?_
      exact .drp (.same (.drop (.drop (.drop (.drop (.drop (.drop .nil))))))) k19
    refine .p rfl (D.mv (x := aB b1) rfl) ?_
    refine .fork2 [40, 39, 38, 37, 36, 35, 34] 41 (aB (b1 || ((a.Kids.length : Int) != (b.Kids.length : Int)))) 8 b1 (fun hb27 K k27 => ?_) (fun hb27 K k27 => ?_) ?_
    ·
      refine .gn rfl rfl rfl (nF hb27) ?_
      refine .gn rfl rfl rfl (nF hb27) ?_
      refine .gn rfl rfl rfl (nF hb27) ?_
      refine .gn rfl rfl rfl (nF hb27) ?_
      refine .gn rfl rfl rfl (nF hb27) ?_
      refine .gn rfl rfl rfl (nF hb27) ?_
      refine .gn rfl rfl rfl (nF hb27) ?_
      refine .p rfl (D.orT (c := ((a.Kids.length : Int) != (b.Kids.length : Int))) rfl hb27 rfl) ?_
      exact .drp (.same (.drop (.drop (.drop (.drop (.drop (.drop (.drop .nil)))))))) k27
    ·
      refine .gy rfl rfl rfl hb27 rfl (D.fld O27_4 rfl rfl rfl) ?_
      refine .gy rfl rfl rfl hb27 rfl (D.ld1 T25 rfl rfl rfl) ?_
      refine .klen 35 rfl rfl fun hl => ?_
      refine .gy rfl rfl rfl hb27 rfl (D.len E25 rfl) ?_
      refine .gy rfl rfl rfl hb27 rfl (D.fld O27_4 rfl rfl rfl) ?_
      refine .gy rfl rfl rfl hb27 rfl (D.ld1 T25 rfl rfl rfl) ?_
      refine .klen 38 rfl rfl fun hl1 => ?_
      refine .gy rfl rfl rfl hb27 rfl (D.len E25 rfl) ?_
      refine .gy rfl rfl rfl hb27 rfl (D.neI rfl rfl) ?_
      refine .p rfl (D.orF rfl hb27 rfl) ?_
      exact .drp (.same (.drop (.drop (.drop (.drop (.drop (.drop (.drop .nil)))))))) k27
    refine .nil ?_
    rcases it hh0 with ⟨hb, hh0⟩ | ⟨hb, hh0⟩
    · refine EW.condT rfl rfl hb ?_
      refine EW.seq ?_
      refine EW.region ?_
      refine .p rfl (D.as (x := aB false) rfl) ?_
      refine .nil ?_
      obtain rfl := sj_ hh0
      exact EW.retA [] (fun _ h => ⟨.inr rfl, h⟩) hf ⟨.c .fz, trivial⟩ rfl
    · refine EW.condF rfl rfl hb ?_
      refine EW.skip ?_
      refine EW.seq ?_
      refine EW.seq ?_
      refine EW.region ?_
      refine .p rfl (D.as (x := aI 0) rfl) ?_
      refine .nil ?_
      obtain ⟨o_, hl, hh0⟩ := bs_ hh0
      refine EW.bj (fun σ' => ∃ v, o_ = .inl v ∧ At g [] (fun f => []) (fun f => []) σ') (EW.block (EW.loop (EWL.less [0, 1] (ih_laws_lfJson_l0 _ _ _ _ hl g C _ (fun _ e _ h => ⟨_, e, h⟩) ?_) hf ⟨.c (.pt rfl rfl rfl), .c (.pt rfl rfl rfl), .c .fz, trivial⟩ ⟨rfl, .box (.all rfl), rfl, .box (.all rfl), rfl⟩))) ?_
      · rintro r2 rfl σ' h
        obtain rfl := sj_ hh0
        exact ⟨.inr rfl, h⟩
      rintro _ ⟨v, rfl, f, hf, rfl⟩
      refine EW.seq ?_
      refine EW.region ?_
      refine .p rfl (D.as (x := aB true) rfl) ?_
      refine .nil ?_
      obtain rfl := sj_ hh0
      exact EW.retA [] (fun _ h => ⟨.inr rfl, h⟩) hf ⟨.c .fz, trivial⟩ rfl
  · intro sf_laws_lfJson sf_laws_lfJson_l0 ih_laws_lfJson ih_laws_lfJson_l0 a b i o hh0
    intro g C Q hx hr σ hσ
    obtain ⟨f, hf, rfl⟩ := hσ
    refine EWL.round ?_
    refine EW.seq ?_
    refine EW.seq ?_
    refine EW.region ?_
    refine .p rfl (D.mv (x := aI i) rfl) ?_
    refine .p rfl (D.fld O27_4 rfl rfl rfl) ?_
    refine .p rfl (D.ld1 T25 rfl rfl rfl) ?_
    refine .klen 44 rfl rfl fun hl2 => ?_
    refine .p rfl (D.len E25 rfl) ?_
    refine .p rfl (D.lt rfl rfl) ?_
    refine .nil ?_
    rcases it hh0 with ⟨hb, hh0⟩ | ⟨hb, hh0⟩
    · refine EW.condT rfl rfl hb ?_
      refine EW.skip ?_
      refine EW.seq ?_
      refine EW.block ?_
      refine EW.seq ?_
      refine EW.drawU MX ?_
      refine .p rfl (D.fld O27_4 rfl rfl rfl) ?_
      refine .p rfl (D.ld1 T25 rfl rfl rfl) ?_
      refine .p rfl (D.mv (x := aI i) rfl) ?_
      obtain ⟨Kid, h_Kid, hh0⟩ := bs_ hh0
      refine .p rfl (D.idx E25 rfl rfl h_Kid (Json.c_eq _)) ?_
      refine .p rfl (D.ldpN T27 rfl rfl rfl) ?_
      refine .p rfl (D.fld O27_4 rfl rfl rfl) ?_
      refine .p rfl (D.ld1 T25 rfl rfl rfl) ?_
      refine .p rfl (D.mv (x := aI i) rfl) ?_
      obtain ⟨Kid1, h_Kid1, hh0⟩ := bs_ hh0
      refine .p rfl (D.idx E25 rfl rfl h_Kid1 (Json.c_eq _)) ?_
      refine .p rfl (D.ldpN T27 rfl rfl rfl) ?_
      obtain ⟨r1, h_r1, hh0⟩ := bs_ hh0
      refine .p rfl (D.call0 (ih_laws_lfJson _ _ _ h_r1 g) C7 rfl [] (.cons (.ag (.all rfl)) (.cons (.ag (.all rfl)) .nil)) (.v (.c .fz))) ?_
      refine .p rfl (D.not rfl) ?_
      refine .nil (M := [0, 1, 0, 7, 15, 0, 32, 0, 224, 480, 1023, 2047]) (by kernel_rfl) (Up.of ?_)
      rcases it hh0 with ⟨hb, hh0⟩ | ⟨hb, hh0⟩
      · refine EW.condT rfl rfl hb ?_
        refine EW.seq ?_
        refine EW.region ?_
        refine .p rfl (D.as (x := aB false) rfl) ?_
        refine .nil ?_
        obtain rfl := sj_ hh0
        exact EW.retA [] (fun _ h => hr _ rfl _ h) hf ⟨.c .fz, trivial⟩ rfl
      · refine EW.condF rfl rfl hb ?_
        refine EW.skip ?_
        refine EW.region ?_
        refine .p rfl (D.mv (x := aI i) rfl) ?_
        refine .p rfl (D.add rfl rfl) ?_
        obtain ⟨i1, h_i1, hh0⟩ := bs_ hh0
        refine .p rfl (D.as (x := aI i1) (congrArg aI (sj_ h_i1))) ?_
        refine .nil ?_
        exact EWL.less [0, 1] (ih_laws_lfJson_l0 _ _ _ _ hh0 _ _ _ hx hr) hf ⟨.c (.pt rfl rfl rfl), .c (.pt rfl rfl rfl), .c .fz, trivial⟩ ⟨rfl, .box (.all rfl), rfl, .box (.all rfl), rfl⟩
    · refine EW.condF rfl rfl hb ?_
      obtain rfl := sj_ hh0
      exact EW.exitA [] (fun _ h => hx _ rfl _ h) hf trivial rfl


theorem laws_lfJson_ok {a : Json} {b : Json} {y : Bool} (hh0 : laws_lfJson a b = some y) (g : Nat → Nat) : Fn Tryd.prog 7 (stoF g []) [.ag [aI a.Kind, aB a.Flag, aS a.Text, aL 1 eS a.Names, aL 5 Json.c a.Kids], .ag [aI b.Kind, aB b.Flag, aS b.Text, aL 1 eS b.Names, aL 5 Json.c b.Kids]] (stoF g []) (aB y) := laws_lfJson_all.1 _ _ _ hh0 g

theorem laws_FnJsonStrict_ok {code : (List UInt8)} {y : Bool} (hh0 : laws_FnJsonStrict code = some y) (g : Nat → Nat) : Fn Tryd.prog 3 (stoF g []) [aL 1 eU code] (stoF g []) (aB y) := by
  refine Fn.of0 (hs := []) (kl := []) (L := (fun f => [(2, aB y)])) (O := (fun f => [])) Tryd.func3 rfl Tryd.ntmps3 rfl (fun f hf => ⟨.nil, .one (Nat.le_of_ble_eq_true rfl) (.tmp rfl) (.c .fz)⟩) rfl rfl (fun C => ?_)
  have hf : agree g [] g := agree_refl g _
  refine EW.seq ?_
  refine EW.region ?_
  refine .p rfl (D.as (x := aB false) rfl) ?_
  refine .nil ?_
  refine EW.seq ?_
  refine EW.seq ?_
  refine EW.region ?_
  refine .p rfl (D.mv (x := aL 1 eU code) rfl) ?_
  refine .klen 8 rfl rfl fun hl => ?_
  refine .p rfl (D.len E22 rfl) ?_
  refine .p rfl (D.gt rfl rfl) ?_
  refine .nil ?_
  rcases it hh0 with ⟨hb, hh0⟩ | ⟨hb, hh0⟩
  · refine EW.condT rfl rfl hb ?_
    refine EW.seq ?_
    refine EW.region ?_
    refine .p rfl (D.as (x := aB true) rfl) ?_
    refine .nil ?_
    obtain rfl := sj_ hh0
    exact EW.retA [] (fun _ h => ⟨.inr rfl, h⟩) hf ⟨.c .fz, trivial⟩ rfl
  · refine EW.condF rfl rfl hb ?_
    refine EW.skip ?_
    refine EW.seq ?_
    refine EW.region ?_
    refine .p rfl (D.mv (x := aL 1 eU code) rfl) ?_
    obtain ⟨r, h_r, hh0⟩ := bs_ hh0
    refine .p rfl (D.call0 (spec_DrawJsonRead_ok h_r g) C4 rfl [] (.cons (.c .fz) .nil) (.v (.c .fz))) ?_
    refine .p rfl (D.as (x := aS r) rfl) ?_
    refine .nil ?_
    refine EW.seq ?_
    refine EW.region ?_
    refine .p rfl (D.mv (x := aS r) rfl) ?_
    obtain ⟨r1, h_r1, hh0⟩ := bs_ hh0
    refine .p rfl (D.call0 (spec_JsonRead_ok h_r1 g) C5 rfl [] (.cons (.c .fz) .nil) (.tu (.cons (.ag (.all rfl)) (.cons (.c .fz) .nil)))) ?_
    refine .p rfl (D.mv rfl) ?_
    refine .p rfl (D.ext rfl rfl) ?_
    refine .p rfl (D.ext rfl rfl) ?_
    refine .w rfl (D.alloc 0 rfl ZF27 rfl rfl) ?_
    refine .st rfl (D.st T27 rfl rfl rfl rfl rfl rfl) ?_
    refine .p rfl (D.as (x := aB r1.2) rfl) ?_
    refine .nil ?_
    refine EW.seq ?_
    refine EW.region ?_
    refine .p rfl (D.mv (x := aS r) rfl) ?_
    obtain ⟨r2, h_r2, hh0⟩ := bs_ hh0
    refine .p rfl (D.call0 (impl_JsonRead_ok h_r2 g) C6 rfl [] (.cons (.c .fz) .nil) (.tu (.cons (.ag (.all rfl)) (.cons (.c .fz) .nil)))) ?_
    refine .p rfl (D.mv rfl) ?_
    refine .p rfl (D.ext rfl rfl) ?_
    refine .p rfl (D.ext rfl rfl) ?_
    refine .w rfl (D.alloc 1 rfl ZF27 rfl rfl) ?_
    refine .st rfl (D.st T27 rfl rfl rfl rfl rfl rfl) ?_
    refine .p rfl (D.as (x := aB r2.2) rfl) ?_
    refine .nil ?_
    refine EW.seq ?_
    refine EW.seq ?_
    refine EW.region ?_
    refine .p rfl (D.mv (x := aB r2.2) rfl) ?_
    refine .p rfl (D.mv (x := aB r1.2) rfl) ?_
    refine .p rfl (D.neB Tryd.underlying4 rfl rfl) ?_
    refine .p rfl (D.mv (x := aB (r2.2 != r1.2)) rfl) ?_
    obtain ⟨b, hh1, hh0⟩ := bs_ hh0
    refine .fork2 [30, 29, 28, 27] 31 (aB b) 5 (r2.2 != r1.2) (fun hb3 K k3 => ?_) (fun hb3 K k3 => ?_) ?_
    ·
      replace hh1 := itT hh1 hb3
      refine .gn rfl rfl rfl (nF hb3) ?_
      refine .gn rfl rfl rfl (nF hb3) ?_
      refine .gn rfl rfl rfl (nF hb3) ?_
      refine .gn rfl rfl rfl (nF hb3) ?_
      obtain rfl := sj_ hh1
      refine .p rfl (D.pickT rfl hb3 rfl) ?_
      exact .drp (.same (.drop (.drop (.drop (.drop .nil))))) k3
    ·
      replace hh1 := itF hh1 hb3
      refine .gy rfl rfl rfl hb3 rfl (D.ldN T27 rfl rfl rfl rfl) ?_
      refine .gy rfl rfl rfl hb3 rfl (D.ldN T27 rfl rfl rfl rfl) ?_
      obtain ⟨r3, h_r3, hh1⟩ := bs_ hh1
      refine .gy rfl rfl rfl hb3 rfl (D.call0 (laws_lfJson_ok h_r3 g) C7 rfl [] (.cons (.ag (.all rfl)) (.cons (.ag (.all rfl)) .nil)) (.v (.c .fz))) ?_
      refine .gy rfl rfl rfl hb3 rfl (D.not rfl) ?_
      obtain rfl := sj_ hh1
      refine .p rfl (D.pickF rfl hb3 rfl) ?_
      exact .drp (.same (.drop (.drop (.drop (.drop .nil))))) k3
    refine .nil ?_
    rcases it hh0 with ⟨hb, hh0⟩ | ⟨hb, hh0⟩
    · refine EW.condT rfl rfl hb ?_
      refine EW.seq ?_
      refine EW.region ?_
      refine .p rfl (D.as (x := aB false) rfl) ?_
      refine .nil ?_
      obtain rfl := sj_ hh0
      exact EW.retA [] (fun _ h => ⟨.inr rfl, h⟩) hf ⟨.c .fz, trivial⟩ rfl
    · refine EW.condF rfl rfl hb ?_
      refine EW.skip ?_
      refine EW.seq ?_
      refine EW.region ?_
      refine .p rfl (D.mv (x := aB r2.2) rfl) ?_
      refine .p rfl (D.not rfl) ?_
      refine .p rfl (D.mv (x := aB (!r2.2)) rfl) ?_
      refine .fork2 [37, 36, 35] 38 (aB ((!r2.2) && (r2.1.Kind == 0))) 4 (!r2.2) (fun hb2 K k2 => ?_) (fun hb2 K k2 => ?_) ?_
      ·
        refine .gy rfl rfl rfl hb2 rfl (D.fld O27_0 rfl rfl rfl) ?_
        refine .gy rfl rfl rfl hb2 rfl (D.ld1 T3 rfl rfl rfl) ?_
        refine .gy rfl rfl rfl hb2 rfl (D.eqI rfl rfl) ?_
        refine .p rfl (D.andT rfl hb2 rfl) ?_
        exact .drp (.same (.drop (.drop (.drop .nil)))) k2
      ·
        refine .gn rfl rfl rfl (nT hb2) ?_
        refine .gn rfl rfl rfl (nT hb2) ?_
        refine .gn rfl rfl rfl (nT hb2) ?_
        refine .p rfl (D.andF (c := (r2.1.Kind == 0)) rfl hb2 rfl) ?_
        exact .drp (.same (.drop (.drop (.drop .nil)))) k2
      refine .p rfl (D.mv (x := aB ((!r2.2) && (r2.1.Kind == 0))) rfl) ?_
      obtain ⟨b1, hh1, hh0⟩ := bs_ hh0
      refine .fork2 [50, 49, 48, 47, 46, 45, 44, 43, 42, 41, 40] 51 (aB b1) 12 ((!r2.2) && (r2.1.Kind == 0)) (fun hb7 K k7 => ?_) (fun hb7 K k7 => ?_) ?_
      ·
        replace hh1 := itT hh1 hb7
        refine .gn rfl rfl rfl (nF hb7) ?_
        refine .gn rfl rfl rfl (nF hb7) ?_
        refine .gu rfl rfl rfl ?_
        refine .gu rfl rfl rfl ?_
        refine .gn rfl rfl rfl (nF hb7) ?_
        refine .gn rfl rfl rfl (nF hb7) ?_
        refine .gu rfl rfl rfl ?_
        refine .gu rfl rfl rfl ?_
        refine .gu rfl rfl rfl ?_
        refine .gu rfl rfl rfl ?_
        refine .gn rfl rfl rfl (nF hb7) ?_
        obtain rfl := sj_ hh1
        refine .p rfl (D.pickT rfl hb7 rfl) ?_
        exact .drp (.same (.drop (.drop (.drop (.drop (.drop (.drop (.drop (.drop (.drop (.drop (.drop .nil)))))))))))) k7
      ·
        replace hh1 := itF hh1 hb7
        refine .gy rfl rfl rfl hb7 rfl (D.mv (x := aB r2.2) rfl) ?_
        refine .gy rfl rfl rfl hb7 rfl (D.mv (x := aB r2.2) rfl) ?_
        obtain ⟨b2, hh2, hh1⟩ := bs_ hh1
        refine .fork2 [43, 42] 44 (aB b2) 3 r2.2 (fun hb9 K k9 => ?_) (fun hb9 K k9 => ?_) ?_
        ·
          replace hh2 := itT hh2 hb9
          refine .gy rfl rfl rfl hb9 rfl (D.ldN T27 rfl rfl rfl rfl) ?_
          obtain ⟨r4, h_r4, hh2⟩ := bs_ hh2
          refine .gy rfl rfl rfl hb9 rfl (D.call0 (impl_JsonOk_ok h_r4 g) C8 rfl [] (.cons (.ag (.all rfl)) .nil) (.v (.c .fz))) ?_
          obtain rfl := sj_ hh2
          refine .gy rfl rfl rfl hb7 rfl (D.pickT rfl hb9 rfl) ?_
          exact .drp (.same (.drop (.drop .nil))) k9
        ·
          replace hh2 := itF hh2 hb9
          refine .gn rfl rfl rfl (nT hb9) ?_
          refine .gn rfl rfl rfl (nT hb9) ?_
          obtain rfl := sj_ hh2
          refine .gy rfl rfl rfl hb7 rfl (D.pickF rfl hb9 rfl) ?_
          exact .drp (.same (.drop (.drop .nil))) k9
        refine .gy rfl rfl rfl hb7 rfl (D.mv (x := aB b2) rfl) ?_
        obtain ⟨b3, hh2, hh1⟩ := bs_ hh1
        refine .fork2 [49, 48, 47, 46] 50 (aB b3) 5 b2 (fun hb13 K k13 => ?_) (fun hb13 K k13 => ?_) ?_
        ·
          replace hh2 := itT hh2 hb13
          refine .gy rfl rfl rfl hb13 rfl (D.ldN T27 rfl rfl rfl rfl) ?_
          obtain ⟨r5, h_r5, hh2⟩ := bs_ hh2
          refine .gy rfl rfl rfl hb13 rfl (D.call0 (impl_JsonWrite_ok h_r5 g) C9 rfl [] (.cons (.ag (.all rfl)) .nil) (.v (.c .fz))) ?_
          refine .gy rfl rfl rfl hb13 rfl (D.mv (x := aS r) rfl) ?_
          refine .gy rfl rfl rfl hb13 rfl (D.eqS rfl rfl) ?_
          obtain rfl := sj_ hh2
          refine .gy rfl rfl rfl hb7 rfl (D.pickT rfl hb13 rfl) ?_
          exact .drp (.same (.drop (.drop (.drop (.drop .nil))))) k13
        ·
          replace hh2 := itF hh2 hb13
          refine .gn rfl rfl rfl (nT hb13) ?_
          refine .gn rfl rfl rfl (nT hb13) ?_
          refine .gn rfl rfl rfl (nT hb13) ?_
          refine .gn rfl rfl rfl (nT hb13) ?_
          obtain rfl := sj_ hh2
          refine .gy rfl rfl rfl hb7 rfl (D.pickF rfl hb13 rfl) ?_
          exact .drp (.same (.drop (.drop (.drop (.drop .nil))))) k13
        obtain rfl := sj_ hh1
        refine .p rfl (D.pickF rfl hb7 rfl) ?_
        exact .drp (.same (.drop (.drop (.drop (.drop (.drop (.drop (.drop (.drop (.drop (.drop (.drop .nil)))))))))))) k7
      refine .p rfl (D.as (x := aB b1) rfl) ?_
      refine .nil ?_
      obtain rfl := sj_ hh0
      exact EW.retA [] (fun _ h => ⟨.inr rfl, h⟩) hf ⟨.c .fz, trivial⟩ rfl

end Fw
