/- A text of the proof of FnJsonStrict: DF. -/
import Derived.Test.YtgihpfidacjogaaDoorDTy
set_option linter.unusedVariables false
set_option linter.unusedSimpArgs false
set_option linter.defProp false
set_option synthInstance.maxSize 100000
set_option linter.unusedVariables false
namespace Fw
open Go Go.SL
def spec_l6Open (code : (List UInt8)) : Option (L6Rd) :=
  ((if (decide (2000 < (code.length : Int))) = true then
  cut code 0 2000 >>= fun l =>
  some l
  else
  some code)) >>= fun o_ =>
  some (L6Rd.mk o_ 0)
mutual
def spec_l31Write (j : Json) : Option (Str) :=
  (if (j.Kind == 1) = true then
  some [110, 117, 108, 108]
  else
  (if (j.Kind == 2) = true then
  (if j.Flag = true then
  some [116, 114, 117, 101]
  else
  some [102, 97, 108, 115, 101])
  else
  (if (j.Kind == 3) = true then
  some j.Text
  else
  (if (j.Kind == 4) = true then
  cat [34] j.Text >>= fun s =>
  cat s [34] >>= fun s1 =>
  some s1
  else
  spec_l31Write_l1 j [] 0 >>= fun o_2 =>
  (if (j.Kind == 6) = true then
  cat [123] o_2 >>= fun s7 =>
  cat s7 [125] >>= fun s8 =>
  some s8
  else
  cat [91] o_2 >>= fun s9 =>
  cat s9 [93] >>= fun s10 =>
  some s10)))))
  partial_fixpoint
def spec_l31Write_l1 (j : Json) (out : Str) (i : Int) : Option (Str) :=
  (if (decide (i < (j.Kids.length : Int))) = true then
  ((if (decide (0 < i)) = true then
  cat out [44] >>= fun s2 =>
  some s2
  else
  some out)) >>= fun o_ =>
  ((if (j.Kind == 6) = true then
  cat o_ [34] >>= fun s3 =>
  rd j.Names i >>= fun Name =>
  cat s3 Name >>= fun s4 =>
  cat s4 [34, 58] >>= fun s5 =>
  some s5
  else
  some o_)) >>= fun o_1 =>
  rd j.Kids i >>= fun Kid =>
  spec_l31Write Kid >>= fun r =>
  cat o_1 r >>= fun s6 =>
  some (w64 (i + 1)) >>= fun i1 =>
  spec_l31Write_l1 j s6 i1
  else
  some out)
  partial_fixpoint
end
def spec_l31Num_l0 (v : Str) (i : Int) : Option ((Unit) ⊕ (Bool)) :=
  (if (decide (i < (v.length : Int))) = true then
  rd v i >>= fun c2 =>
  (if ((decide ((c2.toNat : Int) < 48)) || (decide (57 < (c2.toNat : Int)))) = true then
  some (.inr false)
  else
  some (w64 (i + 1)) >>= fun i1 =>
  spec_l31Num_l0 v i1)
  else
  some (.inl ()))
  partial_fixpoint
def spec_l31Num (s : Str) : Option (Bool) :=
  (if (decide (0 < (s.length : Int))) = true then
  rd s 0 >>= fun c =>
  some ((c.toNat : Int) == 45)
  else
  some false) >>= fun b =>
  (((if b = true then
  cut s 1 (s.length : Int) >>= fun s2 =>
  (if (s2 == [48]) = true then
  some (.inr false)
  else
  some (.inl s2))
  else
  some (.inl s))) : Option ((Str) ⊕ (Bool))) >>= fun o_ =>
  (match o_ with
   | .inl v => (if ((decide ((v.length : Int) < 1)) || (decide (7 < (v.length : Int)))) = true then
  some true
  else
  (if (decide (1 < (v.length : Int))) = true then
  rd v 0 >>= fun c1 =>
  some ((c1.toNat : Int) == 48)
  else
  some false) >>= fun b2 =>
  some b2) >>= fun b1 =>
  (if b1 = true then
  some false
  else
  spec_l31Num_l0 v 0 >>= fun o_1 =>
  (match o_1 with
   | .inl v1 => some true
   | .inr r1 => some r1))
   | .inr r => some r)
def spec_l31Text_l0 (s : Str) (i : Int) : Option ((Unit) ⊕ (Bool)) :=
  (if (decide (i < (s.length : Int))) = true then
  rd s i >>= fun c =>
  (if ((((decide ((c.toNat : Int) < 32)) || (decide (126 < (c.toNat : Int)))) || ((c.toNat : Int) == 34)) || ((c.toNat : Int) == 92)) = true then
  some (.inr false)
  else
  some (w64 (i + 1)) >>= fun i1 =>
  spec_l31Text_l0 s i1)
  else
  some (.inl ()))
  partial_fixpoint
def spec_l31Text (s : Str) : Option (Bool) :=
  spec_l31Text_l0 s 0 >>= fun o_ =>
  (match o_ with
   | .inl v => some true
   | .inr r => some r)
def spec_l2Name_l0 (s : Str) (i : Int) : Option ((Unit) ⊕ (Bool)) :=
  (if (decide (i < (s.length : Int))) = true then
  rd s i >>= fun c =>
  (if ((decide ((c.toNat : Int) < 97)) || (decide (122 < (c.toNat : Int)))) = true then
  some (.inr false)
  else
  some (w64 (i + 1)) >>= fun i1 =>
  spec_l2Name_l0 s i1)
  else
  some (.inl ()))
  partial_fixpoint
def spec_l2Name (s : Str) : Option (Bool) :=
  (if ((decide ((s.length : Int) < 1)) || (decide (8 < (s.length : Int)))) = true then
  some false
  else
  spec_l2Name_l0 s 0 >>= fun o_ =>
  (match o_ with
   | .inl v => some true
   | .inr r => some r))
def spec_l31Names_l2 (list : (List Str)) (i : Int) (k_ : Int) : Option ((Unit) ⊕ (Bool)) :=
  (if (decide (k_ < i)) = true then
  rd list k_ >>= fun e1 =>
  rd list i >>= fun e2 =>
  (if (e1 == e2) = true then
  some (.inr false)
  else
  some (w64 (k_ + 1)) >>= fun k_1 =>
  spec_l31Names_l2 list i k_1)
  else
  some (.inl ()))
  partial_fixpoint
def spec_l31Names_l0 (list : (List Str)) (i : Int) : Option ((Unit) ⊕ (Bool)) :=
  (if (decide (i < (list.length : Int))) = true then
  rd list i >>= fun e =>
  spec_l2Name e >>= fun r =>
  (if (!r) = true then
  some (.inr false)
  else
  spec_l31Names_l2 list i 0 >>= fun o_ =>
  (match o_ with
   | .inl v => some (w64 (i + 1)) >>= fun i1 =>
  spec_l31Names_l0 list i1
   | .inr r1 => some (.inr r1)))
  else
  some (.inl ()))
  partial_fixpoint
def spec_l31Names (list : (List Str)) : Option (Bool) :=
  spec_l31Names_l0 list 0 >>= fun o_1 =>
  (match o_1 with
   | .inl v1 => some true
   | .inr r2 => some r2)
mutual
def spec_l31Deep (j : Json) (deep : Int) : Option (Bool) :=
  (if (((((decide (deep < 1)) || (j.Flag && (j.Kind != 2))) || (((!(j.Text == [])) && (j.Kind != 3)) && (j.Kind != 4))) || ((decide (j.Kind < 5)) && (decide (0 < (j.Kids.length : Int))))) || ((j.Kind != 6) && (decide (0 < (j.Names.length : Int))))) = true then
  some false
  else
  (if (decide (40 < (j.Kids.length : Int))) = true then
  some false
  else
  spec_l31Deep_l0 j deep 0 >>= fun o_ =>
  (match o_ with
   | .inl v => ((if (j.Kind == 1) = true then
  some (j.Kind == 1)
  else
  (if (j.Kind == 2) = true then
  some (j.Kind == 2)
  else
  some (j.Kind == 5)))) >>= fun o_1 =>
  (if o_1 = true then
  some true
  else
  (if (j.Kind == 3) = true then
  spec_l31Num j.Text >>= fun r2 =>
  some r2
  else
  (if (j.Kind == 4) = true then
  (if (decide ((j.Text.length : Int) ≤ 20)) = true then
  spec_l31Text j.Text >>= fun r3 =>
  some r3
  else
  some false) >>= fun b =>
  some b
  else
  (if (j.Kind == 6) = true then
  (if ((j.Names.length : Int) == (j.Kids.length : Int)) = true then
  spec_l31Names j.Names >>= fun r4 =>
  some r4
  else
  some false) >>= fun b1 =>
  some b1
  else
  some false))))
   | .inr r1 => some r1)))
  partial_fixpoint
def spec_l31Deep_l0 (j : Json) (deep : Int) (i : Int) : Option ((Unit) ⊕ (Bool)) :=
  (if (decide (i < (j.Kids.length : Int))) = true then
  rd j.Kids i >>= fun Kid =>
  spec_l31Deep Kid (w64 (deep - 1)) >>= fun r =>
  (if (!r) = true then
  some (.inr false)
  else
  some (w64 (i + 1)) >>= fun i1 =>
  spec_l31Deep_l0 j deep i1)
  else
  some (.inl ()))
  partial_fixpoint
end
mutual
def spec_l31Size (j : Json) : Option (Int) :=
  spec_l31Size_l0 j 1 0 >>= fun o_ =>
  some o_
  partial_fixpoint
def spec_l31Size_l0 (j : Json) (n : Int) (i : Int) : Option (Int) :=
  (if (decide (i < (j.Kids.length : Int))) = true then
  rd j.Kids i >>= fun Kid =>
  spec_l31Size Kid >>= fun r =>
  some (w64 (n + r)) >>= fun n2 =>
  some (w64 (i + 1)) >>= fun i1 =>
  spec_l31Size_l0 j n2 i1
  else
  some n)
  partial_fixpoint
end
def spec_JsonOk (j : Json) : Option (Bool) :=
  spec_l31Deep j 5 >>= fun r =>
  (if r = true then
  spec_l31Size j >>= fun r1 =>
  some (decide (r1 ≤ 40))
  else
  some false) >>= fun b =>
  (if b = true then
  spec_l31Write j >>= fun r2 =>
  some (decide ((r2.length : Int) ≤ 300))
  else
  some false) >>= fun b1 =>
  some b1
def spec_JsonWrite (j : Json) : Option (Str) :=
  spec_JsonOk j >>= fun r =>
  (if (!r) = true then
  some []
  else
  spec_l31Write j >>= fun r1 =>
  some r1)
def spec_l6Rd_pick (r : L6Rd) (n : Int) : Option (Int × L6Rd) :=
  (if ((decide (n < 1)) || ((r.b.length : Int) == 0)) = true then
  some (0, (L6Rd.mk r.b (w64 (r.p + 1))))
  else
  some (w64 ((w64 (r.p + 1)) - 1)) >>= fun k_ =>
  (if (decide (k_ < (r.b.length : Int))) = true then
  rd r.b k_ >>= fun e =>
  (if (n == 0) = true then none else some ()) >>= fun nz =>
  some (((e.toNat : Int).tmod n), (L6Rd.mk r.b (w64 (r.p + 1))))
  else
  (if ((r.b.length : Int) == 0) = true then none else some ()) >>= fun nz1 =>
  rd r.b (k_.tmod (r.b.length : Int)) >>= fun e1 =>
  (if ((r.b.length : Int) == 0) = true then none else some ()) >>= fun nz2 =>
  rd r.b ((w64 ((w64 (k_ * 7)) + 3)).tmod (r.b.length : Int)) >>= fun e2 =>
  (if ((r.b.length : Int) == 0) = true then none else some ()) >>= fun nz3 =>
  some (xor64 (w64 ((w64 ((w64 ((w64 ((e1.toNat : Int) * 131)) + (w64 ((e2.toNat : Int) * 1117)))) + (w64 (k_ * 29)))) + (w64 ((w64 (k_.tdiv (r.b.length : Int))) * 53)))) (w64 ((w64 ((w64 ((w64 ((w64 ((e1.toNat : Int) * 131)) + (w64 ((e2.toNat : Int) * 1117)))) + (w64 (k_ * 29)))) + (w64 ((w64 (k_.tdiv (r.b.length : Int))) * 53)))).tdiv 64))) >>= fun x =>
  (if (n == 0) = true then none else some ()) >>= fun nz4 =>
  some ((x.tmod n), (L6Rd.mk r.b (w64 (r.p + 1))))))
def spec_l6Rd_of (r : L6Rd) (list : (List Str)) : Option (Str × L6Rd) :=
  spec_l6Rd_pick r (list.length : Int) >>= fun r1 =>
  rd list r1.1 >>= fun e =>
  some (e, r1.2)
def spec_l6Many_l0 (s1 : Str) (n1 : Int) (out : Str) : Option (Str) :=
  (if (decide (0 < n1)) = true then
  ((if ((n1.tmod 2) == 1) = true then
  cat out s1 >>= fun s2 =>
  some s2
  else
  some out)) >>= fun o_ =>
  cat s1 s1 >>= fun s3 =>
  some (w64 (n1.tdiv 2)) >>= fun n2 =>
  spec_l6Many_l0 s3 n2 o_
  else
  some out)
  partial_fixpoint
def spec_l6Many (s : Str) (n : Int) : Option (Str) :=
  spec_l6Many_l0 s n [] >>= fun o_1 =>
  some o_1
mutual
def spec_l71Fit (t : L6Rd) (o_ : Schema) : Option (Json × L6Rd) :=
  (if (o_.Kind == 1) = true then
  some ((Json.mk 1 false [] [] []), t)
  else
  (if (o_.Kind == 2) = true then
  spec_l6Rd_pick t 2 >>= fun r =>
  some ((Json.mk 2 (r.1 == 0) [] [] []), r.2)
  else
  (if (o_.Kind == 3) = true then
  spec_l6Rd_of t [[48], [55], [45, 49, 50], [49, 50, 51, 52, 53, 54, 55], [49, 50, 51, 52, 53, 54, 55, 56], [48, 49], [45, 48]] >>= fun r1 =>
  some ((Json.mk 3 false r1.1 [] []), r1.2)
  else
  (if (o_.Kind == 4) = true then
  spec_l6Rd_of t [[97], [32], [126]] >>= fun r2 =>
  spec_l6Rd_pick r2.2 9 >>= fun r3 =>
  spec_l6Rd_pick r3.2 (w64 ((w64 ((w64 (o_.Max - o_.Min)) + 1)) + (w64 (r3.1.tdiv 8)))) >>= fun r4 =>
  spec_l6Many r2.1 (w64 (o_.Min + r4.1)) >>= fun r5 =>
  some ((Json.mk 4 false r5 [] []), r4.2)
  else
  (if (o_.Kind == 8) = true then
  spec_l6Rd_pick t (o_.Names.length : Int) >>= fun r6 =>
  rd o_.Names r6.1 >>= fun Name =>
  some ((Json.mk 4 false Name [] []), r6.2)
  else
  (if (o_.Kind == 7) = true then
  spec_l6Rd_pick t (o_.Kids.length : Int) >>= fun r7 =>
  rd o_.Kids r7.1 >>= fun Kid =>
  spec_l71Fit r7.2 Kid >>= fun r8 =>
  some ((Json.mk r8.1.Kind r8.1.Flag r8.1.Text r8.1.Names r8.1.Kids), r8.2)
  else
  spec_l6Rd_pick t 9 >>= fun r9 =>
  spec_l6Rd_pick r9.2 (w64 ((w64 ((w64 (o_.Max - o_.Min)) + 1)) + (w64 (r9.1.tdiv 8)))) >>= fun r10 =>
  spec_l71Fit_l1 o_ (w64 (o_.Min + r10.1)) r10.2.b r10.2.p ([] : List Json) >>= fun o_1 =>
  spec_l71Fit_l3 o_ 0 o_1.1 o_1.2.1 ([] : List Str) o_1.2.2 >>= fun o_4 =>
  some ((Json.mk o_.Kind false [] o_4.2.2.1 o_4.2.2.2), (L6Rd.mk o_4.1 o_4.2.1))))))))
  partial_fixpoint
def spec_l71Fit_l1 (o_ : Schema) (y_ : Int) (b : (List UInt8)) (p : Int) (out : (List Json)) : Option ((List UInt8) × Int × (List Json)) :=
  (if ((decide (0 < y_)) && (o_.Kind == 5)) = true then
  rd o_.Kids 0 >>= fun Kid1 =>
  spec_l71Fit (L6Rd.mk b p) Kid1 >>= fun r11 =>
  apd 80 out [r11.1] >>= fun out2 =>
  some (w64 (y_ - 1)) >>= fun y_1 =>
  spec_l71Fit_l1 o_ y_1 r11.2.b r11.2.p out2
  else
  some (b, p, out))
  partial_fixpoint
def spec_l71Fit_l3 (o_ : Schema) (x : Int) (b2 : (List UInt8)) (p2 : Int) (out3 : (List Str)) (out4 : (List Json)) : Option ((List UInt8) × Int × (List Str) × (List Json)) :=
  (if ((decide (x < (o_.Names.length : Int))) && (o_.Kind == 6)) = true then
  ((rd o_.Must x >>= fun e =>
  (if e = true then
  spec_l6Rd_pick (L6Rd.mk b2 p2) 20 >>= fun r12 =>
  (if (decide (0 < r12.1)) = true then
  some (true, r12.2.b, r12.2.p)
  else
  spec_l6Rd_pick r12.2 2 >>= fun r13 =>
  some ((r13.1 == 0), r13.2.b, r13.2.p))
  else
  (if false = true then
  some (true, b2, p2)
  else
  spec_l6Rd_pick (L6Rd.mk b2 p2) 2 >>= fun r14 =>
  some ((r14.1 == 0), r14.2.b, r14.2.p)))) >>= fun o_3 =>
  (if o_3.1 = true then
  rd o_.Names x >>= fun Name1 =>
  apd 16 out3 [Name1] >>= fun out9 =>
  rd o_.Kids x >>= fun Kid2 =>
  spec_l71Fit (L6Rd.mk o_3.2.1 o_3.2.2) Kid2 >>= fun r15 =>
  apd 80 out4 [r15.1] >>= fun out10 =>
  some (r15.2.b, r15.2.p, out9, out10)
  else
  some (o_3.2.1, o_3.2.2, out3, out4))) >>= fun o_2 =>
  spec_l71Fit_l3 o_ (w64 (x + 1)) o_2.1 o_2.2.1 o_2.2.2.1 o_2.2.2.2
  else
  some (b2, p2, out3, out4))
  partial_fixpoint
end
mutual
def spec_l71Schema (r : L6Rd) (deep : Int) : Option (Schema × L6Rd) :=
  spec_l6Rd_pick r 8 >>= fun r1 =>
  some (w64 (1 + r1.1)) >>= fun k_ =>
  ((if (((decide (deep < 2)) && (decide (5 ≤ k_))) && (decide (k_ ≤ 7))) = true then
  spec_l6Rd_pick r1.2 4 >>= fun r2 =>
  some (w64 (1 + r2.1)) >>= fun k_2 =>
  some (k_2, r2.2.b, r2.2.p)
  else
  some (k_, r1.2.b, r1.2.p))) >>= fun o_ =>
  ((if (o_.1 == 4) = true then
  spec_l6Rd_pick (L6Rd.mk o_.2.1 o_.2.2) 3 >>= fun r3 =>
  spec_l6Rd_pick r3.2 3 >>= fun r4 =>
  some (r3.1, (w64 (r3.1 + r4.1)), [], [], r4.2.b, r4.2.p, ([] : List Bool))
  else
  (if (o_.1 == 5) = true then
  spec_l6Rd_pick (L6Rd.mk o_.2.1 o_.2.2) 3 >>= fun r5 =>
  spec_l6Rd_pick r5.2 3 >>= fun r6 =>
  spec_l71Schema r6.2 (w64 (deep - 1)) >>= fun r7 =>
  some (r5.1, (w64 (r5.1 + r6.1)), [], [r7.1], r7.2.b, r7.2.p, ([] : List Bool))
  else
  (if (o_.1 == 6) = true then
  spec_l6Rd_pick (L6Rd.mk o_.2.1 o_.2.2) 4 >>= fun r8 =>
  spec_l71Schema_l1 deep r8.1 r8.2.b r8.2.p ([] : List Str) ([] : List Bool) ([] : List Schema) >>= fun o_2 =>
  some (0, 0, o_2.2.2.1, o_2.2.2.2.2, o_2.1, o_2.2.1, o_2.2.2.2.1)
  else
  (if (o_.1 == 7) = true then
  spec_l71Schema (L6Rd.mk o_.2.1 o_.2.2) (w64 (deep - 1)) >>= fun r11 =>
  spec_l71Schema r11.2 (w64 (deep - 1)) >>= fun r12 =>
  some (0, 0, [], [r11.1, r12.1], r12.2.b, r12.2.p, ([] : List Bool))
  else
  (if (o_.1 == 8) = true then
  spec_l6Rd_pick (L6Rd.mk o_.2.1 o_.2.2) 3 >>= fun r13 =>
  rd [[[121, 101, 115], [110, 111]], [[97, 98], [97, 98, 99], []], [[120]]] r13.1 >>= fun e1 =>
  some (0, 0, e1, [], r13.2.b, r13.2.p, ([] : List Bool))
  else
  some (0, 0, [], [], o_.2.1, o_.2.2, ([] : List Bool)))))))) >>= fun o_1 =>
  some ((Schema.mk o_.1 o_1.1 o_1.2.1 o_1.2.2.1 o_1.2.2.2.2.2.2 o_1.2.2.2.1), (L6Rd.mk o_1.2.2.2.2.1 o_1.2.2.2.2.2.1))
  partial_fixpoint
def spec_l71Schema_l1 (deep : Int) (n : Int) (b2 : (List UInt8)) (p2 : Int) (out1 : (List Str)) (out2 : (List Bool)) (out3 : (List Schema)) : Option ((List UInt8) × Int × (List Str) × (List Bool) × (List Schema)) :=
  (if (decide (0 < n)) = true then
  rd [[97], [98, 98], [99, 99, 99], [100, 100]] n >>= fun e =>
  apd 16 out1 [e] >>= fun out7 =>
  spec_l6Rd_pick (L6Rd.mk b2 p2) 2 >>= fun r9 =>
  apd 1 out2 [(r9.1 == 0)] >>= fun out8 =>
  spec_l71Schema r9.2 (w64 (deep - 1)) >>= fun r10 =>
  apd 96 out3 [r10.1] >>= fun out9 =>
  some (w64 (n - 1)) >>= fun n1 =>
  spec_l71Schema_l1 deep n1 r10.2.b r10.2.p out7 out8 out9
  else
  some (b2, p2, out1, out2, out3))
  partial_fixpoint
end
def spec_l71Json_l1 (n : Int) (Kind1 : Int) (Flag1 : Bool) (Text1 : Str) (Kids1 : (List Json)) (out2 : (List Str)) : Option (Int × Bool × Str × (List Json) × (List Str)) :=
  (if (decide (0 < n)) = true then
  some (w64 (n - 1)) >>= fun n1 =>
  spec_l71Json_l1 n1 5 false [] [(Json.mk Kind1 Flag1 Text1 out2 Kids1)] ([] : List Str)
  else
  some (Kind1, Flag1, Text1, Kids1, out2))
  partial_fixpoint
def spec_l71Json_l3 (i : Int) (out5 : (List Json)) : Option ((List Json)) :=
  (if (decide (i < (out5.length : Int))) = true then
  rd out5 i >>= fun e =>
  some (w64 (i + 1)) >>= fun i1 =>
  spec_l71Json_l3 i1 (out5.set i.toNat (Json.mk 1 e.Flag e.Text e.Names e.Kids))
  else
  some out5)
  partial_fixpoint
def spec_l71Json (r : L6Rd) : Option (Json × L6Rd) :=
  spec_l6Rd_pick r 4 >>= fun r1 =>
  spec_l71Schema r1.2 (w64 (1 + r1.1)) >>= fun r2 =>
  spec_l71Fit r2.2 r2.1 >>= fun r3 =>
  spec_l6Rd_pick r3.2 16 >>= fun r4 =>
  ((if (r4.1 == 0) = true then
  spec_l6Rd_pick r4.2 8 >>= fun r5 =>
  some (r5.1, r3.1.Flag, r3.1.Text, r3.1.Kids, r5.2.b, r5.2.p, r3.1.Names)
  else
  (if (r4.1 == 1) = true then
  spec_l6Many [121] 21 >>= fun r6 =>
  spec_l6Rd_of r4.2 [[120], [34], [10], r6, [49, 50]] >>= fun r7 =>
  some (r3.1.Kind, r3.1.Flag, r7.1, r3.1.Kids, r7.2.b, r7.2.p, r3.1.Names)
  else
  (if (r4.1 == 2) = true then
  spec_l6Rd_of r4.2 [[97], [81]] >>= fun r8 =>
  apd 16 r3.1.Names [r8.1] >>= fun out1 =>
  some (r3.1.Kind, r3.1.Flag, r3.1.Text, r3.1.Kids, r8.2.b, r8.2.p, out1)
  else
  (if (r4.1 == 3) = true then
  spec_l6Rd_pick r4.2 8 >>= fun r9 =>
  spec_l71Json_l1 r9.1 r3.1.Kind r3.1.Flag r3.1.Text r3.1.Kids r3.1.Names >>= fun o_1 =>
  some (o_1.1, o_1.2.1, o_1.2.2.1, o_1.2.2.2.1, r9.2.b, r9.2.p, o_1.2.2.2.2)
  else
  (if (r4.1 == 4) = true then
  spec_l6Rd_pick r4.2 6 >>= fun r10 =>
  mkl 80 (w64 (36 + r10.1)) ((Json.mk 0 false [] [] []) : Json) >>= fun out4 =>
  spec_l71Json_l3 0 out4 >>= fun o_2 =>
  some (5, false, [], o_2, r10.2.b, r10.2.p, ([] : List Str))
  else
  some (r3.1.Kind, r3.1.Flag, r3.1.Text, r3.1.Kids, r4.2.b, r4.2.p, r3.1.Names))))))) >>= fun o_ =>
  some ((Json.mk o_.1 o_.2.1 o_.2.2.1 o_.2.2.2.2.2.2 o_.2.2.2.1), (L6Rd.mk o_.2.2.2.2.1 o_.2.2.2.2.2.1))
def spec_DrawJsonRead (code : (List UInt8)) : Option (Str) :=
  spec_l6Open code >>= fun r =>
  spec_l71Json r >>= fun r1 =>
  spec_JsonWrite r1.1 >>= fun r2 =>
  spec_l6Rd_pick r1.2 2 >>= fun r3 =>
  (if ((r3.1 == 0) || ((r2.length : Int) == 0)) = true then
  some r2
  else
  spec_l6Rd_pick r3.2 (r2.length : Int) >>= fun r4 =>
  spec_l6Rd_pick r4.2 4 >>= fun r5 =>
  (if (r5.1 == 0) = true then
  cut r2 0 r4.1 >>= fun s =>
  cut r2 (w64 (r4.1 + 1)) (r2.length : Int) >>= fun s1 =>
  cat s s1 >>= fun s2 =>
  some s2
  else
  (if (r5.1 == 1) = true then
  cut r2 0 r4.1 >>= fun s3 =>
  spec_l6Rd_of r5.2 [[32], [44], [93], [125], [48], [45], [34], [110, 117, 108, 108], [58]] >>= fun r6 =>
  cat s3 r6.1 >>= fun s4 =>
  cut r2 r4.1 (r2.length : Int) >>= fun s5 =>
  cat s4 s5 >>= fun s6 =>
  some s6
  else
  (if (r5.1 == 2) = true then
  cat r2 r2 >>= fun s7 =>
  some s7
  else
  cut r2 0 r4.1 >>= fun s8 =>
  some s8))))
def spec_l1Fits (text : Str) (p : Str) : Option (Bool) :=
  (if (decide ((p.length : Int) ≤ (text.length : Int))) = true then
  cut text 0 (p.length : Int) >>= fun s =>
  some (s == p)
  else
  some false) >>= fun b =>
  some b
def spec_l31Rd_take (r : L31Rd) (s : Str) : Option (Bool × L31Rd) :=
  ((if (!r.ok) = true then
  some true
  else
  cut r.s r.at_ (r.s.length : Int) >>= fun s1 =>
  spec_l1Fits s1 s >>= fun r1 =>
  some (!r1))) >>= fun o_ =>
  (if o_ = true then
  some (false, r)
  else
  some (true, (L31Rd.mk r.s (w64 (r.at_ + (s.length : Int))) r.ok)))
def spec_l31Rd_quote_l0 (r1 : Bool × L31Rd) (at_ : Int) : Option (Int) :=
  ((if (decide (at_ < (r1.2.s.length : Int))) = true then
  rd r1.2.s at_ >>= fun c =>
  some ((c.toNat : Int) != 34)
  else
  some false)) >>= fun o_ =>
  (if o_ = true then
  spec_l31Rd_quote_l0 r1 (w64 (at_ + 1))
  else
  some at_)
  partial_fixpoint
def spec_l31Rd_quote (r : L31Rd) : Option (Str × L31Rd) :=
  spec_l31Rd_take r [34] >>= fun r1 =>
  (if (!r1.1) = true then
  some ([], (L31Rd.mk r1.2.s r1.2.at_ false))
  else
  spec_l31Rd_quote_l0 r1 r1.2.at_ >>= fun o_1 =>
  cut r1.2.s r1.2.at_ o_1 >>= fun s =>
  spec_l31Rd_take (L31Rd.mk r1.2.s o_1 r1.2.ok) [34] >>= fun r2 =>
  ((if (!r2.1) = true then
  some false
  else
  some r2.2.ok)) >>= fun o_2 =>
  some (s, (L31Rd.mk r2.2.s r2.2.at_ o_2)))
def spec_l31Rd_number_l0 (r : L31Rd) (at_ : Int) : Option (Int) :=
  ((if (decide (at_ < (r.s.length : Int))) = true then
  rd r.s at_ >>= fun c =>
  (if ((c.toNat : Int) == 45) = true then
  some true
  else
  (if (decide (48 ≤ (c.toNat : Int))) = true then
  some (decide ((c.toNat : Int) ≤ 57))
  else
  some false))
  else
  some false)) >>= fun o_ =>
  (if o_ = true then
  spec_l31Rd_number_l0 r (w64 (at_ + 1))
  else
  some at_)
  partial_fixpoint
def spec_l31Rd_number (r : L31Rd) : Option (Str × L31Rd) :=
  spec_l31Rd_number_l0 r r.at_ >>= fun o_1 =>
  cut r.s r.at_ o_1 >>= fun s =>
  some (s, (L31Rd.mk r.s o_1 r.ok))
mutual
def spec_l31Rd_value (r : L31Rd) (deep : Int) : Option (Json × L31Rd) :=
  ((if (decide (deep < 1)) = true then
  some false
  else
  some r.ok)) >>= fun o_ =>
  ((if (!o_) = true then
  some true
  else
  some (decide ((r.s.length : Int) ≤ r.at_)))) >>= fun o_1 =>
  (if o_1 = true then
  some ((Json.mk 0 false [] [] []), (L31Rd.mk r.s r.at_ false))
  else
  spec_l31Rd_take (L31Rd.mk r.s r.at_ o_) [110, 117, 108, 108] >>= fun r1 =>
  (if r1.1 = true then
  some ((Json.mk 1 false [] [] []), r1.2)
  else
  spec_l31Rd_take r1.2 [116, 114, 117, 101] >>= fun r2 =>
  (if r2.1 = true then
  some ((Json.mk 2 true [] [] []), r2.2)
  else
  spec_l31Rd_take r2.2 [102, 97, 108, 115, 101] >>= fun r3 =>
  (if r3.1 = true then
  some ((Json.mk 2 false [] [] []), r3.2)
  else
  rd r3.2.s r3.2.at_ >>= fun c =>
  (if ((c.toNat : Int) == 34) = true then
  spec_l31Rd_quote r3.2 >>= fun r4 =>
  some ((Json.mk 4 false r4.1 [] []), r4.2)
  else
  spec_l31Rd_take r3.2 [91] >>= fun r5 =>
  (if r5.1 = true then
  spec_l31Rd_kids r5.2 (Json.mk 5 false [] [] []) [93] deep >>= fun r6 =>
  some (r6.1, r6.2)
  else
  spec_l31Rd_take r5.2 [123] >>= fun r7 =>
  (if r7.1 = true then
  spec_l31Rd_kids r7.2 (Json.mk 6 false [] [] []) [125] deep >>= fun r8 =>
  some (r8.1, r8.2)
  else
  spec_l31Rd_number r7.2 >>= fun r9 =>
  some ((Json.mk 3 false r9.1 [] []), r9.2))))))))
  partial_fixpoint
def spec_l31Rd_kids (r : L31Rd) (j : Json) (end_ : Str) (deep : Int) : Option (Json × L31Rd) :=
  spec_l31Rd_take r end_ >>= fun r1 =>
  (if r1.1 = true then
  some ((Json.mk j.Kind j.Flag j.Text [] []), r1.2)
  else
  spec_l31Rd_kids_l0 j end_ deep r1.2.s r1.2.at_ r1.2.ok ([] : List Str) ([] : List Json) >>= fun o_1 =>
  (match o_1 with
   | .inl v => some ((Json.mk j.Kind j.Flag j.Text v.2.2.2.1 v.2.2.2.2), (L31Rd.mk v.1 v.2.1 false))
   | .inr r7 => some r7))
  partial_fixpoint
def spec_l31Rd_kids_l0 (j : Json) (end_ : Str) (deep : Int) (s : Str) (at_ : Int) (ok : Bool) (out : (List Str)) (out1 : (List Json)) : Option ((Str × Int × Bool × (List Str) × (List Json)) ⊕ (Json × L31Rd)) :=
  (if (ok && (decide ((out1.length : Int) < 40))) = true then
  ((if (j.Kind == 6) = true then
  spec_l31Rd_quote (L31Rd.mk s at_ ok) >>= fun r2 =>
  apd 16 out [r2.1] >>= fun out5 =>
  spec_l31Rd_take r2.2 [58] >>= fun r3 =>
  some (r3.2.s, r3.2.at_, r3.1, out5)
  else
  some (s, at_, ok, out))) >>= fun o_ =>
  spec_l31Rd_value (L31Rd.mk o_.1 o_.2.1 o_.2.2.1) (w64 (deep - 1)) >>= fun r4 =>
  apd 80 out1 [r4.1] >>= fun out6 =>
  spec_l31Rd_take r4.2 end_ >>= fun r5 =>
  (if r5.1 = true then
  some (.inr ((Json.mk j.Kind j.Flag j.Text o_.2.2.2 out6), r5.2))
  else
  spec_l31Rd_take r5.2 [44] >>= fun r6 =>
  spec_l31Rd_kids_l0 j end_ deep r6.2.s r6.2.at_ r6.1 o_.2.2.2 out6)
  else
  some (.inl (s, at_, ok, out, out1)))
  partial_fixpoint
end
def spec_JsonRead (text : Str) : Option (Json × Bool) :=
  (if (decide (300 < (text.length : Int))) = true then
  some ((Json.mk 0 false [] [] []), false)
  else
  spec_l31Rd_value (L31Rd.mk text 0 true) 5 >>= fun r =>
  (if ((!r.2.ok) || (r.2.at_ != (text.length : Int))) = true then
  some true
  else
  spec_JsonWrite r.1 >>= fun r1 =>
  some (!(r1 == text))) >>= fun b =>
  (if (b || (text == [])) = true then
  some ((Json.mk 0 false [] [] []), false)
  else
  some (r.1, true)))
def internal_stringslite_HasPrefix (s : Str) (prefix_ : Str) : Option (Bool) :=
  (if (decide ((prefix_.length : Int) ≤ (s.length : Int))) = true then
  cut s 0 (prefix_.length : Int) >>= fun s1 =>
  some (s1 == prefix_)
  else
  some false) >>= fun b =>
  some b
def internal_stringslite_TrimPrefix (s : Str) (prefix_ : Str) : Option (Str) :=
  internal_stringslite_HasPrefix s prefix_ >>= fun r =>
  (if r = true then
  cut s (prefix_.length : Int) (s.length : Int) >>= fun s1 =>
  some s1
  else
  some s)
def strings_TrimPrefix (s : Str) (prefix_ : Str) : Option (Str) :=
  internal_stringslite_TrimPrefix s prefix_ >>= fun r =>
  some r
def impl_within (n : Int) (low : Int) (high : Int) : Option (Bool) :=
  some ((decide (low ≤ n)) && (decide (n ≤ high)))
def internal_bytealg_Cutover (n : Int) : Option (Int) :=
  some (w64 ((w64 (n + 16)).tdiv 8))
def impl_numOk (s : Str) : Option (Bool) :=
  (if (s == [48]) = true then
  some true
  else
  strings_TrimPrefix s [45] >>= fun r =>
  impl_within (r.length : Int) 1 7 >>= fun r1 =>
  (if r1 = true then
  rd r 0 >>= fun c =>
  some ((c.toNat : Int) != 48)
  else
  some false) >>= fun b =>
  (if b = true then
  strings_Trim r [48, 49, 50, 51, 52, 53, 54, 55, 56, 57] >>= fun r2 =>
  some (r2 == [])
  else
  some false) >>= fun b1 =>
  some b1)
def impl_textOk_l0 (s : Str) (x : Int) : Option ((Unit) ⊕ (Bool)) :=
  (if (decide (x < (s.length : Int))) = true then
  rd s x >>= fun c =>
  (if ((((decide ((c.toNat : Int) < 32)) || (decide (126 < (c.toNat : Int)))) || ((c.toNat : Int) == 34)) || ((c.toNat : Int) == 92)) = true then
  some (.inr false)
  else
  impl_textOk_l0 s (w64 (x + 1)))
  else
  some (.inl ()))
  partial_fixpoint
def impl_textOk (s : Str) (most : Int) : Option (Bool) :=
  impl_textOk_l0 s 0 >>= fun o_ =>
  (match o_ with
   | .inl v => some (decide ((s.length : Int) ≤ most))
   | .inr r => some r)
def impl_nameOk_l0 (s : Str) (x : Int) : Option ((Unit) ⊕ (Bool)) :=
  (if (decide (x < (s.length : Int))) = true then
  rd s x >>= fun c =>
  (if ((decide ((c.toNat : Int) < 97)) || (decide (122 < (c.toNat : Int)))) = true then
  some (.inr false)
  else
  impl_nameOk_l0 s (w64 (x + 1)))
  else
  some (.inl ()))
  partial_fixpoint
def impl_nameOk (s : Str) : Option (Bool) :=
  impl_nameOk_l0 s 0 >>= fun o_ =>
  (match o_ with
   | .inl v => impl_within (s.length : Int) 1 8 >>= fun r1 =>
  some r1
   | .inr r => some r)
def slices_Index_l0 (s : (List Str)) (v : Str) (x : Int) : Option ((Unit) ⊕ (Int)) :=
  (if (decide (x < (s.length : Int))) = true then
  rd s x >>= fun e =>
  (if (v == e) = true then
  some (.inr x)
  else
  slices_Index_l0 s v (w64 (x + 1)))
  else
  some (.inl ()))
  partial_fixpoint
def slices_Index (s : (List Str)) (v : Str) : Option (Int) :=
  slices_Index_l0 s v 0 >>= fun o_ =>
  (match o_ with
   | .inl v1 => some (-1)
   | .inr r => some r)
def slices_Contains (s : (List Str)) (v : Str) : Option (Bool) :=
  slices_Index s v >>= fun r =>
  some (decide (0 ≤ r))
def impl_namesOk_l0 (list : (List Str)) (x : Int) : Option ((Unit) ⊕ (Bool)) :=
  (if (decide (x < (list.length : Int))) = true then
  rd list x >>= fun e =>
  impl_nameOk e >>= fun r =>
  (if (!r) = true then
  some true
  else
  cut list 0 x >>= fun l =>
  slices_Contains l e >>= fun r1 =>
  some r1) >>= fun b =>
  (if b = true then
  some (.inr false)
  else
  impl_namesOk_l0 list (w64 (x + 1)))
  else
  some (.inl ()))
  partial_fixpoint
def impl_namesOk (list : (List Str)) : Option (Bool) :=
  impl_namesOk_l0 list 0 >>= fun o_ =>
  (match o_ with
   | .inl v => some true
   | .inr r2 => some r2)
mutual
def impl_Json_formed (t : Json) (o_ : Int) (A : Int) : Option (Bool × Int) :=
  (if ((decide ((w64 (A - 1)) < 0)) || (decide (5 < o_))) = true then
  some (false, (w64 (A - 1)))
  else
  ((if (t.Kind == 1) = true then
  some (((!t.Flag) && (t.Text == [])) && (((t.Names.length : Int) == 0) && ((t.Kids.length : Int) == 0)))
  else
  (if (t.Kind == 2) = true then
  some ((t.Text == []) && (((t.Names.length : Int) == 0) && ((t.Kids.length : Int) == 0)))
  else
  (if (t.Kind == 3) = true then
  (if ((!t.Flag) && (((t.Names.length : Int) == 0) && ((t.Kids.length : Int) == 0))) = true then
  impl_numOk t.Text >>= fun r =>
  some r
  else
  some false) >>= fun b =>
  some b
  else
  (if (t.Kind == 4) = true then
  (if ((!t.Flag) && (((t.Names.length : Int) == 0) && ((t.Kids.length : Int) == 0))) = true then
  impl_textOk t.Text 20 >>= fun r1 =>
  some r1
  else
  some false) >>= fun b1 =>
  some b1
  else
  (if (t.Kind == 5) = true then
  some (((!t.Flag) && (t.Text == [])) && ((t.Names.length : Int) == 0))
  else
  (if (t.Kind == 6) = true then
  (if (((!t.Flag) && (t.Text == [])) && ((t.Names.length : Int) == (t.Kids.length : Int))) = true then
  impl_namesOk t.Names >>= fun r2 =>
  some r2
  else
  some false) >>= fun b2 =>
  some b2
  else
  some false))))))) >>= fun o_1 =>
  impl_Json_formed_l1 t o_ o_1 0 (w64 (A - 1)) >>= fun o_2 =>
  some (o_2.1, o_2.2))
  partial_fixpoint
def impl_Json_formed_l1 (t : Json) (o_ : Int) (x1 : Bool) (x2 : Int) (A1 : Int) : Option (Bool × Int) :=
  (if ((decide (x2 < (t.Kids.length : Int))) && x1) = true then
  rd t.Kids x2 >>= fun Kid =>
  impl_Json_formed Kid (w64 (o_ + 1)) A1 >>= fun r3 =>
  impl_Json_formed_l1 t o_ r3.1 (w64 (x2 + 1)) r3.2
  else
  some (x1, A1))
  partial_fixpoint
end
mutual
def impl_Json_write (j : Json) : Option (Str) :=
  impl_Json_write_l0 j 0 ([] : List Str) >>= fun o_1 =>
  (if (j.Kind == 1) = true then
  some [110, 117, 108, 108]
  else
  (if (j.Kind == 2) = true then
  (if j.Flag = true then
  some [116, 114, 117, 101]
  else
  some [102, 97, 108, 115, 101])
  else
  (if (j.Kind == 3) = true then
  some j.Text
  else
  (if (j.Kind == 4) = true then
  cat [34] j.Text >>= fun s4 =>
  cat s4 [34] >>= fun s5 =>
  some s5
  else
  (if (j.Kind == 5) = true then
  strings_Join o_1 [44] >>= fun r1 =>
  cat [91] r1 >>= fun s6 =>
  cat s6 [93] >>= fun s7 =>
  some s7
  else
  strings_Join o_1 [44] >>= fun r2 =>
  cat [123] r2 >>= fun s8 =>
  cat s8 [125] >>= fun s9 =>
  some s9)))))
  partial_fixpoint
def impl_Json_write_l0 (j : Json) (x : Int) (out : (List Str)) : Option ((List Str)) :=
  (if (decide (x < (j.Kids.length : Int))) = true then
  rd j.Kids x >>= fun Kid =>
  impl_Json_write Kid >>= fun r =>
  ((if (j.Kind == 6) = true then
  rd j.Names x >>= fun Name =>
  cat [34] Name >>= fun s1 =>
  cat s1 [34, 58] >>= fun s2 =>
  cat s2 r >>= fun s3 =>
  some s3
  else
  some r)) >>= fun o_ =>
  apd 16 out [o_] >>= fun out2 =>
  impl_Json_write_l0 j (w64 (x + 1)) out2
  else
  some out)
  partial_fixpoint
end
def impl_JsonOk (j : Json) : Option (Bool) :=
  impl_Json_formed j 1 40 >>= fun r =>
  (if r.1 = true then
  impl_Json_write j >>= fun r1 =>
  some (decide ((r1.length : Int) ≤ 300))
  else
  some false) >>= fun b =>
  some b
def impl_JsonWrite (j : Json) : Option (Str) :=
  impl_JsonOk j >>= fun r =>
  (if (!r) = true then
  some []
  else
  impl_Json_write j >>= fun r1 =>
  some r1)
def strings_HasPrefix (s : Str) (prefix_ : Str) : Option (Bool) :=
  internal_stringslite_HasPrefix s prefix_ >>= fun r =>
  some r
def impl_jsonReader_skip (r : JsonReader) (s : Str) : Option (Bool × JsonReader) :=
  cut r.s r.at_ (r.s.length : Int) >>= fun s1 =>
  strings_HasPrefix s1 s >>= fun r1 =>
  (if r1 = true then
  some (true, (JsonReader.mk r.s (w64 (r.at_ + (s.length : Int)))))
  else
  some (false, r))
def impl_jsonReader_upTo_l0 (r : JsonReader) (ends : Str) (at_ : Int) : Option (Int) :=
  ((if (decide (at_ < (r.s.length : Int))) = true then
  rd r.s at_ >>= fun c =>
  strings_IndexByte ends c >>= fun r1 =>
  some (decide (r1 < 0))
  else
  some false)) >>= fun o_ =>
  (if o_ = true then
  impl_jsonReader_upTo_l0 r ends (w64 (at_ + 1))
  else
  some at_)
  partial_fixpoint
def impl_jsonReader_upTo (r : JsonReader) (ends : Str) : Option (Str × JsonReader) :=
  impl_jsonReader_upTo_l0 r ends r.at_ >>= fun o_1 =>
  cut r.s r.at_ o_1 >>= fun s =>
  some (s, (JsonReader.mk r.s o_1))
def impl_jsonReader_text (r : JsonReader) : Option (Str × JsonReader) :=
  impl_jsonReader_upTo r [34] >>= fun r1 =>
  impl_jsonReader_skip r1.2 [34] >>= fun r2 =>
  some (r1.1, r2.2)
mutual
def impl_jsonReader_value (r : JsonReader) (deep : Int) : Option (Json × JsonReader) :=
  (if (decide (5 < deep)) = true then
  some ((Json.mk 0 false [] [] []), r)
  else
  impl_jsonReader_skip r [110, 117, 108, 108] >>= fun r1 =>
  (if r1.1 = true then
  some ((Json.mk 1 false [] [] []), r1.2)
  else
  impl_jsonReader_skip r1.2 [116, 114, 117, 101] >>= fun r2 =>
  (if r2.1 = true then
  some ((Json.mk 2 true [] [] []), r2.2)
  else
  impl_jsonReader_skip r2.2 [102, 97, 108, 115, 101] >>= fun r3 =>
  (if r3.1 = true then
  some ((Json.mk 2 false [] [] []), r3.2)
  else
  impl_jsonReader_skip r3.2 [34] >>= fun r4 =>
  (if r4.1 = true then
  impl_jsonReader_text r4.2 >>= fun r5 =>
  some ((Json.mk 4 false r5.1 [] []), r5.2)
  else
  impl_jsonReader_skip r4.2 [91] >>= fun r6 =>
  (if r6.1 = true then
  impl_jsonReader_skip r6.2 [93] >>= fun r7 =>
  (if r7.1 = true then
  some ((Json.mk 5 false [] [] ([] : List Json)), r7.2)
  else
  impl_jsonReader_value_l1 deep r7.2.s r7.2.at_ ([] : List Json) >>= fun o_ =>
  impl_jsonReader_skip (JsonReader.mk o_.1 o_.2.1) [93] >>= fun r10 =>
  some ((Json.mk 5 false [] [] o_.2.2), r10.2))
  else
  impl_jsonReader_skip r6.2 [123] >>= fun r11 =>
  (if r11.1 = true then
  impl_jsonReader_skip r11.2 [125] >>= fun r12 =>
  (if r12.1 = true then
  some ((Json.mk 6 false [] ([] : List Str) ([] : List Json)), r12.2)
  else
  impl_jsonReader_value_l3 deep r12.2.s r12.2.at_ ([] : List Str) ([] : List Json) >>= fun o_1 =>
  impl_jsonReader_skip (JsonReader.mk o_1.1 o_1.2.1) [125] >>= fun r18 =>
  some ((Json.mk 6 false [] o_1.2.2.1 o_1.2.2.2), r18.2))
  else
  impl_jsonReader_upTo r11.2 [44, 93, 125] >>= fun r19 =>
  some ((Json.mk 3 false r19.1 [] []), r19.2))))))))
  partial_fixpoint
def impl_jsonReader_value_l1 (deep : Int) (s : Str) (at_ : Int) (out : (List Json)) : Option (Str × Int × (List Json)) :=
  (if (decide ((out.length : Int) ≤ 40)) = true then
  impl_jsonReader_value (JsonReader.mk s at_) (w64 (deep + 1)) >>= fun r8 =>
  apd 80 out [r8.1] >>= fun out2 =>
  impl_jsonReader_skip r8.2 [44] >>= fun r9 =>
  (if (!r9.1) = true then
  some (r9.2.s, r9.2.at_, out2)
  else
  impl_jsonReader_value_l1 deep r9.2.s r9.2.at_ out2)
  else
  some (s, at_, out))
  partial_fixpoint
def impl_jsonReader_value_l3 (deep : Int) (s2 : Str) (at_2 : Int) (out3 : (List Str)) (out4 : (List Json)) : Option (Str × Int × (List Str) × (List Json)) :=
  (if (decide ((out4.length : Int) ≤ 40)) = true then
  impl_jsonReader_skip (JsonReader.mk s2 at_2) [34] >>= fun r13 =>
  impl_jsonReader_text r13.2 >>= fun r14 =>
  apd 16 out3 [r14.1] >>= fun out7 =>
  impl_jsonReader_skip r14.2 [58] >>= fun r15 =>
  impl_jsonReader_value r15.2 (w64 (deep + 1)) >>= fun r16 =>
  apd 80 out4 [r16.1] >>= fun out8 =>
  impl_jsonReader_skip r16.2 [44] >>= fun r17 =>
  (if (!r17.1) = true then
  some (r17.2.s, r17.2.at_, out7, out8)
  else
  impl_jsonReader_value_l3 deep r17.2.s r17.2.at_ out7 out8)
  else
  some (s2, at_2, out3, out4))
  partial_fixpoint
end
def impl_JsonRead (text : Str) : Option (Json × Bool) :=
  (if ((text == []) || (decide (300 < (text.length : Int)))) = true then
  some ((Json.mk 0 false [] [] []), false)
  else
  impl_jsonReader_value (JsonReader.mk text 0) 1 >>= fun r =>
  impl_JsonWrite r.1 >>= fun r1 =>
  (if (!(r1 == text)) = true then
  some ((Json.mk 0 false [] [] []), false)
  else
  some (r.1, true)))
def laws_lfTexts_l0 (a : (List Str)) (b : (List Str)) (i : Int) : Option ((Unit) ⊕ (Bool)) :=
  (if (decide (i < (a.length : Int))) = true then
  rd a i >>= fun e =>
  rd b i >>= fun e1 =>
  (if (!(e == e1)) = true then
  some (.inr false)
  else
  some (w64 (i + 1)) >>= fun i1 =>
  laws_lfTexts_l0 a b i1)
  else
  some (.inl ()))
  partial_fixpoint
def laws_lfTexts (a : (List Str)) (b : (List Str)) : Option (Bool) :=
  (if ((a.length : Int) != (b.length : Int)) = true then
  some false
  else
  laws_lfTexts_l0 a b 0 >>= fun o_ =>
  (match o_ with
   | .inl v => some true
   | .inr r => some r))
mutual
def laws_lfJson (a : Json) (b : Json) : Option (Bool) :=
  (if (((a.Kind != b.Kind) || (a.Flag != b.Flag)) || (!(a.Text == b.Text))) = true then
  some true
  else
  laws_lfTexts a.Names b.Names >>= fun r =>
  some (!r)) >>= fun b1 =>
  (if (b1 || ((a.Kids.length : Int) != (b.Kids.length : Int))) = true then
  some false
  else
  laws_lfJson_l0 a b 0 >>= fun o_ =>
  (match o_ with
   | .inl v => some true
   | .inr r2 => some r2))
  partial_fixpoint
def laws_lfJson_l0 (a : Json) (b : Json) (i : Int) : Option ((Unit) ⊕ (Bool)) :=
  (if (decide (i < (a.Kids.length : Int))) = true then
  rd a.Kids i >>= fun Kid =>
  rd b.Kids i >>= fun Kid1 =>
  laws_lfJson Kid Kid1 >>= fun r1 =>
  (if (!r1) = true then
  some (.inr false)
  else
  some (w64 (i + 1)) >>= fun i1 =>
  laws_lfJson_l0 a b i1)
  else
  some (.inl ()))
  partial_fixpoint
end
def laws_FnJsonStrict (code : (List UInt8)) : Option (Bool) :=
  (if (decide (1048576 < (code.length : Int))) = true then
  some true
  else
  spec_DrawJsonRead code >>= fun r =>
  spec_JsonRead r >>= fun r1 =>
  impl_JsonRead r >>= fun r2 =>
  (if (r2.2 != r1.2) = true then
  some true
  else
  laws_lfJson r2.1 r1.1 >>= fun r3 =>
  some (!r3)) >>= fun b =>
  (if b = true then
  some false
  else
  (if ((!r2.2) && (r2.1.Kind == 0)) = true then
  some true
  else
  (if r2.2 = true then
  impl_JsonOk r2.1 >>= fun r4 =>
  some r4
  else
  some false) >>= fun b2 =>
  (if b2 = true then
  impl_JsonWrite r2.1 >>= fun r5 =>
  some (r5 == r)
  else
  some false) >>= fun b3 =>
  some b3) >>= fun b1 =>
  some b1))

def spec_l31Write.mpc := @spec_l31Write.mutual_partial_correctness




def spec_l31Deep.mpc := @spec_l31Deep.mutual_partial_correctness
def spec_l31Size.mpc := @spec_l31Size.mutual_partial_correctness





def spec_l71Fit.mpc := @spec_l71Fit.mutual_partial_correctness
def spec_l71Schema.mpc := @spec_l71Schema.mutual_partial_correctness






def spec_l31Rd_value.mpc := @spec_l31Rd_value.mutual_partial_correctness












def impl_Json_formed.mpc := @impl_Json_formed.mutual_partial_correctness
def impl_Json_write.mpc := @impl_Json_write.mutual_partial_correctness






def impl_jsonReader_value.mpc := @impl_jsonReader_value.mutual_partial_correctness


def laws_lfJson.mpc := @laws_lfJson.mutual_partial_correctness

end Fw
