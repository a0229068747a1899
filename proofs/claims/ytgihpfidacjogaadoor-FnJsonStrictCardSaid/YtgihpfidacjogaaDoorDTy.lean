/- A text of the proof of FnJsonStrict: DTy. -/
import Derived.Test.YtgihpfidacjogaaDoorSlU
set_option linter.unusedVariables false
set_option linter.unusedSimpArgs false
namespace Fw
open Go Go.SL
abbrev Str := List UInt8
structure L6Rd where
  b : (List UInt8)
  p : Int
def L6Rd.c (x : L6Rd) : List FV := [fL 1 eU x.b, fI x.p]
theorem L6Rd.c_eq (x : L6Rd) : x.c = [fL 1 eU x.b, fI x.p] := rfl
theorem L6Rd.c_len (x : L6Rd) : x.c.length = 2 := by rw [L6Rd.c_eq]; rfl
structure Json where
  Kind : Int
  Flag : Bool
  Text : Str
  Names : (List Str)
  Kids : (List Json)
mutual
def Json.c : Json → List FV
  | ⟨x0, x1, x2, x3, x4⟩ => [fI x0, fB x1, fS x2, fL 1 eS x3, .ls 5 (Json.cL x4)]
def Json.cL : List Json → List (List FV)
  | [] => []
  | x :: l => Json.c x :: Json.cL l
end
theorem Json.cL_eq : ∀ l, Json.cL l = l.map Json.c
  | [] => rfl
  | x :: l => by rw [Json.cL, Json.cL_eq l]; rfl
theorem Json.c_eq (x : Json) : x.c = [fI x.Kind, fB x.Flag, fS x.Text, fL 1 eS x.Names, fL 5 Json.c x.Kids] := by cases x; simp only [Json.c, Json.cL_eq]
theorem Json.c_len (x : Json) : x.c.length = 5 := by rw [Json.c_eq]; rfl
structure Schema where
  Kind : Int
  Min : Int
  Max : Int
  Names : (List Str)
  Must : (List Bool)
  Kids : (List Schema)
mutual
def Schema.c : Schema → List FV
  | ⟨x0, x1, x2, x3, x4, x5⟩ => [fI x0, fI x1, fI x2, fL 1 eS x3, fL 1 eB x4, .ls 6 (Schema.cL x5)]
def Schema.cL : List Schema → List (List FV)
  | [] => []
  | x :: l => Schema.c x :: Schema.cL l
end
theorem Schema.cL_eq : ∀ l, Schema.cL l = l.map Schema.c
  | [] => rfl
  | x :: l => by rw [Schema.cL, Schema.cL_eq l]; rfl
theorem Schema.c_eq (x : Schema) : x.c = [fI x.Kind, fI x.Min, fI x.Max, fL 1 eS x.Names, fL 1 eB x.Must, fL 6 Schema.c x.Kids] := by cases x; simp only [Schema.c, Schema.cL_eq]
theorem Schema.c_len (x : Schema) : x.c.length = 6 := by rw [Schema.c_eq]; rfl
structure L31Rd where
  s : Str
  at_ : Int
  ok : Bool
def L31Rd.c (x : L31Rd) : List FV := [fS x.s, fI x.at_, fB x.ok]
theorem L31Rd.c_eq (x : L31Rd) : x.c = [fS x.s, fI x.at_, fB x.ok] := rfl
theorem L31Rd.c_len (x : L31Rd) : x.c.length = 3 := by rw [L31Rd.c_eq]; rfl
structure JsonReader where
  s : Str
  at_ : Int
def JsonReader.c (x : JsonReader) : List FV := [fS x.s, fI x.at_]
theorem JsonReader.c_eq (x : JsonReader) : x.c = [fS x.s, fI x.at_] := rfl
theorem JsonReader.c_len (x : JsonReader) : x.c.length = 2 := by rw [JsonReader.c_eq]; rfl
end Fw
