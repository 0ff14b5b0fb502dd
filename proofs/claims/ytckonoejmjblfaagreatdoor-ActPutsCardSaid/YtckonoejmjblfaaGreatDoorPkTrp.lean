/- Layers 8 and 9: acts and transitions: how they are read, in plain words. -/
import Derived.Test.YtckonoejmjblfaaGreatDoorPkActA
import Derived.Test.YtckonoejmjblfaaGreatDoorPkExpD
set_option linter.unusedVariables false
set_option linter.unusedSimpArgs false
namespace Go.Proofs.YtckonoejmjblfaaGreatDoor.Ev
open Go Go.RowKit
structure Tn where
  event : List UInt8
  guard : List Tm
  acts : List Ac
  target : List UInt8
def tn0 : Tn := ⟨[], [], [], []⟩
abbrev bAuto : List UInt8 := [97, 117, 116, 111]
abbrev bOn : List UInt8 := [111, 110]
abbrev bTo : List UInt8 := [45, 62]
/-! Reading. -/
def oneP (c : Cu) : Cu × Ac :=
  if c.is 1 bAny then (c.on.name.1, ⟨c.on.name.2, true, []⟩)
  else ((readP (c.name.1.want 3 bGets)).1, ⟨c.name.2, false, (readP (c.name.1.want 3 bGets)).2⟩)
def actsP : Nat → Cu → List Ac → Cu × List Ac
  | 0, c, l => (c, l)
  | n + 1, c, l => if c.is 3 [44] then
      let d := if l.length = 8 then c.on.fail 8 else c.on
      actsP n (oneP d).1 (l ++ [(oneP d).2])
    else (c, l)
def readA (c : Cu) : Cu × List Ac :=
  let x := actsP (c.r.length + 1) (oneP c).1 [(oneP c).2]
  (x.1, if x.1.e = 0 then x.2 else [])
def tE (c : Cu) : Cu × List UInt8 := if c.is 1 bAuto then (c.on, []) else (c.want 1 bOn).name
def tG (c : Cu) : Cu × List Tm := if c.is 3 [91] then ((readP c.on).1.want 3 [93], (readP c.on).2) else (c, [])
def tA (c : Cu) : Cu × List Ac := if c.is 3 [47] then readA c.on else (c, [])
def tT (c : Cu) : Cu × List UInt8 := if c.is 3 bTo then c.on.name else (c, [])
def readT (c : Cu) : Cu × Tn :=
  let a := tE c
  let b := tG a.1
  let d := tA b.1
  let f := tT d.1
  let g := f.1.want 3 [59]
  (g, if g.e = 0 then ⟨a.2, b.2, d.2, f.2⟩ else tn0)
/-! Transitions. -/
def Tn.w (t : Tn) : C := .agg [.d (.str t.event), .d (.sl (t.guard.map Tm.c)), .d (.sl (t.acts.map Ac.c)), .d (.str t.target)]
structure Tn.Ok (t : Tn) : Prop where
  event : t.event.length ≤ 9223372036854775807
  target : t.target.length ≤ 9223372036854775807
  len : t.guard.length ≤ 9223372036854775807
  names : ∀ u ∈ t.guard, u.name.length ≤ 9223372036854775807
  alen : t.acts.length ≤ 9223372036854775807
  acts : ∀ a ∈ t.acts, a.Ok
end Go.Proofs.YtckonoejmjblfaaGreatDoor.Ev
