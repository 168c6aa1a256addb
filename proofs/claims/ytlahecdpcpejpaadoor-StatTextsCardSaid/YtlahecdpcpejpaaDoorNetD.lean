/-
  PLAIN: netlists (api.Net) as data.
-/
import Derived.Lib.Hide
namespace Go.Proofs.YtlahecdpcpejpaaDoor
set_option linter.unusedVariables false
abbrev RdD := Int × List Int
abbrev WrD := Int × List Int × List Int
structure MemD where
  addr : Int
  word : Int
  any : Bool
  rd : List RdD
  wr : List WrD
abbrev Tri := Int × Int × Int
structure NetD where
  vars : Int
  inp : List Int
  lat : List Tri
  out : List Int
  bad : List Int
  con : List Int
  mems : List MemD
  ands : List Tri
def rd0 : RdD := (0, [])
def wr0 : WrD := (0, [], [])
def mem0 : MemD := ⟨0, 0, false, [], []⟩
def tri0 : Tri := (0, 0, 0)
/-- The variables of a port's data. -/
def dataM (v word : Int) : List Int := (List.range word.toNat).map fun (i : Nat) => v + (i : Int)
def memDef (m : MemD) : List Int := m.rd.flatMap fun r => dataM r.1 m.word
def definedN (d : NetD) : List Int := d.inp ++ d.lat.map (·.1) ++ d.mems.flatMap memDef ++ d.ands.map (·.1)
def memLit (m : MemD) : List Int := (m.rd.flatMap fun r => r.2) ++ m.wr.flatMap fun x => x.1 :: (x.2.1 ++ x.2.2)
def literalsN (d : NetD) : List Int := d.lat.map (·.2.1) ++ d.out ++ d.bad ++ d.con ++ d.mems.flatMap memLit ++ d.ands.flatMap fun a => [a.2.1, a.2.2]
def limM (m : MemD) : Bool := decide (4 < m.rd.length ∨ 4 < m.wr.length)
def limH (d : NetD) : Bool := decide (d.vars < 0 ∨ 2000 < d.vars ∨ 1000 < d.out.length + d.bad.length + d.con.length ∨ 4 < d.mems.length)
def limT (d : NetD) : Bool := decide (2000 < d.inp.length ∨ 2000 < d.lat.length ∨ 2000 < d.ands.length)
def limitsN (d : NetD) : Bool := limH d || d.mems.any limM || limT d
def widH (m : MemD) : Bool := decide (m.addr < 1 ∨ 62 < m.addr ∨ m.word < 1 ∨ 64 < m.word)
def widR (m : MemD) (r : RdD) : Bool := decide ((r.2.length : Int) ≠ m.addr)
def widW (m : MemD) (x : WrD) : Bool := decide ((x.2.1.length : Int) ≠ m.addr ∨ (x.2.2.length : Int) ≠ m.word)
def wideN (m : MemD) : Bool := widH m || m.rd.any (widR m) || m.wr.any (widW m)
def badL (l : Tri) : Bool := decide (l.2.2 < 0 ∨ 2 < l.2.2)
/-- What is wrong with definitions, those of seen having come (0: nothing). -/
def definesN (vars : Int) : List Int → List Int → Int
  | [], seen => if vars.toNat ≤ seen.length then 0 else 7
  | v :: l, seen => if v < 1 ∨ vars < v then 5 else if v ∈ seen then 6 else definesN vars l (v :: seen)
def badX (vars x : Int) : Bool := decide (x < 0 ∨ 2 * vars + 1 < x)
def soundN (d : NetD) : Int :=
  if limitsN d = true then 10 else if d.mems.any wideN = true then 9 else if d.lat.any badL = true then 1 else
  if definesN d.vars (definedN d) [] ≠ 0 then definesN d.vars (definedN d) [] else
  if (literalsN d).any (badX d.vars) = true then 5 else 0
/-! ### nodes -/
structure NodeD where
  read : Bool
  mem : Nat
  pos : Nat
  frm : List Int
  vars : List Int
def node0 : NodeD := ⟨false, 0, 0, [], []⟩
def andNode (i : Nat) (a : Tri) : NodeD := ⟨false, 0, i, [a.2.1, a.2.2], [a.1]⟩
def rdNode (m : Nat) (word : Int) (k : Nat) (r : RdD) : NodeD := ⟨true, m, k, r.2, dataM r.1 word⟩
def memNodes (m : Nat) (x : MemD) : List NodeD := x.rd.mapIdx (rdNode m x.word)
def nodesN (d : NetD) : List NodeD := d.ands.mapIdx andNode ++ (d.mems.mapIdx memNodes).flatten
end Go.Proofs.YtlahecdpcpejpaaDoor
