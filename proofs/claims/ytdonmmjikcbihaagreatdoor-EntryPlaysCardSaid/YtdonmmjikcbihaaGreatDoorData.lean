/- The plain data of package api. -/
import Derived.Test.YtdonmmjikcbihaaGreatDoorAvlMem
namespace Go.Vc
structure Plc where
  tr : Int
  id : Int
  cl : Int
  dp : Int
  tp : Int
  fn : Int
  deriving DecidableEq
structure Spn where
  tr : Int
  id : Int
  pa : Int
  rv : Int
  sv : ByteArray
  op : ByteArray
  st : Int
  du : Int
  gone : Bool
  deriving DecidableEq
/-- a span, a place as the machine holds them -/
abbrev spnV (x : Spn) : Value := .agg #[.int .i64 x.tr, .int .i64 x.id, .int .i64 x.pa, .int .i64 x.rv, .string x.sv, .string x.op, .int .i64 x.st, .int .i64 x.du, .bool x.gone]
abbrev plcV (x : Plc) : Value := .agg #[.int .i64 x.tr, .int .i64 x.id, .int .i64 x.cl, .int .i64 x.dp, .int .i64 x.tp, .int .i64 x.fn]
/-- a number of the machine -/
abbrev I64 (n : Int) : Prop := -9223372036854775808 ≤ n ∧ n ≤ 9223372036854775807
/-- a span that the machine may hold -/
structure Spn.Fits (x : Spn) : Prop where
  tr : I64 x.tr
  id : I64 x.id
  pa : I64 x.pa
  rv : I64 x.rv
  st : I64 x.st
  du : I64 x.du
  sv : x.sv.size ≤ 9223372036854775807
  op : x.op.size ≤ 9223372036854775807
structure Plc.Fits (x : Plc) : Prop where
  tr : I64 x.tr
  id : I64 x.id
  cl : I64 x.cl
  dp : I64 x.dp
  tp : I64 x.tp
  fn : I64 x.fn
end Go.Vc
