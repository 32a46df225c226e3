/-
  What a region that draws its order keeps, where it makes memory. No program is named here.
-/
import Derived.Test.YtekidodfcanjaaaGreatDoorBase
namespace Go.Proofs.YtekidodfcanjaaaGreatDoor
open Go.RowKit
set_option linter.unusedVariables false
theorem held1_alloc {w wx : World} {p0 : Addr} {u0 : Value} (h0 : p0.block < w.heap.size) (h : wx.cell? p0 = some u0 ∧ Below w.heap.size w wx) (o : Obj) : (wx.alloc o).cell? p0 = some u0 ∧ Below w.heap.size w (wx.alloc o) :=
  held1_step h0 h ((Below.refl _ _).alloc (Nat.le_refl _) _)
theorem held2_alloc {w wx : World} {p0 p1 : Addr} {u0 u1 : Value} (h0 : p0.block < w.heap.size) (h1 : p1.block < w.heap.size) (h : wx.cell? p0 = some u0 ∧ wx.cell? p1 = some u1 ∧ Below w.heap.size w wx) (o : Obj) : (wx.alloc o).cell? p0 = some u0 ∧ (wx.alloc o).cell? p1 = some u1 ∧ Below w.heap.size w (wx.alloc o) :=
  held2_step h0 h1 h ((Below.refl _ _).alloc (Nat.le_refl _) _)
theorem held3_alloc {w wx : World} {p0 p1 p2 : Addr} {u0 u1 u2 : Value} (h0 : p0.block < w.heap.size) (h1 : p1.block < w.heap.size) (h2 : p2.block < w.heap.size) (h : wx.cell? p0 = some u0 ∧ wx.cell? p1 = some u1 ∧ wx.cell? p2 = some u2 ∧ Below w.heap.size w wx) (o : Obj) : (wx.alloc o).cell? p0 = some u0 ∧ (wx.alloc o).cell? p1 = some u1 ∧ (wx.alloc o).cell? p2 = some u2 ∧ Below w.heap.size w (wx.alloc o) :=
  held3_step h0 h1 h2 h ((Below.refl _ _).alloc (Nat.le_refl _) _)
theorem held4_alloc {w wx : World} {p0 p1 p2 p3 : Addr} {u0 u1 u2 u3 : Value} (h0 : p0.block < w.heap.size) (h1 : p1.block < w.heap.size) (h2 : p2.block < w.heap.size) (h3 : p3.block < w.heap.size) (h : wx.cell? p0 = some u0 ∧ wx.cell? p1 = some u1 ∧ wx.cell? p2 = some u2 ∧ wx.cell? p3 = some u3 ∧ Below w.heap.size w wx) (o : Obj) : (wx.alloc o).cell? p0 = some u0 ∧ (wx.alloc o).cell? p1 = some u1 ∧ (wx.alloc o).cell? p2 = some u2 ∧ (wx.alloc o).cell? p3 = some u3 ∧ Below w.heap.size w (wx.alloc o) :=
  held4_step h0 h1 h2 h3 h ((Below.refl _ _).alloc (Nat.le_refl _) _)
theorem held5_alloc {w wx : World} {p0 p1 p2 p3 p4 : Addr} {u0 u1 u2 u3 u4 : Value} (h0 : p0.block < w.heap.size) (h1 : p1.block < w.heap.size) (h2 : p2.block < w.heap.size) (h3 : p3.block < w.heap.size) (h4 : p4.block < w.heap.size) (h : wx.cell? p0 = some u0 ∧ wx.cell? p1 = some u1 ∧ wx.cell? p2 = some u2 ∧ wx.cell? p3 = some u3 ∧ wx.cell? p4 = some u4 ∧ Below w.heap.size w wx) (o : Obj) : (wx.alloc o).cell? p0 = some u0 ∧ (wx.alloc o).cell? p1 = some u1 ∧ (wx.alloc o).cell? p2 = some u2 ∧ (wx.alloc o).cell? p3 = some u3 ∧ (wx.alloc o).cell? p4 = some u4 ∧ Below w.heap.size w (wx.alloc o) :=
  held5_step h0 h1 h2 h3 h4 h ((Below.refl _ _).alloc (Nat.le_refl _) _)
theorem held6_alloc {w wx : World} {p0 p1 p2 p3 p4 p5 : Addr} {u0 u1 u2 u3 u4 u5 : Value} (h0 : p0.block < w.heap.size) (h1 : p1.block < w.heap.size) (h2 : p2.block < w.heap.size) (h3 : p3.block < w.heap.size) (h4 : p4.block < w.heap.size) (h5 : p5.block < w.heap.size) (h : wx.cell? p0 = some u0 ∧ wx.cell? p1 = some u1 ∧ wx.cell? p2 = some u2 ∧ wx.cell? p3 = some u3 ∧ wx.cell? p4 = some u4 ∧ wx.cell? p5 = some u5 ∧ Below w.heap.size w wx) (o : Obj) : (wx.alloc o).cell? p0 = some u0 ∧ (wx.alloc o).cell? p1 = some u1 ∧ (wx.alloc o).cell? p2 = some u2 ∧ (wx.alloc o).cell? p3 = some u3 ∧ (wx.alloc o).cell? p4 = some u4 ∧ (wx.alloc o).cell? p5 = some u5 ∧ Below w.heap.size w (wx.alloc o) :=
  held6_step h0 h1 h2 h3 h4 h5 h ((Below.refl _ _).alloc (Nat.le_refl _) _)
end Go.Proofs.YtekidodfcanjaaaGreatDoor
