/-
  The lanes of the permutation as plain functions: one round, written as the Go text writes it.
-/
namespace Go.Proofs.Ygcsad

/-- theta, rho, pi and chi on the 25 lanes. -/
def roundL (l : Nat → BitVec 64) : Nat → BitVec 64 :=
  let c0 := l 0 ^^^ l 5 ^^^ l 10 ^^^ l 15 ^^^ l 20
  let c1 := l 1 ^^^ l 6 ^^^ l 11 ^^^ l 16 ^^^ l 21
  let c2 := l 2 ^^^ l 7 ^^^ l 12 ^^^ l 17 ^^^ l 22
  let c3 := l 3 ^^^ l 8 ^^^ l 13 ^^^ l 18 ^^^ l 23
  let c4 := l 4 ^^^ l 9 ^^^ l 14 ^^^ l 19 ^^^ l 24
  let d0 := c4 ^^^ (c1).rotateLeft 1
  let d1 := c0 ^^^ (c2).rotateLeft 1
  let d2 := c1 ^^^ (c3).rotateLeft 1
  let d3 := c2 ^^^ (c4).rotateLeft 1
  let d4 := c3 ^^^ (c0).rotateLeft 1
  let s0 := l 0 ^^^ d0
  let s1 := (l 6^^^d1).rotateLeft 44
  let s2 := (l 12^^^d2).rotateLeft 43
  let s3 := (l 18^^^d3).rotateLeft 21
  let s4 := (l 24^^^d4).rotateLeft 14
  let t0 := (l 3^^^d3).rotateLeft 28
  let t1 := (l 9^^^d4).rotateLeft 20
  let t2 := (l 10^^^d0).rotateLeft 3
  let t3 := (l 16^^^d1).rotateLeft 45
  let t4 := (l 22^^^d2).rotateLeft 61
  let u0 := (l 1^^^d1).rotateLeft 1
  let u1 := (l 7^^^d2).rotateLeft 6
  let u2 := (l 13^^^d3).rotateLeft 25
  let u3 := (l 19^^^d4).rotateLeft 8
  let u4 := (l 20^^^d0).rotateLeft 18
  let v0 := (l 4^^^d4).rotateLeft 27
  let v1 := (l 5^^^d0).rotateLeft 36
  let v2 := (l 11^^^d1).rotateLeft 10
  let v3 := (l 17^^^d2).rotateLeft 15
  let v4 := (l 23^^^d3).rotateLeft 56
  let w0 := (l 2^^^d2).rotateLeft 62
  let w1 := (l 8^^^d3).rotateLeft 55
  let w2 := (l 14^^^d4).rotateLeft 39
  let w3 := (l 15^^^d0).rotateLeft 41
  let w4 := (l 21^^^d1).rotateLeft 2
  fun i => match i with
    | 0 => s0 ^^^ (~~~ s1 &&& s2)
    | 1 => s1 ^^^ (~~~ s2 &&& s3)
    | 2 => s2 ^^^ (~~~ s3 &&& s4)
    | 3 => s3 ^^^ (~~~ s4 &&& s0)
    | 4 => s4 ^^^ (~~~ s0 &&& s1)
    | 5 => t0 ^^^ (~~~ t1 &&& t2)
    | 6 => t1 ^^^ (~~~ t2 &&& t3)
    | 7 => t2 ^^^ (~~~ t3 &&& t4)
    | 8 => t3 ^^^ (~~~ t4 &&& t0)
    | 9 => t4 ^^^ (~~~ t0 &&& t1)
    | 10 => u0 ^^^ (~~~ u1 &&& u2)
    | 11 => u1 ^^^ (~~~ u2 &&& u3)
    | 12 => u2 ^^^ (~~~ u3 &&& u4)
    | 13 => u3 ^^^ (~~~ u4 &&& u0)
    | 14 => u4 ^^^ (~~~ u0 &&& u1)
    | 15 => v0 ^^^ (~~~ v1 &&& v2)
    | 16 => v1 ^^^ (~~~ v2 &&& v3)
    | 17 => v2 ^^^ (~~~ v3 &&& v4)
    | 18 => v3 ^^^ (~~~ v4 &&& v0)
    | 19 => v4 ^^^ (~~~ v0 &&& v1)
    | 20 => w0 ^^^ (~~~ w1 &&& w2)
    | 21 => w1 ^^^ (~~~ w2 &&& w3)
    | 22 => w2 ^^^ (~~~ w3 &&& w4)
    | 23 => w3 ^^^ (~~~ w4 &&& w0)
    | 24 => w4 ^^^ (~~~ w0 &&& w1)
    | _ => l i

end Go.Proofs.Ygcsad
