/- Instructions without the fields that their operation does not have. -/
import Derived.Test.YtpmpofcokkgfdaaGreatDoorFc
namespace Go.Proofs.YtpmpofcokkgfdaaGreatDoor.Ev
open Go

def mI (b : Bool) (a : Int) : Int := bif b then a else 0
def mS (b : Bool) (a : List UInt8) : List UInt8 := bif b then a else []

end Go.Proofs.YtpmpofcokkgfdaaGreatDoor.Ev
