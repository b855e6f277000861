import Derived.Test.YtoeabliackaibaaW0
import Derived.Test.YtoeabliackaibaaW1
import Derived.Test.YtoeabliackaibaaW2
import Derived.Test.YtoeabliackaibaaW3
import Derived.Test.YtoeabliackaibaaW4
import Derived.Test.YtoeabliackaibaaSepC
